/- Parts of the proof of SweepTells: lemmas, each with its own conditions. -/
import Derived.Test.YtfhidaoiofeooaaGreatDoorY22
set_option maxHeartbeats 64000000
open List renaming getElem?_eq_some_iff → q1Z, getD_eq_getElem?_getD → q2Z, getElem?_eq_getElem → q3Z, getElem?_append_left → q4Z, getElem?_append_right → q5Z, take_of_length_le → q6Z, length_cons → q7Z, length_nil → q8Z, cons_append → q9Z, nil_append → qaZ, replicate → qbZ, mem_of_getElem? → qcZ, length_append → qdZ, getElem?_set_ne → qfZ, mem_cons_self → qhZ, mem_cons_of_mem → qiZ, mem_cons → qwZ, mem_append → qxZ, append_nil → r2Z, getElem_mem → r3Z, getElem?_take → r4Z, length_set → r8Z, getElem?_cons_succ → r9Z, nodup_cons → rdZ, mem_map → reZ, map_cons → s1Z, getElem?_eq_none → s4Z, all_eq_true → s5Z, set_cons_zero → s9Z, set_cons_succ → saZ
open Nat renaming le_refl → qnZ, zero_le → qqZ, lt_irrefl → rnZ, lt_or_ge → s2Z, add_sub_cancel_left → s3Z, zero_add → s8Z
open Bool renaming and_eq_true → qrZ
open Option renaming map_some → rhZ
namespace Go.Proofs.YtfhidaoiofeooaaGreatDoor
open _root_.Go.Proofs.Tryz renaming prog → Pz
set_option maxRecDepth 100000
section
open Go Go.Lib
attribute [-simp] zG zT zc zJ zn
theorem RAt.moreB{H H5:zA}{r:RS}{x y:AV}{q0 fo m m' q:Nat}{g:Nat->Nat}(h:RAt H r x q0 fo m g)(f:PF)(h0:H5[q0]? = some (r.cell0 y fo))(hy:y=.sl m' 0 (r.F.length+1) 1 false\/∃c,y=.slice m' 0 (r.F.length+1) 1 c)
   (hrow:H5[m']? = some (.cells true (zAO g 0 r.F.length++[.ptr q 0]))) (hq:H5[q]? = some (.obj true f.rblks)) (hold:∀b,b<H.length->b≠q0->H5[b]? = H[b]?) (hm:H.length<=m') (hql:H.length<=q) (hmq:m'≠q) :
   RAt H5 ⟨r.dir,r.F++[f],r.room,r.steps,r.left,r.down⟩ y q0 fo m' (fun i=>if i<r.F.length then g i else q):=by
 obtain⟨n1,n2,n3,n4,n5⟩:=h.ne;have lf:fo<H.length:=(q1Z.1 h.fold).1;have l0:q0<H.length:=(q1Z.1 h.c0).1;have lg:∀i,i<r.F.length->g i<H.length:=fun i hi=>(q1Z.1 (h.file i _ (q3Z hi))).1;refine ⟨h0,by simpa using hy,by rw[hold fo lf n1];exact h.fold,?_,fun i f' hf=>?_,?_⟩
 · dsimp only
   rw[hrow,qdZ];simp only[q7Z,q8Z,s8Z];rw[zJb,zEh (g':=g) _ _ fun i _ hi=>if_pos (by omega)];simp
 · dsimp only at hf ⊢
   rcases Nat.lt_trichotomy i r.F.length with h1 | h1 | h1
   · rw[q4Z h1]at hf
     rw[if_pos h1,hold _ (lg i h1) (n4 i h1).1];exact h.file i f' hf
   · subst h1
     rw[q5Z (qnZ _),Nat.sub_self]at hf;cases hf;rw[if_neg (rnZ _)];exact hq
   · rw[s4Z (by simp;omega)]at hf;cases hf
 · dsimp only
   have hg:∀a,a<(r.F++[f]).length->a<r.F.length/\(if a<r.F.length then g a else q)=g a\/a=r.F.length/\(if a<r.F.length then g a else q)=q:=fun a ha=>by
     simp at ha;by_cases h:a<r.F.length
     · exact .inl ⟨h,if_pos h⟩
     · exact .inr ⟨by omega,if_neg h⟩
   rw[rdZ,rdZ,rdZ];refine ⟨fun h=>?_,fun h=>?_,fun h=>?_,?_⟩
   · rcases qwZ.1 h with h | h
     · omega
     rcases qwZ.1 h with h | h
     · omega
     · obtain⟨a,ha,h⟩:=reZ.1 h
       rcases hg a (List.mem_range.1 ha) with⟨h2,e⟩ | ⟨_,e⟩
       · have:=(n4 a h2).1;omega
       · omega
   · rcases qwZ.1 h with h | h
     · omega
     · obtain⟨a,ha,h⟩:=reZ.1 h
       rcases hg a (List.mem_range.1 ha) with⟨h2,e⟩ | ⟨_,e⟩
       · have:=(n4 a h2).2.1;omega
       · omega
   · obtain⟨a,ha,h⟩:=reZ.1 h
     rcases hg a (List.mem_range.1 ha) with⟨h2,e⟩ | ⟨_,e⟩
     · have:=lg a h2;omega
     · omega
   · rw[List.nodup_iff_pairwise_ne,List.pairwise_map,List.pairwise_iff_getElem]
     intro a b ha hb hab;simp only[List.length_range]at ha hb;simp only[List.getElem_range];rcases hg a ha with⟨ha2,e⟩ | ⟨_,e⟩ <;> rcases hg b hb with⟨hb2,f⟩ | ⟨_,f⟩
     · rw[e,f];intro h';have:=n5 a b ha2 hb2 h';omega
     · rw[e,f];have:=lg a ha2;omega
     · omega
     · omega
theorem RAt.close1{H:zA}{r:RS}{x:AV}{fo m:Nat}{g:Nat->Nat}(h:RAt H r x 1 fo m g){o:Bool}{l:List AV}(h1:H[0]? = some (.cells o l))(hl:∀rn,AWs rn l l)(hf:fo≠0)(hm:m≠0)(hg:∀i,i<r.F.length->g i≠0){F:List AV}(Fn:List AV){K:List AV->zA->Prop}(hF:AWs [0,1] Fn F)
   (hk:K Fn [.cells o l,.obj true r.blks]):Aft 1 F H K:=by
 have hbl:1<H.length:=(q1Z.1 h.c0).1;have hbl1:0<H.length:=(q1Z.1 h1).1;refine Aft.close (o:=true) (b:=1) (sub:=r.blks) (rs:=1::fo::m::(List.range r.F.length).map g) (ks:=fo::m::(List.range r.F.length).map g) rfl h.nd hbl ?_ (h.awg _ fun _ _=>rfl) ⟨_,rfl,rfl⟩ ?_ hbl1 ?_
 · intro c y hc hcb _ _
   exact (qwZ.1 hc).resolve_left hcb
 · intro i y hy hd
   have hm:=qcZ hy;simp only[RS.blks,RS.cell0,qwZ]at hm;rcases hm with rfl | rfl | rfl | hm
   · rfl
   · rfl
   · rfl
   · obtain⟨e,_,rfl⟩:=reZ.1 hm
     rfl
 · refine Aft.weak (Fn:=Fn) (Hn:=[.cells o l,.obj true r.blks]) (Weak.mk' [0,1] (by decide) rfl hF (zR (b:=1) hbl _ _ rfl fun i c y e1 e2=>?_)) (by simp;omega) (Aft.done (by simp) hk)
   match i,e1,e2 with
   | 1,e1,e2=>cases e1;cases e2;exact .inl ⟨rfl,rfl⟩
   | 0,e1,e2 =>
     cases e1;cases e2
     refine .inr ⟨⟨by decide,fun hc=>?_⟩,by rw[q2Z,h1];exact⟨id,hl _⟩⟩;rcases qwZ.1 hc with e | hc
     · exact hf e.symm
     rcases qwZ.1 hc with e | hc
     · exact hm e.symm
     · obtain⟨a,ha,e⟩:=reZ.1 hc
       exact hg a (List.mem_range.1 ha) e
theorem zRu(r:RS)(o:Bool)(l:List AV):zo [.cells o l,.obj true r.blks] 1 r.blks=.cells o l::r.cell0 (.sl 3 0 r.F.length 1 false) 2::.obj true r.dir.blks::.cells true (zAO (fun i=>i+4) 0 r.F.length)::zAc r.F:=by
 unfold zo;simp only[RS.blks,RS.cell0,q7Z,q8Z,List.getD_cons_zero,s9Z,saZ,List.drop_succ_cons,List.drop_zero,q9Z,qaZ,s8Z,Nat.reduceAdd,s1Z,reB,ZV,reA,zBU,zIv];simp only[zAc,List.map_map];rw[zEh (g':=fun i=>i+4) _ _ fun i _ _=>by rw[if_neg (by omega)];omega];simp[Function.comp_def,reB]
theorem zM1(r:RS)(o:Bool)(l:List AV):RAt (.cells o l::r.cell0 (.sl 3 0 r.F.length 1 false) 2::.obj true r.dir.blks::.cells true (zAO (fun i=>i+4) 0 r.F.length)::zAc r.F) r (.sl 3 0 r.F.length 1 false) 1 2 3 (fun i=>i+4):=by
 refine ⟨rfl,.inl rfl,rfl,rfl,fun i f h=>?_,?_⟩
 · simp only[r9Z]
   exact zES h
 · rw[rdZ,rdZ,rdZ]
   refine ⟨fun h=>?_,fun h=>?_,fun h=>?_,?_⟩
   · rcases qwZ.1 h with h | h
     · omega
     rcases qwZ.1 h with h | h
     · omega
     · obtain⟨a,_,h⟩:=reZ.1 h;omega
   · rcases qwZ.1 h with h | h
     · omega
     · obtain⟨a,_,h⟩:=reZ.1 h;omega
   · obtain⟨a,_,h⟩:=reZ.1 h;omega
   · rw[List.nodup_iff_pairwise_ne,List.pairwise_map]
     exact (List.nodup_iff_pairwise_ne.1 List.nodup_range).imp fun h e=>h (by omega)
noncomputable def zUa:Gam:=zh [(67,zKe)]
theorem zST:GOk Pz zUa:=zC zMo zB
theorem zSM(q:Int)(hq:0<=q):Ct Pz 8 [.int .i64 q] [] (.ptr 0 0) [.obj true (RS.new q).blks]:=by
 have hΓ:=zST;refine zE Tryz.func8 rfl ?_;simp only[Tryz.ntmps8,q7Z,q8Z,Nat.reduceAdd,Nat.reduceSub,qbZ,q9Z,qaZ];have h1:¬q<0:=by omega
 refine wS hΓ (by simp;exact wR) ?_;refine wS hΓ (by simp[h1];exact wR) ?_;refine Sim.after (wE hΓ (by simp[zUa,zKe];exact wT) ?_);refine Aft.weak (Fn:=[.top,.top,.ptr 0 0]++qbZ 6 .top) (Hn:=(RS.new q).blks) (Weak.mk' [1,0,100] (by decide) (by decide) (by simp[AWs,AW]) (by simp[RS.blks,RS.cell0,RS.new,AWg,AWb,AWs,AW,zAc,zAO])) (by simp) ?_;exact (RS.new q).blks_at.close ([.top,.top,.ptr 0 0]++qbZ 6 .top) (by simp[AWs,AW]) ⟨.inr rfl,_,by simp[Tryz.f8] <;> rfl,Weak.mk' [0] (by decide) rfl (by simp) (by simp[AWb])⟩
theorem zQc(q:Int)(hq:q<0):Ct Pz 8 [.int .i64 q] [] .nilp []:=by
 refine zE Tryz.func8 rfl ?_;simp only[Tryz.ntmps8,q7Z,q8Z,Nat.reduceAdd,Nat.reduceSub,qbZ,q9Z,qaZ];refine wS zB (by simp;exact wR) ?_;refine wE zB (by simp[hq];exact wT) ?_;exact⟨.inr rfl,_,by simp[Tryz.f8] <;> rfl,Weak.mk' [] (by decide) rfl (by simp) (by simp)⟩
noncomputable def zKk:zS:=zON fun
 | [.int .i64 q]=>if 0<=q then some (.ptr 0 0,[.obj true (RS.new q).blks]) else some (.nilp,[])
 | _=>none
theorem zLv:Sound Pz 8 zKk:=by
 refine zJd (zD Tryz.func8 rfl (by decide)) fun args v H' h=>?_;split at h;rotate_left
 · cases h
 split at h <;> cases h <;> rename_i hq
 · exact⟨zSM _ hq,rfl,rfl⟩
 · exact⟨zQc _ (by omega),rfl,rfl⟩
def zBA:RF×List PF->List (List UInt8×List UInt8)->Option (RF×List PF)
 | s,[]=>some s
 | s,e::l=>if (s.1.create e.1).2.2=0 then zBA ((s.1.create e.1).1,s.2++[⟨e.2,[]⟩]) l else none
theorem zE5(s:RF×List PF)(e:List UInt8×List UInt8)(l:List (List UInt8×List UInt8)):zBA s (e::l)=if (s.1.create e.1).2.2=0 then zBA ((s.1.create e.1).1,s.2++[⟨e.2,[]⟩]) l else none:=rfl
theorem zMb(s:RF×List PF):zBA s []=some s:=rfl
def RS.ofF(x:List (List UInt8×List UInt8))(q:Int):Option RS :=
 if q<0 then none else (zBA (RF.new,[]) x).map fun s=>⟨s.1.survive x.length,s.2,q,0,0,false⟩
structure OfR (x:List (List UInt8×List UInt8)) (i:Nat) (s:RF×List PF):Prop where
 rest:zBA s (x.drop i)=zBA (RF.new,[]) x
 ok:∃fd:FD,s.1.rel fd/\fd.ok i
 len:s.2.length=i
theorem zFj(n:Nat):∀l:List AV,zL l=true->ze n l=true
 | [],_=>rfl
 | x::xs,h=>by
   simp only[zL,qrZ]at h;simp only[ze,qrZ];refine ⟨?_,zFj n xs h.2⟩;have h1:=h.1;cases x <;> simp_all [free,below]
theorem zGL(g:Nat->Nat)(n:Nat):∀(c k:Nat),(∀i,i<k+c->g i<n)->ze n (zAO g k c)=true
 | 0,_,_=>rfl
 | c+1,k,h=>by
   simp only[zAO,ze,below,qrZ,decide_eq_true_eq];exact⟨h k (by omega),zGL g n c (k+1) fun i hi=>h i (by omega)⟩
theorem RAt.moreC{H H5:zA}{r:RS}{x y:AV}{q0 fo m m' q:Nat}{g:Nat->Nat}(h:RAt H r x q0 fo m g)(f:PF)(h0:H5[q0]? = some (r.cell0 y fo))(hy:y=.sl m' 0 (r.F.length+1) 1 false\/∃c,y=.slice m' 0 (r.F.length+1) 1 c)
   (hrow:H5[m']? = some (.cells true (zAO g 0 r.F.length++[.ptr q 0]))) (hq:H5[q]? = some (.obj true f.rblks)) (hold:∀b,b<H.length->b≠q0->b≠m->H5[b]? = H[b]?) (hm:H.length<=m') (hql:H.length<=q) (hmq:m'≠q) :
   RAt H5 ⟨r.dir,r.F++[f],r.room,r.steps,r.left,r.down⟩ y q0 fo m' (fun i=>if i<r.F.length then g i else q):=by
 obtain⟨n1,n2,n3,n4,n5⟩:=h.ne;have lm:m<H.length:=(q1Z.1 h.row).1;have lm5:m<H5.length:=by have:=(q1Z.1 hrow).1;omega
 have h2:=h.moreB (H5:=H5.set m (.cells true (zAO g 0 r.F.length))) (y:=y) f (by rw[qfZ (by omega)];exact h0) hy (by rw[qfZ (by omega)];exact hrow) (by rw[qfZ (by omega)];exact hq) (fun b hb hb0=>by
   by_cases e:b=m
   · subst e;rw[List.getElem?_set,if_pos rfl,if_pos lm5,h.row]
   · rw[qfZ (Ne.symm e)];exact hold b hb hb0 e) hm hql hmq
 refine ⟨h0,h2.hx,?_,?_,fun i f' hf=>?_,h2.nd⟩
 · have:=h2.fold
   rwa [qfZ (Ne.symm n3)]at this
 · have:=h2.row
   rwa [qfZ (by omega)]at this
 · have:=h2.file i f' hf
   rwa [qfZ]at this
   have hi:i<r.F.length+1:=by have:=(q1Z.1 hf).1;simpa using this
   split
   · exact fun e=>(n4 i (by assumption)).2.2 e.symm
   · omega
theorem RAt.newC{H H':zA}{r:RS}{x:AV}{q0 fo m:Nat}{g:Nat->Nat}(h:RAt H r x q0 fo m g){L:Nat}(hL:H.length=L)(hL':H'.length=L)(y:AV)(T:zA)(j jm:Nat){d:List UInt8}(h0:H'[q0]? = some (r.cell0 y fo))(hold:∀b,b≠q0->b≠m->H'[b]? = H[b]?)
   (hj:T[j]? = some (.cells true [.str d,.nils])) (hjm:T[jm]? = some (.cells true (zAO g 0 r.F.length++[.ptr (L+j) 0]))) (hne:j≠jm) (hy:y=.sl (L+jm) 0 (r.F.length+1) 1 false\/∃c,y=.slice (L+jm) 0 (r.F.length+1) 1 c) {F:List AV} {K:List AV->zA->Prop}
   (hk:∀H5,RAt H5 ⟨r.dir,r.F++[⟨d,[]⟩],r.room,r.steps,r.left,r.down⟩ y q0 fo (L+jm) (fun i=>if i<r.F.length then g i else L+j)->H5.length=L+T.length->(∀b,b<L+T.length->b≠q0->b≠m->b≠L+j->H5[b]? = (H++T)[b]?)->Aft 1 F H5 K):Aft 1 F (H'++T) K:=by
 have l0:q0<H.length:=(q1Z.1 h.c0).1;have lm:m<H.length:=(q1Z.1 h.row).1;have hBX:=Z4 H' (n:=L) hL';have lj:j<T.length:=(q1Z.1 hj).1;have ljm:jm<T.length:=(q1Z.1 hjm).1;have e1:∀b,b≠L+j->(ZF (H'++T) (L+j) [L+T.length] true (⟨d,[]⟩:PF).rblks)[b]? = if b=L+T.length then (ZF (H'++T) (L+j) [L+T.length] true (⟨d,[]⟩:PF).rblks)[b]? else (H'++T)[b]?:=fun b hb=>by
   split
   · rfl
   · rename_i hn
     unfold ZF;rw[qfZ (Ne.symm hb),zCI _ _ _ (by simpa using hn)]
 refine Aft.closeR ⟨d,[]⟩ (L+j) (L+T.length) (x:=.nils) (by rw[hBX.get];exact hj) (by simp[AW]) (fun hlt=>by simp[hL']at hlt) (by omega) (by simp;omega) ?_;refine hk _ (h.moreC ⟨d,[]⟩ ?_ hy ?_ ?_ (fun b hb hb0 hbm=>?_) (by omega) (by omega) (by omega)) (by simp[hL']) fun b hb hb0 hbm hbj=>?_
 · rw[e1 q0 (by omega),if_neg (by omega),q4Z (by omega)];exact h0
 · rw[e1 _ (by omega),if_neg (by omega),hBX.get];exact hjm
 · unfold ZF
   rw[List.getElem?_set,if_pos rfl,if_pos (by rw[ZT];simp;omega)]
 · rw[e1 b (by omega),if_neg (by omega),q4Z (by omega),hold b hb0 hbm]
 · rw[e1 b hbj,if_neg (by omega)]
   rcases s2Z b L with hbL | hbL
   · rw[q4Z (by omega),hold b hb0 hbm,q4Z (by omega)]
   · rw[q5Z (by omega),q5Z (by omega),hL',hL]
noncomputable def zMA:Gam:=zh [(8,zKk),(93,zKX),(78,zH2)]
theorem zRw:GOk Pz zMA:=zC zLv (zC zGU (zC zGa zB))
theorem zPR(x:List (List UInt8×List UInt8))(hx:x.length<=900000)(hk:∀e∈x,e.1.length<=9223372036854775807)(q:Int) :
   Ct Pz 33 [.sl 0 0 x.length 2 false,.int .i64 q] [.cells false (flA x)] (match RS.ofF x q with | some _=>.ptr 1 0 | none=>.nilp) (match RS.ofF x q with | some r=>[.cells false (flA x),.obj true r.blks] | none=>[.cells false (flA x)]):=by
 have hΓ:=zRw;refine zE Tryz.func33 rfl ?_;simp only[Tryz.ntmps33,q7Z,q8Z,Nat.reduceAdd,Nat.reduceSub,qbZ,q9Z,qaZ];obtain⟨L,hL⟩:∃L,x.length=L:=⟨_,rfl⟩
 have hfr:=ZE x;have hAr:∀rn:List Nat,AWs rn (flA x) (flA x):=fun rn=>AWs.refl _ _ hfr;rw[hL]at hx ⊢;refine wS hΓ (by simp;exact wR) ?_;by_cases hq:q<0
 · have e:RS.ofF x q=none:=by unfold RS.ofF;rw[if_pos hq]
   rw[e];have hq2:¬0<=q:=by omega
   refine wS hΓ (by simp[zMA,zKk,zON,hq2];exact wR) ?_;refine wE hΓ (by simp;exact wT) ?_;exact⟨.inr rfl,_,by simp[Tryz.f33] <;> rfl,wW [0] (by simp[AWb])⟩
 have hq0:0<=q:=by omega
 have e:RS.ofF x q=(zBA (RF.new,[]) x).map fun s=>⟨s.1.survive x.length,s.2,q,0,0,false⟩:=by unfold RS.ofF;rw[if_neg hq]
 rw[e];have hnw:(ABlk.obj true (RS.new q).blks).own=true:=rfl;refine wS hΓ (by simp[zMA,zKk,zON,hq0];exact wR) ?_;refine wS hΓ (by simp;exact wR) ?_;refine Sim.seq (wS hΓ (by simp;exact wR) ?_);refine Sim.block (Sim.loopS (fun t:Nat×RF×List PF=>t.1<=L/\OfR x t.1 t.2) (fun t=>[.sl 0 0 L 2 false,.int .i64 q,.top,.top,.top,.ptr 1 0,.int .i64 t.1]++qbZ 51 .top)
   (fun t=>[.cells false (flA x),.obj true (⟨t.2.1,t.2.2,q,0,0,false⟩:RS).blks]) (fun t=>L-t.1) (0,RF.new,[]) (by simp) ⟨qqZ _,by simp,⟨_,RF.rel_new,FD.ok_new⟩,rfl⟩ ⟨by simp,rfl⟩ fun t ht=>?_)
 obtain⟨i,dr,F⟩:=t;obtain⟨hi,hr1,⟨fd,hr2,hr3⟩,hr4⟩:=ht;dsimp only at hi hr1 hr2 hr3 hr4 ⊢;have hdo:dr.ok 1000000:=hr2.ok (FD.ok_mono hr3 (by omega));refine Sim.aft (Aft.open (b:=1) rfl (by simp) (Aft.done (by simp[zo]) ?_));rw[zRu];have ha:=zM1 ⟨dr,F,q,0,0,false⟩ false (flA x);obtain⟨H,hH⟩:∃H,(ABlk.cells false (flA x)::(⟨dr,F,q,0,0,false⟩:RS).cell0 (.sl 3 0 F.length 1 false) 2::.obj true dr.blks::.cells true (zAO (fun i=>i+4) 0 F.length)::zAc F)=H:=⟨_,rfl⟩
 have hr0:H[0]? = some (.cells false (flA x)):=by rw[<-hH];rfl
 dsimp only at ha;have hall:H.all (zCA H.length)=true:=by
   rw[s5Z];intro B hB;rw[<-hH]at hB ⊢;simp only[RS.cell0,q7Z,zIm,qwZ]at hB ⊢;rcases hB with rfl | rfl | rfl | rfl | hB
   · exact zFj _ _ (ZE x)
   · simp[zCA,ze,below]
   · rfl
   · exact zGL _ _ _ _ fun i hi=>by omega
   · obtain⟨W,_,rfl⟩:=reZ.1 hB
     rfl
 rw[hH]at ha ⊢;clear hH;obtain⟨N,hN⟩:∃N,H.length=N:=⟨_,rfl⟩
 rw[hN]at hall;have hdrop:∀v,(H.set 2 v).drop N=[]:=fun v=>List.drop_of_length_le (by rw[r8Z];omega);have g0:=ha.c0;have g1:=ha.fold;unfold RS.cell0 at g0;dsimp only at g0 g1;have l2:2<N:=by rw[<-hN];exact (q1Z.1 g1).1
 have k0:∀T:zA,(H++T)[0]? = H[0]?:=fun T=>q4Z (by omega);have k1:∀T:zA,(H++T)[1]? = H[1]?:=fun T=>q4Z (by omega);have k2:∀T:zA,(H++T)[2]? = H[2]?:=fun T=>q4Z (by omega);rw[hr0]at k0;rw[g0]at k1;rw[g1]at k2;have hr0':∀h,H[0]'h=_:=fun h=>(q1Z.1 hr0).2;have g0':∀h,H[1]'h=_:=fun h=>(q1Z.1 g0).2;have g1':∀h,H[2]'h=_:=fun h=>(q1Z.1 g1).2;by_cases hlt:i<L;rotate_left
 · have hie:i=L:=by omega
   subst hie;refine wE hΓ (by simp;exact wT) ?_ (by simp[hN] <;> omega);dsimp only;rw[if_pos rfl];have hLi : -9223372036854775808<=(i:Int)/\(i:Int)<=9223372036854775807:=by omega
   have hdr0:x.drop i=[]:=List.drop_of_length_le (by omega);rw[hdr0,zMb]at hr1;rw[<-hr1];simp only[rhZ];refine wS hΓ (by simp[zMA,zH2,g0,g1,hdo,hLi];exact wR) ?_ (by simp[hN] <;> omega);refine Sim.after (wE hΓ (by simp;exact wT) ?_ (by simp[hN] <;> omega));have hs0:(H.set 2 (.obj true (dr.survive i).blks))[0]? = some (.cells false (flA x)):=by rw[qfZ (by decide)];exact hr0
   have hs1:=ha.dirset (dr.survive i);refine hs1.close1 hs0 hAr (by decide) (by decide) (fun a _=>by omega) ([.top,.top,.top,.top,.ptr 1 0]++qbZ 53 .top) (by simp[AWs,AW]) ⟨.inr rfl,_,by simp[Tryz.f33] <;> rfl,Weak.mk' [0,1] (by decide) rfl (by simp) (by simp[AWb,hL])⟩
 have hltI:(i:Int)<L:=by omega
 have hil:i<x.length:=by omega
 obtain⟨e,he⟩:∃e,x[i]=e:=⟨_,rfl⟩
 have hg:=zDp x i hil;rw[he]at hg;have hg1:(flA x)[i*2]? = some (.str e.1):=by
   have:=congrArg (·[0]?) hg
   simpa[r4Z] using this
 have hg2:(flA x)[i*2+1]? = some (.str e.2):=by
   have:=congrArg (·[1]?) hg
   simpa[r4Z] using this
 have hg1':∀h,(flA x)[i*2]'h=.str e.1:=fun h=>(q1Z.1 hg1).2;have hg2':∀h,(flA x)[i*2+1]'h=.str e.2:=fun h=>(q1Z.1 hg2).2;have hek:=hk e (by rw[<-he];exact r3Z hil);have hdr:x.drop i=e::x.drop (i+1):=by rw[List.drop_eq_getElem_cons hil,he]
 rw[hdr,zE5]at hr1;dsimp only at hr1;have kk1:i*2+2<=L*2:=by omega
 have y1:IntKind.i64.wrap ((i:Int)+1)=i+1:=zK (by omega) (by omega);refine wS hΓ (by simp[hltI];exact wR) ?_ (by simp[hN] <;> omega);refine Sim.seq (Sim.block ?_);obtain⟨⟨dr2,nm,er⟩,hcr⟩:∃x,dr.create e.1=x:=⟨_,rfl⟩
 rw[hcr]at hr1;dsimp only at hr1;refine Sim.seq (Sim.draw hmix (by simp[hN] <;> omega) ?_);refine SimR.many hΓ 9 (by simp[zF];rfl) (by omega) (by kernel_rfl) (by simp +decide [hL,hr0,g0,hg1',hlt];first | exact wR | exact⟨by kernel_rfl,wR⟩) ?_;refine SimR.one hΓ _ rfl (by kernel_rfl) (by simp +decide [zMA,zKX,g1,hdo,hcr,hek];exact wR) ?_;refine SimR.many hΓ 15 (by simp[zF,zM];rfl) (by omega) (by kernel_rfl) (by simp;first | exact wR | exact⟨by kernel_rfl,wR⟩) ?_;refine SimR.done rfl ?_;dsimp only;have ha3:=ha.dirset dr2;have hr3':(H.set 2 (.obj true dr2.blks))[0]? = some (.cells false (flA x)):=by rw[qfZ (by decide)];exact hr0
 have hN3:(H.set 2 (.obj true dr2.blks)).length=N:=by rw[r8Z,hN]
 dsimp only at ha3;obtain⟨H3,hH3⟩:∃X,H.set 2 (.obj true dr2.blks)=X:=⟨_,rfl⟩
 rw[hH3]at ha3 hr3' hN3 ⊢;clear hH3 hall hdrop k0 k1 k2 g0 g1 g0' g1' hr0' ha;by_cases her:er=0;rotate_left
 · have he2:(er != 0)=true:=by simpa using her
   rw[if_neg her]at hr1;rw[<-hr1];refine Sim.after (wE hΓ (by simp[he2];exact wT) ?_ (by simp[hN3] <;> omega));exact ha3.close1 hr3' hAr (by decide) (by decide) (fun i _=>by omega) ([.top,.top,.top,.top,.nilp]++qbZ 53 .top) (by simp[AWs,AW]) ⟨.inr rfl,_,by simp[Tryz.f33] <;> rfl,Weak.mk' [0] (by decide) rfl (by simp) (by simp[AWb])⟩
 have he2:(er != 0)=false:=by simpa using her
 rw[if_pos her]at hr1;have q0:=ha3.c0;have q2:=ha3.row;unfold RS.cell0 at q0;dsimp only at q0 q2;have hBX:=Z4 H3 hN3;have hXg:=hBX.get;have hXg0:=hBX.get0;have hXs:=hBX.set;have hXs0:=hBX.set0;have l3:3<N:=by rw[<-hN3];exact (q1Z.1 q2).1
 have k0:∀T:zA,(H3++T)[0]? = H3[0]?:=fun T=>q4Z (by omega);have k1:∀T:zA,(H3++T)[1]? = H3[1]?:=fun T=>q4Z (by omega);have k2:∀T:zA,(H3++T)[3]? = H3[3]?:=fun T=>q4Z (by omega);have k3:∀(T:zA) v,(H3++T).set 1 v=H3.set 1 v++T:=fun T v=>by rw[List.set_append_left _ _ (by omega)]
 rw[hr3']at k0;rw[q0]at k1;rw[q2]at k2;refine wS hΓ (by simp[her];exact wR) ?_ (by simp[hN3] <;> omega);have hFl:=zDG (fun i=>i+4) F.length 0;have hFc:=zGK (fun i=>i+4) F.length 0;have hFA:F.length<=1000000:=by omega
 have b1:F.length*8<=140737488355328:=Nat.le_trans (Nat.mul_le_mul_right 8 hFA) (by decide);have b2:F.length<=9223372036854775807:=Nat.le_trans hFA (by decide);have b3:(F.length+1)*8<=140737488355328:=Nat.le_trans (Nat.mul_le_mul_right 8 (Nat.succ_le_succ hFA)) (by decide);have b4:F.length+1<=9223372036854775807:=Nat.le_trans (Nat.succ_le_succ hFA) (by decide);obtain⟨R,hR⟩:∃R,zAO (fun i=>i+4) 0 F.length=R:=⟨_,rfl⟩
 obtain⟨n,hn⟩:∃n,F.length=n:=⟨_,rfl⟩
 rw[hR]at hFl hFc k2;rw[hn]at hFl b1 b2 b3 b4 k1;have hRt:R.take n=R:=q6Z (by omega);have k0':∀(T:zA) h,(H3++T)[0]'h=_:=fun T h=>(q1Z.1 (k0 T)).2;have k1':∀(T:zA) h,(H3++T)[1]'h=_:=fun T h=>(q1Z.1 (k1 T)).2;have k2':∀(T:zA) h,(H3++T)[3]'h=_:=fun T h=>(q1Z.1 (k2 T)).2;have c0:=k0 [];have c1:=k1 [];rw[r2Z]at c0 c1;have c0':∀h,H3[0]'h=_:=fun h=>(q1Z.1 c0).2;have c1':∀h,H3[1]'h=_:=fun h=>(q1Z.1 c1).2
 · have gw:∀k:Nat,(N+(k+1) != N)=true:=fun k=>by simp
   have e31:¬3=N+1:=by omega
   have e32:¬N=2:=by omega
   have k5:∀(T:zA) v,(H3++T).set 3 v=H3.set 3 v++T:=fun T v=>by rw[List.set_append_left _ _ (by omega)]
   have k6:∀(T:zA) v (j:Nat),(H3.set 3 v++T)[N+j]? = T[j]?:=fun T v j=>by rw[q5Z (by rw[r8Z];omega),r8Z,hN3,s3Z]
   refine Sim.draw hmix (by simp[hN3] <;> omega) ?_;refine SimR.hard hΓ 13 8190 _ rfl (by simp[zF];rfl) (by omega) (by kernel_rfl) (by kernel_rfl) (by simp +decide [hN3,c0,c1,hg2,hlt];exact wT) (by kernel_rfl) (by simp +decide [zAp,List.range,List.range.loop];rfl) (by simp +decide [hN3,k2,hFl,hRt,b3,b4,k5];exact wR) (by simp +decide [zHZ,zNb,ZP,List.range,List.range.loop,k0']) ?_;have m1:∀T:zA,(H3.set 3 .dead++T)[1]? = H3[1]?:=fun T=>by
     rw[q4Z (by rw[r8Z];omega),qfZ (by decide)]
   rw[c1]at m1;have m1':∀(T:zA) h,(H3.set 3 .dead++T)[1]'h=_:=fun T h=>(q1Z.1 (m1 T)).2;have m3:∀(T:zA) v,(H3.set 3 .dead++T).set 1 v=(H3.set 3 .dead).set 1 v++T:=fun T v=>by rw[List.set_append_left _ _ (by rw[r8Z];omega)]
   refine SimR.many hΓ 17 (by simp[zF,zM];rfl) (by omega) (by kernel_rfl) (by simp +decide [hN3,m1',m3];first | exact wR | exact⟨by kernel_rfl,wR⟩) ?_;refine SimR.done rfl ?_;dsimp only;refine Sim.after (wE hΓ (by simp[y1];exact wT) ?_ (by simp[hN3] <;> omega));refine ha3.newC hN3 (by simp[hN3]) (.sl (N+2) 0 (n+1) 1 false) _ 0 2 (d:=e.2) ?_ ?_ rfl ?_ (by decide) (.inl (by dsimp only;rw[hn])) fun H5 h5 hl5 hold5=>?_
   · rw[List.getElem?_set,if_pos rfl,if_pos (by rw[r8Z];omega)];rfl
   · intro b hb1 hb3
     rw[qfZ (Ne.symm hb1),qfZ (Ne.symm hb3)]
   · dsimp only;rw[hR];rfl
   refine h5.close1 (o:=false) (l:=flA x) ?_ hAr (by decide) (by omega) (fun a _=>by dsimp only;split <;> omega) ([.sl 0 0 L 2 false,.int .i64 q,.top,.top,.top,.ptr 1 0,.int .i64 ((i:Int)+1)]++qbZ 51 .top) (by simp[AWs,AW]) ?_
   · rw[hold5 0 (by omega) (by decide) (by decide) (by omega),q4Z (by omega)];exact hr3'
   · obtain⟨c1,c2⟩:=hr2.create e.1
     have hfd:(fd.create e.1).1.ok (i+1):=FD.ok_create hr3 e.1;exact⟨(i+1,dr2,F++[⟨e.2,[]⟩]),⟨by dsimp only;omega,⟨hr1,⟨_,by rw[hcr]at c1;exact c1,hfd⟩,by simp[hr4]⟩⟩,⟨by simp[LessF],rfl⟩,by dsimp only;omega⟩
theorem RD.ofStep{dir:RF}{F:List PF}{fd:FD}{fs:FS}{q:Int}{A B:Nat}(h:RD ⟨dir,F,q,0,0,false⟩ ⟨fd,fs,q,0,0,false⟩ A B){k b:List UInt8}(hb:b.length<=B) :
   (dir.create k).2.2=(fd.create k).2.2/\((fd.create k).2.2=0->RD ⟨(dir.create k).1,F++[⟨b,[]⟩],q,0,0,false⟩ ⟨(fd.create k).1,fs++[((fd.create k).2.1,⟨b,[]⟩)],q,0,0,false⟩ (A+2) B/\(fd.create k).1.acts.length=fd.acts.length+1):=by
 obtain⟨h1,h2⟩:=h.dir.create k;dsimp only at h1 h2;refine ⟨by rw[h2],fun he=>?_⟩;have hm:zEO k/\fd.now.get k=none:=by
   unfold FD.create at he;split at he
   · rename_i hm
     split at he
     · cases he
     · rename_i hg;exact⟨hm,hg⟩
   · cases he
 have hcr:fd.create k=(fdN fd k,fd.last+1,0):=by
   unfold FD.create;rw[if_pos hm.1,hm.2]
 have hok:=zIw h.ok hb hm.1 hm.2;have hlast:(dir.create k).1.last=fd.last+1:=by rw[h1.last,hcr]
 rw[hcr]at h1 ⊢;dsimp only at h1 ⊢;have hfl:=h.flen;have hdl:=h.dir.last;dsimp only at hfl hdl;have hf:fd.last+1∉FS.keys fs:=fun hn=>by have:=(h.ok.rng _ hn).2;dsimp only at this;omega
 refine ⟨⟨hok,h1,fun n f hg=>?_,?_,fun f hg=>?_,rfl,rfl,rfl,rfl⟩,by simp⟩
 · dsimp only at hg ⊢
   rw[FS.get_app]at hg;split at hg
   · cases hg
     rename_i hx;have:=h.file n _ hx;dsimp only at this;rw[q4Z (q1Z.1 this).1];exact this
   · split at hg
     · cases hg
       rename_i e;have h0:=h.ok.num.1;dsimp only at h0;rw[<-e,q5Z (by omega),show (fd.last+1-1).toNat-F.length=0 by omega];rfl
     · cases hg
 · dsimp only
   rw[hlast,qdZ];simp;omega
 · rcases qxZ.1 hg with hg | hg
   · exact h.fine f hg
   · simp at hg;subst hg;exact PF.ok_new _ _ hb
theorem RD.foldOf{q:Int}{B:Nat}:∀(x:List (List UInt8×List UInt8)) {dir:RF} {F:List PF} {fd:FD} {fs:FS} {A:Nat},RD ⟨dir,F,q,0,0,false⟩ ⟨fd,fs,q,0,0,false⟩ A B->(∀e∈x,e.2.length<=B) ->
   (zBA (dir,F) x=none/\zBP (fd,fs) x=none)\/∃s t,zBA (dir,F) x=some s/\zBP (fd,fs) x=some t/\RD ⟨s.1,s.2,q,0,0,false⟩ ⟨t.1,t.2,q,0,0,false⟩ (A+2*x.length) B/\t.1.acts.length=fd.acts.length+x.length
 | [],dir,F,fd,fs,A,h,_=>.inr ⟨_,_,rfl,rfl,h.mono (by simp) (qnZ _),rfl⟩
 | e::x,dir,F,fd,fs,A,h,hb=>by
   obtain⟨h1,h2⟩:=h.ofStep (k:=e.1) (b:=e.2) (hb e (qhZ ..));rw[zE5,zDL];dsimp only;rw[h1];by_cases he:(fd.create e.1).2.2=0
   · rw[if_pos he,if_pos he]
     obtain⟨h3,h4⟩:=h2 he;rcases RD.foldOf x h3 (fun y hy=>hb y (qiZ _ hy)) with h5 | ⟨s,t,h5,h6,h7,h8⟩
     · exact .inl h5
     · exact .inr ⟨s,t,h5,h6,h7.mono (by simp;omega) (qnZ _),by rw[h8,h4];simp;omega⟩
   · rw[if_neg he,if_neg he]
     exact .inl ⟨rfl,rfl⟩
theorem RD.ofF(x:List (List UInt8×List UInt8)){B:Nat}(hb:∀e∈x,e.2.length<=B)(q:Int)(hq:q<=4611686018427387903) :
   (RS.ofF x q=none/\DS.ofF x q=none)\/∃r d,RS.ofF x q=some r/\DS.ofF x q=some d/\RD r d (2*x.length+2) B:=by
 unfold RS.ofF DS.ofF;by_cases h:q<0
 · rw[if_pos h,if_pos h];exact .inl ⟨rfl,rfl⟩
 rw[if_neg h,if_neg h];have h0:RD ⟨RF.new,[],q,0,0,false⟩ ⟨FD.new,[],q,0,0,false⟩ 0 B:=(RD.new q (by omega) hq).mono (qnZ _) (qqZ _);rcases RD.foldOf x h0 hb with⟨h1,h2⟩ | ⟨s,t,h1,h2,h3,h4⟩
 · rw[h1,h2];exact .inl ⟨rfl,rfl⟩
 · rw[h1,h2]
   refine .inr ⟨_,_,rfl,rfl,?_⟩;have hl:t.1.acts.length=x.length:=by rw[h4];simp[FD.new]
   dsimp only;rw[hl];have hs:=DS.ok_syncDir h3.ok;have e:((⟨t.1,t.2,q,0,0,false⟩:DS).syncDir).1=⟨t.1.survive x.length,t.2,q,1,0,false⟩:=by
     unfold DS.syncDir DS.step DS.count;simp[hl]
   rw[e]at hs;have hok:=DS.ok_mono (zHx hs) (show 0+2*x.length+2<=2*x.length+2 by omega) (qnZ B);exact⟨hok,h3.dir.survive _,h3.file,h3.flen,h3.fine,rfl,rfl,rfl,rfl⟩
open Classical in
noncomputable def zO7:zS:=fun args H=>match args with
 | [.sl b 0 n 2 _c,.int .i64 q]=>match H[b]? with
   | some (.cells _ l)=>match flD l with
     | some x=>match RS.ofF x q with
       | some d=>if n=x.length/\x.length<=900000/\zJ3 x then some (.ptr H.length 0,H++[.obj true d.blks],[]) else none
       | none=>if n=x.length/\x.length<=900000/\zJ3 x then some (.nilp,H,[]) else none
     | none=>none
   | _=>none
 | _=>none
theorem zNT:Sound Pz 33 zO7:=by
 refine ⟨zD Tryz.func33 rfl (by decide),fun args H v H' W hs=>?_,fun args H v H' W hs=>?_⟩ <;> (unfold zO7 at hs;split at hs <;> try cases hs) <;> (rename_i b n c q;split at hs <;> try cases hs) <;> (rename_i o l hb;split at hs <;> try cases hs) <;> (rename_i x hx;split at hs) <;> (rename_i hd;split at hs <;> cases hs;rename_i hk)
 · obtain⟨rfl,h1,h2⟩:=hk
   have e:=zJn hx;subst e;have hbl:b<H.length:=(q1Z.1 hb).1;have hct:=zPR x h1 h2 q;rw[hd]at hct;dsimp only at hct;have:=zZ (H:=H) (args:=[.sl b 0 x.length 2 c,.int .i64 q]) hct [b] (by simp) ⟨⟨rfl,rfl,rfl,by simp⟩,⟨rfl,rfl⟩,trivial⟩ ⟨by rw[q2Z,hb];exact⟨by simp,zAU _ (Z8 x)⟩,hbl,trivial⟩ rfl;simpa[zW,ABlk.own,reA,reB,Zr] using this
 · obtain⟨rfl,h1,h2⟩:=hk
   have e:=zJn hx;subst e;have hbl:b<H.length:=(q1Z.1 hb).1;have hct:=zPR x h1 h2 q;rw[hd]at hct;dsimp only at hct;have:=zZ (H:=H) (args:=[.sl b 0 x.length 2 c,.int .i64 q]) hct [b] (by simp) ⟨⟨rfl,rfl,rfl,by simp⟩,⟨rfl,rfl⟩,trivial⟩ ⟨by rw[q2Z,hb];exact⟨by simp,zAU _ (Z8 x)⟩,hbl,trivial⟩ rfl;simpa[zW,ABlk.own,reA,reB,Zr] using this
 · exact⟨by simp,fun c hc _=>by rw[q4Z hc]⟩
 · exact⟨by simp,fun c hc _=>rfl⟩
end
section
open Go Go.Lib Go.RowKit Go.Maps Go.Sort
theorem zLL(m:Mf)(F:List (List UInt8×List UInt8))(hm:∀e∈F,zEO e.1/\e.2.length<=9)(hnd:(F.map Prod.fst).Nodup)(hF:F.length<=30)(t:Int)(t0:0<=t)(t1:t<=100) :
   ∃(d:DS) (r:RS),DS.ofF F 100=some d/\RS.ofF F 100=some r/\d.ok 62 9/\RSk r 62 9/\Zm m (F.map Prod.fst)=Zm m d.list/\zY m d.list=Zm m d.list/\d.list.length<=62/\zEd r.list m=zEa d m /\
     (d.arm t).ok 62 9/\RSk (r.arm t) 62 9/\∃(d1:DS) (r1:RS) (k:Nat) (e:Int),(d.arm t).sweep m=(d1,k,e)/\(r.arm t).sweep m=(r1,k,e)/\d1.ok 188 9/\RSk r1 188 9/\r1.steps=d1.steps/\r1.down=d1.down/\r1.files=d1.files/\zEd r1.list m=zEa d1 m:=by
 obtain⟨d,e1,e2,e3,_,_,e6,_,e8,e9⟩:=zR2 F hm hnd 100 (by decide) (by decide) (Zp m);have hp:=zM7 e6 e8.core hnd e9;rcases RD.ofF F (B:=9) (fun e he=>(hm e he).2) 100 (by decide) with⟨_,h⟩ | ⟨r,d',h1,h2,h3⟩
 · rw[h]at e1;cases e1
 rw[e1]at h2;cases h2;have h3:RD r d 62 9:=h3.mono (by omega) (qnZ _);have q:d.quota<=1048576:=by rw[e3];decide
 have e2:d.ok 62 9:=DS.ok_mono e2 (by omega) (qnZ _);have h4:=h3.arm t (by omega);have qa:(d.arm t).quota<=1048576:=q;have la:(Zm m (d.arm t).list).length<=62:=Nat.le_trans (zDw m _) (zAA h4.ok).2;obtain⟨h5,h6⟩:=RD.sweep (K:=1048576) h4 qa m;have hq:((d.arm t).sweep m).1.quota<=1048576:=by
   obtain⟨_,_,h7⟩:=RD.drops (K:=1048576) (Zm m (d.arm t).list) h4 qa;unfold DS.sweep swE;split
   · split
     · dsimp only
       have h8:∀x:DS,(x.syncDir).1.quota=x.quota:=fun x=>by
         unfold DS.syncDir DS.step DS.count;split <;> split <;> rfl
       rw[h8];exact h7
     · exact h7
   · exact h7
 have h5:=h5.mono (A':=188) (B':=9) (by omega) (qnZ _);obtain⟨⟨d1,k,e⟩,hd⟩:∃x,(d.arm t).sweep m=x:=⟨_,rfl⟩
 obtain⟨⟨r1,k',e'⟩,hr⟩:∃x,(r.arm t).sweep m=x:=⟨_,rfl⟩
 rw[hd]at h5 h6 hq;rw[hr]at h5 h6;cases h6;refine ⟨d,r,e1,h1,e2,⟨d,h3,q⟩,?_,zJB m d,(zAA e2).2,h3.clean m,h4.ok,⟨_,h4,qa⟩,d1,r1,k,e,hd,hr,h5.ok,⟨d1,h5,hq⟩,h5.steps,h5.down,h5.files,h5.clean m⟩;unfold Zm;exact zK9 (hp.symm.filter _)
end
end Go.Proofs.YtfhidaoiofeooaaGreatDoor
