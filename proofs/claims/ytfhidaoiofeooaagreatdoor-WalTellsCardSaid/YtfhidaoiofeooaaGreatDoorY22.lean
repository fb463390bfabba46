/- Parts of the proof of WalTells: lemmas, each with its own conditions. -/
import Derived.Test.YtfhidaoiofeooaaGreatDoorY21
set_option maxHeartbeats 64000000
open List renaming getElem?_eq_some_iff → q1Z, getD_eq_getElem?_getD → q2Z, getElem?_eq_getElem → q3Z, getElem?_append_left → q4Z, getElem?_append_right → q5Z, take_of_length_le → q6Z, length_cons → q7Z, length_nil → q8Z, cons_append → q9Z, nil_append → qaZ, replicate → qbZ, mem_of_getElem? → qcZ, length_append → qdZ, getElem?_set_ne → qfZ, getElem?_set_self → qgZ, mem_cons_self → qhZ, mem_cons_of_mem → qiZ, length_take → qjZ, mem_cons → qwZ, getElem?_map → qzZ, mem_singleton → r1Z, append_nil → r2Z, getElem_mem → r3Z, getElem?_take → r4Z, getElem?_drop → r5Z, take_append_drop → r6Z, length_map → r7Z, length_set → r8Z, flatten_cons → rcZ, nodup_cons → rdZ, mem_map → reZ, map_append → roZ, map_cons → s1Z, getElem?_eq_none → s4Z, set_cons_zero → s9Z, flatten_append → sgZ
open Option renaming map_eq_some_iff → qlZ, getD_some → rgZ
open Nat renaming le_refl → qnZ, zero_le → qqZ, lt_irrefl → rnZ, lt_or_ge → s2Z, zero_add → s8Z
open Int renaming toNat_of_nonneg → rqZ
namespace Go.Proofs.YtfhidaoiofeooaaGreatDoor
open _root_.Go.Proofs.Tryz renaming prog → Pz
set_option maxRecDepth 100000
section
open Go Go.Lib
attribute [-simp] zH zc zq zK zy
theorem RAt.more{H H5:zA}{r:RS}{x y:AV}{fo m m' q:Nat}{g:Nat->Nat}(h:RAt H r x 0 fo m g)(f:PF)(h0:H5[0]? = some (r.cell0 y fo))(hy:y=.sl m' 0 (r.F.length+1) 1 false\/∃c,y=.slice m' 0 (r.F.length+1) 1 c)
   (hrow:H5[m']? = some (.cells true (zBC g 0 r.F.length++[.ptr q 0]))) (hq:H5[q]? = some (.obj true f.rblks)) (hold:∀b,b<H.length->b≠0->H5[b]? = H[b]?) (hm:H.length<=m') (hql:H.length<=q) (hmq:m'≠q) :
   RAt H5 ⟨r.dir,r.F++[f],r.room,r.steps,r.left,r.down⟩ y 0 fo m' (fun i=>if i<r.F.length then g i else q):=by
 obtain⟨n1,n2,n3,n4,n5⟩:=h.ne;have lf:fo<H.length:=(q1Z.1 h.fold).1;have l0:0<H.length:=(q1Z.1 h.c0).1;have lg:∀i,i<r.F.length->g i<H.length:=fun i hi=>(q1Z.1 (h.file i _ (q3Z hi))).1;refine ⟨h0,by simpa using hy,by rw[hold fo lf n1];exact h.fold,?_,fun i f' hf=>?_,?_⟩
 · dsimp only
   rw[hrow,qdZ];simp only[q7Z,q8Z,s8Z];rw[zLd,zDh (g':=g) _ _ fun i _ hi=>if_pos (by omega)];simp
 · dsimp only at hf ⊢
   rcases Nat.lt_trichotomy i r.F.length with h1 | h1 | h1
   · rw[q4Z h1]at hf
     rw[if_pos h1,hold _ (lg i h1) (n4 i h1).1];exact h.file i f' hf
   · subst h1
     rw[q5Z (qnZ _),Nat.sub_self]at hf;cases hf;rw[if_neg (rnZ _)];exact hq
   · rw[s4Z (by simp;omega)]at hf;cases hf
 · dsimp only
   have hg:∀a,a<(r.F++[f]).length->a<r.F.length/\(if a<r.F.length then g a else q)=g a\/a=r.F.length/\(if a<r.F.length then g a else q)=q:=fun a ha=>by
     simp at ha;by_cases h:a<r.F.length
     · exact .inl ⟨h,if_pos h⟩
     · exact .inr ⟨by omega,if_neg h⟩
   rw[rdZ,rdZ,rdZ];refine ⟨fun h=>?_,fun h=>?_,fun h=>?_,?_⟩
   · rcases qwZ.1 h with h | h
     · omega
     rcases qwZ.1 h with h | h
     · omega
     · obtain⟨a,ha,h⟩:=reZ.1 h
       rcases hg a (List.mem_range.1 ha) with⟨h2,e⟩ | ⟨_,e⟩
       · have:=(n4 a h2).1;omega
       · omega
   · rcases qwZ.1 h with h | h
     · omega
     · obtain⟨a,ha,h⟩:=reZ.1 h
       rcases hg a (List.mem_range.1 ha) with⟨h2,e⟩ | ⟨_,e⟩
       · have:=(n4 a h2).2.1;omega
       · omega
   · obtain⟨a,ha,h⟩:=reZ.1 h
     rcases hg a (List.mem_range.1 ha) with⟨h2,e⟩ | ⟨_,e⟩
     · have:=lg a h2;omega
     · omega
   · rw[List.nodup_iff_pairwise_ne,List.pairwise_map,List.pairwise_iff_getElem]
     intro a b ha hb hab;simp only[List.length_range]at ha hb;simp only[List.getElem_range];rcases hg a ha with⟨ha2,e⟩ | ⟨_,e⟩ <;> rcases hg b hb with⟨hb2,f⟩ | ⟨_,f⟩
     · rw[e,f];intro h';have:=n5 a b ha2 hb2 h';omega
     · rw[e,f];have:=lg a ha2;omega
     · omega
     · omega
theorem RAt.new{H:zA}{r:RS}{x:AV}{fo m:Nat}{g:Nat->Nat}(h:RAt H r x 0 fo m g){L:Nat}(hL:H.length=L)(y:AV)(T:zA)(j jm:Nat){d:List UInt8}(hj:T[j]? = some (.cells true [.str d,.nils]))
   (hjm:T[jm]? = some (.cells true (zBC g 0 r.F.length++[.ptr (L+j) 0]))) (hne:j≠jm) (hy:y=.sl (L+jm) 0 (r.F.length+1) 1 false\/∃c,y=.slice (L+jm) 0 (r.F.length+1) 1 c) {F:List AV} {K:List AV->zA->Prop}
   (hk:∀H5,RAt H5 ⟨r.dir,r.F++[⟨d,[]⟩],r.room,r.steps,r.left,r.down⟩ y 0 fo (L+jm) (fun i=>if i<r.F.length then g i else L+j)->H5.length=L+T.length->(∀b,b<L+T.length->b≠0->b≠L+j->H5[b]? = (H++T)[b]?)->Aft 1 F H5 K):Aft 1 F (H.set 0 (r.cell0 y fo)++T) K:=by
 have l0:0<H.length:=(q1Z.1 h.c0).1;have hBX:=ZC (H.set 0 (r.cell0 y fo)) (n:=L) (by rw[r8Z,hL]);have lj:j<T.length:=(q1Z.1 hj).1;have ljm:jm<T.length:=(q1Z.1 hjm).1;have e1:∀b,b≠L+j->(ZH (H.set 0 (r.cell0 y fo)++T) (L+j) [L+T.length] true (⟨d,[]⟩:PF).rblks)[b]? = if b=L+T.length then (ZH (H.set 0 (r.cell0 y fo)++T) (L+j) [L+T.length] true (⟨d,[]⟩:PF).rblks)[b]? else (H.set 0 (r.cell0 y fo)++T)[b]?:=fun b hb=>by
   split
   · rfl
   · rename_i hn
     unfold ZH;rw[qfZ (Ne.symm hb),zCj _ _ _ (by simpa using hn)]
 refine Aft.closeR ⟨d,[]⟩ (L+j) (L+T.length) (x:=.nils) (by rw[hBX.get];exact hj) (by simp[AW]) (fun hlt=>by simp[hL]at hlt) (by omega) (by simp;omega) ?_;refine hk _ (h.more ⟨d,[]⟩ ?_ hy ?_ ?_ (fun b hb hb0=>?_) (by omega) (by omega) (by omega)) (by simp[hL]) fun b hb hb0 hbj=>?_
 · rw[e1 0 (by omega),if_neg (by omega),q4Z (by rw[r8Z];exact l0),List.getElem?_set,if_pos rfl,if_pos l0]
 · rw[e1 _ (by omega),if_neg (by omega),hBX.get];exact hjm
 · unfold ZH
   rw[List.getElem?_set,if_pos rfl,if_pos (by rw[Za];simp;omega)]
 · rw[e1 b (by omega),if_neg (by omega),q4Z (by rw[r8Z];exact hb),qfZ (Ne.symm hb0)]
 · rw[e1 b hbj,if_neg (by omega)]
   rcases s2Z b L with hbL | hbL
   · rw[q4Z (by rw[r8Z];omega),qfZ (Ne.symm hb0),q4Z (by omega)]
   · rw[q5Z (by rw[r8Z];omega),q5Z (by omega),r8Z]
theorem zOb(r:RS){A B:Nat}(hok:r.ok A B)(hA:A<=900000)(k:List UInt8)(hkl:k.length<=9223372036854775807) :
   Ct Pz 22 [.ptr 0 0,.str k] [.obj true r.blks] (.int .i64 (r.create k).2) [.obj true (r.create k).1.blks]:=by
 have hΓ:=zGU;refine zE Tryz.func22 rfl ?_;simp only[Tryz.ntmps22,q7Z,q8Z,Nat.reduceAdd,Nat.reduceSub,qbZ,q9Z,qaZ];refine Sim.aft (Aft.open (b:=0) rfl (by simp) (Aft.done (by simp[zY]) ?_));rw[zIQ];have ha:=r.blks_at;have hlen:1<=r.blks.length:=by rw[RS.blks_length];omega
 obtain⟨H,hH⟩:∃H,r.blks=H:=⟨_,rfl⟩
 rw[hH]at ha hlen ⊢;have hst:=ha.step ⟨hok.s0,by have:=hok.s1;omega⟩ ⟨hok.a0,hok.a1⟩;have ha2:=ha.count;have hok2:=RS.ok_count hok;rw[show r.F=r.count.F from (RS.count_F r).symm]at hst ha2;unfold RS.create RS.step;obtain⟨q,hq⟩:∃q,r.count=q:=⟨_,rfl⟩
 rw[hq]at hst ha2 hok2 ⊢;obtain⟨H2,hH2⟩:∃X,H.set 0 (q.cell0 (.sl 2 0 q.F.length 1 false) 1)=X:=⟨_,rfl⟩
 have hlen2:1<=H2.length:=by rw[<-hH2,r8Z];exact hlen
 rw[hH2]at hst ha2;have hdo:q.dir.ok 1000000:=RF.ok_mono hok2.dir (by omega);have h0:=ha2.c0;unfold RS.cell0 at h0;have h1:=ha2.fold;clear hH2 hH hq;refine wS hΓ (by simp;exact wR) ?_ (by simp[hlen] <;> omega);cases hd:q.down with
 | true =>
   rw[hd]at hst;simp only[Bool.not_true]at hst;rw[if_pos rfl];refine Sim.after (wE hΓ (by simp[zC2,hst];exact wT) ?_ (by simp[hlen] <;> omega));exact ha2.close ([.top,.top,.top,.top,.int .i64 13]++qbZ 30 .top) (by simp[AWs,AW]) ⟨.inr rfl,_,by simp[Tryz.f22] <;> rfl,Weak.mk' [0] (by decide) rfl (by simp) (by simp[AWb])⟩
 | false =>
   rw[hd]at hst;simp only[Bool.not_false]at hst;rw[if_neg (by simp)];dsimp only;refine wS hΓ (by simp[zC2,hst];exact wR) ?_ (by simp[hlen] <;> omega);have hFl:=zED (fun i=>i+3) q.F.length 0;have hFc:=zHQ (fun i=>i+3) q.F.length 0;have hFA:q.F.length<=1000000:=by have:=hok2.flen;have:=hok2.dir.hi;omega
   have b1:q.F.length*8<=140737488355328:=Nat.le_trans (Nat.mul_le_mul_right 8 hFA) (by decide);have b2:q.F.length<=9223372036854775807:=Nat.le_trans hFA (by decide);have b3:(q.F.length+1)*8<=140737488355328:=Nat.le_trans (Nat.mul_le_mul_right 8 (Nat.succ_le_succ hFA)) (by decide);have b4:q.F.length+1<=9223372036854775807:=Nat.le_trans (Nat.succ_le_succ hFA) (by decide);obtain⟨⟨dr,nm,e⟩,hcr⟩:∃x,q.dir.create k=x:=⟨_,rfl⟩
   rw[hcr];dsimp only;have ha3:=ha2.dirset dr;refine wS hΓ (by simp[zC2,zQw,h0,h1,hdo,hkl,hcr];exact wR) ?_ (by omega);obtain⟨H3,hH3⟩:∃X,H2.set 1 (.obj true dr.blks)=X:=⟨_,rfl⟩
   have hlen3:1<=H3.length:=by rw[<-hH3,r8Z];exact hlen2
   rw[hH3]at ha3 ⊢;have g0:=ha3.c0;have g1:=ha3.fold;have g2:=ha3.row;dsimp only at g0 g1 g2;unfold RS.cell0 at g0;dsimp only at g0;by_cases he:e=0
   · rw[if_pos he]
     have he2:(e==0)=true:=by rw[he];rfl
     obtain⟨L,hL⟩:∃L,H3.length=L:=⟨_,rfl⟩
     have hBX:=ZC H3 hL;have hXg:=hBX.get;have hXg0:=hBX.get0;have hXs:=hBX.set;have hXs0:=hBX.set0;obtain⟨_,l1⟩:True/\1<L:=⟨trivial,by rw[<-hL];exact (q1Z.1 g1).1⟩
     have l2:2<L:=by rw[<-hL];exact (q1Z.1 g2).1
     have k0:∀T:zA,(H3++T)[0]? = H3[0]?:=fun T=>q4Z (by omega);have k2:∀T:zA,(H3++T)[2]? = H3[2]?:=fun T=>q4Z (by omega);have k3:∀(T:zA) v,(H3++T).set 0 v=H3.set 0 v++T:=fun T v=>by rw[List.set_append_left _ _ (by omega)]
     rw[g0]at k0;rw[g2]at k2;obtain⟨R,hR⟩:∃R,zBC (fun i=>i+3) 0 q.F.length=R:=⟨_,rfl⟩
     obtain⟨n,hn⟩:∃n,q.F.length=n:=⟨_,rfl⟩
     rw[hR]at hFl hFc k2;rw[hn]at hFl b1 b2 b3 b4 k0;have hRt:R.take n=R:=q6Z (by omega);have k0':∀(T:zA) h,(H3++T)[0]'h=_:=fun T h=>(q1Z.1 (k0 T)).2;have k2':∀(T:zA) h,(H3++T)[2]'h=_:=fun T h=>(q1Z.1 (k2 T)).2;rcases Nat.eq_zero_or_pos n with hn0 | hn0
     · subst hn0
       have hR0:R=[]:=List.length_eq_zero_iff.1 hFl;subst hR0;refine wS hΓ (by simp[he,hL,k0',k2,k3];exact wR) ?_ (by omega);refine Sim.after (wE hΓ (by simp;exact wT) ?_);refine ha3.new hL (.slice (L+3) 0 1 1 false) _ 1 3 (d:=[]) ?_ ?_ (by decide) (.inr ⟨false,by dsimp only;rw[hn]⟩) fun H5 h5 _ _=>?_
       · rfl
       · dsimp only;rw[hR];rfl
       · exact h5.close ([.top,.top,.top,.top,.int .i64 0]++qbZ 30 .top) (by simp[AWs,AW]) ⟨.inr rfl,_,by simp[Tryz.f22] <;> rfl,Weak.mk' [0] (by decide) rfl (by simp) (by simp[AWb])⟩
     · have hn1:n≠0:=by omega
       have hn2:¬n=0:=hn1;refine wS hΓ (by simp[he,hL,k0',k2,k3,hXs,hFl,hFc,hRt,b1,b2,b3,b4,hn1];exact wR) ?_ (by omega);refine Sim.after (wE hΓ (by simp;exact wT) ?_);refine ha3.new hL (.slice (L+4) 0 (n+1) 1 false) _ 2 4 (d:=[]) ?_ ?_ (by decide) (.inr ⟨false,by dsimp only;rw[hn]⟩) fun H5 h5 _ _=>?_
       · rfl
       · dsimp only;rw[hR];rfl
       · exact h5.close ([.top,.top,.top,.top,.int .i64 0]++qbZ 30 .top) (by simp[AWs,AW]) ⟨.inr rfl,_,by simp[Tryz.f22] <;> rfl,Weak.mk' [0] (by decide) rfl (by simp) (by simp[AWb])⟩
   · rw[if_neg he]
     have he2:(e==0)=false:=beq_eq_false_iff_ne.2 he;refine wS hΓ (by simp[he2];exact wR) ?_ (by omega);refine Sim.after (wE hΓ (by simp;exact wT) ?_ (by omega));exact ha3.close ([.top,.top,.top,.top,.int .i64 e]++qbZ 30 .top) (by simp[AWs,AW]) ⟨.inr rfl,_,by simp[Tryz.f22] <;> rfl,Weak.mk' [0] (by decide) rfl (by simp) (by simp[AWb])⟩
noncomputable def zEC(args:List AV)(H:zA)(v:AV):zJ:=open Classical in fun a h=>if a=args/\h=H then some (v,h,[]) else none
theorem zBu{P:Program}{f:FuncId}{args:List AV}{H:zA}{v:AV}(he:∀cargs w,(callFunc f cargs).run P w=.ok (.enter f cargs) w)(h:Ct P f args H v H):Sound P f (zEC args H v):=by
 refine ⟨he,fun a h1 v1 H1 W hs=>?_,fun a h1 v1 H1 W hs=>?_⟩ <;> (unfold zEC at hs;split at hs <;> cases hs) <;> (rename_i hc;obtain⟨rfl,rfl⟩:=hc)
 · exact h
 · exact⟨qnZ _,fun b hb hn=>rfl⟩
@[simp] theorem zTv(args:List AV)(H:zA)(v:AV):zEC args H v args H=some (v,H,[]):=by
 unfold zEC;rw[if_pos ⟨rfl,rfl⟩]
def SelfW(H:zA):Prop:=∀rn:List Nat,(∀i,i<H.length->rn[i]? = some i)->∀B∈H,AWb rn B B
theorem SelfW.set{H:zA}(h:SelfW H)(b:Nat){B:ABlk}(hB:∀rn:List Nat,(∀i,i<H.length->rn[i]? = some i)->AWb rn B B):SelfW (H.set b B):=fun rn hr C hC=>by
 rw[r8Z]at hr;rcases List.mem_or_eq_of_mem_set hC with hC | rfl
 · exact h rn hr C hC
 · exact hB rn hr
theorem RAt.selfc{H:zA}{r:RS}{fo m:Nat}{g:Nat->Nat}{c:Bool}(h:RAt H r (.sl m 0 r.F.length 1 c) 0 fo m g)(s l:Int)(w:Bool){rn:List Nat}(hr:∀i,i<H.length->rn[i]? = some i) :
   AWb rn ((⟨r.dir,r.F,r.room,s,l,w⟩:RS).cell0 (.sl m 0 r.F.length 1 c) fo) ((⟨r.dir,r.F,r.room,s,l,w⟩:RS).cell0 (.sl m 0 r.F.length 1 c) fo):=by
 have l1:=hr fo (q1Z.1 h.fold).1;have l2:=hr m (q1Z.1 h.row).1;exact⟨id,by simp[AWs,AW,l1,l2]⟩
theorem RS.blks_self(r:RS):SelfW r.blks:=fun rn hr B hB=>by
 rw[RS.blks_length]at hr;simp only[RS.blks,RS.cell0,qwZ]at hB;rcases hB with rfl | rfl | rfl | hB
 · exact⟨id,by simp[AWs,AW,hr 1 (by omega),hr 2 (by omega)]⟩
 · exact⟨rfl,rfl⟩
 · exact⟨id,zFd _ _ _ _ _ fun i _ hi=>hr (i+3) (by omega)⟩
 · obtain⟨W,_,rfl⟩:=reZ.1 hB
   exact⟨rfl,rfl⟩
noncomputable def zVd(args:List AV)(H:zA)(v:AV):Gam:=zZ [(81,zEC args H v),(136,Zh),(80,zFP)]
theorem zSP{args:List AV}{H:zA}{v:AV}(h:Ct Pz 81 args H v H):GOk Pz (zVd args H v) :=
 zB (zBu (zD Tryz.func81 rfl (by decide)) h) (zB zDb (zB zER zC))
noncomputable def zYT:Gam:=zZ [(80,zFP)]
theorem zAO:GOk Pz zYT:=zB zER zC
theorem RF.names_get{r:RF}{k:List UInt8}(h:k∈r.names):∃z,NM.get r.now k=some z:=NM.get_some.2 h
theorem zLD{H:zA}{r:RS}{fo m:Nat}{g:Nat->Nat}{c:Bool}(ha:RAt H r (.sl m 0 r.F.length 1 c) 0 fo m g){A B:Nat}(hok:r.ok A B)(hA:A<=1000000)(hB:B<=1000000000000)(hid:SelfW H) :
   Ct Pz 49 [.ptr 0 0] H (.sl H.length 0 r.files.length 2 false) (H++[.cells true (flA r.files)]):=by
 have h0:=ha.c0;have h1:=ha.fold;unfold RS.cell0 at h0;have hdo:r.dir.ok 1000000:=RF.ok_mono hok.dir hA;obtain⟨N,hN⟩:∃N,H.length=N:=⟨_,rfl⟩
 have l0:0<N:=by rw[<-hN];exact (q1Z.1 h0).1
 have l1:fo<N:=by rw[<-hN];exact (q1Z.1 h1).1
 have hid':=hid;unfold SelfW at hid';rw[hN]at hid';have hBX:=ZC H hN;have hXg:=hBX.get;have hXg0:=hBX.get0;have hXs:=hBX.set;have hXs0:=hBX.set0;have k0:∀T:zA,(H++T)[0]? = H[0]?:=fun T=>q4Z (by omega);rw[h0]at k0;have k0':∀(T:zA) h,(H++T)[0]'h=_:=fun T h=>(q1Z.1 (k0 T)).2;have tl:=fun {T Tn F Fn}=>Weak.tailG (A:=H) (N:=N) hN hid' (T:=T) (Tn:=Tn) (F:=F) (Fn:=Fn);have o0:∀ts:List Nat,(List.range N++ts)[0]? = some 0:=fun ts=>zCA _ _ l0;have o0g:∀(ts:List Nat) h,(List.range N++ts)[0]'h=0:=fun ts h=>(q1Z.1 (o0 ts)).2;have hLn:r.dir.names.length<=1000000:=by
   unfold RF.names;rw[r7Z];exact Nat.le_trans (hok.dir.row _ (qcZ (RF.now_get hok.dir.ne))) hA
 have hnget:=fun k (hk:k∈r.dir.names)=>RF.names_get hk;have frn:zV (r.dir.names.map AV.str)=true:=ZO _ _ fun _=>rfl;have hgetN:∀i (h:i<r.dir.names.length),(∀h',(r.dir.names.map AV.str)[i]'h'=.str r.dir.names[i])/\(r.dir.names.map AV.str)[i]? = some (.str r.dir.names[i]):=fun i h=>⟨fun h'=>List.getElem_map _,by rw[qzZ,q3Z h];rfl⟩
 have hrl:(r.dir.names.map AV.str).length=r.dir.names.length:=r7Z _;refine zE Tryz.func49 rfl ?_;simp only[Tryz.ntmps49,q7Z,q8Z,Nat.reduceAdd,Nat.reduceSub,qbZ,q9Z,qaZ];rw[hN];refine wS zAO (by simp;exact wR) ?_ (by simp[hN]);refine wS zAO (by simp;exact wR) ?_ (by simp[hN]);refine wS zAO (by simp[zYT,zFP,h0,h1,hN,hdo];exact wR) ?_ (by simp[hN]);refine Sim.seq (wS zAO (by simp;exact wR) ?_ (by simp[hN]));obtain⟨ks,hks⟩:∃ks,r.dir.names=ks:=⟨_,rfl⟩
 obtain⟨L,hL⟩:∃L,ks.length=L:=⟨_,rfl⟩
 rw[hks]at hLn hnget frn hgetN hrl;rw[hks,hL];rw[hL]at hLn hrl;have hAn:∀rn:List Nat,AWs rn (ks.map AV.str) (ks.map AV.str):=fun rn=>AWs.refl _ _ frn;have hfl:r.files=if r.down then [] else ks.map fun k=>(k,r.text k):=by
   unfold RS.files RS.list;rw[hks];split <;> rfl
 obtain⟨fl,hfl'⟩:∃fl:List (List UInt8×List UInt8),(ks.map fun k=>(k,r.text k))=fl:=⟨_,rfl⟩
 rw[hfl']at hfl;have hfll:fl.length=L:=by rw[<-hfl',r7Z,hL]
 have hfg:∀i (h:i<ks.length),fl[i]'(by omega)=(ks[i],r.text ks[i]):=fun i h=>by simp only[<-hfl',List.getElem_map]
 have hAf:∀(l:List (List UInt8×List UInt8)) (rn:List Nat),AWs rn (flA l) (flA l):=fun l rn=>AWs.refl _ _ (zC7 l);refine Sim.block (Sim.loopW (fun i:Nat=>i<=L/\(r.down=true->i=0))
   (fun i=>[.ptr 0 0,.top,.top,.sl (N+1) 0 i 2 false,.sl N 0 L 1 false,.int .i64 i]++qbZ 34 .top)
   (fun i=>H++[.cells true (ks.map .str),.cells true (flA (fl.take i))]) (fun i=>L-i) 0 (by simp[hN]) ⟨qqZ _,fun _=>rfl⟩ ?_ fun i hi=>?_)
 · exact tl [0,100] (by decide) (by simp[AWs,AW,o0g]) (by simp[AWg,AWb,hN,flA])
 obtain⟨hi,hdn⟩:=hi;cases hd:r.down with
 | true =>
   obtain rfl:=hdn hd;rw[hd]at hfl k0 k0';rw[hfl,if_pos rfl];by_cases hL0:L=0
   · have hL0':¬(0:Int)<L:=by omega
     refine wE zAO (by simp[hL0];exact wT) ?_ (by simp[hN]);dsimp only;rw[if_pos rfl];refine wE zAO (by simp;exact wT) ?_ (by simp[hN]);exact⟨.inr rfl,_,by simp[Tryz.f49] <;> rfl,tl [1] (by decide) (by simp[AWs,AW]) (by simp[AWg,AWb,hN,flA])⟩
   · have hL0':(0:Int)<L:=by omega
     have hL1:0<L:=by omega
     refine wE zAO (by simp[hL1,k0'];exact wT) ?_ (by simp[hN]);dsimp only;rw[if_pos rfl];refine wE zAO (by simp;exact wT) ?_ (by simp[hN]);exact⟨.inr rfl,_,by simp[Tryz.f49] <;> rfl,tl [1] (by decide) (by simp[AWs,AW]) (by simp[AWg,AWb,hN,flA])⟩
 | false =>
   rw[hd]at hfl k0 k0';rw[hfl,if_neg (by simp)];by_cases hlt:i<L
   · have hil:i<ks.length:=by omega
     have hiI:(i:Int)<L:=by omega
     obtain⟨f1,f2⟩:=hgetN i (by omega);obtain⟨z,hz⟩:=hnget _ (r3Z hil);have hfi:=hfg i hil;obtain⟨k,hk⟩:∃k,ks[i]=k:=⟨_,rfl⟩
     rw[hk]at f1 f2 hz hfi;obtain⟨j,f,e1,e2,e3,e4,e5⟩:=zBK hok hz g;have htx:r.text k=f.now:=by unfold RS.text RS.file;rw[hz];simp only[e1,e3]
     have hnx:fl.take (i+1)=fl.take i++[(k,f.now)]:=by rw[List.take_succ_eq_append_getElem (by omega),hfi,htx]
     have hob:(fl.take i).length=i:=by rw[qjZ];omega
     obtain⟨out,hout⟩:∃o,fl.take i=o:=⟨_,rfl⟩
     rw[hout]at hnx hob ⊢;have ha2:=ha.app [ABlk.cells true (ks.map .str),ABlk.cells true (flA out)];have hΓ:=zSP (zGL ha2 hok hA k);rw[e5]at hΓ;have e6:=ha2.file j f e3;have e7:f.small:=PF.ok_mono e4 hB;have hol:(flA out).length=i*2:=by rw[zFJ,hob]
     have hRt:(flA out).take (i*2)=flA out:=q6Z (by omega);have hRc:(flA out).all ZG=true:=by
       have:∀l:List (List UInt8×List UInt8),(flA l).all ZG=true:=fun l=>by
         induction l with
         | nil=>rfl
         | cons e l ih=>simp only[flA,List.all_cons,ih,ZG,Bool.and_true]
       exact this out
     have hap:flA out++[.str k,.str f.now]=flA (out++[(k,f.now)]):=by rw[zFU];rfl
     have i9:(i+1)*32<=140737488355328:=by omega
     have i10:i+1<=9223372036854775807:=by omega
     have y1:IntKind.i64.wrap ((i:Int)+1)=i+1:=zI (by omega) (by omega);have i11:i<(ks.map AV.str).length:=by omega
     refine wS hΓ (by simp[hiI,k0'];exact wR) ?_ (by simp[hN]);refine Sim.seq (Sim.block (Sim.draw hmix (by simp[hN]) ?_));refine SimR.many hΓ 14 (by simp[zF];rfl) (by omega) (by kernel_rfl) (by simp +decide [zVd,zTv,Zh,hlt,f1,hrl,e6,e7,hN];first | exact wR | exact⟨by kernel_rfl,wR⟩) ?_;refine SimR.one hΓ _ rfl (by kernel_rfl) (by simp +decide [hN,hXs,hol,hRt,hap,i9,i10];exact wR) ?_;refine SimR.many hΓ 16 (by simp[zF,zW];rfl) (by omega) (by kernel_rfl) (by simp +decide;first | exact wR | exact⟨by kernel_rfl,wR⟩) ?_;refine SimR.done rfl ?_;dsimp only;refine wE zAO (by simp[y1];exact wT) ?_ (by simp[hN]);exact⟨i+1,⟨by omega,fun h=>by cases h⟩,tl [0,3] (by decide) (by simp[AWs,AW,o0g]) (by simp[AWg,AWb,hN,hnx]),by omega⟩
   · have hie:i=L:=by omega
     subst hie;have hnI:¬(i:Int)<i:=by omega
     rw[q6Z (by omega)];refine wE zAO (by simp;exact wT) ?_ (by simp[hN]);dsimp only;rw[if_pos rfl];refine wE zAO (by simp;exact wT) ?_ (by simp[hN]);exact⟨.inr rfl,_,by simp[Tryz.f49] <;> rfl,tl [1] (by decide) (by simp[AWs,AW,hfll]) (by simp[AWg,AWb,hN])⟩
theorem RS.text_le{r:RS}{A B:Nat}(h:r.ok A B)(k:List UInt8):(r.text k).length<=B:=by
 unfold RS.text RS.file;cases hk:NM.get r.dir.now k with
 | none=>simp
 | some z =>
   obtain⟨i,f,e1,e2,e3,e4,_⟩:=zBK h hk id;simp only[e1,e3];exact PF.ok_now e4
theorem RS.list_le{r:RS}{A B:Nat}(h:r.ok A B):r.list.length<=A:=by
 unfold RS.list;split
 · simp
 · unfold RF.names
   rw[r7Z];exact h.dir.row _ (qcZ (RF.now_get h.dir.ne))
theorem zHe{C:Nat}:∀(l:List Nat),(∀x∈l,x<=C)->l.sum<=l.length*C
 | [],_=>by simp
 | a::l,h=>by
   have h1:=h a (qhZ ..);have h2:=zHe l fun x hx=>h x (qiZ _ hx);rw[List.sum_cons,q7Z,Nat.add_mul];omega
theorem zSR(l:List (List UInt8×List UInt8))(k:Nat)(h:k<l.length):(∀h',(flA l)[k*2+1]'h'=.str l[k].2)/\(flA l)[k*2+1]? = some (.str l[k].2):=by
 have e:(flA l)[k*2+1]? = some (.str l[k].2):=by
   have:=zIR l k h;have h2:(((flA l).drop (k*2)).take 2)[1]? = some (.str l[k].2):=by rw[this];rfl
   rw[r4Z,if_pos (by decide),r5Z]at h2;exact h2
 exact⟨fun h'=>(q1Z.1 e).2,e⟩
def zBk(l:List (List UInt8×List UInt8)):Nat:=(l.map fun e=>e.2.length).sum
theorem zQz(l:List (List UInt8×List UInt8))(i:Nat)(h:i<l.length):zBk (l.take (i+1))=zBk (l.take i)+l[i].2.length:=by
 unfold zBk;rw[List.take_succ_eq_append_getElem h];simp only[roZ,List.sum_append,s1Z,List.map_nil,List.sum_cons,List.sum_nil,Nat.add_zero]
theorem RS.used_eq(r:RS):r.used=zBk r.files:=by
 unfold RS.used zBk RS.files;rw[List.map_map];rfl
theorem zJw{r:RS}{A B:Nat}(h:r.ok A B)(i:Nat):zBk (r.files.take i)<=A*B:=by
 unfold zBk;have h1:=zHe (C:=B) ((r.files.take i).map fun e=>e.2.length) fun x hx=>by
   obtain⟨e,he,rfl⟩:=reZ.1 hx;obtain⟨k,_,rfl⟩:=reZ.1 (List.mem_of_mem_take he);exact RS.text_le h k
 have h2:((r.files.take i).map fun e=>e.2.length).length<=A:=by
   rw[r7Z,qjZ];have:=RS.list_le h;have h3:r.files.length=r.list.length:=by unfold RS.files;rw[r7Z]
   omega
 exact Nat.le_trans h1 (Nat.mul_le_mul_right B h2)
theorem zUk{H:zA}{r:RS}{fo m:Nat}{g:Nat->Nat}{c:Bool}(ha:RAt H r (.sl m 0 r.F.length 1 c) 0 fo m g){A B:Nat}(hok:r.ok A B)(hA:A<=1000000)(hB:B<=1000000000000)(hid:SelfW H) :
   Ct Pz 99 [.ptr 0 0] H (.int .i64 r.used) H:=by
 have hfc:=zLD ha hok hA hB hid;have l0:0<H.length:=(q1Z.1 ha.c0).1;have hΓ:GOk Pz (zZ [(49,zB7 [.ptr 0 0] H (.sl H.length 0 r.files.length 2 false) (H++[.cells true (flA r.files)]))]) :=
   zB (ZA (zD Tryz.func49 rfl (by decide)) hfc (by simp)) zC
 have hub:=zJw hok;have hAB:A*B<=1000000000000000000:=Nat.le_trans (Nat.mul_le_mul hA hB) (by decide);rw[RS.used_eq];obtain⟨F,hF⟩:∃F,r.files=F:=⟨_,rfl⟩
 rw[hF]at hΓ hub ⊢;obtain⟨L,hL⟩:∃L,F.length=L:=⟨_,rfl⟩
 rw[hL]at hΓ;have hLb:L<=1000000:=by
   rw[<-hL,<-hF];unfold RS.files;rw[r7Z];exact Nat.le_trans (RS.list_le hok) hA
 obtain⟨N,hN⟩:∃N,H.length=N:=⟨_,rfl⟩
 rw[hN]at l0;have hid':=hid;unfold SelfW at hid';rw[hN]at hid';have hBX:=ZC H hN;have hXg:=hBX.get;have hXg0:=hBX.get0;have tl:=fun {T Tn F Fn}=>Weak.tailG (A:=H) (N:=N) hN hid' (T:=T) (Tn:=Tn) (F:=F) (Fn:=Fn);have hAf:∀rn:List Nat,AWs rn (flA F) (flA F):=fun rn=>AWs.refl _ _ (zC7 F);have hfl:(flA F).length=L*2:=by rw[zFJ,hL]
 refine zE Tryz.func99 rfl ?_;simp only[Tryz.ntmps99,q7Z,q8Z,Nat.reduceAdd,Nat.reduceSub,qbZ,q9Z,qaZ];rw[hN];refine wS hΓ (by simp;exact wR) ?_ (by simp[hN]);refine wS hΓ (by simp;exact wR) ?_ (by simp[hN]);refine wS hΓ (by simp[hN];exact wR) ?_ (by simp[hN]);refine Sim.seq (wS hΓ (by simp;exact wR) ?_ (by simp[hN]));refine Sim.block (Sim.loopW (fun i:Nat=>i<=L)
   (fun i=>[.top,.top,.top,.int .i64 (zBk (F.take i)),.sl N 0 L 2 false,.int .i64 i]++qbZ 17 .top)
   (fun _=>H++[.cells true (flA F)]) (fun i=>L-i) 0 (by simp[hN]) (qqZ _) ?_ fun i hi=>?_)
 · exact tl [0] (by decide) (by simp[AWs,AW,zBk]) (by simp[AWg,AWb,hN])
 by_cases hlt:i<L
 · have hil:i<F.length:=by omega
   have hiI:(i:Int)<L:=by omega
   obtain⟨f1,f2⟩:=zSR F i hil;have hs:=zQz F i hil;have hb1:=hub (i+1);obtain⟨t,ht⟩:∃t,F[i].2=t:=⟨_,rfl⟩
   rw[ht]at f1 f2 hs;obtain⟨u,hu⟩:∃u,zBk (F.take i)=u:=⟨_,rfl⟩
   rw[hu]at hs ⊢;rw[hs]at hb1;have i1:i*2<L*2:=by omega
   have i2:i*2+2<=L*2:=by omega
   have i3:i*2+1<L*2:=by omega
   have i6:i*2+2<=F.length*2:=by omega
   have i7:i*2+1<F.length*2:=by omega
   have y1:IntKind.i64.wrap ((i:Int)+1)=i+1:=zI (by omega) (by omega);have y2:IntKind.i64.wrap ((u:Int)+t.length)=((u+t.length:Nat):Int):=by rw[Int.natCast_add];exact zI (by omega) (by omega)
   refine wS hΓ (by simp[hiI];exact wR) ?_ (by simp[hN]);refine Sim.seq (Sim.block (wE hΓ (by simp[hXg0,hlt,f1,i7,y2];exact wT) ?_ (by simp[hN])));dsimp only;refine wE hΓ (by simp[y1];exact wT) ?_ (by simp[hN]);exact⟨i+1,by omega,tl [0] (by decide) (by simp[AWs,AW,hs]) (by simp[AWg,AWb,hN]),by omega⟩
 · have hie:i=L:=by omega
   subst hie;rw[q6Z (by omega)];refine wE hΓ (by simp;exact wT) ?_ (by simp[hN]);dsimp only;rw[if_pos rfl];refine wE hΓ (by simp;exact wT) ?_ (by simp[hN]);refine ⟨.inr rfl,_,by simp[Tryz.f99] <;> rfl,?_⟩;have:=tl (T:=[.cells true (flA F)]) (Tn:=[]) (F:=[.int .i64 (zBk F)]) (Fn:=[.int .i64 (zBk F)]) [] (by decide) (by simp[AWs,AW]) (by simp[AWg])
   rwa [r2Z]at this
noncomputable def zRt(args:List AV)(H:zA)(v:AV):Gam:=zZ [(81,zEC args H v),(136,Zh),(233,zVP)]
theorem zT5{args:List AV}{H:zA}{v:AV}(h:Ct Pz 81 args H v H):GOk Pz (zRt args H v) :=
 zB (zBu (zD Tryz.func81 rfl (by decide)) h) (zB zDb (zB zPO zC))
theorem zVz{H:zA}{r:RS}{fo m:Nat}{g:Nat->Nat}{c:Bool}(ha:RAt H r (.sl m 0 r.F.length 1 c) 0 fo m g){A B:Nat}(hok:r.ok A B)(hA:A<=1000000)(hB:B<=1000000000000)(k:List UInt8) :
   Ct Pz 85 [.ptr 0 0,.str k] H (.tuple [.int .i64 (r.size k).1,.int .i64 (r.size k).2]) H:=by
 have hΓ:=zT5 (zGL ha hok hA k);have h0:=ha.c0;unfold RS.cell0 at h0;unfold RS.size;refine zL Tryz.func85 rfl ?_;simp only[Tryz.ntmps85,q7Z,q8Z,Nat.reduceAdd,Nat.reduceSub,qbZ,q9Z,qaZ];refine wS hΓ (by simp;exact wR) ?_;cases hd:r.down with
 | true =>
   rw[hd]at h0;rw[if_pos rfl];refine wE hΓ (by simp[h0];exact wT) ?_;exact⟨.inr rfl,by simp[Tryz.f85],rfl⟩
 | false =>
   rw[hd]at h0;rw[if_neg (by simp)];refine wS hΓ (by simp[h0];exact wR) ?_;cases hk:NM.get r.dir.now k with
   | none =>
     rw[zFI hk]at hΓ;refine wE hΓ (by simp[zRt];exact wT) ?_;exact⟨.inr rfl,by simp[Tryz.f85],rfl⟩
   | some z =>
     obtain⟨i,f,e1,e2,e3,e4,e5⟩:=zBK hok hk g;have e6:=ha.file i f e3;have e7:f.small:=PF.ok_mono e4 hB;rw[e5]at hΓ;dsimp only;rw[e1,e3];dsimp only;refine wS hΓ (by simp[zRt];exact wR) ?_;refine wE hΓ (by simp[zRt,Zh,e6,e7];exact wT) ?_;exact⟨.inr rfl,by simp[Tryz.f85],rfl⟩
theorem zE4(r:RS)(o:Bool)(l:List AV)(hl:∀rn,AWs rn l l):SelfW (zY [.obj true r.blks,.cells o l] 0 r.blks):=by
 have e:zY [.obj true r.blks,.cells o l] 0 r.blks=r.cell0 (.sl 3 0 r.F.length 1 false) 2::.cells o l::.obj true r.dir.blks::.cells true (zBC (fun i=>i+4) 0 r.F.length)::zAc r.F:=by
   unfold zY;simp only[RS.blks,RS.cell0,q7Z,q8Z,List.getD_cons_zero,s9Z,List.drop_succ_cons,List.drop_zero,q9Z,qaZ,s8Z,Nat.reduceAdd,s1Z,reB,zj,reA,Zr,zGw];simp only[zAc,List.map_map];rw[zDh (g':=fun i=>i+4) _ _ fun i _ _=>by rw[if_neg (by omega)];omega];simp[Function.comp_def,reB]
 rw[e];intro rn hr B hB;simp only[q7Z,zKa]at hr;simp only[RS.cell0,qwZ]at hB;rcases hB with rfl | rfl | rfl | rfl | hB
 · exact⟨id,by simp[AWs,AW,hr 2 (by omega),hr 3 (by omega)]⟩
 · exact⟨id,hl rn⟩
 · exact⟨rfl,rfl⟩
 · exact⟨id,zFd _ _ _ _ _ fun i _ hi=>hr (i+4) (by omega)⟩
 · obtain⟨W,_,rfl⟩:=reZ.1 hB
   exact⟨rfl,rfl⟩
theorem zLn(ss:List (List UInt8))(i:Nat)(h:i<ss.length):(ss.take (i+1)).flatten=(ss.take i).flatten++ss[i]:=by
 rw[List.take_succ_eq_append_getElem h,sgZ,rcZ,List.flatten_nil,r2Z]
noncomputable def zVK(H:zA)(v:AV):Gam:=zZ [(99,zEC [.ptr 0 0] H v),(100,zWH)]
theorem zUb{H:zA}{v:AV}(h:Ct Pz 99 [.ptr 0 0] H v H):GOk Pz (zVK H v) :=
 zB (zBu (zD Tryz.func99 rfl (by decide)) h) (zB zQm zC)
theorem zOA(r:RS){A B:Nat}(hok:r.ok A B)(hA:A<=900000)(hB:B<=1000000000000)(k:List UInt8)(o:Bool)(ss:List (List UInt8))(hsl:ss.flatten.length<=1000000000000)(hsn:ss.length<=1000000000000) :
   Ct Pz 24 [.ptr 0 0,.str k,.sl 1 0 ss.length 1 false] [.obj true r.blks,.cells o (ss.map .str)] (.int .i64 (r.append k ss.flatten).2) [.obj true (r.append k ss.flatten).1.blks,.cells o (ss.map .str)]:=by
 have hΓ:=zGU;have hAr:∀rn:List Nat,AWs rn (ss.map AV.str) (ss.map AV.str):=fun rn=>AWs.refl _ _ (ZO _ _ fun _=>rfl);refine zE Tryz.func24 rfl ?_;simp only[Tryz.ntmps24,q7Z,q8Z,Nat.reduceAdd,Nat.reduceSub,qbZ,q9Z,qaZ];refine Sim.aft (Aft.open (b:=0) rfl (by simp) (Aft.done (by simp[zY]) ?_));obtain⟨ha,hr1⟩:=zOL r o (ss.map AV.str);have hse:=zE4 r o (ss.map AV.str) hAr;obtain⟨H,hH⟩:∃H,zY [.obj true r.blks,.cells o (ss.map AV.str)] 0 r.blks=H:=⟨_,rfl⟩
 rw[hH]at ha hr1 hse ⊢;have hlen:2<=H.length:=by have:=(q1Z.1 hr1).1;omega
 have hst:=ha.step ⟨hok.s0,by have:=hok.s1;omega⟩ ⟨hok.a0,hok.a1⟩;have ha2:=ha.count;have hok2:=RS.ok_count hok;have hse2:=hse.set 0 fun rn hr=>ha.selfc (r.count.steps) (r.count.left) (r.count.down) hr;have hcc:(⟨r.dir,r.F,r.room,r.count.steps,r.count.left,r.count.down⟩:RS)=r.count:=by rw[RS.count_eq]
 rw[hcc]at hse2;rw[show r.F=r.count.F from (RS.count_F r).symm]at hst ha2 hse2;unfold RS.append RS.of RS.step;obtain⟨q,hq⟩:∃q,r.count=q:=⟨_,rfl⟩
 rw[hq]at hst ha2 hok2 hse2 ⊢;obtain⟨H2,hH2⟩:∃X,H.set 0 (q.cell0 (.sl 3 0 q.F.length 1 false) 2)=X:=⟨_,rfl⟩
 have hlen2:2<=H2.length:=by rw[<-hH2,r8Z];exact hlen
 have hr2:H2[1]? = some (.cells o (ss.map AV.str)):=by rw[<-hH2,qfZ (by decide)];exact hr1
 rw[hH2]at hst ha2 hse2;have h0:=ha2.c0;unfold RS.cell0 at h0;clear hH2 hH hcc hq;refine wS hΓ (by simp;exact wR) ?_ (by omega);have hcl:∀(F:List AV) (e1:Int),AWs [0,1] ([.top,.top,.top,.top,.top,.top,.int .i64 e1]++qbZ 45 .top) F->True:=fun _ _ _=>trivial;clear hcl;cases hd:q.down with
 | true =>
   rw[hd]at hst;simp only[Bool.not_true]at hst;rw[if_pos rfl];refine Sim.after (wE hΓ (by simp[zC2,hst];exact wT) ?_ (by omega));exact ha2.close2 hr2 hAr (by decide) (by decide) (fun i _=>by omega) ([.top,.top,.top,.top,.top,.top,.int .i64 13]++qbZ 45 .top) (by simp[AWs,AW]) ⟨.inr rfl,_,by simp[Tryz.f24] <;> rfl,Weak.mk' [0,1] (by decide) rfl (by simp) (by simp[AWb])⟩
 | false =>
   rw[hd]at hst;simp only[Bool.not_false]at hst;rw[if_neg (by simp)];dsimp only;refine wS hΓ (by simp[zC2,hst];exact wR) ?_ (by omega);have hΓf:=zVf ha2 hok2 (by omega) k;cases hk:NM.get q.dir.now k with
   | none =>
     rw[zFI hk]at hΓf;refine wS hΓf (by simp[zFw];exact wR) ?_ (by omega);refine Sim.after (wE hΓ (by simp;exact wT) ?_ (by omega));exact ha2.close2 hr2 hAr (by decide) (by decide) (fun i _=>by omega) ([.top,.top,.top,.top,.top,.top,.int .i64 9]++qbZ 45 .top) (by simp[AWs,AW]) ⟨.inr rfl,_,by simp[Tryz.f24] <;> rfl,Weak.mk' [0,1] (by decide) rfl (by simp) (by simp[AWb])⟩
   | some z =>
     obtain⟨i0,f,e1,e2,e3,e4,e5⟩:=zBK hok2 hk (fun i=>i+4);have e6:=ha2.file i0 f e3;have e7:f.small:=PF.ok_mono e4 hB;rw[e5]at hΓf;try dsimp only
     rw[e1,e3];try dsimp only
     refine wS hΓf (by simp[zFw];exact wR) ?_ (by omega);refine wS hΓ (by simp;exact wR) ?_ (by omega);refine wS hΓ (by simp;exact wR) ?_ (by omega);obtain⟨n,hn⟩:∃n,ss.length=n:=⟨_,rfl⟩
     rw[hn]at hsn ⊢;refine Sim.seq (wS hΓ (by simp;exact wR) ?_ (by omega));refine Sim.block (Sim.loopS (fun i:Nat=>i<=n)
       (fun i=>[.ptr 0 0,.top,.sl 1 0 n 1 false,.top,.top,.top,.top,.ptr (i0+4) 0,.str (ss.take i).flatten,.int .i64 i]++qbZ 42 .top)
       (fun _=>H2) (fun i=>n-i) 0 (by omega) (qqZ _) ⟨by simp,rfl⟩ fun i hi=>?_)
     by_cases hlt:i<n
     · have hil:i<ss.length:=by omega
       have hiI:(i:Int)<n:=by omega
       have hs:=zLn ss i hil;have hle:∀j,(ss.take j).flatten.length<=ss.flatten.length:=fun j=>by
         conv=>rhs;rw[<-r6Z j ss]
         rw[sgZ,qdZ];omega
       have hb1:=hle (i+1);rw[hs]at hb1;have f1:∀h,(ss.map AV.str)[i]'h=.str ss[i]:=fun h=>List.getElem_map _;have f2:(ss.map AV.str)[i]? = some (.str ss[i]):=by rw[qzZ,q3Z hil];rfl
       obtain⟨t,ht⟩:∃t,ss[i]=t:=⟨_,rfl⟩
       rw[ht]at f1 f2 hs hb1;obtain⟨u,hu⟩:∃u,(ss.take i).flatten=u:=⟨_,rfl⟩
       rw[hu]at hs hb1 ⊢;rw[qdZ]at hb1;have b9:u.length+t.length<=9223372036854775807:=by omega
       have i1:i<(ss.map AV.str).length:=by simp;omega
       have y1:IntKind.i64.wrap ((i:Int)+1)=i+1:=zI (by omega) (by omega);refine wS hΓ (by simp[hiI];exact wR) ?_ (by omega);refine Sim.seq (Sim.block (wE hΓ (by simp[hr2,hlt,hn,f1,b9];exact wT) ?_ (by omega)));dsimp only;refine wE hΓ (by simp[y1];exact wT) ?_ (by omega);exact⟨i+1,by omega,⟨by simp[hs],rfl⟩,by omega⟩
     have hie:i=n:=by omega
     subst hie;rw[q6Z (by omega)];obtain⟨s,hs⟩:∃s,ss.flatten=s:=⟨_,rfl⟩
     rw[hs]at hsl ⊢;have hΓu:=zUb (zUk ha2 hok2 (by omega) hB hse2);have hu:=zJw hok2 q.files.length;rw[List.take_length,<-RS.used_eq]at hu;have hAB:(A+1)*B<=900001000000000000:=Nat.le_trans (Nat.mul_le_mul (Nat.succ_le_succ hA:A+1<=900001) hB) (by decide);have q0:=hok2.q0;have q1:=hok2.q1;have hfr:q.free=(max 0 (q.room-q.used)).toNat:=rfl;obtain⟨u,hue⟩:∃u,q.used=u:=⟨_,rfl⟩
     rw[hue]at hfr hu hΓu;obtain⟨fr,hfre⟩:∃x,q.free=x:=⟨_,rfl⟩
     rw[hfre]at hfr ⊢;obtain⟨rm,hrm⟩:∃x,q.room=x:=⟨_,rfl⟩
     rw[hrm]at hfr q0 q1 h0;have w1:IntKind.i64.wrap (rm-(u:Int))=rm-u:=zI (by omega) (by omega);have w2:max 0 (rm-(u:Int))=(fr:Int):=by omega
     obtain⟨zz,hz⟩:∃zz:Nat,min (fr:Int) (s.length:Int)=zz:=⟨min fr s.length,by omega⟩
     have hz1:zz<=s.length:=by omega
     have hz2:(zz:Int)<=s.length:=by omega
     have hz3:s.take zz=s.take fr:=by
       by_cases h:fr<=s.length
       · rw[show zz=fr by omega]
       · rw[q6Z (by omega),q6Z (by omega)]
     have hz4:(s.take fr).length<=1000000000000:=by rw[qjZ];omega
     obtain⟨N,hN⟩:∃N,H2.length=N:=⟨_,rfl⟩
     have hBX:=ZC H2 hN;have hXg:=hBX.get;have hXg0:=hBX.get0;have lg:i0+4<N:=by rw[<-hN];exact (q1Z.1 e6).1
     have k3:∀(T:zA) v,(H2++T).set (i0+4) v=H2.set (i0+4) v++T:=fun T v=>by rw[List.set_append_left _ _ (by omega)]
     have k4:∀(T:zA),(H2++T)[i0+4]? = some (.obj true f.rblks):=fun T=>by rw[q4Z (by omega)];exact e6
     obtain⟨tk,htk⟩:∃tk,s.take fr=tk:=⟨_,rfl⟩
     rw[htk]at hz3 hz4 ⊢;have hfin:∀e:Int,RAt (H2.set (i0+4) (.obj true (f.add tk).rblks)++[.cells true [.str tk]]) ⟨q.dir,q.F.set i0 (f.add tk),q.room,q.steps,q.left,q.down⟩ (.sl 3 0 q.F.length 1 false) 0 2 3 (fun i=>i+4):=fun _=>(ha2.fileset e2 (f.add tk)).app _;have hr3:(H2.set (i0+4) (.obj true (f.add tk).rblks)++[.cells true [.str tk]])[1]? = some (.cells o (ss.map AV.str)):=by
       rw[q4Z (by rw[r8Z];omega),qfZ (by omega)];exact hr2
     rw[hrm]at hfin;refine wE hΓ (by simp;exact wT) ?_ (by omega);dsimp only;rw[if_pos rfl];refine Sim.seq (Sim.draw hmix (by omega) ?_);refine SimR.many hΓu 9 (by simp[zF];rfl) (by omega) (by kernel_rfl) (by simp +decide [-zAx,zAW,zVK,h0,w1,w2];first | exact wR | exact⟨by kernel_rfl,wR⟩) ?_;refine SimR.done rfl ?_;dsimp only;refine wS hΓu (by simp +decide [-zAx,Zv,zVK,zWH,hz,hz2,hz3,hN,k3,k4,e7,hz4];exact wR) ?_ (by omega);by_cases hc:fr<s.length
     · have hcI:(fr:Int)<s.length:=by omega
       rw[if_pos hc];refine Sim.after (wE hΓ (by simp[hcI];exact wT) ?_ (by simp <;> omega));exact (hfin 0).close2 hr3 hAr (by decide) (by decide) (fun i _=>by omega) ([.top,.top,.top,.top,.top,.top,.int .i64 10]++qbZ 45 .top) (by simp[AWs,AW]) ⟨.inr rfl,_,by simp[Tryz.f24] <;> rfl,Weak.mk' [0,1] (by decide) rfl (by simp) (by simp[AWb,hrm])⟩
     · have hcI:¬(fr:Int)<s.length:=by omega
       rw[if_neg hc];have hts:tk=s:=by rw[<-htk];exact q6Z (by omega)
       rw[hts]at hfin hr3 ⊢;refine Sim.after (wE hΓ (by simp[hcI];exact wT) ?_ (by simp <;> omega));exact (hfin 0).close2 hr3 hAr (by decide) (by decide) (fun i _=>by omega) ([.top,.top,.top,.top,.top,.top,.int .i64 0]++qbZ 45 .top) (by simp[AWs,AW]) ⟨.inr rfl,_,by simp[Tryz.f24] <;> rfl,Weak.mk' [0,1] (by decide) rfl (by simp) (by simp[AWb,hrm])⟩
theorem zQJ(H:zA)(b1 p:Nat)(o c:Bool)(nums:List Int)(n a:Nat)(h1:H[b1]? = some (.cells o (ZE nums)))(hp:H[p]? = some (.cells true [.int .i64 a]))(hne:p≠b1)(hn:n<=nums.length)(hn2:n<=9223372036854775807)(ha:a<=1000000000)(hx:∀x∈nums,0<=x/\x<=65535) :
   Ct Pz 79 [.sl b1 0 n 1 c,.ptr p 0] H (.int .i64 ((nums.take n).getD a 0)) (H.set p (.cells true [.int .i64 ((a+1:Nat):Int)])):=by
 have hΓ:GOk Pz (zZ []):=zC;have hpl:p<H.length:=(q1Z.1 hp).1;have w1:IntKind.i64.wrap ((a:Int)+1)=((a+1:Nat):Int):=by rw[Int.natCast_add];exact zI (by omega) (by omega)
 have w2:IntKind.i64.wrap (((a+1:Nat):Int)-1)=a:=by rw[show ((a+1:Nat):Int)-1=a by omega];exact zI (by omega) (by omega)
 obtain⟨H2,hH2⟩:∃X,H.set p (.cells true [.int .i64 ((a+1:Nat):Int)])=X:=⟨_,rfl⟩
 have k1:H2[b1]? = some (.cells o (ZE nums)):=by rw[<-hH2,qfZ hne];exact h1
 have k2:H2[p]? = some (.cells true [.int .i64 ((a+1:Nat):Int)]):=by rw[<-hH2,List.getElem?_set,if_pos rfl,if_pos hpl]
 have hl2:H2.length=H.length:=by rw[<-hH2,r8Z]
 obtain⟨a1,ha1⟩:∃x:Nat,a+1=x:=⟨_,rfl⟩
 rw[ha1]at w1 w2 k2 hH2;refine zL Tryz.func79 rfl ?_;simp only[Tryz.ntmps79,q7Z,q8Z,Nat.reduceAdd,Nat.reduceSub,qbZ,q9Z,qaZ];rw[ha1];refine wS hΓ (by simp;exact wR) ?_;refine wS hΓ (by simp[hp,w1,hH2];exact wR) ?_;by_cases hlt:a<n
 · have hgt:¬(n:Int)<a1:=by omega
   have hal:a<nums.length:=by omega
   have hg:(nums.take n).getD a 0=nums[a]:=by rw[q2Z,r4Z,if_pos hlt,q3Z hal];rfl
   have hxa:=hx _ (r3Z hal);rw[hg];have f2:(ZE nums)[a]? = some (.int .u16 nums[a]):=by unfold ZE;rw[qzZ,q3Z hal];rfl
   obtain⟨x,hxx⟩:∃x,nums[a]=x:=⟨_,rfl⟩
   rw[hxx]at f2 hxa ⊢;have f1:∀h,(ZE nums)[a]'h=.int .u16 x:=fun h=>(q1Z.1 f2).2;have w3:IntKind.i64.wrap x=x:=zI (by omega) (by omega);have i2:(a:Int)<n:=by omega
   refine wS hΓ (by simp[k2,hgt];exact wR) ?_ (by simp[hl2]);refine wE hΓ (by simp[k1,k2,w2,f1,f2,w3,i2,hlt,hal];exact wT) ?_ (by simp[hl2]);exact⟨.inr rfl,by simp[Tryz.f79],hH2.symm⟩
 · have hgt:(n:Int)<a1:=by omega
   have hg:(nums.take n).getD a 0=0:=by rw[q2Z,s4Z (by rw[qjZ];omega)];rfl
   rw[hg];refine wE hΓ (by simp[k2,hgt];exact wT) ?_ (by simp[hl2]);exact⟨.inr rfl,by simp[Tryz.f79],hH2.symm⟩
noncomputable def zK8:zJ:=open Classical in fun args H=>match args with
 | [.sl b1 0 n 1 _c,.ptr p 0]=>match H[b1]?,H[p]? with
   | some (.cells _ l),some (.cells true [.int .i64 a])=>match numsOf l with
     | some nums=>if n<=nums.length/\n<=9223372036854775807/\(0<=a/\a<=1000000000)/\p≠b1/\(∀x∈nums,0<=x/\x<=65535) then
         some (.int .i64 ((nums.take n).getD a.toNat 0),H.set p (.cells true [.int .i64 ((a.toNat+1:Nat):Int)]),[p]) else none
     | none=>none
   | _,_=>none
 | _=>none
theorem zQs:∀{l:List AV} {m:List Int},numsOf l=some m->l=ZE m:=by
 intro l;induction l using numsOf.induct with
 | case1=>intro m h;cases h;rfl
 | case2 n l ih =>
   intro m h;simp only[numsOf,qlZ]at h;obtain⟨m',h1,rfl⟩:=h;rw[ih h1];rfl
 | case3 l h1 h2 =>
   intro m h;unfold numsOf at h;split at h <;> simp_all
theorem zOi:Sound Pz 79 zK8:=by
 refine ⟨zD Tryz.func79 rfl (by decide),fun args H v H' W hs=>?_,fun args H v H' W hs=>?_⟩ <;> (unfold zK8 at hs;split at hs <;> try cases hs) <;> (split at hs <;> try cases hs) <;> (rename_i h1 hp;split at hs <;> try cases hs) <;> (rename_i nums hm;split at hs <;> cases hs;rename_i hc)
 · obtain⟨c1,c2,⟨c3,c4⟩,c5,c6⟩:=hc
   rw[zQs hm]at h1;refine zQJ H _ _ _ _ nums _ _ h1 ?_ c5 c1 c2 (by omega) c6;rw[rqZ c3];exact hp
 · exact⟨by simp,fun c hc hn=>by rw[qfZ (fun e=>hn (by simp[e]))]⟩
theorem zPp(l:List Int):∀a,(l.drop a).headD 0=l.getD a 0:=fun a=>by
 rw[List.headD_eq_head?_getD,List.head?_drop,q2Z]
theorem tail_drop(l:List Int)(a:Nat):(l.drop a).tail=l.drop (a+1):=by
 rw[<-List.drop_one,List.drop_drop]
def zEw(dir:RF)(K:List Int)(F:List PF)(ks:List (List UInt8))(i:Nat):List Int×List PF:=(ks.take i).foldl (zBH dir) (K.tail,F)
theorem zKz(dir:RF)(K:List Int)(F:List PF)(ks:List (List UInt8))(i:Nat)(h:i<ks.length):zEw dir K F ks (i+1)=zBH dir (zEw dir K F ks i) ks[i]:=by
 unfold zEw;rw[List.take_succ_eq_append_getElem h,List.foldl_append];rfl
theorem zNw(dir:RF)(K:List Int)(F:List PF)(ks:List (List UInt8)):∀i,i<=ks.length->(zEw dir K F ks i).1=K.drop (1+2*i)
 | 0,_=>by simp[zEw]
 | i+1,h=>by
   rw[zKz dir K F ks i (by omega)];simp only[zBH,zNw dir K F ks i (by omega),tail_drop];rw[show 1+2*i+1+1=1+2*(i+1) by omega]
noncomputable def zK4:Gam:=zZ [(79,zK8),(78,zKO),(80,zFP)]
theorem zUs:GOk Pz zK4:=zB zOi (zB zHo (zB zER zC))
noncomputable def zWK(args:List AV)(H:zA)(v:AV):Gam:=zZ [(81,zEC args H v),(82,zP0)]
theorem zTC{args:List AV}{H:zA}{v:AV}(h:Ct Pz 81 args H v H):GOk Pz (zWK args H v) :=
 zB (zBu (zD Tryz.func81 rfl (by decide)) h) (zB zPD zC)
theorem RF.ok_survive{r:RF}{B:Nat}(h:r.ok B)(n:Int):(r.survive n).ok B/\∀W∈(r.survive n).was,W∈r.was:=by
 have h0:=h.ne;have hc:r.clamp n<r.was.length:=by unfold RF.clamp;omega
 have hm:r.was.getD (r.clamp n) []∈r.was:=by
   rw[q2Z,q3Z hc];exact r3Z _
 refine ⟨⟨by simp[RF.survive],by simp[RF.survive],fun W hW=>?_,h.lo,h.hi⟩,fun W hW=>?_⟩
 · simp only[RF.survive,r1Z]at hW
   subst hW;exact h.row _ hm
 · simp only[RF.survive,r1Z]at hW
   subst hW;exact hm
theorem zMK(r:RS){A B:Nat}(hok:r.ok A B)(hA:A<=900000)(hB:B<=1000000000000)(o:Bool)(nums:List Int)(hx:∀x∈nums,0<=x/\x<=65535)(n:Nat)(hn:n<=nums.length)(hn2:n<=9223372036854775807) :
   Ct Pz 17 [.ptr 0 0,.sl 1 0 n 1 false] [.obj true r.blks,.cells o (ZE nums)] (.tuple []) [.obj true (r.restart (nums.take n)).blks,.cells o (ZE nums)]:=by
 have hΓ:=zUs;have hAr:∀rn:List Nat,AWs rn (ZE nums) (ZE nums):=fun rn=>AWs.refl _ _ (zCI _);have hxT:(∀x∈nums,0<=x/\x<=65535)=True:=by simpa using hx
 refine zE Tryz.func17 rfl ?_;simp only[Tryz.ntmps17,q7Z,q8Z,Nat.reduceAdd,Nat.reduceSub,qbZ,q9Z,qaZ];refine Sim.aft (Aft.open (b:=0) rfl (by simp) (Aft.done (by simp[zY]) ?_));obtain⟨ha,hr1⟩:=zOL r o (ZE nums);have hse:=zE4 r o (ZE nums) hAr;obtain⟨H,hH⟩:∃H,zY [.obj true r.blks,.cells o (ZE nums)] 0 r.blks=H:=⟨_,rfl⟩
 rw[hH]at ha hr1 hse ⊢;clear hH;obtain⟨N,hN⟩:∃N,H.length=N:=⟨_,rfl⟩
 have l1:1<N:=by rw[<-hN];exact (q1Z.1 hr1).1
 have h0:=ha.c0;unfold RS.cell0 at h0;have h2:=ha.fold;have hdo:r.dir.ok 1000000:=RF.ok_mono hok.dir (by omega);have hBX:=ZC H hN;have hXg:=hBX.get;have hXg0:=hBX.get0;have hXs:=hBX.set;have hXs0:=hBX.set0;have l2:2<N:=by rw[<-hN];exact (q1Z.1 h2).1
 have k0:∀T:zA,(H++T)[0]? = H[0]?:=fun T=>q4Z (by omega);have k1:∀T:zA,(H++T)[1]? = H[1]?:=fun T=>q4Z (by omega);have k2:∀T:zA,(H++T)[2]? = H[2]?:=fun T=>q4Z (by omega);have k3:∀(T:zA) v,(H++T).set 2 v=H.set 2 v++T:=fun T v=>by rw[List.set_append_left _ _ (by omega)]
 rw[h0]at k0;rw[hr1]at k1;rw[h2]at k2;have k0':∀(T:zA) h,(H++T)[0]'h=_:=fun T h=>(q1Z.1 (k0 T)).2;have k1':∀(T:zA) h,(H++T)[1]'h=_:=fun T h=>(q1Z.1 (k1 T)).2;have k2':∀(T:zA) h,(H++T)[2]'h=_:=fun T h=>(q1Z.1 (k2 T)).2;obtain⟨K,hK⟩:∃K,nums.take n=K:=⟨_,rfl⟩
 have hKb:∀a:Nat,0<=(K[a]?).getD 0/\(K[a]?).getD 0<=65535:=fun a=>by
   cases hg:K[a]? with
   | none=>simp
   | some y =>
     have:=qcZ hg;rw[<-hK]at this;exact hx y (List.mem_of_mem_take this)
 obtain⟨a0,hA0⟩:∃x,(K[0]?).getD 0=x:=⟨_,rfl⟩
 have ha0:=hKb 0;rw[hA0]at ha0;have ha0b : -9223372036854775808<=a0/\a0<=9223372036854775807:=by omega
 have hne1:N≠1:=by omega
 have hN1:¬N=1:=hne1;rw[hK];refine wS hΓ (by simp[hN];exact wR) ?_ (by omega);refine Sim.seq (Sim.draw hmix (by simp[hN] <;> omega) ?_);refine SimR.hard hΓ 5 16 _ rfl (by simp[zF];rfl) (by omega) (by kernel_rfl) (by kernel_rfl) (by simp +decide [hN,k0'];exact wT) (by kernel_rfl) (by simp +decide [zC8,List.range,List.range.loop];rfl) (by simp +decide [zK4,zK8,zAS,hN,k1,hXs0,hn,hn2,hN1,hxT,hK,hA0];exact wR) (by simp +decide [zFN,zMN,ZN,List.range,List.range.loop,k0']) ?_;refine SimR.one hΓ _ rfl (by kernel_rfl) (by simp +decide [zK4,zKO,k2,k3,hdo,ha0b.1,ha0b.2];exact wR) ?_;refine SimR.done rfl ?_;dsimp only;have ha1:=ha.dirset (r.dir.survive a0);obtain⟨ok1,ok2⟩:=RF.ok_survive hok.dir a0;have hlast:(r.dir.survive a0).last=r.dir.last:=rfl;have hrs:r.restart K=⟨r.dir.survive a0,((r.dir.survive a0).names.foldl (zBH (r.dir.survive a0)) (K.tail,r.F)).2,r.room,r.steps,0,false⟩:=by
   unfold RS.restart;rw[show K.headD 0=a0 by rw[<-hA0,List.headD_eq_head?_getD,List.head?_eq_getElem?]]
 rw[hrs];obtain⟨dr,hdr⟩:∃x,r.dir.survive a0=x:=⟨_,rfl⟩
 rw[hdr]at ha1 ok1 ok2 hlast ⊢;have hse1:=hse.set 2 (B:=.obj true dr.blks) fun _ _=>⟨rfl,rfl⟩
 have hr1':(H.set 2 (.obj true dr.blks))[1]? = some (.cells o (ZE nums)):=by rw[qfZ (by decide)];exact hr1
 have hN1:(H.set 2 (.obj true dr.blks)).length=N:=by rw[r8Z,hN]
 obtain⟨H1,hH1⟩:∃X,H.set 2 (.obj true dr.blks)=X:=⟨_,rfl⟩
 rw[hH1]at ha1 hse1 hr1' hN1 ⊢;clear hH1 hse hr1 h0 h2 hBX hXg hXg0 hXs hXs0 k0 k1 k2 k3 k0' k1' k2' ha hrs;have hdo1:dr.ok 1000000:=RF.ok_mono ok1 (by omega);obtain⟨ks,hks⟩:∃ks,dr.names=ks:=⟨_,rfl⟩
 have hLn:ks.length<=1000000:=by
   rw[<-hks];unfold RF.names;rw[r7Z];exact Nat.le_trans (ok1.row _ (qcZ (RF.now_get ok1.ne))) (by omega)
 have hnget:∀k∈ks,∃z,NM.get dr.now k=some z:=fun k hk=>RF.names_get (by rw[hks];exact hk);obtain⟨L,hL⟩:∃L,ks.length=L:=⟨_,rfl⟩
 rw[hL]at hLn;rw[hks];have g0:=ha1.c0;have g1:=ha1.fold;unfold RS.cell0 at g0;dsimp only at g0 g1;have lfo:2<N:=l2;have kk0:∀T:zA,(H1++T)[0]? = H1[0]?:=fun T=>q4Z (by omega);have kk2:∀T:zA,(H1++T)[2]? = H1[2]?:=fun T=>q4Z (by omega);rw[g0]at kk0;rw[g1]at kk2;have kk0':∀(T:zA) h,(H1++T)[0]'h=_:=fun T h=>(q1Z.1 (kk0 T)).2;have kk2':∀(T:zA) h,(H1++T)[2]'h=_:=fun T h=>(q1Z.1 (kk2 T)).2;refine wS hΓ (by simp[zK4,zFP,kk0',kk2,hN1,hdo1,hks,hL];exact wR) ?_ (by simp[hN1] <;> omega);refine Sim.seq (wS hΓ (by simp;exact wR) ?_ (by simp[hN1] <;> omega));have hfull:(zEw dr K r.F ks L).2=(ks.foldl (zBH dr) (K.tail,r.F)).2:=by unfold zEw;rw[<-hL,List.take_length]
 have hgetN:∀i (h:i<ks.length),(∀h',(ks.map AV.str)[i]'h'=.str ks[i])/\(ks.map AV.str)[i]? = some (.str ks[i]):=fun i h=>⟨fun h'=>List.getElem_map _,by rw[qzZ,q3Z h];rfl⟩
 refine Sim.block (Sim.loopS (fun t:Nat×zA=>t.1<=L/\RAt t.2 ⟨dr,(zEw dr K r.F ks t.1).2,r.room,r.steps,r.left,r.down⟩ (.sl 3 0 r.F.length 1 false) 0 2 3 (fun i=>i+4)/\t.2.length=N/\t.2[1]? = some (.cells o (ZE nums))/\SelfW t.2/\(∀f∈(zEw dr K r.F ks t.1).2,f.ok B)/\(zEw dr K r.F ks t.1).2.length=r.F.length)
   (fun t=>[.ptr 0 0,.sl 1 0 n 1 false,.top,.top,.ptr N 0,.sl (N+1) 0 L 1 false,.int .i64 t.1,.top,.top]++qbZ 38 .top)
   (fun t=>t.2++[.cells true [.int .i64 ((1+2*t.1:Nat):Int)],.cells true (ks.map .str)]) (fun t=>L-t.1) (0,H1) (by simp[hN1] <;> omega)
   ⟨qqZ _,ha1,hN1,hr1',hse1,hok.fine,rfl⟩ ⟨by simp,rfl⟩ fun t ht=>?_)
 obtain⟨i,G⟩:=t;obtain⟨hi,hG,hGl,hG1,hGs,hGf,hGn⟩:=ht;dsimp only at hi hG hGl hG1 hGs hGf hGn ⊢;have hBX:=ZC G hGl;have hXg:=hBX.get;have hXg0:=hBX.get0;have hXs:=hBX.set;have hXs0:=hBX.set0;have k1:∀T:zA,(G++T)[1]? = some (.cells o (ZE nums)):=fun T=>by rw[q4Z (by omega)];exact hG1
 have k1':∀(T:zA) h,(G++T)[1]'h=_:=fun T h=>(q1Z.1 (k1 T)).2;by_cases hlt:i<L
 · have hil:i<ks.length:=by omega
   have hiI:(i:Int)<L:=by omega
   obtain⟨f1,f2⟩:=hgetN i hil;obtain⟨z,hz⟩:=hnget _ (r3Z hil);have hsucc:=zKz dr K r.F ks i hil;have hrow:=zNw dr K r.F ks i (by omega);obtain⟨k,hk⟩:∃k,ks[i]=k:=⟨_,rfl⟩
   rw[hk]at f1 f2 hz hsucc;obtain⟨c,hc⟩:∃c,1+2*i=c:=⟨_,rfl⟩
   rw[hc]at hrow ⊢;have hc2:((1+2*(i+1):Nat):Int)=(c:Int)+1+1:=by omega
   have hc9:(c:Int)<=1000000000:=by omega
   have hc9':(c:Int)+1<=1000000000:=by omega
   have hc0:(0:Int)<=c+1:=by omega
   have hct:((c:Int)+1).toNat=c+1:=by omega
   have hmx:max ((c:Int)+1) 0=c+1:=by omega
   obtain⟨dn,hdn⟩:∃x,(K[c]?).getD 0=x:=⟨_,rfl⟩
   obtain⟨pt,hpt⟩:∃x,(K[c+1]?).getD 0=x:=⟨_,rfl⟩
   have hoki:RS.ok ⟨dr,(zEw dr K r.F ks i).2,r.room,r.steps,r.left,r.down⟩ A B:=⟨ok1,by dsimp only;rw[hGn,hlast];exact hok.flen,hGf,fun W hW k n hk=>by dsimp only;rw[hGn];exact hok.has W (ok2 W hW) k n hk,hok.q0,hok.q1,hok.s0,hok.s1,hok.a0,hok.a1⟩
   obtain⟨j,f,e1,e2,e3,e4,e5⟩:=zBK hoki hz (fun i=>i+4);dsimp only at e2 e3 e5;have e7:f.small:=PF.ok_mono e4 hB;have hnew:(zEw dr K r.F ks (i+1)).2=(zEw dr K r.F ks i).2.set j ⟨f.stays dn pt,[]⟩:=by
     rw[hsucc];simp only[zBH,hz,e1,e3,rgZ,hrow,tail_drop,zPp,q2Z,hdn,hpt]
   have hGx:RAt G ⟨dr,(zEw dr K r.F ks i).2,r.room,r.steps,r.left,r.down⟩ (.sl 3 0 (zEw dr K r.F ks i).2.length 1 false) 0 2 3 (fun i=>i+4):=by rw[hGn];exact hG
   have ha2:=hGx.app [ABlk.cells true [.int .i64 ((c:Int)+1+1)],ABlk.cells true (ks.map .str)];have hΓ2:=zTC (zGL (r:=⟨dr,(zEw dr K r.F ks i).2,r.room,r.steps,r.left,r.down⟩) ha2 hoki (by omega) k);dsimp only at hΓ2;rw[e5]at hΓ2;have e6:=hG.file j f e3;have lj:j+4<N:=by rw[<-hGl];exact (q1Z.1 e6).1
   have k4:∀T:zA,(G++T)[j+4]? = some (.obj true f.rblks):=fun T=>by rw[q4Z (by omega)];exact e6
   have k5:∀(T:zA) v,(G++T).set (j+4) v=G.set (j+4) v++T:=fun T v=>by rw[List.set_append_left _ _ (by omega)]
   have y1:IntKind.i64.wrap ((i:Int)+1)=i+1:=zI (by omega) (by omega);have i1:i<(ks.map AV.str).length:=by simp;omega
   refine wS hΓ (by simp[hiI];exact wR) ?_ (by simp[hGl] <;> omega);refine Sim.seq (Sim.block ?_);refine wS hΓ (by simp[zK4,zK8,zAS,k1',hXg0,hXs0,hn,hn2,hne1,hxT,hK,hc9,hdn];exact wR) ?_ (by simp[hGl] <;> omega);refine wS hΓ (by simp[zK4,zK8,zAS,k1',hXg0,hXs0,hn,hn2,hne1,hxT,hK,hc9',hc0,hct,hmx,hpt];exact wR) ?_ (by simp[hGl] <;> omega);refine wE hΓ2 (by simp[zWK,zP0,hXg,hlt,hL,f1,k4,k5,e7];exact wT) ?_ (by simp[hGl] <;> omega);dsimp only;refine wE hΓ (by simp[y1];exact wT) ?_ (by simp[hGl] <;> omega);have hset:=hG.fileset e2 ⟨f.stays dn pt,[]⟩;dsimp only at hset;rw[<-hnew]at hset;refine ⟨(i+1,G.set (j+4) (.obj true (⟨f.stays dn pt,[]⟩:PF).rblks)),⟨by dsimp only;omega,hset,by dsimp only;rw[r8Z,hGl],by dsimp only;rw[qfZ (by omega)];exact hG1,hGs.set _ fun _ _=>⟨rfl,rfl⟩,fun f' hf'=>?_,by dsimp only;rw[hnew,r8Z];exact hGn⟩,⟨by simp,by dsimp only;rw[hc2]⟩,by dsimp only;omega⟩;dsimp only at hf';rw[hnew]at hf';rcases List.mem_or_eq_of_mem_set hf' with hf' | rfl
   · exact hGf f' hf'
   · exact PF.ok_new _ _ (PF.ok_stays e4 _ _)
 · have hie:i=L:=by omega
   subst hie;rw[<-hfull];refine wE hΓ (by simp;exact wT) ?_ (by simp[hGl] <;> omega);dsimp only;rw[if_pos rfl];have m0:=hG.c0;unfold RS.cell0 at m0;dsimp only at m0;have m1:∀T:zA,(G++T)[0]? = G[0]?:=fun T=>q4Z (by omega);rw[m0]at m1;have m1':∀(T:zA) h,(G++T)[0]'h=_:=fun T h=>(q1Z.1 (m1 T)).2;have m2:∀(T:zA) v,(G++T).set 0 v=G.set 0 v++T:=fun T v=>by rw[List.set_append_left _ _ (by omega)]
   refine wS hΓ (by simp[m1',m2];exact wR) ?_ (by simp[hGl] <;> omega);have m3:∀(v:ABlk) (T:zA),(G.set 0 v++T)[0]? = some v:=fun v T=>by
     rw[q4Z (by rw[r8Z];omega),qgZ (by omega)]
   have m3':∀(v:ABlk) (T:zA) h,(G.set 0 v++T)[0]'h=v:=fun v T h=>(q1Z.1 (m3 v T)).2;have m4:∀(v w:ABlk) (T:zA),(G.set 0 v++T).set 0 w=G.set 0 w++T:=fun v w T=>by rw[List.set_append_left _ _ (by rw[r8Z];omega),List.set_set]
   refine Sim.after (wE hΓ (by simp[m3',m4];exact wT) ?_ (by simp[hGl] <;> omega));have hz1:=(hG.c0set r.steps 0 false).app [.cells true [.int .i64 (1+2*(i:Int))],.cells true (ks.map .str)];unfold RS.cell0 at hz1;dsimp only at hz1;have hz2:(G.set 0 (.cells true [.ptr 2 0,.sl 3 0 r.F.length 1 false,.int .i64 r.room,.int .i64 r.steps,.int .i64 0,.bool false])++[ABlk.cells true [.int .i64 (1+2*(i:Int))],ABlk.cells true (ks.map .str)])[1]? = some (.cells o (ZE nums)):=by
     rw[q4Z (by rw[r8Z];omega),qfZ (by decide)];exact hG1
   exact hz1.close2 hz2 hAr (by decide) (by decide) (fun i _=>by omega) (qbZ 47 .top) (by simp[AWs,AW]) ⟨.inl rfl,_,by simp[Tryz.f17] <;> rfl,Weak.mk' [0,1] (by decide) rfl (by simp) (by simp[AWb])⟩
end
section
open Go Go.Lib
attribute [-simp] zH zc zq zK zy
theorem RAt.closeB{H:zA}{r:RS}{x:AV}{fo m:Nat}{g:Nat->Nat}(h:RAt H r x 0 fo m g){b1:Nat}{o:Bool}{l:List AV}(h1:H[b1]? = some (.cells o l))(hl:∀rn,AWs rn l l)(h0:b1≠0)(hf:fo≠b1)(hm:m≠b1)(hg:∀i,i<r.F.length->g i≠b1){F:List AV}(Fn:List AV){K:List AV->zA->Prop}(hF:AWs [0,b1] Fn F)
   (hk:K Fn [.obj true r.blks,.cells o l]):Aft 1 F H K:=by
 have hbl:0<H.length:=(q1Z.1 h.c0).1;refine Aft.close (o:=true) (b:=0) (sub:=r.blks) (rs:=0::fo::m::(List.range r.F.length).map g) (ks:=fo::m::(List.range r.F.length).map g) rfl h.nd hbl ?_ (h.awg _ fun _ _=>rfl) ⟨_,rfl,rfl⟩ ?_ hbl ?_
 · intro c y hc hcb _ _
   exact (qwZ.1 hc).resolve_left hcb
 · intro i y hy hd
   have hm:=qcZ hy;simp only[RS.blks,RS.cell0,qwZ]at hm;rcases hm with rfl | rfl | rfl | hm
   · rfl
   · rfl
   · rfl
   · obtain⟨e,_,rfl⟩:=reZ.1 hm
     rfl
 · refine Aft.weak (Fn:=Fn) (Hn:=[.obj true r.blks,.cells o l]) (Weak.mk' [0,b1] (by simp[Ne.symm h0]) rfl hF (zM (b:=0) hbl _ _ rfl fun i c y e1 e2=>?_)) (by simp;omega) (Aft.done (by simp) hk)
   match i,e1,e2 with
   | 0,e1,e2=>cases e1;cases e2;exact .inl ⟨rfl,rfl⟩
   | 1,e1,e2 =>
     cases e1;cases e2
     refine .inr ⟨⟨h0,fun hc=>?_⟩,by rw[q2Z,h1];exact⟨id,hl _⟩⟩;rcases qwZ.1 hc with e | hc
     · exact hf e.symm
     rcases qwZ.1 hc with e | hc
     · exact hm e.symm
     · obtain⟨a,ha,e⟩:=reZ.1 hc
       exact hg a (List.mem_range.1 ha) e
theorem zZz{P:Program}{f:FuncId}{xs:List AV}{v:AV}{r:RS}(h:Ct P f xs r.blks v r.blks)(hv:zBl v=true):Ct P f xs [.obj true r.blks] v [.obj true r.blks] :=
 zB3 h (by rw[RS.blks_length];omega) (r.blks_at.close [v] ⟨zBc v hv,trivial⟩ ⟨rfl,rfl⟩)
theorem zYj{P:Program}{f:FuncId}{xs:List AV}{r:RS}{k sz:Nat}{l:List AV}(h:Ct P f xs r.blks (.sl r.blks.length 0 k sz false) (r.blks++[.cells true l]))(hl:∀rn,AWs rn l l):Ct P f xs [.obj true r.blks] (.sl 1 0 k sz false) [.obj true r.blks,.cells true l]:=by
 have hn:=RS.blks_length r;refine zB3 h (by omega) ((r.blks_at.app [.cells true l]).closeB (b1:=r.blks.length) (by rw[q5Z (qnZ _)];simp) hl (by omega) (by omega) (by omega) (fun i hi=>by omega) [.sl 1 0 k sz false] ?_ ⟨rfl,rfl⟩);exact⟨⟨rfl,rfl,rfl,rfl,id⟩,trivial⟩
noncomputable section
open Classical
def RS.small(r:RS):Prop:=r.ok 900000 1000000000000
def zJt:zJ:=zAM zDQ RS.blks fun r xs _=>match xs with
 | [.str k]=>if r.small/\k.length<=9223372036854775807 then some ((r.create k).1,.int .i64 (r.create k).2) else none
 | _=>none
theorem zHI:Sound Pz 22 zJt:=by
 refine zS (zD Tryz.func22 rfl (by decide)) (fun _ _=>zAE) fun r xs H s' v b hg hb=>?_;split at hg;rotate_left
 · cases hg
 split at hg <;> cases hg
 rename_i hs;exact ze (zOb r hs.1 (by decide) _ hs.2) rfl rfl hb
def zJq:zJ:=zAM zDQ RS.blks fun r xs _=>match xs with
 | [.str k]=>if r.small then some ((r.sync k).1,.int .i64 (r.sync k).2) else none
 | _=>none
theorem zHG:Sound Pz 71 zJq:=by
 refine zS (zD Tryz.func71 rfl (by decide)) (fun _ _=>zAE) fun r xs H s' v b hg hb=>?_;split at hg;rotate_left
 · cases hg
 split at hg <;> cases hg
 rename_i hs;exact ze (zTY r hs (by decide) (by decide) _) rfl rfl hb
def zPi:zJ:=zAM zDQ RS.blks fun r xs _=>match xs with
 | []=>if r.small then some (r.syncDir.1,.int .i64 r.syncDir.2) else none
 | _=>none
theorem zPI:Sound Pz 133 zPi:=by
 refine zS (zD Tryz.func133 rfl (by decide)) (fun _ _=>zAE) fun r xs H s' v b hg hb=>?_;split at hg;rotate_left
 · cases hg
 split at hg <;> cases hg
 rename_i hs;exact ze (zMc r hs (by decide)) rfl rfl hb
def zRD:zJ:=zAM zDQ RS.blks fun r xs _=>match xs with
 | [.int .i64 n]=>if r.small then some (r.arm n,.tuple []) else none
 | _=>none
theorem zPF:Sound Pz 15 zRD:=by
 refine zS (zD Tryz.func15 rfl (by decide)) (fun _ _=>zAE) fun r xs H s' v b hg hb=>?_;split at hg;rotate_left
 · cases hg
 split at hg <;> cases hg
 rename_i hs;exact ze (zWI r _) rfl rfl hb
def zKS:zJ:=zAM zDQ RS.blks fun r xs _=>match xs with
 | [.str k]=>if r.small then some (r,.tuple [.int .i64 (r.size k).1,.int .i64 (r.size k).2]) else none
 | _=>none
theorem zHV:Sound Pz 85 zKS:=by
 refine zS (zD Tryz.func85 rfl (by decide)) (fun _ _=>zAE) fun r xs H s' v b hg hb=>?_;split at hg;rotate_left
 · cases hg
 split at hg <;> cases hg
 rename_i hs;exact ze (zZz (zVz r.blks_at hs (by decide) (by decide) _) rfl) rfl rfl hb
def zMA:zJ:=fun args H=>match args with
 | [.ptr b 0]=>match H[b]? with
   | some (.obj true sub)=>match zDQ sub with
     | some r=>if r.small then some (.sl H.length 0 r.files.length 2 false,H++[.cells true (flA r.files)],[]) else none
     | none=>none
   | _=>none
 | _=>none
theorem zNV:Sound Pz 49 zMA:=by
 refine ⟨zD Tryz.func49 rfl (by decide),fun args H v H' W hs=>?_,fun args H v H' W hs=>?_⟩ <;> (unfold zMA at hs;split at hs <;> try cases hs) <;> (split at hs <;> try cases hs) <;> (rename_i b _ sub hb;split at hs <;> try cases hs) <;> (rename_i r hr;split at hs <;> cases hs;rename_i hk)
 · have e:=zAE hr
   subst e;have hbl:b<H.length:=(q1Z.1 hb).1;have fs:∀g,zj g (flA r.files)=flA r.files:=fun g=>zBO g _ (zB8 _);have:=zP (H:=H) (args:=[.ptr b 0]) (zYj (zLD r.blks_at hk (by decide) (by decide) r.blks_self) fun rn=>AWs.refl _ _ (zC7 _)) [b] (by simp) ⟨⟨rfl,rfl⟩,trivial⟩ ⟨by rw[q2Z,hb];exact⟨rfl,rfl⟩,hbl,trivial⟩ rfl;obtain⟨h1,h2⟩:=q1Z.1 hb;have hset:H.set b (.obj true r.blks)=H:=by rw[<-h2,List.set_getElem_self]
   simpa[zN,ABlk.own,reB,reA,zn,hset,fs] using this
 · exact⟨by simp,fun c hc _=>by rw[q4Z hc]⟩
def zFQ:zJ:=fun args H=>match args with
 | [.ptr b 0,.str k,x]=>match zCW x,H[b]? with
   | some (b2,n,_),some (.obj true sub)=>match zDQ sub,H[b2]? with
     | some r,some (.cells _ l)=>match ZY l with
       | some a=>if r.small/\n=a.length/\a.flatten.length<=1000000000000/\a.length<=1000000000000 then some (.int .i64 (r.append k a.flatten).2,H.set b (.obj true (r.append k a.flatten).1.blks),[b]) else none
       | none=>none
     | _,_=>none
   | _,_=>none
 | _=>none
theorem zHp:Sound Pz 24 zFQ:=by
 have key:∀args H v H' W,zFQ args H=some (v,H',W)->∃b B,W=[b]/\H'=H.set b B/\Ct Pz 24 args H v H':=by
   intro args H v H' W hs;unfold zFQ at hs;split at hs;rotate_left
   · cases hs
   rename_i b k x;split at hs <;> try cases hs
   rename_i b2 n c sub hx hb;split at hs <;> try cases hs
   rename_i r o l hr hb2;split at hs <;> try cases hs
   rename_i a ha;split at hs <;> cases hs
   rename_i hc;obtain⟨h1,rfl,h3,h4⟩:=hc;have e:=zAE hr;subst e;have e2:=zB2 ha;subst e2;refine ⟨b,_,rfl,rfl,?_⟩;have hbl:b<H.length:=(q1Z.1 hb).1;have hbl2:b2<H.length:=(q1Z.1 hb2).1;have hne:b≠b2:=by rintro rfl;rw[hb]at hb2;cases hb2
   have hf:zt (a.map AV.str)=true:=by simp[zt,zAT]
   have:=zP (H:=H) (args:=[.ptr b 0,.str k,x]) (zOA r h1 (by decide) (by decide) k false a h3 h4) [b,b2] (by simp[hne]) ⟨⟨rfl,rfl⟩,rfl,by
     unfold zCW at hx;split at hx <;> cases hx <;> exact⟨rfl,rfl,rfl,rfl,by simp⟩,trivial⟩ ⟨by rw[q2Z,hb];exact⟨rfl,rfl⟩,hbl,by rw[q2Z,hb2];exact⟨by simp,Z9 _ hf⟩,hbl2,trivial⟩ rfl
   simpa[zN,ABlk.own,reB,reA] using this
 refine ⟨zD Tryz.func24 rfl (by decide),fun args H v H' W hs=>?_,fun args H v H' W hs=>?_⟩
 · obtain⟨b,B,_,_,h⟩:=key args H v H' W hs
   exact h
 · obtain⟨b,B,rfl,rfl,_⟩:=key args H v H' W hs
   refine ⟨by simp,fun c hc hn=>?_⟩;simp only[r1Z]at hn;rw[qfZ (Ne.symm hn)]
def zJk:zJ:=fun args H=>match args with
 | [.ptr b 0,x]=>match zCW x,H[b]? with
   | some (b2,L,_),some (.obj true sub)=>match zDQ sub,H[b2]? with
     | some d,some (.cells _ a)=>match numsOf a with
       | some l=>if d.small/\L<=l.length/\l.length<=9223372036854775807/\(∀x∈l,0<=x/\x<=65535) then some (.tuple [],H.set b (.obj true (d.restart (l.take L)).blks),[b]) else none
       | none=>none
     | _,_=>none
   | _,_=>none
 | _=>none
theorem zPM:Sound Pz 17 zJk:=by
 have key:∀args H v H' W,zJk args H=some (v,H',W)->∃b B,W=[b]/\H'=H.set b B/\Ct Pz 17 args H v H':=by
   intro args H v H' W hs;unfold zJk at hs;split at hs;rotate_left
   · cases hs
   rename_i b x;split at hs <;> try cases hs
   rename_i b2 L c sub hx hb;split at hs <;> try cases hs
   rename_i d o a hd hb2;split at hs <;> try cases hs
   rename_i l hl;split at hs <;> cases hs
   rename_i hc;obtain⟨h1,h2,h3,h4⟩:=hc;have e:=zAE hd;subst e;have e2:=zEh hl;subst e2;refine ⟨b,_,rfl,rfl,?_⟩;refine zH5 (x:=.sl 1 0 L 1 false) (xs:=[]) (zMK d h1 (by decide) (by decide) false l h4 L h2 (by omega)) rfl rfl (zFG l) hb hb2 ?_;unfold zCW at hx;split at hx <;> cases hx <;> exact⟨rfl,rfl,rfl,rfl,by simp⟩
 refine ⟨zD Tryz.func17 rfl (by decide),fun args H v H' W hs=>?_,fun args H v H' W hs=>?_⟩
 · obtain⟨b,B,_,_,h⟩:=key args H v H' W hs
   exact h
 · obtain⟨b,B,rfl,rfl,_⟩:=key args H v H' W hs
   refine ⟨by simp,fun c hc hn=>?_⟩;simp only[r1Z]at hn;rw[qfZ (Ne.symm hn)]
end
end
end Go.Proofs.YtfhidaoiofeooaaGreatDoor
