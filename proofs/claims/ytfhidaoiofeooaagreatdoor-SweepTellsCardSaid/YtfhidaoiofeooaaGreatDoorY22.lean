/- Parts of the proof of SweepTells: lemmas, each with its own conditions. -/
import Derived.Test.YtfhidaoiofeooaaGreatDoorY20
set_option maxHeartbeats 64000000
open List renaming getElem?_eq_some_iff → q1Z, getD_eq_getElem?_getD → q2Z, getElem?_eq_getElem → q3Z, getElem?_append_left → q4Z, getElem?_append_right → q5Z, take_of_length_le → q6Z, length_cons → q7Z, length_nil → q8Z, cons_append → q9Z, nil_append → qaZ, replicate → qbZ, mem_of_getElem? → qcZ, getElem?_set_ne → qfZ, length_take → qjZ, mem_cons → qwZ, mem_append → qxZ, getElem?_map → qzZ, mem_singleton → r1Z, append_nil → r2Z, getElem_mem → r3Z, getElem?_take → r4Z, length_map → r7Z, length_set → r8Z, mem_map → reZ, map_append → roZ, map_cons → s1Z
open Nat renaming le_refl → qnZ, zero_le → qqZ, zero_add → s8Z
open Bool renaming false_eq_true → qsZ
namespace Go.Proofs.YtfhidaoiofeooaaGreatDoor
open _root_.Go.Proofs.Tryz renaming prog → Pz
set_option maxRecDepth 100000
section
open Go Go.Lib
attribute [-simp] zG zT zc zJ zn
def zB9(l:Int)(w:Bool):Int×Bool:=if 0<l/\w=false then (l-1,decide (l-1=0)) else (l,w)
theorem RS.count_eq(r:RS):r.count=⟨r.dir,r.F,r.room,r.steps+1,(zB9 r.left r.down).1,(zB9 r.left r.down).2⟩:=by
 unfold RS.count zB9;split <;> rfl
theorem zRW(x0 x1 x2:AV)(s l:Int)(w:Bool)(rest:zA)(hs:0<=s/\s<=4611686018427387903)(hl:0<=l/\l<=4611686018427387903) :
   Ct Pz 92 [.ptr 0 0] (.cells true [x0,x1,x2,.int .i64 s,.int .i64 l,.bool w]::rest) (.bool (!(zB9 l w).2)) (.cells true [x0,x1,x2,.int .i64 (s+1),.int .i64 (zB9 l w).1,.bool (zB9 l w).2]::rest):=by
 have hΓ:GOk Pz (zh []):=zB;have w1:IntKind.i64.wrap (s+1)=s+1:=zK (by omega) (by omega);refine ZG Tryz.func92 rfl ?_;simp only[Tryz.ntmps92,q7Z,q8Z,Nat.reduceAdd,Nat.reduceSub,qbZ,q9Z,qaZ];refine wS hΓ (by simp;exact wR) ?_;refine wS hΓ (by simp[w1];exact wR) ?_;unfold zB9;by_cases h1:0<l
 · cases w with
   | true =>
     rw[if_neg (by simp)];refine wE hΓ (by simp[h1];exact wT) ?_;exact⟨.inr rfl,by simp[Tryz.f92],rfl⟩
   | false =>
     rw[if_pos ⟨h1,rfl⟩];have w2:IntKind.i64.wrap (l-1)=l-1:=zK (by omega) (by omega);obtain⟨l',hl'⟩:∃x,l-1=x:=⟨_,rfl⟩
     rw[hl']at w2 ⊢;by_cases h2:l'=0
     · subst h2
       refine wE hΓ (by simp[h1,hl',w2];exact wT) ?_;exact⟨.inr rfl,by simp[Tryz.f92],rfl⟩
     · have h3:(l'==0)=false:=beq_eq_false_iff_ne.2 h2
       refine wE hΓ (by simp[h1,h2,h3,hl',w2];exact wT) ?_;exact⟨.inr rfl,by simp[Tryz.f92,h2],by simp[h2]⟩
 · rw[if_neg (fun h=>h1 h.1)]
   refine wE hΓ (by simp[h1];exact wT) ?_;exact⟨.inr rfl,by simp[Tryz.f92],rfl⟩
def zIE:zS:=fun args H=>match args with
 | [.ptr 0 0]=>match H[(0:Nat)]? with
   | some (.cells true [x0,x1,x2,.int .i64 s,.int .i64 l,.bool w])=>if (0<=s/\s<=4611686018427387903)/\(0<=l/\l<=4611686018427387903) then
       some (.bool (!(zB9 l w).2),H.set 0 (.cells true [x0,x1,x2,.int .i64 (s+1),.int .i64 (zB9 l w).1,.bool (zB9 l w).2]),[0]) else none
   | _=>none
 | _=>none
theorem zMV:Sound Pz 92 zIE:=by
 refine ⟨zD Tryz.func92 rfl (by decide),fun args H v H' W hs=>?_,fun args H v H' W hs=>?_⟩ <;> (unfold zIE at hs;split at hs <;> try cases hs) <;> (split at hs <;> try cases hs) <;> (rename_i h0;split at hs <;> cases hs;rename_i hc)
 · cases H with
   | nil=>cases h0
   | cons B rest =>
     cases h0;exact zRW _ _ _ _ _ _ rest hc.1 hc.2
 · exact⟨by simp,fun c hc hn=>by rw[qfZ (fun e=>hn (by simp[e]))]⟩
theorem RAt.step{H:zA}{r:RS}{x:AV}{fo m:Nat}{g:Nat->Nat}(h:RAt H r x 0 fo m g)(h1:0<=r.steps/\r.steps<=4611686018427387903)(h2:0<=r.left/\r.left<=4611686018427387903) :
   zIE [.ptr 0 0] H=some (.bool (!r.count.down),H.set 0 (r.count.cell0 x fo),[0]):=by
 have h0:=h.c0;unfold RS.cell0 at h0;simp only[zIE,h0];rw[if_pos ⟨h1,h2⟩,RS.count_eq];rfl
theorem RAt.count{H:zA}{r:RS}{x:AV}{fo m:Nat}{g:Nat->Nat}(h:RAt H r x 0 fo m g):RAt (H.set 0 (r.count.cell0 x fo)) r.count x 0 fo m g:=by
 rw[RS.count_eq];exact h.c0set _ _ _
theorem RS.ok_count{r:RS}{A B:Nat}(h:r.ok A B):r.count.ok (A+1) B:=by
 have h1:=h.s0;have h2:=h.s1;have h3:=h.a0;have h4:=h.a1;have hd:r.dir.ok (A+1):=⟨h.dir.ne,by have:=h.dir.len;omega,fun W hW=>Nat.le_trans (h.dir.row W hW) (by omega),h.dir.lo,by have:=h.dir.hi;omega⟩
 unfold RS.count;split
 · exact⟨hd,h.flen,h.fine,h.has,h.q0,h.q1,by dsimp only;omega,by dsimp only;omega,by dsimp only;omega,by dsimp only;omega⟩
 · exact⟨hd,h.flen,h.fine,h.has,h.q0,h.q1,by dsimp only;omega,by dsimp only;omega,h3,h4⟩
theorem RF.ok_mono{r:RF}{A B:Nat}(h:r.ok A)(hab:A<=B):r.ok B:=⟨h.ne,by have:=h.len;omega,fun W hW=>Nat.le_trans (h.row W hW) hab,h.lo,by have:=h.hi;omega⟩
noncomputable def zSd:Gam:=zh [(178,zJ6)]
theorem zQt:GOk Pz zSd:=zC zMB zB
def zOk(dir:RF)(g:Nat->Nat)(k:List UInt8):AV:=match NM.get dir.now k with
 | some z=>.ptr (g (z-1).toNat) 0
 | none=>.nilp
theorem zSu{H:zA}{r:RS}{fo m:Nat}{g:Nat->Nat}{c:Bool}(h:RAt H r (.sl m 0 r.F.length 1 c) 0 fo m g){A B:Nat}(hok:r.ok A B)(hA:A<=1000000)(k:List UInt8) :
   Ct Pz 81 [.ptr 0 0,.str k] H (zOk r.dir g k) H:=by
 have hΓ:=zQt;have h0:=h.c0;have h1:=h.fold;have h2:=h.row;unfold RS.cell0 at h0;have hdo:r.dir.ok 1000000:=RF.ok_mono hok.dir hA;have hset:H.set fo (.obj true r.dir.blks)=H:=by
   obtain⟨a,b⟩:=q1Z.1 h1;rw[<-b,List.set_getElem_self]
 have hFA:r.F.length<=1000000:=by have:=hok.flen;have:=hok.dir.hi;omega
 refine ZG Tryz.func81 rfl ?_;simp only[Tryz.ntmps81,q7Z,q8Z,Nat.reduceAdd,Nat.reduceSub,qbZ,q9Z,qaZ];refine wS hΓ (by simp;exact wR) ?_;unfold zOk;cases hg:NM.get r.dir.now k with
 | none =>
   have hfv:Zk r.dir.now k=.tuple [.int .i64 0,.bool false]:=by unfold Zk;rw[hg]
   refine wS hΓ (by simp[zSd,zJ6,h0,h1,hdo,hset,hfv];exact wR) ?_;refine wE hΓ (by simp;exact wT) ?_;exact⟨.inr rfl,by simp[Tryz.f81],rfl⟩
 | some z =>
   have hfv:Zk r.dir.now k=.tuple [.int .i64 z,.bool true]:=by unfold Zk;rw[hg]
   obtain⟨z1,z2⟩:=hok.hasN k z hg;obtain⟨i,hi⟩:∃i:Nat,z=i+1:=⟨(z-1).toNat,by omega⟩
   subst hi;have hiF:i<r.F.length:=by omega
   have e1:=zO8 g r.F.length 0 i hiF;rw[s8Z]at e1;have e2:=zDG g r.F.length 0;obtain⟨R,hR⟩:∃R,zAO g 0 r.F.length=R:=⟨_,rfl⟩
   rw[hR]at e1 e2 h2;obtain⟨n,hn⟩:∃n,r.F.length=n:=⟨_,rfl⟩
   rw[hn]at h0 hiF e2 hFA;have e3:∀h,R[i]'h=.ptr (g i) 0:=fun h=>(q1Z.1 e1).2;have w1:IntKind.i64.wrap ((i:Int)+1-1)=i:=by rw[show (i:Int)+1-1=i by omega];exact zK (by omega) (by omega)
   have w2:IntKind.i64.wrap (i:Int)=i:=zK (by omega) (by omega);have i1:i<R.length:=by omega
   have i2:(i:Int)<n:=by omega
   have hzt:((i:Int)+1-1).toNat=i:=by omega
   dsimp only;rw[hzt];refine wS hΓ (by simp[zSd,zJ6,h0,h1,hdo,hset,hfv];exact wR) ?_;refine wS hΓ (by simp;exact wR) ?_;refine wE hΓ (by simp[h0,h2,e1,e2,e3,w1,w2,i1,i2,hiF];exact wT) ?_;exact⟨.inr rfl,by simp[Tryz.f81],rfl⟩
theorem zQp{H:zA}{b:Nat}{x:ABlk}(h:H[b]? = some x):H.set b x=H:=by
 obtain⟨h1,h2⟩:=q1Z.1 h;rw[<-h2,List.set_getElem_self]
noncomputable def zOR:zS:=open Classical in ZD fun args H=>match args with
 | [.ptr b 0]=>match H[b]? with
   | some (.obj true sub)=>match zHJ sub with
     | some f=>if f.ok 1000000 then some (.int .i64 ((f.was.length-1:Nat):Int)) else none
     | none=>none
   | _=>none
 | _=>none
theorem zKP:Sound Pz 176 zOR:=by
 refine ZU (zD Tryz.func176 rfl (by decide)) fun args H v h=>?_;split at h <;> try cases h
 split at h <;> try cases h
 rename_i b _ sub hb;split at h <;> try cases h
 rename_i f hf;split at h <;> cases h
 rename_i hk;rw[zC0 hf]at hb;have:=zy (zUb (zRV f hk (qnZ _)) rfl) rfl rfl hb
 rwa [zQp hb]at this
noncomputable def zGZ:Gam:=zh [(92,zIE),(93,zKX),(295,zR1),(220,zNZ),(176,zOR),(78,zH2),(250,zUM),(168,zRm)]
theorem zLC:GOk Pz zGZ:=zC zMV (zC zGU (zC zMO (zC zM0 (zC zKP (zC zGa (zC zOG (zC zMY zB)))))))
theorem zOf{r:RS}{A B:Nat}(hok:r.ok A B){k:List UInt8}{z:Int}(hk:NM.get r.dir.now k=some z)(g:Nat->Nat):∃i f,(z-1).toNat=i/\i<r.F.length/\r.F[i]? = some f/\f.ok B/\zOk r.dir g k=.ptr (g i) 0:=by
 obtain⟨h1,h2⟩:=hok.hasN k z hk;obtain⟨i,hi⟩:∃i,(z-1).toNat=i:=⟨_,rfl⟩
 have hl:i<r.F.length:=by omega
 refine ⟨i,r.F[i],hi,hl,q3Z hl,hok.fine _ (r3Z hl),?_⟩;unfold zOk;rw[hk];show AV.ptr (g (z-1).toNat) 0=_;rw[hi]
theorem zKh(r:RS){A B:Nat}(hok:r.ok A B)(hA:A<=900000) :
   Ct Pz 133 [.ptr 0 0] [.obj true r.blks] (.int .i64 (r.syncDir).2) [.obj true (r.syncDir).1.blks]:=by
 have hΓ:=zLC;refine zE Tryz.func133 rfl ?_;simp only[Tryz.ntmps133,q7Z,q8Z,Nat.reduceAdd,Nat.reduceSub,qbZ,q9Z,qaZ];refine Sim.aft (Aft.open (b:=0) rfl (by simp) (Aft.done (by simp[zo]) ?_));rw[zJ9];have ha:=r.blks_at;have hlen:1<=r.blks.length:=by rw[RS.blks_length];omega
 obtain⟨H,hH⟩:∃H,r.blks=H:=⟨_,rfl⟩
 rw[hH]at ha hlen ⊢;have hst:=ha.step ⟨hok.s0,by have:=hok.s1;omega⟩ ⟨hok.a0,hok.a1⟩;have ha2:=ha.count;have hok2:=RS.ok_count hok;rw[show r.F=r.count.F from (RS.count_F r).symm]at hst ha2;unfold RS.syncDir RS.step;obtain⟨q,hq⟩:∃q,r.count=q:=⟨_,rfl⟩
 rw[hq]at hst ha2 hok2 ⊢;obtain⟨H2,hH2⟩:∃X,H.set 0 (q.cell0 (.sl 2 0 q.F.length 1 false) 1)=X:=⟨_,rfl⟩
 have hlen2:1<=H2.length:=by rw[<-hH2,r8Z];exact hlen
 rw[hH2]at hst ha2;have hdo:q.dir.ok 1000000:=RF.ok_mono hok2.dir (by omega);have h0:=ha2.c0;unfold RS.cell0 at h0;have h1:=ha2.fold;clear hH2 hH hq;refine wS hΓ (by simp;exact wR) ?_ (by simp[hlen] <;> omega);cases hd:q.down with
 | true =>
   rw[hd]at hst;simp only[Bool.not_true]at hst;rw[if_pos rfl];refine Sim.after (wE hΓ (by simp[zGZ,hst];exact wT) ?_ (by simp[hlen] <;> omega));exact ha2.close ([.top,.top,.int .i64 13]++qbZ 13 .top) (by simp[AWs,AW]) ⟨.inr rfl,_,by simp[Tryz.f133] <;> rfl,Weak.mk' [0] (by decide) rfl (by simp) (by simp[AWb])⟩
 | false =>
   rw[hd]at hst;simp only[Bool.not_false]at hst;rw[if_neg (by simp)];dsimp only;refine wS hΓ (by simp[zGZ,hst];exact wR) ?_ (by simp[hlen] <;> omega);obtain⟨p,hp⟩:∃p:Nat,q.dir.was.length-1=p:=⟨_,rfl⟩
   have hpl:(p:Int)<=9223372036854775807:=by have:=hdo.len;omega
   have hpl0:(-9223372036854775808:Int)<=p:=by omega
   rw[hp];refine Sim.seq (Sim.draw hmix (by omega) ?_);refine SimR.many hΓ 9 (by simp[zF];rfl) (by omega) (by kernel_rfl) (by simp +decide [zGZ,zOR,ZD,h0,h1,hdo,hp];first | exact wR | exact⟨by kernel_rfl,wR⟩) ?_;refine SimR.one hΓ _ rfl (by kernel_rfl) (by simp +decide [zGZ,zH2,h1,hdo,hpl,hpl0];exact wR) ?_;refine SimR.done rfl ?_;dsimp only;refine Sim.after (wE hΓ (by simp;exact wT) ?_ (by simp <;> omega));exact (ha2.dirset (q.dir.survive p)).close ([.top,.top,.int .i64 0]++qbZ 13 .top) (by simp[AWs,AW]) ⟨.inr rfl,_,by simp[Tryz.f133] <;> rfl,Weak.mk' [0] (by decide) rfl (by simp) (by simp[AWb])⟩
theorem zLn(r:RS){A B:Nat}(hok:r.ok A B)(hA:A<=900000)(a:List UInt8) :
   Ct Pz 132 [.ptr 0 0,.str a] [.obj true r.blks] (.int .i64 (r.remove a).2) [.obj true (r.remove a).1.blks]:=by
 have hΓ:=zLC;refine zE Tryz.func132 rfl ?_;simp only[Tryz.ntmps132,q7Z,q8Z,Nat.reduceAdd,Nat.reduceSub,qbZ,q9Z,qaZ];refine Sim.aft (Aft.open (b:=0) rfl (by simp) (Aft.done (by simp[zo]) ?_));rw[zJ9];have ha:=r.blks_at;have hlen:1<=r.blks.length:=by rw[RS.blks_length];omega
 obtain⟨H,hH⟩:∃H,r.blks=H:=⟨_,rfl⟩
 rw[hH]at ha hlen ⊢;have hst:=ha.step ⟨hok.s0,by have:=hok.s1;omega⟩ ⟨hok.a0,hok.a1⟩;have ha2:=ha.count;have hok2:=RS.ok_count hok;rw[show r.F=r.count.F from (RS.count_F r).symm]at hst ha2;unfold RS.remove RS.step;obtain⟨q,hq⟩:∃q,r.count=q:=⟨_,rfl⟩
 rw[hq]at hst ha2 hok2 ⊢;obtain⟨H2,hH2⟩:∃X,H.set 0 (q.cell0 (.sl 2 0 q.F.length 1 false) 1)=X:=⟨_,rfl⟩
 have hlen2:1<=H2.length:=by rw[<-hH2,r8Z];exact hlen
 rw[hH2]at hst ha2;have hdo:q.dir.ok 1000000:=RF.ok_mono hok2.dir (by omega);have h0:=ha2.c0;unfold RS.cell0 at h0;have h1:=ha2.fold;clear hH2 hH hq;refine wS hΓ (by simp;exact wR) ?_ (by simp[hlen] <;> omega);cases hd:q.down with
 | true =>
   rw[hd]at hst;simp only[Bool.not_true]at hst;rw[if_pos rfl];refine Sim.after (wE hΓ (by simp[zGZ,hst];exact wT) ?_ (by simp[hlen] <;> omega));exact ha2.close ([.top,.top,.top,.top,.int .i64 13]++qbZ 9 .top) (by simp[AWs,AW]) ⟨.inr rfl,_,by simp[Tryz.f132] <;> rfl,Weak.mk' [0] (by decide) rfl (by simp) (by simp[AWb])⟩
 | false =>
   rw[hd]at hst;simp only[Bool.not_false]at hst;rw[if_neg (by simp)];dsimp only;refine wS hΓ (by simp[zGZ,hst];exact wR) ?_ (by simp[hlen] <;> omega);refine Sim.after (wE hΓ (by simp[zGZ,zNZ,h0,h1,hdo];exact wT) ?_ (by omega));exact (ha2.dirset (q.dir.remove a).1).close ([.top,.top,.top,.top,.int .i64 (q.dir.remove a).2]++qbZ 9 .top) (by simp[AWs,AW]) ⟨.inr rfl,_,by simp[Tryz.f132] <;> rfl,Weak.mk' [0] (by decide) rfl (by simp) (by simp[AWb])⟩
theorem zRy(r:RS)(n:Int):Ct Pz 15 [.ptr 0 0,.int .i64 n] [.obj true r.blks] (.tuple []) [.obj true (r.arm n).blks]:=by
 refine zE Tryz.func15 rfl ?_;simp only[Tryz.ntmps15,q7Z,q8Z,Nat.reduceAdd,Nat.reduceSub,qbZ,q9Z,qaZ];refine Sim.aft (Aft.open (b:=0) rfl (by simp) (Aft.done (by simp[zo]) ?_));rw[zJ9];have ha:=r.blks_at;have hlen:1<=r.blks.length:=by rw[RS.blks_length];omega
 obtain⟨H,hH⟩:∃H,r.blks=H:=⟨_,rfl⟩
 rw[hH]at ha hlen ⊢;have h0:=ha.c0;unfold RS.cell0 at h0;have ha2:=ha.c0set r.steps (max 0 n) r.down;obtain⟨y,hy⟩:∃y,max 0 n=y:=⟨_,rfl⟩
 unfold RS.arm;rw[hy]at ha2 ⊢;refine Sim.after (wE zB (by simp[-zDS,zFq,h0,hy];exact wT) ?_ (by omega));exact ha2.close (qbZ 9 .top) (by simp[AWs,AW]) ⟨.inl rfl,_,by simp[Tryz.f15] <;> rfl,Weak.mk' [0] (by decide) rfl (by simp) (by simp[AWb])⟩
noncomputable def zIC(args:List AV)(H:zA)(v:AV):zS:=open Classical in fun a h=>if a=args/\h=H then some (v,h,[]) else none
theorem zKV{P:Program}{f:FuncId}{args:List AV}{H:zA}{v:AV}(he:∀cargs w,(callFunc f cargs).run P w=.ok (.enter f cargs) w)(h:Ct P f args H v H):Sound P f (zIC args H v):=by
 refine ⟨he,fun a h1 v1 H1 W hs=>?_,fun a h1 v1 H1 W hs=>?_⟩ <;> (unfold zIC at hs;split at hs <;> cases hs) <;> (rename_i hc;obtain⟨rfl,rfl⟩:=hc)
 · exact h
 · exact⟨qnZ _,fun b hb hn=>rfl⟩
@[simp] theorem zP3(args:List AV)(H:zA)(v:AV):zIC args H v args H=some (v,H,[]):=by
 unfold zIC;rw[if_pos ⟨rfl,rfl⟩]
def zSc(H:zA):Prop:=∀rn:List Nat,(∀i,i<H.length->rn[i]? = some i)->∀B∈H,AWb rn B B
theorem RS.blks_self(r:RS):zSc r.blks:=fun rn hr B hB=>by
 rw[RS.blks_length]at hr;simp only[RS.blks,RS.cell0,qwZ]at hB;rcases hB with rfl | rfl | rfl | hB
 · exact⟨id,by simp[AWs,AW,hr 1 (by omega),hr 2 (by omega)]⟩
 · exact⟨rfl,rfl⟩
 · exact⟨id,zIW _ _ _ _ _ fun i _ hi=>hr (i+3) (by omega)⟩
 · obtain⟨W,_,rfl⟩:=reZ.1 hB
   exact⟨rfl,rfl⟩
noncomputable def zSV(args:List AV)(H:zA)(v:AV):Gam:=zh [(81,zIC args H v),(136,zAt),(80,zIF)]
theorem zPu{args:List AV}{H:zA}{v:AV}(h:Ct Pz 81 args H v H):GOk Pz (zSV args H v) :=
 zC (zKV (zD Tryz.func81 rfl (by decide)) h) (zC zFI (zC zGX zB))
noncomputable def zUX:Gam:=zh [(80,zIF)]
theorem zAH:GOk Pz zUX:=zC zGX zB
theorem RF.names_get{r:RF}{k:List UInt8}(h:k∈r.names):∃z,NM.get r.now k=some z:=NM.get_some.2 h
theorem zP7{H:zA}{r:RS}{fo m:Nat}{g:Nat->Nat}{c:Bool}(ha:RAt H r (.sl m 0 r.F.length 1 c) 0 fo m g){A B:Nat}(hok:r.ok A B)(hA:A<=1000000)(hB:B<=1000000000000)(hid:zSc H) :
   Ct Pz 49 [.ptr 0 0] H (.sl H.length 0 r.files.length 2 false) (H++[.cells true (flA r.files)]):=by
 have h0:=ha.c0;have h1:=ha.fold;unfold RS.cell0 at h0;have hdo:r.dir.ok 1000000:=RF.ok_mono hok.dir hA;obtain⟨N,hN⟩:∃N,H.length=N:=⟨_,rfl⟩
 have l0:0<N:=by rw[<-hN];exact (q1Z.1 h0).1
 have l1:fo<N:=by rw[<-hN];exact (q1Z.1 h1).1
 have hid':=hid;unfold zSc at hid';rw[hN]at hid';have hBX:=Z4 H hN;have hXg:=hBX.get;have hXg0:=hBX.get0;have hXs:=hBX.set;have hXs0:=hBX.set0;have k0:∀T:zA,(H++T)[0]? = H[0]?:=fun T=>q4Z (by omega);rw[h0]at k0;have k0':∀(T:zA) h,(H++T)[0]'h=_:=fun T h=>(q1Z.1 (k0 T)).2;have tl:=fun {T Tn F Fn}=>Weak.tailG (A:=H) (N:=N) hN hid' (T:=T) (Tn:=Tn) (F:=F) (Fn:=Fn);have o0:∀ts:List Nat,(List.range N++ts)[0]? = some 0:=fun ts=>zBw _ _ l0;have o0g:∀(ts:List Nat) h,(List.range N++ts)[0]'h=0:=fun ts h=>(q1Z.1 (o0 ts)).2;have hLn:r.dir.names.length<=1000000:=by
   unfold RF.names;rw[r7Z];exact Nat.le_trans (hok.dir.row _ (qcZ (RF.now_get hok.dir.ne))) hA
 have hnget:=fun k (hk:k∈r.dir.names)=>RF.names_get hk;have frn:zL (r.dir.names.map AV.str)=true:=zH _ _ fun _=>rfl;have hgetN:∀i (h:i<r.dir.names.length),(∀h',(r.dir.names.map AV.str)[i]'h'=.str r.dir.names[i])/\(r.dir.names.map AV.str)[i]? = some (.str r.dir.names[i]):=fun i h=>⟨fun h'=>List.getElem_map _,by rw[qzZ,q3Z h];rfl⟩
 have hrl:(r.dir.names.map AV.str).length=r.dir.names.length:=r7Z _;refine zE Tryz.func49 rfl ?_;simp only[Tryz.ntmps49,q7Z,q8Z,Nat.reduceAdd,Nat.reduceSub,qbZ,q9Z,qaZ];rw[hN];refine wS zAH (by simp;exact wR) ?_ (by simp[hN]);refine wS zAH (by simp;exact wR) ?_ (by simp[hN]);refine wS zAH (by simp[zUX,zIF,h0,h1,hN,hdo];exact wR) ?_ (by simp[hN]);refine Sim.seq (wS zAH (by simp;exact wR) ?_ (by simp[hN]));obtain⟨ks,hks⟩:∃ks,r.dir.names=ks:=⟨_,rfl⟩
 obtain⟨L,hL⟩:∃L,ks.length=L:=⟨_,rfl⟩
 rw[hks]at hLn hnget frn hgetN hrl;rw[hks,hL];rw[hL]at hLn hrl;have hAn:∀rn:List Nat,AWs rn (ks.map AV.str) (ks.map AV.str):=fun rn=>AWs.refl _ _ frn;have hfl:r.files=if r.down then [] else ks.map fun k=>(k,r.text k):=by
   unfold RS.files RS.list;rw[hks];split <;> rfl
 obtain⟨fl,hfl'⟩:∃fl:List (List UInt8×List UInt8),(ks.map fun k=>(k,r.text k))=fl:=⟨_,rfl⟩
 rw[hfl']at hfl;have hfll:fl.length=L:=by rw[<-hfl',r7Z,hL]
 have hfg:∀i (h:i<ks.length),fl[i]'(by omega)=(ks[i],r.text ks[i]):=fun i h=>by simp only[<-hfl',List.getElem_map]
 have hAf:∀(l:List (List UInt8×List UInt8)) (rn:List Nat),AWs rn (flA l) (flA l):=fun l rn=>AWs.refl _ _ (ZE l);refine Sim.block (Sim.loopW (fun i:Nat=>i<=L/\(r.down=true->i=0))
   (fun i=>[.ptr 0 0,.top,.top,.sl (N+1) 0 i 2 false,.sl N 0 L 1 false,.int .i64 i]++qbZ 34 .top)
   (fun i=>H++[.cells true (ks.map .str),.cells true (flA (fl.take i))]) (fun i=>L-i) 0 (by simp[hN]) ⟨qqZ _,fun _=>rfl⟩ ?_ fun i hi=>?_)
 · exact tl [0,100] (by decide) (by simp[AWs,AW,o0g]) (by simp[AWg,AWb,hN,flA])
 obtain⟨hi,hdn⟩:=hi;cases hd:r.down with
 | true =>
   obtain rfl:=hdn hd;rw[hd]at hfl k0 k0';rw[hfl,if_pos rfl];by_cases hL0:L=0
   · have hL0':¬(0:Int)<L:=by omega
     refine wE zAH (by simp[hL0];exact wT) ?_ (by simp[hN]);dsimp only;rw[if_pos rfl];refine wE zAH (by simp;exact wT) ?_ (by simp[hN]);exact⟨.inr rfl,_,by simp[Tryz.f49] <;> rfl,tl [1] (by decide) (by simp[AWs,AW]) (by simp[AWg,AWb,hN,flA])⟩
   · have hL0':(0:Int)<L:=by omega
     have hL1:0<L:=by omega
     refine wE zAH (by simp[hL1,k0'];exact wT) ?_ (by simp[hN]);dsimp only;rw[if_pos rfl];refine wE zAH (by simp;exact wT) ?_ (by simp[hN]);exact⟨.inr rfl,_,by simp[Tryz.f49] <;> rfl,tl [1] (by decide) (by simp[AWs,AW]) (by simp[AWg,AWb,hN,flA])⟩
 | false =>
   rw[hd]at hfl k0 k0';rw[hfl,if_neg (by simp)];by_cases hlt:i<L
   · have hil:i<ks.length:=by omega
     have hiI:(i:Int)<L:=by omega
     obtain⟨f1,f2⟩:=hgetN i (by omega);obtain⟨z,hz⟩:=hnget _ (r3Z hil);have hfi:=hfg i hil;obtain⟨k,hk⟩:∃k,ks[i]=k:=⟨_,rfl⟩
     rw[hk]at f1 f2 hz hfi;obtain⟨j,f,e1,e2,e3,e4,e5⟩:=zOf hok hz g;have htx:r.text k=f.now:=by unfold RS.text RS.file;rw[hz];simp only[e1,e3]
     have hnx:fl.take (i+1)=fl.take i++[(k,f.now)]:=by rw[List.take_succ_eq_append_getElem (by omega),hfi,htx]
     have hob:(fl.take i).length=i:=by rw[qjZ];omega
     obtain⟨out,hout⟩:∃o,fl.take i=o:=⟨_,rfl⟩
     rw[hout]at hnx hob ⊢;have ha2:=ha.app [ABlk.cells true (ks.map .str),ABlk.cells true (flA out)];have hΓ:=zPu (zSu ha2 hok hA k);rw[e5]at hΓ;have e6:=ha2.file j f e3;have e7:f.small:=PF.ok_mono e4 hB;have hol:(flA out).length=i*2:=by rw[zBt,hob]
     have hRt:(flA out).take (i*2)=flA out:=q6Z (by omega);have hRc:(flA out).all zx=true:=by
       have:∀l:List (List UInt8×List UInt8),(flA l).all zx=true:=fun l=>by
         induction l with
         | nil=>rfl
         | cons e l ih=>simp only[flA,List.all_cons,ih,zx,Bool.and_true]
       exact this out
     have hap:flA out++[.str k,.str f.now]=flA (out++[(k,f.now)]):=by rw[zC7];rfl
     have i9:(i+1)*32<=140737488355328:=by omega
     have i10:i+1<=9223372036854775807:=by omega
     have y1:IntKind.i64.wrap ((i:Int)+1)=i+1:=zK (by omega) (by omega);have i11:i<(ks.map AV.str).length:=by omega
     refine wS hΓ (by simp[hiI,k0'];exact wR) ?_ (by simp[hN]);refine Sim.seq (Sim.block (Sim.draw hmix (by simp[hN]) ?_));refine SimR.many hΓ 14 (by simp[zF];rfl) (by omega) (by kernel_rfl) (by simp +decide [zSV,zP3,zAt,hlt,f1,hrl,e6,e7,hN];first | exact wR | exact⟨by kernel_rfl,wR⟩) ?_;refine SimR.one hΓ _ rfl (by kernel_rfl) (by simp +decide [hN,hXs,hol,hRt,hap,i9,i10];exact wR) ?_;refine SimR.many hΓ 16 (by simp[zF,zM];rfl) (by omega) (by kernel_rfl) (by simp +decide;first | exact wR | exact⟨by kernel_rfl,wR⟩) ?_;refine SimR.done rfl ?_;dsimp only;refine wE zAH (by simp[y1];exact wT) ?_ (by simp[hN]);exact⟨i+1,⟨by omega,fun h=>by cases h⟩,tl [0,3] (by decide) (by simp[AWs,AW,o0g]) (by simp[AWg,AWb,hN,hnx]),by omega⟩
   · have hie:i=L:=by omega
     subst hie;have hnI:¬(i:Int)<i:=by omega
     rw[q6Z (by omega)];refine wE zAH (by simp;exact wT) ?_ (by simp[hN]);dsimp only;rw[if_pos rfl];refine wE zAH (by simp;exact wT) ?_ (by simp[hN]);exact⟨.inr rfl,_,by simp[Tryz.f49] <;> rfl,tl [1] (by decide) (by simp[AWs,AW,hfll]) (by simp[AWg,AWb,hN])⟩
end
section
open Go Go.Lib
attribute [-simp] zG zT zc zJ zn
theorem RAt.closeB{H:zA}{r:RS}{x:AV}{fo m:Nat}{g:Nat->Nat}(h:RAt H r x 0 fo m g){b1:Nat}{o:Bool}{l:List AV}(h1:H[b1]? = some (.cells o l))(hl:∀rn,AWs rn l l)(h0:b1≠0)(hf:fo≠b1)(hm:m≠b1)(hg:∀i,i<r.F.length->g i≠b1){F:List AV}(Fn:List AV){K:List AV->zA->Prop}(hF:AWs [0,b1] Fn F)
   (hk:K Fn [.obj true r.blks,.cells o l]):Aft 1 F H K:=by
 have hbl:0<H.length:=(q1Z.1 h.c0).1;refine Aft.close (o:=true) (b:=0) (sub:=r.blks) (rs:=0::fo::m::(List.range r.F.length).map g) (ks:=fo::m::(List.range r.F.length).map g) rfl h.nd hbl ?_ (h.awg _ fun _ _=>rfl) ⟨_,rfl,rfl⟩ ?_ hbl ?_
 · intro c y hc hcb _ _
   exact (qwZ.1 hc).resolve_left hcb
 · intro i y hy hd
   have hm:=qcZ hy;simp only[RS.blks,RS.cell0,qwZ]at hm;rcases hm with rfl | rfl | rfl | hm
   · rfl
   · rfl
   · rfl
   · obtain⟨e,_,rfl⟩:=reZ.1 hm
     rfl
 · refine Aft.weak (Fn:=Fn) (Hn:=[.obj true r.blks,.cells o l]) (Weak.mk' [0,b1] (by simp[Ne.symm h0]) rfl hF (zR (b:=0) hbl _ _ rfl fun i c y e1 e2=>?_)) (by simp;omega) (Aft.done (by simp) hk)
   match i,e1,e2 with
   | 0,e1,e2=>cases e1;cases e2;exact .inl ⟨rfl,rfl⟩
   | 1,e1,e2 =>
     cases e1;cases e2
     refine .inr ⟨⟨h0,fun hc=>?_⟩,by rw[q2Z,h1];exact⟨id,hl _⟩⟩;rcases qwZ.1 hc with e | hc
     · exact hf e.symm
     rcases qwZ.1 hc with e | hc
     · exact hm e.symm
     · obtain⟨a,ha,e⟩:=reZ.1 hc
       exact hg a (List.mem_range.1 ha) e
theorem zU1{P:Program}{f:FuncId}{xs:List AV}{r:RS}{k sz:Nat}{l:List AV}(h:Ct P f xs r.blks (.sl r.blks.length 0 k sz false) (r.blks++[.cells true l]))(hl:∀rn,AWs rn l l):Ct P f xs [.obj true r.blks] (.sl 1 0 k sz false) [.obj true r.blks,.cells true l]:=by
 have hn:=RS.blks_length r;refine zBi h (by omega) ((r.blks_at.app [.cells true l]).closeB (b1:=r.blks.length) (by rw[q5Z (qnZ _)];simp) hl (by omega) (by omega) (by omega) (fun i hi=>by omega) [.sl 1 0 k sz false] ?_ ⟨rfl,rfl⟩);exact⟨⟨rfl,rfl,rfl,rfl,id⟩,trivial⟩
noncomputable section
open Classical
def RS.small(r:RS):Prop:=r.ok 900000 1000000000000
def zOF:zS:=zBc zGc RS.blks fun r xs _=>match xs with
 | []=>if r.small then some (r.syncDir.1,.int .i64 r.syncDir.2) else none
 | _=>none
theorem zLo:Sound Pz 133 zOF:=by
 refine zg (zD Tryz.func133 rfl (by decide)) (fun _ _=>zCo) fun r xs H s' v b hg hb=>?_;split at hg;rotate_left
 · cases hg
 split at hg <;> cases hg
 rename_i hs;exact zy (zKh r hs (by decide)) rfl rfl hb
def zN8:zS:=zBc zGc RS.blks fun r xs _=>match xs with
 | [.str a]=>if r.small then some ((r.remove a).1,.int .i64 (r.remove a).2) else none
 | _=>none
theorem zMI:Sound Pz 132 zN8:=by
 refine zg (zD Tryz.func132 rfl (by decide)) (fun _ _=>zCo) fun r xs H s' v b hg hb=>?_;split at hg;rotate_left
 · cases hg
 split at hg <;> cases hg
 rename_i hs;exact zy (zLn r hs (by decide) _) rfl rfl hb
def zOC:zS:=zBc zGc RS.blks fun r xs _=>match xs with
 | [.int .i64 n]=>if r.small then some (r.arm n,.tuple []) else none
 | _=>none
theorem zL9:Sound Pz 15 zOC:=by
 refine zg (zD Tryz.func15 rfl (by decide)) (fun _ _=>zCo) fun r xs H s' v b hg hb=>?_;split at hg;rotate_left
 · cases hg
 split at hg <;> cases hg
 rename_i hs;exact zy (zRy r _) rfl rfl hb
def zF3:zS:=fun args H=>match args with
 | [.ptr b 0]=>match H[b]? with
   | some (.obj true sub)=>match zGc sub with
     | some r=>if r.small then some (.sl H.length 0 r.files.length 2 false,H++[.cells true (flA r.files)],[]) else none
     | none=>none
   | _=>none
 | _=>none
theorem zGB:Sound Pz 49 zF3:=by
 refine ⟨zD Tryz.func49 rfl (by decide),fun args H v H' W hs=>?_,fun args H v H' W hs=>?_⟩ <;> (unfold zF3 at hs;split at hs <;> try cases hs) <;> (split at hs <;> try cases hs) <;> (rename_i b _ sub hb;split at hs <;> try cases hs) <;> (rename_i r hr;split at hs <;> cases hs;rename_i hk)
 · have e:=zCo hr
   subst e;have hbl:b<H.length:=(q1Z.1 hb).1;have fs:∀g,ZV g (flA r.files)=flA r.files:=fun g=>ZH g _ (Z8 _);have:=zZ (H:=H) (args:=[.ptr b 0]) (zU1 (zP7 r.blks_at hk (by decide) (by decide) r.blks_self) fun rn=>AWs.refl _ _ (ZE _)) [b] (by simp) ⟨⟨rfl,rfl⟩,trivial⟩ ⟨by rw[q2Z,hb];exact⟨rfl,rfl⟩,hbl,trivial⟩ rfl;obtain⟨h1,h2⟩:=q1Z.1 hb;have hset:H.set b (.obj true r.blks)=H:=by rw[<-h2,List.set_getElem_self]
   simpa[zW,ABlk.own,reB,reA,Zr,hset,fs] using this
 · exact⟨by simp,fun c hc _=>by rw[q4Z hc]⟩
end
end
section
open Go Go.Lib Go.RowKit Go.Maps Go.Sort
attribute [-simp] zG zT zc zJ zn
def zRS(r:RS×Nat×Int):RS×Nat×Int:=if r.2.2=0 then (if 0<r.2.1 then (r.1.syncDir.1,r.2.1,r.1.syncDir.2) else (r.1,r.2.1,0)) else r
def RS.sweep(d:RS)(m:Mf):RS×Nat×Int:=zRS (RS.drops (Zm m d.list) d)
theorem RD.sweep{K:Nat}{r:RS}{d:DS}{A B:Nat}(h:RD r d A B)(hq:d.quota<=K)(m:Mf):RD (r.sweep m).1 (d.sweep m).1 (A+2*(Zm m d.list).length+2) B/\(r.sweep m).2=(d.sweep m).2:=by
 unfold RS.sweep DS.sweep;rw[h.list];obtain⟨h1,h2,h3⟩:=RD.drops (K:=K) (Zm m d.list) h hq;have h4:=h1.syncDir;unfold zRS swE;rw[h2];split
 · split
   · exact⟨h4.1.mono (by omega) (qnZ _),by dsimp only;rw[h4.2]⟩
   · exact⟨h1.mono (by omega) (qnZ _),rfl⟩
 · exact⟨h1.mono (by omega) (qnZ _),h2⟩
theorem zMM(m:Mf)(l:List (List UInt8)):zY m (ZI l)=Zm m (ZI l):=by
 rw[zCf];refine List.Perm.eq_of_pairwise (le:=fun a b=>leB a b=true) (fun a b _ _ h1 h2=>?_) ((Ze l).filter _) (Ze _) (zU _).symm;simp only[leB,decide_eq_true_eq]at h1 h2;exact List.le_antisymm h1 h2
theorem zJB(m:Mf)(d:DS):zY m d.list=Zm m d.list:=by
 unfold DS.list;split
 · rfl
 · exact zMM m _
def RSk(r:RS)(A B:Nat):Prop:=∃d:DS,RD r d A B/\d.quota<=1048576
theorem RSk.mono{r:RS}{A B A' B':Nat}(h:RSk r A B)(hA:A<=A')(hB:B<=B'):RSk r A' B':=by
 obtain⟨d,h1,h2⟩:=h;exact⟨d,h1.mono hA hB,h2⟩
theorem RSk.small{r:RS}{A B:Nat}(h:RSk r A B)(hA:A<=900000)(hB:B<=1000000000000):r.small:=by
 obtain⟨d,h1,h2⟩:=h;exact (h1.mono hA hB).rok
theorem RSk.remove{r:RS}{A B:Nat}(h:RSk r A B)(k:List UInt8):RSk (r.remove k).1 (A+2) B:=by
 obtain⟨d,h1,h2⟩:=h;obtain⟨h3,h4,h5⟩:=RP.remove h1 h2 k;exact⟨_,h3,h5⟩
theorem RSk.list{r:RS}{A B:Nat}(h:RSk r A B)(hA:A<=200000):zHy r.list/\(∀k∈r.list,k.length<=64)/\r.list.length<=A/\∀m,zY m r.list=Zm m r.list:=by
 obtain⟨d,h1,h2⟩:=h;rw[h1.list];obtain⟨h3,h4⟩:=zAA h1.ok;exact⟨zEf h1.ok (by omega),h3,h4,fun m=>zJB m d⟩
noncomputable def zUQ:Gam:=zh [(120,zKD)]
theorem zSb:GOk Pz zUQ:=zC zKa zB
theorem zQr(m:Mf)(s:List UInt8)(hl:m.segs.length<=1000000000000):Ct Pz 35 [mfA 0 m,.str s] [.cells false (zN m.segs)] (.bool (Zp m s)) [.cells false (zN m.segs)]:=by
 have hΓ:=zSb;have hA3:∀rn:List Nat,AWs rn (zN m.segs) (zN m.segs):=fun rn=>AWs.refl _ _ (by simp);unfold Zp;rw[zN4];obtain⟨⟨kd,n⟩,hp⟩:∃x,zA5 s=x:=⟨_,rfl⟩
 rw[hp];obtain⟨v,f,nx,sg⟩:=m;simp only[mfA];dsimp only at hl hA3 ⊢;obtain⟨R,hR⟩:∃R,(if kd=1 then true else if kd=3 then decide (f<=n) else if kd=4 then sg.any (fun g=>decide (g.1=n)) else false)=R:=⟨_,rfl⟩
 rw[hR];refine zE Tryz.func35 rfl ?_;simp only[Tryz.ntmps35,q7Z,q8Z,Nat.reduceAdd,Nat.reduceSub,qbZ,q9Z,qaZ];refine wS hΓ (by simp;exact wR) ?_;refine wS hΓ (by simp +decide [zUQ,zKD,hp];exact wR) ?_;refine Sim.seq (wS hΓ (by simp;exact wR) ?_);refine Sim.block (Sim.loopW (fun k:Nat=>k<=sg.length/\(kd=4->∀i (hi:i<sg.length),i<k->sg[i].1≠n)) (fun k=>[.top,.top,.ptr 1 0,.top,.top,.int .i64 kd,.int .i64 n,.int .i64 k]++qbZ 36 .top)
   (fun _=>[.cells false (zN sg),.cells true [.int .i64 v,.int .i64 f,.int .i64 nx,.sl 0 0 sg.length 3 false]]) (fun k=>sg.length-k) 0 (by simp) ⟨qqZ _,fun _ i hi h=>absurd h (by omega)⟩ (wW [0,1] (by simp[AWg,AWb,AW,hA3])) fun k hk=>?_)
 obtain⟨hk,hk1⟩:=hk;by_cases hlt:k<sg.length
 · have hltI:(k:Int)<sg.length:=by omega
   obtain⟨g,hg⟩:∃g,sg[k]=g:=⟨_,rfl⟩
   have g1:=zEx sg k hlt;rw[hg]at g1;obtain⟨x,y,z⟩:=g;have g2:(zN sg)[k*3]? = some (.int .i64 x):=by
     have:=congrArg (·[0]?) g1
     simpa[r4Z,sgA] using this
   have g2':∀h,(zN sg)[k*3]'h=.int .i64 x:=fun h=>(q1Z.1 g2).2;have k1:k*3<sg.length*3:=by omega
   have k3:k*3+3<=sg.length*3:=by omega
   have y1:IntKind.i64.wrap ((k:Int)+1)=k+1:=zK (by omega) (by omega);refine wS hΓ (by simp[hltI];exact wR) ?_;refine Sim.seq (Sim.block ?_);by_cases h4:kd=4
   · subst h4
     rw[if_neg (by decide),if_neg (by decide),if_pos rfl]at hR;by_cases hx:x=n
     · subst hx
       have hRt:R=true:=by
         rw[<-hR,List.any_eq_true];exact⟨sg[k],r3Z hlt,by rw[hg];simp⟩
       subst hRt;refine wE hΓ (by simp +decide [hlt,k1,k3,g2'];exact wT) ?_;exact⟨.inr rfl,_,by simp[Tryz.f35] <;> rfl,wW [0] (by simp[AWg,AWb,hA3])⟩
     · have hxb:(x==n)=false:=by simpa using hx
       refine wE hΓ (by simp +decide [hlt,k1,k3,g2',hx,hxb];exact wT) ?_;dsimp only;refine wE hΓ (by simp[y1];exact wT) ?_;refine ⟨k+1,⟨by omega,fun _ i hi h=>?_⟩,wW [0,1] (by simp[AWg,AWb,AW,hA3]),by omega⟩;by_cases hik:i=k
       · subst hik;rw[hg];exact hx
       · exact hk1 rfl i hi (by omega)
   · have h4b:(kd==4)=false:=by simpa using h4
     refine wE hΓ (by simp +decide [h4,h4b];exact wT) ?_;dsimp only;refine wE hΓ (by simp[y1];exact wT) ?_;exact⟨k+1,⟨by omega,fun h=>absurd h h4⟩,wW [0,1] (by simp[AWg,AWb,AW,hA3]),by omega⟩
 · have hke:k=sg.length:=by omega
   subst hke;refine wE hΓ (by simp;exact wT) ?_;dsimp only;rw[if_pos rfl];by_cases c1:kd=1
   · subst c1
     rw[if_pos rfl]at hR;subst hR;refine wE hΓ (by simp +decide;exact wT) ?_;exact⟨.inr rfl,_,by simp[Tryz.f35] <;> rfl,wW [0] (by simp[AWg,AWb,hA3])⟩
   have c1b:(kd==1)=false:=by simpa using c1
   rw[if_neg c1]at hR;by_cases c3:kd=3
   · subst c3
     rw[if_pos rfl]at hR;subst hR;refine wE hΓ (by simp +decide;exact wT) ?_;exact⟨.inr rfl,_,by simp[Tryz.f35] <;> rfl,wW [0] (by simp[AWg,AWb,hA3])⟩
   have c3b:(kd==3)=false:=by simpa using c3
   rw[if_neg c3]at hR;have hRf:R=false:=by
     rw[<-hR];split
     · rename_i c4
       rw[List.any_eq_false];intro g hg;obtain⟨i,hi,rfl⟩:=List.getElem_of_mem hg;simpa using hk1 c4 i hi hi
     · rfl
   subst hRf;refine wE hΓ (by simp +decide [c1,c1b,c3,c3b];exact wT) ?_;exact⟨.inr rfl,_,by simp[Tryz.f35] <;> rfl,wW [0] (by simp[AWg,AWb,hA3])⟩
def zCu:zS:=ZD fun args H=>match args with
 | [x,.str s]=>match zEP H x with
   | some m=>if m.segs.length<=1000000000000 then some (.bool (Zp m s)) else none
   | none=>none
 | _=>none
theorem zEu:Sound Pz 35 zCu:=by
 refine ZU (zD Tryz.func35 rfl (by decide)) fun args H v h=>?_;split at h <;> try cases h
 rename_i x s;split at h <;> try cases h
 rename_i m hx;split at h <;> cases h
 rename_i hc;obtain⟨b1,o1,w1,g1⟩:=zFx hx;refine zJ7 (zQr m s hc) rfl [(b1,o1)] ?_ ?_
 · exact⟨w1 0 _ rfl,⟨rfl,rfl⟩,trivial⟩
 · exact⟨g1,by simp,trivial⟩
noncomputable def zQ7:Gam:=zh [(35,zCu)]
theorem zRO:GOk Pz zQ7:=zC zEu zB
theorem zRo(m:Mf)(l:List (List UInt8))(hm:m.segs.length<=1000000000000)(hl:l.length<=1000000) :
   Ct Pz 39 [mfA 0 m,.sl 1 0 l.length 1 false] [.cells false (zN m.segs),.cells false (l.map AV.str)] (.sl 2 0 (zY m l).length 1 false) [.cells false (zN m.segs),.cells false (l.map AV.str),.cells true ((zY m l).map AV.str)]:=by
 have hΓ:=zRO;have hA3:∀rn:List Nat,AWs rn (zN m.segs) (zN m.segs):=fun rn=>AWs.refl _ _ (by simp);have hA4:∀(x:List (List UInt8)) (rn:List Nat),AWs rn (x.map AV.str) (x.map AV.str):=fun x rn=>AWs.refl _ _ (zH _ _ fun _=>rfl);have hAl:=hA4 l;obtain⟨L,hL⟩:∃L,l.length=L:=⟨_,rfl⟩
 obtain⟨lv,hlv⟩:∃lv:List UInt8->Bool,Zp m=lv:=⟨_,rfl⟩
 have hkp:∀x,zY m x=x.filter fun s=>!lv s:=fun x=>by unfold zY;rw[hlv]
 have hlS:∀(H:zA) (x:AV) (s:List UInt8),zEP H x=some m->zCu [x,.str s] H=some (.bool (lv s),H,[]):=fun H x s h1=>by
   simp[zCu,ZD,h1,hm,hlv]
 rw[hL]at hl ⊢;obtain⟨v,f,nx,sg⟩:=m;simp only[mfA];dsimp only at hm hA3 hlS ⊢;have h0:(zN sg).take (sg.length*3)=zN sg:=q6Z (by simp);refine zE Tryz.func39 rfl ?_;simp only[Tryz.ntmps39,q7Z,q8Z,Nat.reduceAdd,Nat.reduceSub,qbZ,q9Z,qaZ];refine wS hΓ (by simp;exact wR) ?_;refine wS hΓ (by simp;exact wR) ?_;refine Sim.seq (wS hΓ (by simp;exact wR) ?_);refine Sim.block (Sim.loopW (fun k:Nat=>k<=L) (fun k=>[.top,.sl 1 0 L 1 false,.ptr 2 0,.top,.top,.sl 3 0 (zY ⟨v,f,nx,sg⟩ (l.take k)).length 1 false,.int .i64 k]++qbZ 21 .top)
   (fun k=>[.cells false (zN sg),.cells false (l.map AV.str),.cells true [.int .i64 v,.int .i64 f,.int .i64 nx,.sl 0 0 sg.length 3 false],.cells true ((zY ⟨v,f,nx,sg⟩ (l.take k)).map AV.str)]) (fun k=>L-k) 0 (by simp) (qqZ _) (Weak.mk' [0,1,2,100] (by decide) (by decide) (by simp[zY]) (by simp[AWg,AWb,AW,hA3,hAl,zY])) fun k hk=>?_)
 by_cases hlt:k<L
 · have hltI:(k:Int)<L:=by omega
   have hke:k<l.length:=by omega
   obtain⟨s,hs⟩:∃s,l[k]=s:=⟨_,rfl⟩
   have hc:∀h,(l.map AV.str)[k]'h=.str s:=fun h=>by simp[hs]
   have y1:IntKind.i64.wrap ((k:Int)+1)=k+1:=zK (by omega) (by omega);have hnext:zY ⟨v,f,nx,sg⟩ (l.take (k+1))=zY ⟨v,f,nx,sg⟩ (l.take k)++if lv s=true then [] else [s]:=by
     rw[List.take_add_one,q3Z hke,hs];have:=zER ⟨v,f,nx,sg⟩ (l.take k) s;rw[hlv]at this;exact this
   have hOl:(zY ⟨v,f,nx,sg⟩ (l.take k)).length<=k:=Nat.le_trans (zHw _ _) (by simp;omega);obtain⟨O,hO⟩:∃O,zY ⟨v,f,nx,sg⟩ (l.take k)=O:=⟨_,rfl⟩
   rw[hO]at hnext hOl ⊢;obtain⟨P,hP⟩:∃P,O.length=P:=⟨_,rfl⟩
   rw[hP]at hOl ⊢;have hAO:=hA4 O;obtain⟨t,ht⟩:∃t,lv s=t:=⟨_,rfl⟩
   rw[ht]at hnext;have hOt:(O.map AV.str).take P=O.map AV.str:=q6Z (by simp[hP]);have b1:(P+1)*16<=140737488355328:=by omega
   have b2:P+1<=9223372036854775807:=by omega
   refine wS hΓ (by simp[hltI];exact wR) ?_;refine Sim.seq (Sim.block ?_);cases t with
   | true =>
     simp only[if_true,r2Z]at hnext;refine wE hΓ (by simp +decide [zQ7,hlS,free,zAe,h0,hlt,hL,hc,ht];exact wT) ?_;dsimp only;refine wE hΓ (by simp[y1];exact wT) ?_;exact⟨k+1,by omega,by rw[hnext];exact Weak.mk' [0,1,2,3] (by decide) (by decide) (by simp[hP]) (by simp[AWg,AWb,AW,hA3,hAl,hAO]),by omega⟩
   | false =>
     simp only[qsZ,if_false]at hnext;have hAO2:=hA4 (O++[s]);simp only[roZ,s1Z,List.map_nil]at hAO2;refine wE hΓ (by simp +decide [zQ7,hlS,free,zAe,h0,hlt,hL,hc,ht,hP,hOt,b1,b2];exact wT) ?_;dsimp only;refine wE hΓ (by simp[y1];exact wT) ?_;exact⟨k+1,by omega,by rw[hnext];exact Weak.mk' [0,1,2,5] (by decide) (by decide) (by simp[hP]) (by simp[AWg,AWb,AW,hA3,hAl,hAO2]),by omega⟩
 · have hke:k=L:=by omega
   subst hke;have ht:l.take k=l:=q6Z (by omega);rw[ht];have hAO:=hA4 (zY ⟨v,f,nx,sg⟩ l);refine wE hΓ (by simp;exact wT) ?_;dsimp only;rw[if_pos rfl];refine wE hΓ (by simp;exact wT) ?_;exact⟨.inr rfl,_,by simp[Tryz.f39] <;> rfl,wW [0,1,3] (by simp[AWg,AWb,hA3,hAl,hAO])⟩
noncomputable def zCp:zS:=zi fun args H=>match args with
 | [x,y]=>match zEP H x,zAf H y with
   | some m,some l=>if l.length<=1000000/\m.segs.length<=1000000000000 then some (.sl 0 0 (zY m l).length 1 false,[.cells true ((zY m l).map AV.str)]) else none
   | _,_=>none
 | _=>none
theorem zDV:Sound Pz 39 zCp:=by
 refine ZQ (zD Tryz.func39 rfl (by decide)) fun args H v N h=>?_;split at h <;> try cases h
 rename_i x y;split at h <;> try cases h
 rename_i m l hx hy;split at h <;> cases h
 rename_i hc;obtain⟨b1,o1,w1,g1⟩:=zFx hx;obtain⟨b2,o2,w2,g2⟩:=zBf hy;refine zB4 (H0:=[.cells false (zN m.segs),.cells false (l.map AV.str)]) (args0:=[mfA 0 m,.sl 1 0 l.length 1 false]) ?_ rfl [(b1,o1),(b2,o2)] ⟨w1 0 _ rfl,w2 1 _ rfl,trivial⟩ ⟨g1,by simp,g2,zH _ _ fun _=>rfl,trivial⟩;have:=zRo m l hc.2 hc.1;have hf:zL ((zY m l).map AV.str)=true:=zH _ _ fun _=>rfl;simpa[shA,shB,zv 2 _ hf] using this
noncomputable def zSl:Gam:=zh [(49,zF3)]
theorem zPf:GOk Pz zSl:=zC zGB zB
theorem zLt(r:RS)(hr:r.small)(hl:r.list.length<=1000000):Ct Pz 128 [.ptr 0 0] [.obj true r.blks] (.sl 1 0 r.list.length 1 false) [.obj true r.blks,.cells true (r.list.map AV.str)]:=by
 have hΓ:=zPf;obtain⟨x,hx⟩:∃x,r.files=x:=⟨_,rfl⟩
 have hxl:x.length=r.list.length:=by rw[<-hx];unfold RS.files;simp
 have hxm:r.list.map AV.str=x.map fun e=>AV.str e.1:=by rw[<-hx];unfold RS.files;simp[Function.comp_def]
 obtain⟨L,hL⟩:∃L,r.list.length=L:=⟨_,rfl⟩
 rw[hL]at hl hxl;rw[hxm,hL];have hfr:=ZE x;have hA1:∀rn:List Nat,AWs rn (flA x) (flA x):=fun rn=>AWs.refl _ _ hfr;refine zE Tryz.func128 rfl ?_;simp only[Tryz.ntmps128,q7Z,q8Z,Nat.reduceAdd,Nat.reduceSub,qbZ,q9Z,qaZ];refine wS hΓ (by simp;exact wR) ?_;refine wS hΓ (by simp;exact wR) ?_;refine wS hΓ (by simp +decide [zSl,zF3,hr,hx,hxl];exact wR) ?_;refine Sim.seq (wS hΓ (by simp;exact wR) ?_);refine Sim.block (Sim.loopW (fun k:Nat=>k<=L) (fun k=>[.ptr 0 0,.top,.top,.sl 2 0 k 1 false,.sl 1 0 L 2 false,.int .i64 k]++qbZ 17 .top)
   (fun k=>[.obj true r.blks,.cells true (flA x),.cells true ((x.take k).map fun e=>.str e.1)]) (fun k=>L-k) 0 (by simp) (qqZ _) (wW [0,1,100] (by simp[AWg,AWb,hA1])) fun k hk=>?_)
 by_cases hlt:k<L
 · have hltI:(k:Int)<L:=by omega
   have hke:k<x.length:=by omega
   obtain⟨e,he⟩:∃e,x[k]=e:=⟨_,rfl⟩
   have hg:=zDp x k hke;rw[he]at hg;have hg1:(flA x)[k*2]? = some (.str e.1):=by
     have:=congrArg (·[0]?) hg
     simpa[r4Z] using this
   have hg1':∀h,(flA x)[k*2]'h=.str e.1:=fun h=>(q1Z.1 hg1).2;have hnext:(x.take (k+1)).map (fun e=>AV.str e.1)=(x.take k).map (fun e=>AV.str e.1)++[AV.str e.1]:=by
     rw[List.take_add_one,q3Z hke,he];simp
   have gl:(flA x).length=L*2:=by rw[zBt,hxl]
   obtain⟨R,hR⟩:∃R,(x.take k).map (fun e=>AV.str e.1)=R:=⟨_,rfl⟩
   have hRl:R.length=k:=by rw[<-hR,r7Z,qjZ];omega
   have hRf:zL R=true:=by rw[<-hR];exact zH _ _ fun _=>rfl
   have hRt:R.take k=R:=q6Z (by omega);rw[hR]at hnext ⊢;have y1:IntKind.i64.wrap ((k:Int)+1)=k+1:=zK (by omega) (by omega);have k3:k*2+2<=L*2:=by omega
   have k2:k*2<L*2:=by omega
   have b1:(k+1)*16<=140737488355328:=by omega
   have b2:k+1<=9223372036854775807:=by omega
   refine wS hΓ (by simp[hltI];exact wR) ?_;refine Sim.seq (Sim.block ?_);refine wE hΓ (by simp +decide [hlt,gl,k2,hxl,hg1',hRl,hRt,b1,b2];exact wT) ?_;dsimp only;refine wE hΓ (by simp[y1];exact wT) ?_;refine ⟨k+1,by omega,?_,by omega⟩;rw[hnext];have hR1:∀rn:List Nat,AWs rn (R++[AV.str e.1]) (R++[AV.str e.1]):=fun rn=>AWs.refl _ _ (frees_iff.2 fun v hv=>by
     rcases qxZ.1 hv with h | h
     · exact frees_iff.1 hRf v h
     · rw[r1Z.1 h];rfl)
   exact wW [0,1,4] (by simp[AWg,AWb,hA1,hR1])
 · have hke:k=L:=by omega
   subst hke;have ht:x.take k=x:=q6Z (by omega);rw[ht];refine wE hΓ (by simp;exact wT) ?_;dsimp only;rw[if_pos rfl];have hR1:∀rn:List Nat,AWs rn (x.map fun e=>AV.str e.1) (x.map fun e=>AV.str e.1):=fun rn=>AWs.refl _ _ (zH _ _ fun _=>rfl);refine wE hΓ (by simp;exact wT) ?_;exact⟨.inr rfl,_,by simp[Tryz.f128] <;> rfl,wW [0,2] (by simp[AWg,AWb,hR1])⟩
open Classical in
noncomputable def zDh:zS:=fun args H=>match args with
 | [.ptr b 0]=>match H[b]? with
   | some (.obj true sub)=>match zGc sub with
     | some r=>if r.small/\r.list.length<=1000000 then some (.sl H.length 0 r.list.length 1 false,H++[.cells true (r.list.map AV.str)],[]) else none
     | none=>none
   | _=>none
 | _=>none
theorem zFJ:Sound Pz 128 zDh:=by
 refine ⟨zD Tryz.func128 rfl (by decide),fun args H v H' W hs=>?_,fun args H v H' W hs=>?_⟩ <;> (unfold zDh at hs;split at hs <;> try cases hs) <;> (rename_i b;split at hs <;> try cases hs) <;> (rename_i sub hb;split at hs <;> try cases hs) <;> (rename_i r hr;split at hs <;> cases hs;rename_i hk)
 · have e:=zCo hr
   subst e;have hbl:b<H.length:=(q1Z.1 hb).1;have:=zZ (H:=H) (args:=[.ptr b 0]) (zLt r hk.1 hk.2) [b] (by simp) ⟨⟨rfl,rfl⟩,trivial⟩ ⟨by rw[q2Z,hb];exact⟨rfl,rfl⟩,hbl,trivial⟩ rfl;obtain⟨h1,h2⟩:=q1Z.1 hb;have hset:H.set b (.obj true r.blks)=H:=by rw[<-h2,List.set_getElem_self]
   have r2:∀g,ZV g (r.list.map AV.str)=r.list.map AV.str:=fun g=>ZH g _ (by simp[Zo,zAs]);simpa[zW,ABlk.own,reB,reA,Zr,hset,r2] using this
 · exact⟨by simp,fun c hc _=>by rw[q4Z hc]⟩
theorem zLD(s:List UInt8)(l:List (List UInt8))(d:RS):RS.drops (s::l) d=if (d.remove s).2=0 then ((RS.drops l (d.remove s).1).1,(RS.drops l (d.remove s).1).2.1+1,(RS.drops l (d.remove s).1).2.2) else ((d.remove s).1,0,(d.remove s).2):=rfl
noncomputable def zOs:Gam:=zh [(128,zDh),(39,zCp),(132,zN8),(133,zOF)]
theorem zRc:GOk Pz zOs:=zC zFJ (zC zDV (zC zMI (zC zLo zB)))
theorem zTC(m:Mf)(hm:m.segs.length<=1000000000000)(d:RS){B:Nat}(hB:B<=1000000000000)(hok:RSk d 100000 B) :
   Ct Pz 44 [.ptr 0 0,mfA 1 m] [.obj true d.blks,.cells true (zN m.segs)] (.tuple [.int .i64 (d.sweep m).2.1,.int .i64 (d.sweep m).2.2]) [.obj true (d.sweep m).1.blks,.cells true (zN m.segs)]:=by
 have hΓ:=zRc;have hA3:∀rn:List Nat,AWs rn (zN m.segs) (zN m.segs):=fun rn=>AWs.refl _ _ (by simp);have hsm:d.small:=hok.small (by omega) hB;obtain⟨hls,hn1,hn2,hkp⟩:=hok.list (by omega);have hol:=zDw m d.list;have hkm:=hkp m;have hl9:d.list.length<=1000000:=by omega
 have ht:(d.list.map AV.str).take d.list.length=d.list.map AV.str:=q6Z (by simp);have hlf:∀rn:List Nat,AWs rn (d.list.map AV.str) (d.list.map AV.str):=fun rn=>AWs.refl _ _ (zH _ _ fun _=>rfl);have hst:zp (d.list.map AV.str)=some d.list:=Zw _;obtain⟨Rr,hR⟩:∃R,RS.sweep d m=R:=⟨_,rfl⟩
 rw[hR];obtain⟨R0,hR0⟩:∃R,RS.drops (Zm m d.list) d=R:=⟨_,rfl⟩
 have hsw:zRS R0=Rr:=by rw[<-hR,<-hR0];rfl
 obtain⟨O,hO⟩:∃O,Zm m d.list=O:=⟨_,rfl⟩
 rw[hO]at hol hR0 hkm;have hoS:∀(H:zA) (x y:AV),zEP H x=some m->zAf H y=some d.list->zCp [x,y] H=some (.sl H.length 0 O.length 1 false,H++[.cells true (O.map AV.str)],[]):=fun H x y h1 h2=>by
   have hsh:∀k,zAK k (O.map AV.str)=O.map AV.str:=fun k=>zv k _ (zH _ _ fun _=>rfl);simp[zCp,zi,h1,h2,hl9,hm,hkm,hsh,shA,shB]
 obtain⟨L,hL⟩:∃L,O.length=L:=⟨_,rfl⟩
 have hAr:∀rn:List Nat,AWs rn (O.map AV.str) (O.map AV.str):=fun rn=>AWs.refl _ _ (zH _ _ fun _=>rfl);obtain⟨v,f,nx,sg⟩:=m;simp only[mfA];dsimp only at hA3 hm ⊢;have h0:(zN sg).take (sg.length*3)=zN sg:=q6Z (by simp);have hLl:L<=100000:=by omega
 refine zE Tryz.func44 rfl ?_;simp only[Tryz.ntmps44,q7Z,q8Z,Nat.reduceAdd,Nat.reduceSub,qbZ,q9Z,qaZ];refine wS hΓ (by simp;exact wR) ?_;refine wS hΓ (by simp +decide [zOs,zDh,hsm,hl9,hoS,zAe,zAf,h0,ht,hst,free];first | exact wR | exact⟨by kernel_rfl,wR⟩) ?_;refine Sim.seq (wS hΓ (by simp +decide [hL];exact wR) ?_);refine Sim.block (Sim.loopW (fun r:Nat×RS=>r.1<=L/\((RS.drops (O.drop r.1) r.2).1,(RS.drops (O.drop r.1) r.2).2.1+r.1,(RS.drops (O.drop r.1) r.2).2.2)=R0/\RSk r.2 (100000+2*r.1) B)
   (fun r=>[.ptr 0 0,.top,.top,.top,.top,.top,.sl 4 0 L 1 false,.int .i64 r.1]++qbZ 28 .top)
   (fun r=>[.obj true r.2.blks,.cells true (zN sg),.cells true [.int .i64 v,.int .i64 f,.int .i64 nx,.sl 1 0 sg.length 3 false],.cells true (d.list.map .str),.cells true (O.map AV.str)]) (fun r=>L-r.1) (0,d) (by simp) ⟨qqZ _,by rw[<-hR0];rfl,hok⟩ (wW [0,1,2,3,4] (by simp[AWb,AWg,AW,hA3,hlf,hAr])) fun r hr=>?_)
 obtain⟨k,dk⟩:=r;obtain⟨hk,hk1,hk2⟩:=hr;dsimp only at hk hk1 hk2 ⊢;have hsk:dk.small:=hk2.small (by omega) hB;by_cases hlt:k<L
 · have hltI:(k:Int)<L:=by omega
   have hkO:k<O.length:=by omega
   obtain⟨s,hs⟩:∃s,O[k]=s:=⟨_,rfl⟩
   have hgk:∀h,(O.map AV.str)[k]'h=.str s:=fun h=>by simp[hs]
   rw[List.drop_eq_getElem_cons hkO,hs,zLD]at hk1;have hok':=hk2.remove s;obtain⟨d',e',hrm⟩:∃d' e',dk.remove s=(d',e'):=⟨_,_,rfl⟩
   rw[hrm]at hk1 hok';dsimp only at hk1 hok';have y1:IntKind.i64.wrap ((k:Int)+1)=k+1:=zK (by omega) (by omega);refine wS hΓ (by simp[hltI];exact wR) ?_;refine Sim.seq (Sim.block ?_);refine wS hΓ (by simp +decide [zOs,zN8,hsk,hrm,hlt,hL,hgk];exact wR) ?_;by_cases he:e'=0
   · subst he
     rw[if_pos rfl]at hk1;refine wE hΓ (by simp +decide;exact wT) ?_;dsimp only;refine wE hΓ (by simp +decide [y1];exact wT) ?_;refine ⟨(k+1,d'),⟨by dsimp only;omega,by rw[<-hk1];dsimp only;rw[Nat.add_assoc,Nat.add_comm 1 k],hok'.mono (by dsimp only;omega) (qnZ _)⟩,wW [0,1,2,3,4] (by simp[AWb,AWg,AW,hA3,hlf,hAr]),by dsimp only;omega⟩
   · have heb:(e'==0)=false:=by simpa using he
     have hen:(e' != 0)=true:=by simpa using he
     rw[if_neg he]at hk1;have hRr:Rr=(d',k,e'):=by
       rw[<-hsw,<-hk1];unfold zRS;rw[if_neg (by exact he)];simp
     subst hRr;refine wE hΓ (by simp +decide [he,heb,hen];exact wT) ?_;exact⟨.inr rfl,_,by simp[Tryz.f44] <;> rfl,wW [0,1] (by simp[AWb,AWg,AW,hA3])⟩
 · have hke:k=L:=by omega
   subst hke;rw[List.drop_of_length_le (by omega)]at hk1;have hR1:R0=(dk,k,0):=by rw[<-hk1];simp[RS.drops]
   subst hR1;unfold zRS at hsw;rw[if_pos rfl]at hsw;dsimp only at hsw;refine wE hΓ (by simp;exact wT) ?_;dsimp only;rw[if_pos rfl];by_cases h9:0<k
   · rw[if_pos h9]at hsw
     have h9I:¬(k:Int)=0:=by omega
     have h9n:¬k=0:=by omega
     have h9b:((k:Int)==0)=false:=by simpa using h9n
     obtain⟨d',e',hsy⟩:∃d' e',dk.syncDir=(d',e'):=⟨_,_,rfl⟩
     rw[hsy]at hsw;subst hsw;refine wS hΓ (by simp +decide [h9I,h9n,h9b];exact wR) ?_;refine wE hΓ (by simp +decide [zOs,zOF,hsk,hsy];exact wT) ?_;exact⟨.inr rfl,_,by simp[Tryz.f44] <;> rfl,wW [0,1] (by simp[AWb,AWg,AW,hA3])⟩
   · have h0k:k=0:=by omega
     subst h0k;rw[if_neg (by omega)]at hsw;subst hsw;refine wE hΓ (by simp +decide;exact wT) ?_;exact⟨.inr rfl,_,by simp[Tryz.f44] <;> rfl,wW [0,1] (by simp[AWb,AWg,AW,hA3])⟩
open Classical in
noncomputable def zLx:zS:=fun args H=>match args with
 | [.ptr b 0,.agg [.int .i64 v,.int .i64 f,.int .i64 n,.sl b2 0 L 3 _c]]=>match H[b]?,H[b2]? with
   | some (.obj true sub),some (.cells true l)=>match zGc sub,zCW l with
     | some d,some a=>if RSk d 100000 1000000000000/\a.length=L/\L<=1000000000000 then some (.tuple [.int .i64 (d.sweep ⟨v,f,n,a⟩).2.1,.int .i64 (d.sweep ⟨v,f,n,a⟩).2.2],H.set b (.obj true (d.sweep ⟨v,f,n,a⟩).1.blks),[b]) else none
     | _,_=>none
   | _,_=>none
 | _=>none
theorem zND:Sound Pz 44 zLx:=by
 have key:∀args H v H' W,zLx args H=some (v,H',W)->∃b B,W=[b]/\H'=H.set b B/\Ct Pz 44 args H v H':=by
   intro args H v H' W hs;unfold zLx at hs;split at hs;rotate_left
   · cases hs
   rename_i b v f n b2 L c;split at hs <;> try cases hs
   rename_i sub l hb hb2;split at hs <;> try cases hs
   rename_i d a hd hl;split at hs <;> cases hs
   rename_i hc;obtain⟨h1,h4,h5⟩:=hc;have e:=zCo hd;have e2:=zBq hl;subst e;subst e2;subst h4
   refine ⟨b,_,rfl,rfl,?_⟩;have hbl:b<H.length:=(q1Z.1 hb).1;have hbl2:b2<H.length:=(q1Z.1 hb2).1;have hne:b≠b2:=by rintro rfl;rw[hb]at hb2;cases hb2
   have hct:=zTC ⟨v,f,n,a⟩ h5 d (qnZ _) h1;have hA3:∀rn:List Nat,AWs rn (zN a) (zN a):=fun rn=>AWs.refl _ _ (by simp);have:=zZ (H:=H) (args:=[.ptr b 0,.agg [.int .i64 v,.int .i64 f,.int .i64 n,.sl b2 0 a.length 3 c]]) hct [b,b2] (by simp[hne]) (by simp[AWs,AW,mfA]) ⟨by rw[q2Z,hb];exact⟨rfl,rfl⟩,hbl,by rw[q2Z,hb2];exact⟨by simp,hA3 _⟩,hbl2,trivial⟩ rfl;have s3:∀C,(H.set b C).set b2 (.cells true (zN a))=H.set b C:=fun C=>zFg hb2 hne;have hfa:=zAd a;simpa[zW,ABlk.own,reB,reA,ZV,Zr,s3,ZH _ _ hfa] using this
 refine ⟨zD Tryz.func44 rfl (by decide),fun args H v H' W hs=>?_,fun args H v H' W hs=>?_⟩
 · obtain⟨b,B,_,_,h⟩:=key args H v H' W hs
   exact h
 · obtain⟨b,B,rfl,rfl,_⟩:=key args H v H' W hs
   refine ⟨by simp,fun c hc hn=>?_⟩;simp only[r1Z]at hn;rw[qfZ (Ne.symm hn)]
def zEd(l:List (List UInt8))(m:Mf):Bool:=m.segs.all (fun g=>decide (mk 4 g.1∈l))&&decide ((Zm m l).length=0)
theorem RD.clean{r:RS}{d:DS}{A B:Nat}(h:RD r d A B)(m:Mf):zEd r.list m=zEa d m:=by
 unfold zEd zEa;rw[h.list]
noncomputable def zOp:Gam:=zh [(128,zDh),(39,zCp),(129,mkS)]
theorem zRX:GOk Pz zOp:=zC zFJ (zC zDV (zC zDa zB))
theorem zP9(m:Mf)(hm:m.segs.length<=1000000000000)(d:RS){B:Nat}(hB:B<=1000000000000)(hok:RSk d 200000 B) :
   Ct Pz 42 [.ptr 0 0,mfA 1 m] [.obj true d.blks,.cells true (zN m.segs)] (.bool (zEd d.list m)) [.obj true d.blks,.cells true (zN m.segs)]:=by
 have hΓ:=zRX;have hA3:∀rn:List Nat,AWs rn (zN m.segs) (zN m.segs):=fun rn=>AWs.refl _ _ (by simp);have hsm:d.small:=hok.small (by omega) hB;obtain⟨hls,hn1,hn2,hkp⟩:=hok.list (by omega);have hkm:=hkp m;have hl9:d.list.length<=1000000:=by omega
 obtain⟨nl,hnl⟩:∃nl,d.list=nl:=⟨_,rfl⟩
 rw[hnl]at hls hn1 hn2 hkm hl9 ⊢;have ht:(nl.map AV.str).take nl.length=nl.map AV.str:=q6Z (by simp);have hlf:∀rn:List Nat,AWs rn (nl.map AV.str) (nl.map AV.str):=fun rn=>AWs.refl _ _ (zH _ _ fun _=>rfl);have hst:zp (nl.map AV.str)=some nl:=Zw _;unfold zEd;obtain⟨O,hO⟩:∃O,Zm m nl=O:=⟨_,rfl⟩
 rw[hO]at hkm ⊢;have hoS:∀(H:zA) (x y:AV),zEP H x=some m->zAf H y=some nl->zCp [x,y] H=some (.sl H.length 0 O.length 1 false,H++[.cells true (O.map AV.str)],[]):=fun H x y h1 h2=>by
   have hsh:∀k,zAK k (O.map AV.str)=O.map AV.str:=fun k=>zv k _ (zH _ _ fun _=>rfl);simp[zCp,zi,h1,h2,hl9,hm,hkm,hsh,shA,shB]
 obtain⟨L,hL⟩:∃L,O.length=L:=⟨_,rfl⟩
 obtain⟨n,hn⟩:∃n,nl.length=n:=⟨_,rfl⟩
 obtain⟨v,f,nx,sg⟩:=m;simp only[mfA];dsimp only at hA3 hm ⊢;have h0:(zN sg).take (sg.length*3)=zN sg:=q6Z (by simp);rw[hL];rw[hn]at hn2 hl9 ht;refine zE Tryz.func42 rfl ?_;simp only[Tryz.ntmps42,q7Z,q8Z,Nat.reduceAdd,Nat.reduceSub,qbZ,q9Z,qaZ];refine wS hΓ (by simp;exact wR) ?_;refine wS hΓ (by simp +decide [zOp,zDh,hsm,hnl,hn,hl9];exact wR) ?_;refine Sim.seq (wS hΓ (by simp +decide;exact wR) ?_);refine Sim.block (Sim.loopW (fun k:Nat=>k<=sg.length/\(sg.all fun g=>decide (mk 4 g.1∈nl))=((sg.drop k).all fun g=>decide (mk 4 g.1∈nl)))
   (fun k=>[.top,.top,.top,.ptr 2 0,.top,.sl 3 0 n 1 false,.int .i64 k]++qbZ 39 .top)
   (fun _=>[.obj true d.blks,.cells true (zN sg),.cells true [.int .i64 v,.int .i64 f,.int .i64 nx,.sl 1 0 sg.length 3 false],.cells true (nl.map .str)]) (fun k=>sg.length-k) 0 (by simp) ⟨qqZ _,rfl⟩ (wW [0,1,2,3] (by simp[AWb,AWg,AW,hA3,hlf])) fun k hk=>?_)
 obtain⟨hk,hk1⟩:=hk;by_cases hlt:k<sg.length
 · have hltI:(k:Int)<sg.length:=by omega
   obtain⟨s,hs⟩:∃s,sg[k]=s:=⟨_,rfl⟩
   have g1:=zEx sg k hlt;have y1:IntKind.i64.wrap ((k:Int)+1)=k+1:=zK (by omega) (by omega);rw[List.drop_eq_getElem_cons hlt]at hk1;rw[hs]at g1 hk1;obtain⟨x,y,z⟩:=s;have g2:(zN sg)[k*3]? = some (.int .i64 x):=by
     have:=congrArg (·[0]?) g1
     simpa[r4Z,sgA] using this
   have g2':∀h,(zN sg)[k*3]'h=.int .i64 x:=fun h=>(q1Z.1 g2).2;have k1:k*3<sg.length*3:=by omega
   rw[List.all_cons]at hk1;dsimp only at hk1;obtain⟨nm,hnm⟩:∃nm,mk 4 x=nm:=⟨_,rfl⟩
   rw[hnm]at hk1;refine wS hΓ (by simp[hltI];exact wR) ?_;refine Sim.seq (Sim.block ?_);refine wS hΓ (by simp;exact wR) ?_;refine Sim.seq (wS hΓ (by simp;exact wR) ?_);refine Sim.block (Sim.loopW (fun j:Nat=>j<=n) (fun j=>[.top,.top,.top,.ptr 2 0,.top,.sl 3 0 n 1 false,.int .i64 k,.bool (decide (nm∈nl.take j)),.int .i64 j]++qbZ 37 .top)
     (fun _=>[.obj true d.blks,.cells true (zN sg),.cells true [.int .i64 v,.int .i64 f,.int .i64 nx,.sl 1 0 sg.length 3 false],.cells true (nl.map .str)]) (fun j=>n-j) 0 (by simp) (qqZ _) (wW [0,1,2,3] (by simp[AWb,AWg,AW,hA3,hlf])) fun j hj=>?_)
   by_cases hjl:j<n
   · have hjI:(j:Int)<n:=by omega
     have hje:j<nl.length:=by omega
     obtain⟨t,htn⟩:∃t,nl[j]=t:=⟨_,rfl⟩
     have hc:∀h,(nl.map AV.str)[j]'h=.str t:=fun h=>by simp[htn]
     have y2:IntKind.i64.wrap ((j:Int)+1)=j+1:=zK (by omega) (by omega);have hnext:decide (nm∈nl.take (j+1))=(decide (nm∈nl.take j) || (t==nm)):=by
       rw[List.take_add_one,q3Z hje,htn];show decide (nm∈nl.take j++[t])=_;rw[Bool.eq_iff_iff,decide_eq_true_iff,Bool.or_eq_true,decide_eq_true_iff,beq_iff_eq,qxZ,r1Z];exact⟨fun h=>h.imp id Eq.symm,fun h=>h.imp id Eq.symm⟩
     obtain⟨th,hth⟩:∃th,decide (nm∈nl.take j)=th:=⟨_,rfl⟩
     rw[hth]at hnext ⊢;refine wS hΓ (by simp[hjI];exact wR) ?_;refine Sim.seq (Sim.block ?_);cases th with
     | true =>
       rw[Bool.true_or]at hnext;refine Sim.draw hmix (by simp) ?_;refine SimR.many hΓ 2 (by simp[zF];rfl) (by omega) (by kernel_rfl) (by simp +decide;first | exact wR | exact⟨by kernel_rfl,wR⟩) ?_;refine SimR.many hΓ 16 (by simp[zF,zM];rfl) (by omega) (by kernel_rfl) (by simp +decide;first | exact wR | exact⟨by kernel_rfl,wR⟩) ?_;refine SimR.done rfl ?_;dsimp only;refine wE hΓ (by simp[y2];exact wT) ?_;exact⟨j+1,by omega,by rw[hnext];exact wW [0,1,2,3] (by simp[AWb,AWg,AW,hA3,hlf]),by omega⟩
     | false =>
       rw[Bool.false_or]at hnext;refine Sim.draw hmix (by simp) ?_;refine SimR.many hΓ 2 (by simp[zF];rfl) (by omega) (by kernel_rfl) (by simp +decide;first | exact wR | exact⟨by kernel_rfl,wR⟩) ?_;refine SimR.many hΓ 16 (by simp[zF,zM];rfl) (by omega) (by kernel_rfl) (by simp +decide [zOp,mkS,hjl,hn,hc,hlt,k1,g2',hnm];first | exact wR | exact⟨by kernel_rfl,wR⟩) ?_;refine SimR.done rfl ?_;dsimp only;refine wE hΓ (by simp[y2];exact wT) ?_;exact⟨j+1,by omega,by rw[hnext];exact wW [0,1,2,3] (by simp[AWb,AWg,AW,hA3,hlf]),by omega⟩
   · have hjn:j=n:=by omega
     subst hjn;have ht2:nl.take j=nl:=q6Z (by omega);rw[ht2];refine wE hΓ (by simp;exact wT) ?_;dsimp only;rw[if_pos rfl];by_cases hin:nm∈nl
     · have hin2:decide (nm∈nl)=true:=by simpa using hin
       rw[hin2,Bool.true_and]at hk1;rw[hin2];refine wE hΓ (by simp +decide;exact wT) ?_;dsimp only;refine wE hΓ (by simp +decide [y1];exact wT) ?_;exact⟨k+1,⟨by omega,hk1⟩,wW [0,1,2,3] (by simp[AWb,AWg,AW,hA3,hlf]),by omega⟩
     · have hin2:decide (nm∈nl)=false:=by simpa using hin
       rw[hin2,Bool.false_and]at hk1;rw[hk1,Bool.false_and,hin2];refine wE hΓ (by simp +decide;exact wT) ?_;exact⟨.inr rfl,_,by simp[Tryz.f42] <;> rfl,wW [0,1] (by simp[AWb,AWg,AW,hA3])⟩
 · have hke:k=sg.length:=by omega
   subst hke;rw[List.drop_of_length_le (qnZ _),List.all_nil]at hk1;rw[hk1,Bool.true_and];refine wE hΓ (by simp;exact wT) ?_;dsimp only;rw[if_pos rfl];refine wE hΓ (by simp +decide [zOp,hoS,zAe,zAf,h0,ht,hst,hL,hn];exact wT) ?_;exact⟨.inr rfl,_,by simp[Tryz.f42] <;> rfl,Weak.mk' [0,1] (by decide) (by decide) (by simp[AWs,AW];rw[Bool.eq_iff_iff];simp) (by simp[AWb,AWg,AW,hA3])⟩
open Classical in
noncomputable def zDv:zS:=fun args H=>match args with
 | [.ptr b 0,.agg [.int .i64 v,.int .i64 f,.int .i64 n,.sl b2 0 L 3 _c]]=>match H[b]?,H[b2]? with
   | some (.obj true sub),some (.cells true l)=>match zGc sub,zCW l with
     | some d,some a=>if RSk d 200000 1000000000000/\a.length=L/\L<=1000000000000 then some (.bool (zEd d.list ⟨v,f,n,a⟩),H,[]) else none
     | _,_=>none
   | _,_=>none
 | _=>none
theorem zJz:Sound Pz 42 zDv:=by
 have key:∀args H v H' W,zDv args H=some (v,H',W)->W=[]/\H'=H/\Ct Pz 42 args H v H':=by
   intro args H v H' W hs;unfold zDv at hs;split at hs;rotate_left
   · cases hs
   rename_i b v f n b2 L c;split at hs <;> try cases hs
   rename_i sub l hb hb2;split at hs <;> try cases hs
   rename_i d a hd hl;split at hs <;> cases hs
   rename_i hc;obtain⟨h1,h4,h5⟩:=hc;have e:=zCo hd;have e2:=zBq hl;subst e;subst e2;subst h4
   refine ⟨rfl,rfl,?_⟩;have hbl:b<H.length:=(q1Z.1 hb).1;have hbl2:b2<H.length:=(q1Z.1 hb2).1;have hne:b≠b2:=by rintro rfl;rw[hb]at hb2;cases hb2
   have hct:=zP9 ⟨v,f,n,a⟩ h5 d (qnZ _) h1;have hA3:∀rn:List Nat,AWs rn (zN a) (zN a):=fun rn=>AWs.refl _ _ (by simp);have:=zZ (H:=H) (args:=[.ptr b 0,.agg [.int .i64 v,.int .i64 f,.int .i64 n,.sl b2 0 a.length 3 c]]) hct [b,b2] (by simp[hne]) (by simp[AWs,AW,mfA]) ⟨by rw[q2Z,hb];exact⟨rfl,rfl⟩,hbl,by rw[q2Z,hb2];exact⟨by simp,hA3 _⟩,hbl2,trivial⟩ rfl;have s2:H.set b (.obj true d.blks)=H:=by
     obtain⟨h1,h2⟩:=q1Z.1 hb;rw[<-h2,List.set_getElem_self]
   have s3:H.set b2 (.cells true (zN a))=H:=by
     obtain⟨h1,h2⟩:=q1Z.1 hb2;rw[<-h2,List.set_getElem_self]
   have hfa:=zAd a;simpa[zW,ABlk.own,reB,reA,ZV,Zr,s2,s3,ZH _ _ hfa] using this
 refine ⟨zD Tryz.func42 rfl (by decide),fun args H v H' W hs=>?_,fun args H v H' W hs=>?_⟩
 · obtain⟨_,_,h⟩:=key args H v H' W hs
   exact h
 · obtain⟨rfl,rfl,_⟩:=key args H v H' W hs
   exact⟨qnZ _,fun _ _ _=>rfl⟩
theorem zTL(v f n:Int)(L:Nat)(c:Bool)(a:List Sg):Ct Pz 36 [.agg [.int .i64 v,.int .i64 f,.int .i64 n,.sl 0 0 L 3 c]] [.cells true (zN a)] (.agg [.int .i64 v,.int .i64 f,.int .i64 n,.sl 0 0 L 3 c]) [.cells true (zN a)]:=by
 have hA3:∀rn:List Nat,AWs rn (zN a) (zN a):=fun rn=>AWs.refl _ _ (by simp);refine zE Tryz.func36 rfl ?_;simp only[Tryz.ntmps36,q7Z,q8Z,Nat.reduceAdd,Nat.reduceSub,qbZ,q9Z,qaZ];refine wS zB (by simp;exact wR) ?_;refine wE zB (by simp +decide;exact wT) ?_;exact⟨.inr rfl,_,by simp[Tryz.f36] <;> rfl,wW [0] (by simp[AWg,AWb,hA3])⟩
def zEJ:zS:=fun args H=>match args with
 | [.agg [.int .i64 v,.int .i64 f,.int .i64 n,.sl b 0 L 3 c]]=>match H[b]? with
   | some (.cells true l)=>match zCW l with
     | some _=>some (.agg [.int .i64 v,.int .i64 f,.int .i64 n,.sl b 0 L 3 c],H,[])
     | none=>none
   | _=>none
 | _=>none
theorem zNh:Sound Pz 36 zEJ:=by
 refine ⟨zD Tryz.func36 rfl (by decide),fun args H v H' W hs=>?_,fun args H v H' W hs=>?_⟩ <;> (unfold zEJ at hs;split at hs <;> try cases hs) <;> (rename_i v f n b L c;split at hs <;> try cases hs) <;> (rename_i l hb;split at hs <;> cases hs;rename_i a hl)
 · have e2:=zBq hl
   subst e2;have hbl:b<H.length:=(q1Z.1 hb).1;have hA3:∀rn:List Nat,AWs rn (zN a) (zN a):=fun rn=>AWs.refl _ _ (by simp);have:=zZ (H:=H) (args:=[.agg [.int .i64 v,.int .i64 f,.int .i64 n,.sl b 0 L 3 c]]) (zTL v f n L c a) [b] (by simp) (by simp[AWs,AW]) ⟨by rw[q2Z,hb];exact⟨id,hA3 _⟩,hbl,trivial⟩ rfl;have s3:H.set b (.cells true (zN a))=H:=by
     obtain⟨h1,h2⟩:=q1Z.1 hb;rw[<-h2,List.set_getElem_self]
   have hfa:=zAd a;simpa[zW,ABlk.own,reB,reA,ZV,Zr,s3,ZH _ _ hfa] using this
 · exact⟨qnZ _,fun _ _ _=>rfl⟩
end
end Go.Proofs.YtfhidaoiofeooaaGreatDoor
