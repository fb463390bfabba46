/- Parts of the proof of SweepTells: lemmas, each with its own conditions. -/
import Derived.Test.YtfhidaoiofeooaaGreatDoorY13
import Derived.Test.YtfhidaoiofeooaaGreatDoorY12
set_option maxHeartbeats 64000000
open List renaming getElem?_eq_some_iff → q1Z, getD_eq_getElem?_getD → q2Z, getElem?_append_left → q4Z, take_of_length_le → q6Z, length_cons → q7Z, length_nil → q8Z, cons_append → q9Z, nil_append → qaZ, replicate → qbZ, getElem?_set_ne → qfZ, mem_cons_self → qhZ, mem_cons_of_mem → qiZ, mem_cons → qwZ, mem_append → qxZ, mem_singleton → r1Z, length_map → r7Z, getElem?_cons_succ → r9Z, nodup_cons → rdZ, map_append → roZ, not_mem_nil → rtZ, map_cons → s1Z, set_cons_zero → s9Z
open Nat renaming le_refl → qnZ, zero_add → s8Z
open Option renaming map_some → rhZ
namespace Go.Proofs.YtfhidaoiofeooaaGreatDoor
open _root_.Go.Proofs.Tryz renaming prog → Pz
set_option maxRecDepth 100000
section
open Go Go.Lib
end
section
open Go Go.Lib
attribute [-simp] zG zT zc zJ zn
def zEI:List FuncId:=[186,335,333]
theorem zJo:GOk Pz (zAF Pz (zh []) 0 zEI 2):=zq hmix zB 0 zEI 2
theorem zQh(f:FD)(k:List UInt8)(n:Int)(hg:NM.get f.now k=none)(hok:f.acts.length<=1000000) :
   Ct Pz 185 [.ptr 0 0,.str [99,114,101,97,116,101],.func 186 [] [.ptr 1 0,.ptr 2 0]] (.obj true f.blks::[zAv (.int .i64 n),zAv (.str k)]) (.int .i64 0) (.obj true (⟨f.d,f.acts++[.cre k n],f.last⟩:FD).blks::[zAv (.int .i64 n),zAv (.str k)]):=by
 have hΓ:=zJo;simp only[zAv];refine zE Tryz.func185 rfl ?_;simp only[Tryz.ntmps185,q7Z,q8Z,Nat.reduceAdd,Nat.reduceSub,qbZ,q9Z,qaZ];refine Sim.aft (Aft.open (b:=0) rfl (by simp) (Aft.done (by simp[zo]) ?_));rw[zBa];simp only[q7Z,q8Z,Nat.reduceAdd,s9Z,q9Z,qaZ];obtain⟨R,eR⟩:∃R,Zs (fun i=>3+3+i) 0 f.acts=R:=⟨_,rfl⟩
 simp only[Nat.reduceAdd]at eR;obtain⟨X,eX⟩:∃X,zf f.acts=X:=⟨_,rfl⟩
 obtain⟨k0,ek⟩:∃k,f.acts.length=k:=⟨_,rfl⟩
 obtain⟨q,eq⟩:∃q,nbD f.acts=q:=⟨_,rfl⟩
 have hR:R.length=k0*2:=by rw[<-eR,<-ek];simp
 have hX:X.length=q:=by rw[<-eX,<-eq,zl]
 rw[eR,eX,ek];rw[ek]at hok;have b1:(k0+1)*24<=140737488355328:=by omega
 have b2:k0+1<=9223372036854775807:=by omega
 have tR:R.take (k0*2)=R:=q6Z (by omega);have hf:=Z2 k f.now 0;rw[hg]at hf;simp only[Option.map_none,s8Z]at hf;have hs:=zHW n hg;refine wS hΓ (by simp;exact wR) ?_;refine wS hΓ (by simp[hX];exact wR) ?_;refine wS hΓ (by simp +decide [zBZ,Zn,hX,hR,tR,b1,b2];first | exact wR | exact⟨by kernel_rfl,wR⟩) ?_;refine Sim.seq (Sim.draw hmix (by simp) ?_);refine SimR.many hΓ 6 (by simp[zF];rfl) (by omega) (by kernel_rfl) (by simp +decide [hX];first | exact wR | exact⟨by kernel_rfl,wR⟩) ?_;refine SimR.one hΓ _ rfl (by kernel_rfl) (by simp +decide [hX,zEI,Tryz.f186,hf,hs];exact wR) ?_;refine SimR.done rfl ?_;dsimp only;refine Sim.aft (Aft.closeFA f (.cre k n) f.last 0 3 4 (q+8) 6 [1,2] (y:=.slice (q+8) 0 (k0+1) 2 false) ?_ ?_ ?_ ?_ ?_ ?_ ?_ ?_ ?_ ?_ (by simp) ?_)
 · rfl
 · simp[AW,ek]
 · rfl
 · exact rfl
 · rw[eR,show q+8=(((((((X.length+2)+1)+1)+1)+1)+1)+1) by omega]
   simp[DAct.fn]
 · intro i B hB
   rw[eX]at hB;have h3:i<X.length:=(q1Z.1 hB).1;rw[show 6+i=((((((i+1)+1)+1)+1)+1)+1) by omega];simp only[r9Z];rw[q4Z h3];exact hB
 · intro i c B h1 h2
   match i,h1,h2 with
   | 0,h1,h2=>cases h1;cases h2;rfl
   | 1,h1,h2=>cases h1;cases h2;rfl
 · rfl
 · simp <;> omega
 · intro c hc
   rw[eq];simp only[qwZ,rtZ,or_false]at hc;omega
 · refine Aft.weak (Fn:=qbZ 39 .top) (Hn:=[.obj true (⟨f.d,f.acts++[.cre k n],f.last⟩:FD).blks,.obj false [.cells true [.int .i64 n]],.obj false [.cells true [.str k]]]) (Weak.mk' [0,1,2] (by decide) (by decide) (zCZ _ _ _ rfl) (zR (b:=0) (by simp) _ _ rfl fun i c x h1 h2=>?_)) (by simp) (Aft.done (by simp) ?_)
   · match i,h1,h2 with
     | 0,h1,h2=>cases h1;cases h2;exact .inl ⟨rfl,rfl⟩
     | 1,h1,h2=>cases h1;cases h2;exact .inr ⟨⟨by simp,by simp⟩,⟨rfl,rfl⟩⟩
     | 2,h1,h2=>cases h1;cases h2;exact .inr ⟨⟨by simp,by simp⟩,⟨rfl,rfl⟩⟩
   refine wE hΓ (by simp;exact wT) ?_;exact⟨.inr rfl,_,by simp[Tryz.f185] <;> rfl,wW [0,1,2] (by simp[AWb])⟩
theorem zQE(f:FD)(a b:List UInt8)(n:Int)(hg:NM.get f.now a=some n)(hok:f.acts.length<=1000000) :
   Ct Pz 185 [.ptr 0 0,.str [114,101,110,97,109,101],.func 335 [] [.ptr 1 0,.ptr 2 0,.ptr 3 0]] (.obj true f.blks::[zAv (.str a),zAv (.int .i64 n),zAv (.str b)]) (.int .i64 0) (.obj true (⟨f.d,f.acts++[.ren a b n],f.last⟩:FD).blks::[zAv (.str a),zAv (.int .i64 n),zAv (.str b)]):=by
 have hΓ:=zJo;simp only[zAv];refine zE Tryz.func185 rfl ?_;simp only[Tryz.ntmps185,q7Z,q8Z,Nat.reduceAdd,Nat.reduceSub,qbZ,q9Z,qaZ];refine Sim.aft (Aft.open (b:=0) rfl (by simp) (Aft.done (by simp[zo]) ?_));rw[zBa];simp only[q7Z,q8Z,Nat.reduceAdd,s9Z,q9Z,qaZ];obtain⟨R,eR⟩:∃R,Zs (fun i=>4+3+i) 0 f.acts=R:=⟨_,rfl⟩
 simp only[Nat.reduceAdd]at eR;obtain⟨X,eX⟩:∃X,zf f.acts=X:=⟨_,rfl⟩
 obtain⟨k0,ek⟩:∃k,f.acts.length=k:=⟨_,rfl⟩
 obtain⟨q,eq⟩:∃q,nbD f.acts=q:=⟨_,rfl⟩
 have hR:R.length=k0*2:=by rw[<-eR,<-ek];simp
 have hX:X.length=q:=by rw[<-eX,<-eq,zl]
 rw[eR,eX,ek];rw[ek]at hok;have b1:(k0+1)*24<=140737488355328:=by omega
 have b2:k0+1<=9223372036854775807:=by omega
 have tR:R.take (k0*2)=R:=q6Z (by omega);have hf:=Z2 a f.now 0;rw[hg]at hf;simp only[rhZ,s8Z]at hf;have hd:=zFP hg;refine wS hΓ (by simp;exact wR) ?_;refine wS hΓ (by simp[hX];exact wR) ?_;refine wS hΓ (by simp +decide [zBZ,Zn,hX,hR,tR,b1,b2];first | exact wR | exact⟨by kernel_rfl,wR⟩) ?_;refine Sim.seq (Sim.draw hmix (by simp) ?_);refine SimR.many hΓ 6 (by simp[zF];rfl) (by omega) (by kernel_rfl) (by simp +decide [hX];first | exact wR | exact⟨by kernel_rfl,wR⟩) ?_;have hf2:=Z2 b (NM.del f.now a) 0;cases hg2:NM.get (NM.del f.now a) b with
 | none =>
   rw[hg2]at hf2;simp only[Option.map_none,s8Z]at hf2;have hs2:=zHW n hg2;refine SimR.one hΓ _ rfl (by kernel_rfl) (by simp +decide [hX,zEI,zBX,Tryz.f335,hf,hd,hf2,hs2];exact wR) ?_;refine SimR.done rfl ?_;dsimp only;refine Sim.aft (Aft.closeFA f (.ren a b n) f.last 0 4 5 (q+9) 7 [1,2,3] (y:=.slice (q+9) 0 (k0+1) 2 false) ?_ ?_ ?_ ?_ ?_ ?_ ?_ ?_ ?_ ?_ (by simp) ?_)
   · rfl
   · simp[AW,ek]
   · rfl
   · exact rfl
   · rw[eR,show q+9=((((((((X.length+2)+1)+1)+1)+1)+1)+1)+1) by omega]
     simp[DAct.fn]
   · intro i B hB
     rw[eX]at hB;have h3:i<X.length:=(q1Z.1 hB).1;rw[show 7+i=(((((((i+1)+1)+1)+1)+1)+1)+1) by omega];simp only[r9Z];rw[q4Z h3];exact hB
   · intro i c B h1 h2
     match i,h1,h2 with
     | 0,h1,h2=>cases h1;cases h2;rfl
     | 1,h1,h2=>cases h1;cases h2;rfl
     | 2,h1,h2=>cases h1;cases h2;rfl
   · rfl
   · simp <;> omega
   · intro c hc
     rw[eq];simp only[qwZ,rtZ,or_false]at hc;omega
   · refine Aft.weak (Fn:=qbZ 39 .top) (Hn:=[.obj true (⟨f.d,f.acts++[.ren a b n],f.last⟩:FD).blks,.obj false [.cells true [.str a]],.obj false [.cells true [.int .i64 n]],.obj false [.cells true [.str b]]]) (Weak.mk' [0,1,2,3] (by decide) (by decide) (zCZ _ _ _ rfl) (zR (b:=0) (by simp) _ _ rfl fun i c x h1 h2=>?_)) (by simp) (Aft.done (by simp) ?_)
     · match i,h1,h2 with
       | 0,h1,h2=>cases h1;cases h2;exact .inl ⟨rfl,rfl⟩
       | 1,h1,h2=>cases h1;cases h2;exact .inr ⟨⟨by simp,by simp⟩,⟨rfl,rfl⟩⟩
       | 2,h1,h2=>cases h1;cases h2;exact .inr ⟨⟨by simp,by simp⟩,⟨rfl,rfl⟩⟩
       | 3,h1,h2=>cases h1;cases h2;exact .inr ⟨⟨by simp,by simp⟩,⟨rfl,rfl⟩⟩
     refine wE hΓ (by simp;exact wT) ?_;exact⟨.inr rfl,_,by simp[Tryz.f185] <;> rfl,wW [0,1,2,3] (by simp[AWb])⟩
 | some v =>
   rw[hg2]at hf2;simp only[rhZ,s8Z]at hf2;have hs2:=zG5 (v:=n) hg2;refine SimR.one hΓ _ rfl (by kernel_rfl) (by simp +decide [hX,zEI,zBX,Tryz.f335,hf,hd,hf2,hs2];exact wR) ?_;refine SimR.done rfl ?_;dsimp only;refine Sim.aft (Aft.closeFA f (.ren a b n) f.last 0 4 5 (q+9) 7 [1,2,3] (y:=.slice (q+9) 0 (k0+1) 2 false) ?_ ?_ ?_ ?_ ?_ ?_ ?_ ?_ ?_ ?_ (by simp) ?_)
   · rfl
   · simp[AW,ek]
   · rfl
   · exact rfl
   · rw[eR,show q+9=((((((((X.length+2)+1)+1)+1)+1)+1)+1)+1) by omega]
     simp[DAct.fn]
   · intro i B hB
     rw[eX]at hB;have h3:i<X.length:=(q1Z.1 hB).1;rw[show 7+i=(((((((i+1)+1)+1)+1)+1)+1)+1) by omega];simp only[r9Z];rw[q4Z h3];exact hB
   · intro i c B h1 h2
     match i,h1,h2 with
     | 0,h1,h2=>cases h1;cases h2;rfl
     | 1,h1,h2=>cases h1;cases h2;rfl
     | 2,h1,h2=>cases h1;cases h2;rfl
   · rfl
   · simp <;> omega
   · intro c hc
     rw[eq];simp only[qwZ,rtZ,or_false]at hc;omega
   · refine Aft.weak (Fn:=qbZ 39 .top) (Hn:=[.obj true (⟨f.d,f.acts++[.ren a b n],f.last⟩:FD).blks,.obj false [.cells true [.str a]],.obj false [.cells true [.int .i64 n]],.obj false [.cells true [.str b]]]) (Weak.mk' [0,1,2,3] (by decide) (by decide) (zCZ _ _ _ rfl) (zR (b:=0) (by simp) _ _ rfl fun i c x h1 h2=>?_)) (by simp) (Aft.done (by simp) ?_)
     · match i,h1,h2 with
       | 0,h1,h2=>cases h1;cases h2;exact .inl ⟨rfl,rfl⟩
       | 1,h1,h2=>cases h1;cases h2;exact .inr ⟨⟨by simp,by simp⟩,⟨rfl,rfl⟩⟩
       | 2,h1,h2=>cases h1;cases h2;exact .inr ⟨⟨by simp,by simp⟩,⟨rfl,rfl⟩⟩
       | 3,h1,h2=>cases h1;cases h2;exact .inr ⟨⟨by simp,by simp⟩,⟨rfl,rfl⟩⟩
     refine wE hΓ (by simp;exact wT) ?_;exact⟨.inr rfl,_,by simp[Tryz.f185] <;> rfl,wW [0,1,2,3] (by simp[AWb])⟩
theorem zQY(f:FD)(k:List UInt8)(n:Int)(hg:NM.get f.now k=some n)(hok:f.acts.length<=1000000) :
   Ct Pz 185 [.ptr 0 0,.str [114,101,109,111,118,101],.func 333 [] [.ptr 1 0]] (.obj true f.blks::[zAv (.str k)]) (.int .i64 0) (.obj true (⟨f.d,f.acts++[.rem k],f.last⟩:FD).blks::[zAv (.str k)]):=by
 have hΓ:=zJo;simp only[zAv];refine zE Tryz.func185 rfl ?_;simp only[Tryz.ntmps185,q7Z,q8Z,Nat.reduceAdd,Nat.reduceSub,qbZ,q9Z,qaZ];refine Sim.aft (Aft.open (b:=0) rfl (by simp) (Aft.done (by simp[zo]) ?_));rw[zBa];simp only[q7Z,q8Z,Nat.reduceAdd,s9Z,q9Z,qaZ];obtain⟨R,eR⟩:∃R,Zs (fun i=>2+3+i) 0 f.acts=R:=⟨_,rfl⟩
 simp only[Nat.reduceAdd]at eR;obtain⟨X,eX⟩:∃X,zf f.acts=X:=⟨_,rfl⟩
 obtain⟨k0,ek⟩:∃k,f.acts.length=k:=⟨_,rfl⟩
 obtain⟨q,eq⟩:∃q,nbD f.acts=q:=⟨_,rfl⟩
 have hR:R.length=k0*2:=by rw[<-eR,<-ek];simp
 have hX:X.length=q:=by rw[<-eX,<-eq,zl]
 rw[eR,eX,ek];rw[ek]at hok;have b1:(k0+1)*24<=140737488355328:=by omega
 have b2:k0+1<=9223372036854775807:=by omega
 have tR:R.take (k0*2)=R:=q6Z (by omega);have hf:=Z2 k f.now 0;rw[hg]at hf;simp only[rhZ,s8Z]at hf;have hd:=zFP hg;refine wS hΓ (by simp;exact wR) ?_;refine wS hΓ (by simp[hX];exact wR) ?_;refine wS hΓ (by simp +decide [zBZ,Zn,hX,hR,tR,b1,b2];first | exact wR | exact⟨by kernel_rfl,wR⟩) ?_;refine Sim.seq (Sim.draw hmix (by simp) ?_);refine SimR.many hΓ 6 (by simp[zF];rfl) (by omega) (by kernel_rfl) (by simp +decide [hX];first | exact wR | exact⟨by kernel_rfl,wR⟩) ?_;refine SimR.one hΓ _ rfl (by kernel_rfl) (by simp +decide [hX,zEI,zBX,Tryz.f333,hf,hd];exact wR) ?_;refine SimR.done rfl ?_;dsimp only;refine Sim.aft (Aft.closeFA f (.rem k) f.last 0 2 3 (q+7) 5 [1] (y:=.slice (q+7) 0 (k0+1) 2 false) ?_ ?_ ?_ ?_ ?_ ?_ ?_ ?_ ?_ ?_ (by simp) ?_)
 · rfl
 · simp[AW,ek]
 · rfl
 · exact rfl
 · rw[eR,show q+7=((((((X.length+2)+1)+1)+1)+1)+1) by omega]
   simp[DAct.fn]
 · intro i B hB
   rw[eX]at hB;have h3:i<X.length:=(q1Z.1 hB).1;rw[show 5+i=(((((i+1)+1)+1)+1)+1) by omega];simp only[r9Z];rw[q4Z h3];exact hB
 · intro i c B h1 h2
   match i,h1,h2 with
   | 0,h1,h2=>cases h1;cases h2;rfl
 · rfl
 · simp <;> omega
 · intro c hc
   rw[eq];simp only[qwZ,rtZ,or_false]at hc;omega
 · refine Aft.weak (Fn:=qbZ 39 .top) (Hn:=[.obj true (⟨f.d,f.acts++[.rem k],f.last⟩:FD).blks,.obj false [.cells true [.str k]]]) (Weak.mk' [0,1] (by decide) (by decide) (zCZ _ _ _ rfl) (zR (b:=0) (by simp) _ _ rfl fun i c x h1 h2=>?_)) (by simp) (Aft.done (by simp) ?_)
   · match i,h1,h2 with
     | 0,h1,h2=>cases h1;cases h2;exact .inl ⟨rfl,rfl⟩
     | 1,h1,h2=>cases h1;cases h2;exact .inr ⟨⟨by simp,by simp⟩,⟨rfl,rfl⟩⟩
   refine wE hΓ (by simp;exact wT) ?_;exact⟨.inr rfl,_,by simp[Tryz.f185] <;> rfl,wW [0,1] (by simp[AWb])⟩
end
section
open Go Go.Lib
attribute [-simp] zG zT zc zJ zn
theorem Aft.closeFS{n0:Nat}{F:List AV}{H:zA}{K:List AV->zA->Prop}(f:FD)(b L:Nat)
   (hb:H[b]? = some (.cells true [.map L,.map (L+1),.sl (L+2) 0 f.acts.length 2 false,.int .i64 f.last]))
   (h1:H[L]? = some (.map (zX f.d))) (h2:H[L+1]? = some (.map (zX f.now))) (hr:H[L+2]? = some (.cells true (Zs (fun i=>L+3+i) 0 f.acts)))
   (hX:∀(i:Nat) (B:ABlk),(zf f.acts)[i]? = some B->H[L+3+i]? = some B) (hbL:b<L) (hn:n0<=H.length) (h:Aft n0 F (ZF H b [L,L+1,L+2] true f.blks) K):Aft n0 F H K:=by
 refine Aft.closeFD f b L (L+1) (L+2) (List.range' (L+3) (nbD f.acts)) (fun i=>L+3+i) (x:=.sl (L+2) 0 f.acts.length 2 false) (o:=true) hb ?_ h1 h2 (fun _=>hr) (by simp) ?_ ?_ ?_ hn h
 · simp[AW]
 · intro i hi
   rw[List.getElem?_range' hi];simp
 · intro i k B e1 e2
   have hi:i<nbD f.acts:=by rw[<-zl];exact (q1Z.1 e2).1
   rw[List.getElem?_range' hi]at e1;simp only[Nat.one_mul,Option.some.injEq]at e1;subst e1;exact hX i B e2
 · simp only[rdZ,qwZ,List.mem_range'_1,not_or]
   exact⟨by omega,by omega,by omega,by omega,List.nodup_range'⟩
def zTa:List UInt8:=[99,114,101,97,116,101]
def zVf:List UInt8:=[114,101,110,97,109,101]
def zTo:List UInt8:=[114,101,109,111,118,101]
def zD6(H:zA)(c:Nat):Option AV:=match H[c]? with
 | some (.obj false [.cells true [x]])=>some x
 | _=>none
theorem zCM{H:zA}{c:Nat}{x:AV}(h:zD6 H c=some x):H[c]? = some (zAv x):=by
 unfold zD6 at h;split at h
 · rename_i hc
   cases h;exact hc
 · cases h
noncomputable section
open Classical
def doS:zS:=fun args H=>match args with
 | [.ptr b 0,.str w,.func F [] [.ptr c1 0]]=>match H[b]?,zD6 H c1 with
   | some (.obj true sub),some (.str k)=>match zEp sub with
     | some f=>if F=333/\w=zTo/\(∃n,NM.get f.now k=some n)/\f.acts.length<=1000000/\b≠c1 then some (.int .i64 0,H.set b (.obj true (⟨f.d,f.acts++[.rem k],f.last⟩:FD).blks),[b]) else none
     | none=>none
   | _,_=>none
 | [.ptr b 0,.str w,.func F [] [.ptr c1 0,.ptr c2 0]]=>match H[b]?,zD6 H c1,zD6 H c2 with
   | some (.obj true sub),some (.int .i64 n),some (.str k)=>match zEp sub with
     | some f=>if F=186/\w=zTa/\NM.get f.now k=none/\f.acts.length<=1000000/\b≠c1/\b≠c2/\c1≠c2 then some (.int .i64 0,H.set b (.obj true (⟨f.d,f.acts++[.cre k n],f.last⟩:FD).blks),[b]) else none
     | none=>none
   | _,_,_=>none
 | [.ptr b 0,.str w,.func F [] [.ptr c1 0,.ptr c2 0,.ptr c3 0]]=>match H[b]?,zD6 H c1,zD6 H c2,zD6 H c3 with
   | some (.obj true sub),some (.str x),some (.int .i64 n),some (.str y)=>match zEp sub with
     | some f=>if F=335/\w=zVf/\NM.get f.now x=some n/\f.acts.length<=1000000/\b≠c1/\b≠c2/\b≠c3/\c1≠c2/\c1≠c3/\c2≠c3 then some (.int .i64 0,H.set b (.obj true (⟨f.d,f.acts++[.ren x y n],f.last⟩:FD).blks),[b]) else none
     | none=>none
   | _,_,_,_=>none
 | _=>none
theorem zQ5:Sound Pz 185 doS:=by
 have key:∀args H v H' W,doS args H=some (v,H',W)->∃b B,W=[b]/\H'=H.set b B/\Ct Pz 185 args H v H':=by
   intro args H v H' W hs;unfold doS at hs;split at hs
   · rename_i b w F c1
     split at hs <;> try cases hs
     rename_i sub k hb hc1;split at hs <;> try cases hs
     rename_i f hf;split at hs <;> cases hs
     rename_i hc;obtain⟨rfl,rfl,⟨n,hg⟩,hk,hn1⟩:=hc;have e:=zA8 hf;subst e;have q1:=zCM hc1;have hbl:b<H.length:=(q1Z.1 hb).1;have l1:c1<H.length:=(q1Z.1 q1).1;refine ⟨b,_,rfl,rfl,?_⟩;have:=zZ (H:=H) (args:=[.ptr b 0,.str zTo,.func 333 [] [.ptr c1 0]]) (zQY f k n hg hk) [b,c1] (by simp[hn1]) ⟨⟨rfl,rfl⟩,rfl,⟨rfl,trivial,⟨rfl,rfl⟩,trivial⟩,trivial⟩
       ⟨by rw[q2Z,hb];exact⟨rfl,rfl⟩,hbl,by rw[q2Z,q1];exact⟨rfl,rfl⟩,l1,trivial⟩ rfl
     simpa[zW,ABlk.own,reB,reA,zAv] using this
   · rename_i b w F c1 c2
     split at hs <;> try cases hs
     rename_i sub n k hb hc1 hc2;split at hs <;> try cases hs
     rename_i f hf;split at hs <;> cases hs
     rename_i hc;obtain⟨rfl,rfl,hg,hk,hn1,hn2,hn3⟩:=hc;have e:=zA8 hf;subst e;have q1:=zCM hc1;have q2:=zCM hc2;have hbl:b<H.length:=(q1Z.1 hb).1;have l1:c1<H.length:=(q1Z.1 q1).1;have l2:c2<H.length:=(q1Z.1 q2).1;refine ⟨b,_,rfl,rfl,?_⟩;have:=zZ (H:=H) (args:=[.ptr b 0,.str zTa,.func 186 [] [.ptr c1 0,.ptr c2 0]]) (zQh f k n hg hk) [b,c1,c2] (by simp[hn1,hn2,hn3]) ⟨⟨rfl,rfl⟩,rfl,⟨rfl,trivial,⟨rfl,rfl⟩,⟨rfl,rfl⟩,trivial⟩,trivial⟩
       ⟨by rw[q2Z,hb];exact⟨rfl,rfl⟩,hbl,by rw[q2Z,q1];exact⟨rfl,rfl⟩,l1,by rw[q2Z,q2];exact⟨rfl,rfl⟩,l2,trivial⟩ rfl
     simpa[zW,ABlk.own,reB,reA,zAv] using this
   · rename_i b w F c1 c2 c3
     split at hs <;> try cases hs
     rename_i sub x n y hb hc1 hc2 hc3;split at hs <;> try cases hs
     rename_i f hf;split at hs <;> cases hs
     rename_i hc;obtain⟨rfl,rfl,hg,hk,hn1,hn2,hn3,hn4,hn5,hn6⟩:=hc;have e:=zA8 hf;subst e;have q1:=zCM hc1;have q2:=zCM hc2;have q3:=zCM hc3;have hbl:b<H.length:=(q1Z.1 hb).1;have l1:c1<H.length:=(q1Z.1 q1).1;have l2:c2<H.length:=(q1Z.1 q2).1;have l3:c3<H.length:=(q1Z.1 q3).1;refine ⟨b,_,rfl,rfl,?_⟩;have:=zZ (H:=H) (args:=[.ptr b 0,.str zVf,.func 335 [] [.ptr c1 0,.ptr c2 0,.ptr c3 0]]) (zQE f x y n hg hk) [b,c1,c2,c3] (by simp[hn1,hn2,hn3,hn4,hn5,hn6]) ⟨⟨rfl,rfl⟩,rfl,⟨rfl,trivial,⟨rfl,rfl⟩,⟨rfl,rfl⟩,⟨rfl,rfl⟩,trivial⟩,trivial⟩
       ⟨by rw[q2Z,hb];exact⟨rfl,rfl⟩,hbl,by rw[q2Z,q1];exact⟨rfl,rfl⟩,l1,by rw[q2Z,q2];exact⟨rfl,rfl⟩,l2,by rw[q2Z,q3];exact⟨rfl,rfl⟩,l3,trivial⟩ rfl
     simpa[zW,ABlk.own,reB,reA,zAv] using this
   · cases hs
 refine ⟨zD Tryz.func185 rfl (by decide),fun args H v H' W hs=>?_,fun args H v H' W hs=>?_⟩
 · obtain⟨b,B,rfl,rfl,h⟩:=key args H v H' W hs
   exact h
 · obtain⟨b,B,rfl,rfl,h⟩:=key args H v H' W hs
   refine ⟨by simp,fun c hc hn=>?_⟩;rw[qfZ (fun e=>hn (by simp[e]))]
end
def zJS:List FuncId:=[184]
noncomputable def zSD:Gam:=zh [(185,doS)]
theorem zO6:GOk Pz (zAF Pz zSD 0 zJS 2):=zq hmix (zC zQ5 zB) 0 zJS 2
end
section
open Go Go.Lib
attribute [-simp] zG zT zc zJ zn
theorem zVJ:Ct Pz 116 [] [] (.ptr 0 0) [.obj true FD.new.blks]:=by
 refine zE Tryz.func116 rfl ?_;simp only[Tryz.ntmps116,q8Z,Nat.reduceSub,qbZ,qaZ];refine wS zB (by simp;exact wR) ?_;refine wS zB (by simp;exact wR) ?_;refine Sim.aft (Aft.closeFD FD.new 2 0 1 3 [] (fun i=>i) (x:=.nils) (o:=true) rfl rfl rfl rfl (fun h=>absurd h (by decide)) rfl (fun i hi=>absurd hi (by simp[FD.new,nbD])) (fun i k B h=>by simp at h) (by decide) (by simp) ?_);refine Aft.weak (Fn:=[.ptr 0 0]++qbZ 4 .top) (Hn:=[.obj true FD.new.blks]) (wW [2] (zR (b:=2) (by simp) _ _ rfl fun i c x h1 h2=>?_)) (by simp) (Aft.done (by simp) ?_)
 · match i,h1,h2 with
   | 0,h1,h2=>cases h1;cases h2;exact .inl ⟨rfl,rfl⟩
 refine wE zB (by simp;exact wT) ?_;exact⟨.inr rfl,_,by simp[Tryz.f116] <;> rfl,wW [0] (by simp[AWb])⟩
def FD.find(f:FD)(k:List UInt8):Int×Bool:=match f.now.get k with
 | some v=>(v,true)
 | none=>(0,false)
theorem zPN(f:FD){n0:Nat}{F:List AV}{K:List AV->zA->Prop}(hn:n0<=1)(h:Aft n0 F [.obj true f.blks] K)(hF:∀rn:List Nat,AWs rn F F) :
   Aft n0 F (.cells true [.map 1,.map 2,.sl 3 0 f.acts.length 2 false,.int .i64 f.last]::.map (zX f.d)::.map (zX f.now)::.cells true (Zs (fun i=>1+3+i) 0 f.acts)::zf f.acts) K:=by
 refine Aft.closeFS f 0 1 rfl rfl rfl rfl (fun i B hB=>?_) (by decide) (by simp;omega) ?_
 · rw[show 1+3+i=i+1+1+1+1 by omega]
   simp only[r9Z];exact hB
 refine Aft.weak (Fn:=F) (Hn:=[.obj true f.blks]) ?_ (by simp;omega) h;by_cases h0:n0=0
 · subst h0
   exact Weak.mk' [0] (by decide) (by decide) (hF _) (zR (b:=0) (by simp) _ _ rfl fun i c x h1 h2=>by
     match i,h1,h2 with
     | 0,h1,h2=>cases h1;cases h2;exact .inl ⟨rfl,rfl⟩)
 · have:n0=1:=by omega
   subst this;exact Weak.mk' [0] (by decide) (by decide) (hF _) (zR (b:=0) (by simp) _ _ rfl fun i c x h1 h2=>by
     match i,h1,h2 with
     | 0,h1,h2=>cases h1;cases h2;exact .inl ⟨rfl,rfl⟩)
theorem zT8(f:FD)(k:List UInt8):Ct Pz 76 [.ptr 0 0,.str k] [.obj true f.blks] (.tuple [.int .i64 (f.find k).1,.bool (f.find k).2]) [.obj true f.blks]:=by
 refine zE Tryz.func76 rfl ?_;simp only[Tryz.ntmps76,q7Z,q8Z,Nat.reduceAdd,Nat.reduceSub,qbZ,q9Z,qaZ];refine Sim.aft (Aft.open (b:=0) rfl (by simp) (Aft.done (by simp[zo]) ?_));rw[zBa];simp only[q7Z,q8Z,Nat.reduceAdd,s9Z,q9Z,qaZ];obtain⟨R,eR⟩:∃R,Zs (fun i=>4+i) 0 f.acts=R:=⟨_,rfl⟩
 obtain⟨X,eX⟩:∃X,zf f.acts=X:=⟨_,rfl⟩
 rw[eX];refine wS zB (by simp;exact wR) ?_;refine wS zB (by simp;exact wR) ?_;have hf:=Z2 k f.now 0;obtain⟨v,is,hv⟩:∃v is,f.find k=(v,is):=⟨_,_,rfl⟩
 rw[hv];refine Sim.seq (Sim.mono (Q:=fun e F' H'=>e=.normal/\LessF ([.top,.top,.top,.top,.int .i64 0,.bool false,.int .i64 v,.bool is]++qbZ 13 .top) F'/\H'=.cells true [.map 1,.map 2,.sl 3 0 f.acts.length 2 false,.int .i64 f.last]::.map (zX f.d)::.map (zX f.now)::.cells true (Zs (fun i=>1+3+i) 0 f.acts)::X) ?_ ?_)
 · unfold FD.find at hv
   cases hg:NM.get f.now k with
   | none =>
     rw[hg]at hf hv;cases hv;simp only[Option.map_none,s8Z]at hf;refine wE zB (by simp +decide [hf];exact wT) ?_;exact⟨rfl,by simp,rfl⟩
   | some u =>
     rw[hg]at hf hv;cases hv;simp only[rhZ,s8Z]at hf;refine wE zB (by simp +decide [hf];exact wT) ?_;exact⟨rfl,by simp,rfl⟩
 rintro e F' H' hlen ⟨rfl,hF,rfl⟩;dsimp only;refine Sim.less hF ?_;rw[<-eX];refine Sim.aft (zPN f (by decide) (Aft.done (by simp) ?_) (by simp));refine wE zB (by simp;exact wT) ?_;exact⟨.inr rfl,_,by simp[Tryz.f76] <;> rfl,wW [0] (by simp[AWb])⟩
theorem zNw(f:FD):Ct Pz 202 [.ptr 0 0] [.obj true f.blks] (.int .i64 f.acts.length) [.obj true f.blks]:=by
 refine zE Tryz.func202 rfl ?_;simp only[Tryz.ntmps202,q7Z,q8Z,Nat.reduceAdd,Nat.reduceSub,qbZ,q9Z,qaZ];refine Sim.aft (Aft.open (b:=0) rfl (by simp) (Aft.done (by simp[zo]) ?_));rw[zBa];simp only[q7Z,q8Z,Nat.reduceAdd,s9Z,q9Z,qaZ];obtain⟨X,eX⟩:∃X,zf f.acts=X:=⟨_,rfl⟩
 rw[eX];refine wS zB (by simp;exact wR) ?_;refine wS zB (by simp;exact wR) ?_;refine wS zB (by simp;exact wR) ?_;refine Sim.less (Fn:=[.top,.top,.int .i64 f.acts.length]++qbZ 7 .top) (by simp) ?_;rw[<-eX];refine Sim.aft (zPN f (by decide) (Aft.done (by simp) ?_) (by simp));refine wE zB (by simp;exact wT) ?_;exact⟨.inr rfl,_,by simp[Tryz.f202] <;> rfl,wW [0] (by simp[AWb])⟩
end
section
open Go Go.Lib
abbrev FS:=List (Int×PF)
def FS.keys(l:FS):List Int:=l.map (·.1)
def FS.get:FS->Int->Option PF
 | [],_=>none
 | e::l,n=>if e.1=n then some e.2 else FS.get l n
def FS.upd:FS->Int->(PF->PF)->FS
 | [],_,_=>[]
 | e::l,n,g=>if e.1=n then (n,g e.2)::l else e::FS.upd l n g
def FS.at(l:FS)(n:Int):Nat:=(FS.keys l).idxOf n
theorem FS.get_none{l:FS}{n:Int}:FS.get l n=none↔n∉FS.keys l:=by
 induction l with
 | nil=>simp[FS.get,FS.keys]
 | cons e l ih =>
   unfold FS.get;simp only[FS.keys,s1Z,qwZ,not_or]at ih ⊢;split
   · rename_i h;simp[h]
   · rename_i h;rw[ih];simp[Ne.symm h]
theorem FS.get_some{l:FS}{n:Int}:(∃f,FS.get l n=some f)↔n∈FS.keys l:=by
 cases h:FS.get l n with
 | none=>simp[FS.get_none.1 h]
 | some v =>
   have:n∈FS.keys l:=by
     apply Classical.byContradiction;intro hn;rw[FS.get_none.2 hn]at h;cases h
   simp[this]
theorem FS.get_mem:∀{l:FS} {n:Int} {f:PF},FS.get l n=some f->(n,f)∈l
 | e::l,n,f,h=>by
   unfold FS.get at h;split at h
   · rename_i hk
     cases h;subst hk;exact qhZ ..
   · exact qiZ _ (FS.get_mem h)
theorem FS.keys_upd(l:FS)(n:Int)(g:PF->PF):FS.keys (FS.upd l n g)=FS.keys l:=by
 induction l with
 | nil=>rfl
 | cons e l ih =>
   unfold FS.upd;split
   · rename_i h;simp[FS.keys,h]
   · simp only[FS.keys,s1Z]at ih ⊢;rw[ih]
theorem FS.mem_upd{l:FS}{n:Int}{g:PF->PF}{e:Int×PF}(h:e∈FS.upd l n g):e∈l\/∃f,(n,f)∈l/\e=(n,g f):=by
 induction l with
 | nil=>cases h
 | cons x l ih =>
   unfold FS.upd at h;split at h
   · rename_i hk
     rcases qwZ.1 h with rfl | h
     · exact .inr ⟨x.2,by rw[<-hk];exact qhZ ..,rfl⟩
     · exact .inl (qiZ _ h)
   · rcases qwZ.1 h with rfl | h
     · exact .inl (qhZ ..)
     · rcases ih h with h | ⟨f,h1,h2⟩
       · exact .inl (qiZ _ h)
       · exact .inr ⟨f,qiZ _ h1,h2⟩
theorem FS.get_app(l:FS)(n m:Int)(f:PF):FS.get (l++[(n,f)]) m=match FS.get l m with | some x=>some x | none=>if n=m then some f else none:=by
 induction l with
 | nil=>rfl
 | cons e l ih =>
   rw[q9Z];unfold FS.get;split
   · rfl
   · exact ih
theorem FS.at_lt{l:FS}{n:Int}{f:PF}(h:FS.get l n=some f):FS.at l n<l.length:=by
 have:n∈FS.keys l:=FS.get_some.1 ⟨f,h⟩;have:=List.idxOf_lt_length_of_mem this;simpa[FS.at,FS.keys] using this
theorem FS.at_get:∀{l:FS} {n:Int} {f:PF},FS.get l n=some f->l[FS.at l n]? = some (n,f)
 | e::l,n,f,h=>by
   unfold FS.get at h;split at h
   · rename_i hk;subst hk;cases h;simp[FS.at,FS.keys]
   · rename_i hk
     have ih:=FS.at_get h;have h3:(e.1==n)=false:=by simpa using hk
     simp only[FS.at,FS.keys,s1Z]at ih ⊢;rw[List.idxOf_cons,h3];simpa using ih
structure DS where
 fd:FD
 fs:FS
 quota:Int
 steps:Int
 armed:Int
 down:Bool
def DS.new(q:Int):DS:=⟨FD.new,[],q,0,0,false⟩
def DS.count(d:DS):DS :=
 if 0<d.armed/\d.down=false then ⟨d.fd,d.fs,d.quota,d.steps+1,d.armed-1,decide (d.armed-1=0)⟩
 else ⟨d.fd,d.fs,d.quota,d.steps+1,d.armed,d.down⟩
def DS.step(d:DS)(g:DS->DS×Int):DS×Int:=if d.count.down then (d.count,13) else g d.count
def DS.file(d:DS)(k:List UInt8):Option PF:=match d.fd.now.get k with
 | some n=>FS.get d.fs n
 | none=>none
def DS.text(d:DS)(k:List UInt8):List UInt8:=match d.file k with
 | some f=>f.now
 | none=>[]
def DS.list(d:DS):List (List UInt8):=if d.down then [] else d.fd.names
def DS.files(d:DS):List (List UInt8×List UInt8):=d.list.map fun k=>(k,d.text k)
def DS.create(d:DS)(k:List UInt8):DS×Int:=d.step fun d =>
 if (d.fd.create k).2.2=0 then (⟨(d.fd.create k).1,d.fs++[((d.fd.create k).2.1,⟨[],[]⟩)],d.quota,d.steps,d.armed,d.down⟩,0)
 else (⟨(d.fd.create k).1,d.fs,d.quota,d.steps,d.armed,d.down⟩,(d.fd.create k).2.2)
def DS.syncDir(d:DS):DS×Int:=d.step fun d=>(⟨d.fd.survive d.fd.acts.length,d.fs,d.quota,d.steps,d.armed,d.down⟩,0)
def DS.remove(d:DS)(a:List UInt8):DS×Int:=d.step fun d=>(⟨(d.fd.remove a).1,d.fs,d.quota,d.steps,d.armed,d.down⟩,(d.fd.remove a).2)
def DS.arm(d:DS)(n:Int):DS:=⟨d.fd,d.fs,d.quota,d.steps,max 0 n,d.down⟩
def zSR(fs:FS)(l:NM)(_:Int):Prop:=∀k n,NM.get l k=some n->n∈FS.keys fs
structure DS.ok (d:DS) (A B:Nat):Prop where
 fd:d.fd.ok A
 num:d.fd.numOk
 has:d.fd.each (zSR d.fs)
 rng:∀n∈FS.keys d.fs,1<=n/\n<=d.fd.last
 nd:(FS.keys d.fs).Nodup
 fine:∀e∈d.fs,e.2.ok B
 len:d.fs.length<=A
 q0:0<=d.quota
 q1:d.quota<=4611686018427387903
 s0:0<=d.steps
 s1:d.steps<=A
 a0:0<=d.armed
 a1:d.armed<=4611686018427387903
theorem DS.ok_new(q:Int)(h0:0<=q)(h1:q<=4611686018427387903):(DS.new q).ok 0 0 :=
 ⟨FD.ok_new,FD.numOk_new,fun i _ k n h=>by simp[DS.new,FD.new,Z6,NM.get]at h,(fun n h=>by simp[DS.new,FS.keys]at h),List.nodup_nil,(fun e h=>by simp[DS.new]at h),qnZ _,h0,h1,Int.le_refl _,Int.le_refl _,Int.le_refl _,by simp[DS.new]⟩
theorem DS.ok_mono{d:DS}{A B A' B':Nat}(h:d.ok A B)(ha:A<=A')(hb:B<=B'):d.ok A' B' :=
 ⟨FD.ok_mono h.fd ha,h.num,h.has,h.rng,h.nd,fun e he=>PF.ok_mono (h.fine e he) hb,by have:=h.len;omega,h.q0,h.q1,h.s0,by have:=h.s1;omega,h.a0,h.a1⟩
theorem DS.ok_count{d:DS}{A B:Nat}(h:d.ok A B):d.count.ok (A+1) B:=by
 have h1:=h.s0;have h2:=h.s1;have h3:=h.a0;have h4:=h.a1;have h5:=h.len;unfold DS.count;split
 · exact⟨FD.ok_mono h.fd (by omega),h.num,h.has,h.rng,h.nd,h.fine,by dsimp only;omega,h.q0,h.q1,by dsimp only;omega,by dsimp only;omega,by dsimp only;omega,by dsimp only;omega⟩
 · exact⟨FD.ok_mono h.fd (by omega),h.num,h.has,h.rng,h.nd,h.fine,by dsimp only;omega,h.q0,h.q1,by dsimp only;omega,by dsimp only;omega,h3,h4⟩
theorem DS.has_file{d:DS}{A B:Nat}(h:d.ok A B){k:List UInt8}{n:Int}(hk:d.fd.now.get k=some n):∃f,FS.get d.fs n=some f/\f.ok B:=by
 obtain⟨f,hf⟩:=FS.get_some.2 (FD.each_now h.has k n hk);exact⟨f,hf,h.fine _ (FS.get_mem hf)⟩
@[simp] theorem DS.count_fd(d:DS):d.count.fd=d.fd:=by unfold DS.count;split <;> rfl
@[simp] theorem DS.count_fs(d:DS):d.count.fs=d.fs:=by unfold DS.count;split <;> rfl
@[simp] theorem DS.count_quota(d:DS):d.count.quota=d.quota:=by unfold DS.count;split <;> rfl
@[simp] theorem DS.count_steps(d:DS):d.count.steps=d.steps+1:=by unfold DS.count;split <;> rfl
theorem zK6{f:FD}{p q:NM->Int->Prop}(h:f.each p)(hpq:∀l n,p l n->q l n):f.each q:=fun i hi=>hpq _ _ (h i hi)
theorem zJa{fs gs:FS}(h:∀n∈FS.keys fs,n∈FS.keys gs):∀l n,zSR fs l n->zSR gs l n:=fun _ _ hp k n hk=>h n (hp k n hk)
theorem DS.ok_fd{d:DS}{A B:Nat}(h:d.ok A B){f:FD}(h1:f.ok (A+1))(h2:f.numOk)(h3:f.each (zSR d.fs))(h4:d.fd.last<=f.last):(⟨f,d.fs,d.quota,d.steps,d.armed,d.down⟩:DS).ok (A+1) B :=
 ⟨h1,h2,h3,fun n hn=>by have:=h.rng n hn;dsimp only;omega,h.nd,h.fine,by have:=h.len;dsimp only;omega,h.q0,h.q1,h.s0,by have:=h.s1;dsimp only;omega,h.a0,h.a1⟩
theorem DS.ok_fs{d:DS}{A B C:Nat}(h:d.ok A B)(n:Int)(g:PF->PF)(hg:∀f,(n,f)∈d.fs->(g f).ok C)(hBC:B<=C):(⟨d.fd,FS.upd d.fs n g,d.quota,d.steps,d.armed,d.down⟩:DS).ok A C:=by
 refine ⟨h.fd,h.num,zK6 h.has (zJa fun m hm=>by dsimp only;rw[FS.keys_upd];exact hm),(fun m hm=>h.rng m (by dsimp only at hm;rw[FS.keys_upd]at hm;exact hm)),(by dsimp only;rw[FS.keys_upd];exact h.nd),fun e he=>?_,?_,h.q0,h.q1,h.s0,h.s1,h.a0,h.a1⟩
 · rcases FS.mem_upd he with he | ⟨f,h1,rfl⟩
   · exact PF.ok_mono (h.fine e he) hBC
   · exact hg f h1
 · have:=congrArg List.length (FS.keys_upd d.fs n g)
   simp only[FS.keys,r7Z]at this;have:=h.len;dsimp only;omega
theorem DS.ok_create{d:DS}{A B:Nat}(h:d.ok A B)(k:List UInt8):(d.create k).1.ok (A+2) B:=by
 have hc:=DS.ok_count h;unfold DS.create DS.step;split
 · exact DS.ok_mono hc (by omega) (qnZ _)
 · generalize d.count=d at hc
   have h1:=FD.ok_create hc.fd k;have h2:=FD.numOk_create hc.num k;dsimp only;unfold FD.create at h1 h2 ⊢;split
   · rename_i hm
     cases hg:d.fd.now.get k with
     | some n =>
       simp only;rw[if_neg (by decide)];exact DS.ok_mono hc (by omega) (qnZ _)
     | none =>
       simp only[hg,if_pos hm]at h1 h2 ⊢;rw[if_pos trivial];refine ⟨h1,h2,?_,?_,?_,fun e he=>?_,?_,hc.q0,hc.q1,hc.s0,?_,hc.a0,hc.a1⟩
       · have hk:∀n∈FS.keys d.fs,n∈FS.keys (d.fs++[(d.fd.last+1,(⟨[],[]⟩:PF))]):=fun n hn=>by simp only[FS.keys,roZ,qxZ]at hn ⊢;exact .inl hn
         refine FD.each_one (f:=d.fd) (zK6 hc.has (zJa hk)) (fun l a b _ hl=>hl) _ rfl rfl (by dsimp only;omega) ?_;intro k' n hn;simp only[DAct.run]at hn;rw[NM.get_put]at hn;split at hn
         · cases hn;simp[FS.keys]
         · exact hk n (FD.each_now hc.has k' n hn)
       · intro n hn
         simp only[FS.keys,roZ,qxZ,s1Z,List.map_nil,r1Z]at hn;rcases hn with hn | hn
         · have:=hc.rng n hn;dsimp only;omega
         · have:=hc.num.1;dsimp only;omega
       · simp only[FS.keys,roZ,s1Z,List.map_nil]
         rw[List.nodup_append];refine ⟨hc.nd,by simp,fun a ha b hb=>?_⟩;simp at hb;have:=hc.rng a ha;omega
       · rcases qxZ.1 he with he | he
         · exact hc.fine e he
         · simp at he;subst he;exact PF.ok_new _ _ (by simp)
       · have:=hc.len;simp;omega
       · have:=hc.s1;dsimp only;omega
   · rw[if_neg (by dsimp only;omega)]
     exact DS.ok_mono hc (by omega) (qnZ _)
theorem DS.ok_syncDir{d:DS}{A B:Nat}(h:d.ok A B):d.syncDir.1.ok (A+2) B:=by
 have hc:=DS.ok_count h;unfold DS.syncDir DS.step;split
 · exact DS.ok_mono hc (by omega) (qnZ _)
 · exact DS.ok_fd hc (FD.ok_mono (FD.ok_survive hc.fd _) (by omega)) (FD.numOk_survive hc.num _) (FD.each_survive hc.has _) (Int.le_refl _)
theorem DS.ok_remove{d:DS}{A B:Nat}(h:d.ok A B)(a:List UInt8):(d.remove a).1.ok (A+2) B:=by
 have hc:=DS.ok_count h;unfold DS.remove DS.step;split
 · exact DS.ok_mono hc (by omega) (qnZ _)
 · generalize d.count=d at hc
   refine DS.ok_fd hc (FD.ok_remove hc.fd a) (FD.numOk_remove hc.num a) ?_ ?_
   · unfold FD.remove
     split
     · refine FD.each_one hc.has (fun l a b _ hl=>hl) _ rfl rfl (Int.le_refl _) ?_
       intro k' m hm;simp only[DAct.run]at hm;rw[NM.get_del (FD.each_now hc.num.2).nd]at hm;split at hm
       · cases hm
       · exact FD.each_now hc.has _ _ hm
     · exact hc.has
   · unfold FD.remove
     split <;> exact Int.le_refl _
theorem DS.ok_arm{d:DS}{A B:Nat}(h:d.ok A B)(n:Int)(hn:n<=4611686018427387903):(d.arm n).ok A B :=
 ⟨h.fd,h.num,h.has,h.rng,h.nd,h.fine,h.len,h.q0,h.q1,h.s0,h.s1,by simp only[DS.arm];omega,by simp only[DS.arm];omega⟩
theorem FD.names_get{f:FD}{k:List UInt8}(h:k∈f.names):∃n,f.now.get k=some n:=NM.get_some.2 ((zU _).subset h)
theorem FD.names_of{f:FD}{k:List UInt8}{n:Int}(h:f.now.get k=some n):k∈f.names:=(zU _).symm.subset (NM.get_some.1 ⟨n,h⟩)
theorem FD.find_get{f:FD}{k:List UInt8}{n:Int}(h:f.now.get k=some n):f.find k=(n,true):=by unfold FD.find;rw[h]
end
end Go.Proofs.YtfhidaoiofeooaaGreatDoor
