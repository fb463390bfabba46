/- Parts of the proof of WalTells: lemmas, each with its own conditions. -/
import Derived.Test.YtfhidaoiofeooaaGreatDoorY9
import Derived.Test.YtfhidaoiofeooaaGreatDoorY8
set_option maxHeartbeats 64000000
open List renaming getElem?_eq_some_iff → q1Z, getD_eq_getElem?_getD → q2Z, getElem?_append_left → q4Z, take_of_length_le → q6Z, length_cons → q7Z, length_nil → q8Z, cons_append → q9Z, nil_append → qaZ, replicate → qbZ, getElem?_set_ne → qfZ, mem_cons → qwZ, getElem?_cons_succ → r9Z, nodup_cons → rdZ, not_mem_nil → rtZ, set_cons_zero → s9Z
open Option renaming map_some → rhZ
open Nat renaming zero_add → s8Z
namespace Go.Proofs.YtfhidaoiofeooaaGreatDoor
open _root_.Go.Proofs.Tryz renaming prog → Pz
set_option maxRecDepth 100000
section
open Go Go.Lib
end
section
open Go Go.Lib
attribute [-simp] zH zc zq zK zy
def zE3:List FuncId:=[186,335,333]
theorem zLp:GOk Pz (zAV Pz (zZ []) 0 zE3 2):=zp hmix zC 0 zE3 2
theorem zSV(f:FD)(k:List UInt8)(n:Int)(hg:NM.get f.now k=none)(hok:f.acts.length<=1000000) :
   Ct Pz 185 [.ptr 0 0,.str [99,114,101,97,116,101],.func 186 [] [.ptr 1 0,.ptr 2 0]] (.obj true f.blks::[zAq (.int .i64 n),zAq (.str k)]) (.int .i64 0) (.obj true (⟨f.d,f.acts++[.cre k n],f.last⟩:FD).blks::[zAq (.int .i64 n),zAq (.str k)]):=by
 have hΓ:=zLp;simp only[zAq];refine zE Tryz.func185 rfl ?_;simp only[Tryz.ntmps185,q7Z,q8Z,Nat.reduceAdd,Nat.reduceSub,qbZ,q9Z,qaZ];refine Sim.aft (Aft.open (b:=0) rfl (by simp) (Aft.done (by simp[zY]) ?_));rw[zCT];simp only[q7Z,q8Z,Nat.reduceAdd,s9Z,q9Z,qaZ];obtain⟨R,eR⟩:∃R,Z3 (fun i=>3+3+i) 0 f.acts=R:=⟨_,rfl⟩
 simp only[Nat.reduceAdd]at eR;obtain⟨X,eX⟩:∃X,zo f.acts=X:=⟨_,rfl⟩
 obtain⟨k0,ek⟩:∃k,f.acts.length=k:=⟨_,rfl⟩
 obtain⟨q,eq⟩:∃q,nbD f.acts=q:=⟨_,rfl⟩
 have hR:R.length=k0*2:=by rw[<-eR,<-ek];simp
 have hX:X.length=q:=by rw[<-eX,<-eq,zm]
 rw[eR,eX,ek];rw[ek]at hok;have b1:(k0+1)*24<=140737488355328:=by omega
 have b2:k0+1<=9223372036854775807:=by omega
 have tR:R.take (k0*2)=R:=q6Z (by omega);have hf:=zAP k f.now 0;rw[hg]at hf;simp only[Option.map_none,s8Z]at hf;have hs:=zJ3 n hg;refine wS hΓ (by simp;exact wR) ?_;refine wS hΓ (by simp[hX];exact wR) ?_;refine wS hΓ (by simp +decide [zBx,Zw,hX,hR,tR,b1,b2];first | exact wR | exact⟨by kernel_rfl,wR⟩) ?_;refine Sim.seq (Sim.draw hmix (by simp) ?_);refine SimR.many hΓ 6 (by simp[zF];rfl) (by omega) (by kernel_rfl) (by simp +decide [hX];first | exact wR | exact⟨by kernel_rfl,wR⟩) ?_;refine SimR.one hΓ _ rfl (by kernel_rfl) (by simp +decide [hX,zE3,Tryz.f186,hf,hs];exact wR) ?_;refine SimR.done rfl ?_;dsimp only;refine Sim.aft (Aft.closeFA f (.cre k n) f.last 0 3 4 (q+8) 6 [1,2] (y:=.slice (q+8) 0 (k0+1) 2 false) ?_ ?_ ?_ ?_ ?_ ?_ ?_ ?_ ?_ ?_ (by simp) ?_)
 · rfl
 · simp[AW,ek]
 · rfl
 · exact rfl
 · rw[eR,show q+8=(((((((X.length+2)+1)+1)+1)+1)+1)+1) by omega]
   simp[DAct.fn]
 · intro i B hB
   rw[eX]at hB;have h3:i<X.length:=(q1Z.1 hB).1;rw[show 6+i=((((((i+1)+1)+1)+1)+1)+1) by omega];simp only[r9Z];rw[q4Z h3];exact hB
 · intro i c B h1 h2
   match i,h1,h2 with
   | 0,h1,h2=>cases h1;cases h2;rfl
   | 1,h1,h2=>cases h1;cases h2;rfl
 · rfl
 · simp <;> omega
 · intro c hc
   rw[eq];simp only[qwZ,rtZ,or_false]at hc;omega
 · refine Aft.weak (Fn:=qbZ 39 .top) (Hn:=[.obj true (⟨f.d,f.acts++[.cre k n],f.last⟩:FD).blks,.obj false [.cells true [.int .i64 n]],.obj false [.cells true [.str k]]]) (Weak.mk' [0,1,2] (by decide) (by decide) (zAX _ _ _ rfl) (zM (b:=0) (by simp) _ _ rfl fun i c x h1 h2=>?_)) (by simp) (Aft.done (by simp) ?_)
   · match i,h1,h2 with
     | 0,h1,h2=>cases h1;cases h2;exact .inl ⟨rfl,rfl⟩
     | 1,h1,h2=>cases h1;cases h2;exact .inr ⟨⟨by simp,by simp⟩,⟨rfl,rfl⟩⟩
     | 2,h1,h2=>cases h1;cases h2;exact .inr ⟨⟨by simp,by simp⟩,⟨rfl,rfl⟩⟩
   refine wE hΓ (by simp;exact wT) ?_;exact⟨.inr rfl,_,by simp[Tryz.f185] <;> rfl,wW [0,1,2] (by simp[AWb])⟩
theorem zTp(f:FD)(a b:List UInt8)(n:Int)(hg:NM.get f.now a=some n)(hok:f.acts.length<=1000000) :
   Ct Pz 185 [.ptr 0 0,.str [114,101,110,97,109,101],.func 335 [] [.ptr 1 0,.ptr 2 0,.ptr 3 0]] (.obj true f.blks::[zAq (.str a),zAq (.int .i64 n),zAq (.str b)]) (.int .i64 0) (.obj true (⟨f.d,f.acts++[.ren a b n],f.last⟩:FD).blks::[zAq (.str a),zAq (.int .i64 n),zAq (.str b)]):=by
 have hΓ:=zLp;simp only[zAq];refine zE Tryz.func185 rfl ?_;simp only[Tryz.ntmps185,q7Z,q8Z,Nat.reduceAdd,Nat.reduceSub,qbZ,q9Z,qaZ];refine Sim.aft (Aft.open (b:=0) rfl (by simp) (Aft.done (by simp[zY]) ?_));rw[zCT];simp only[q7Z,q8Z,Nat.reduceAdd,s9Z,q9Z,qaZ];obtain⟨R,eR⟩:∃R,Z3 (fun i=>4+3+i) 0 f.acts=R:=⟨_,rfl⟩
 simp only[Nat.reduceAdd]at eR;obtain⟨X,eX⟩:∃X,zo f.acts=X:=⟨_,rfl⟩
 obtain⟨k0,ek⟩:∃k,f.acts.length=k:=⟨_,rfl⟩
 obtain⟨q,eq⟩:∃q,nbD f.acts=q:=⟨_,rfl⟩
 have hR:R.length=k0*2:=by rw[<-eR,<-ek];simp
 have hX:X.length=q:=by rw[<-eX,<-eq,zm]
 rw[eR,eX,ek];rw[ek]at hok;have b1:(k0+1)*24<=140737488355328:=by omega
 have b2:k0+1<=9223372036854775807:=by omega
 have tR:R.take (k0*2)=R:=q6Z (by omega);have hf:=zAP a f.now 0;rw[hg]at hf;simp only[rhZ,s8Z]at hf;have hd:=zGR hg;refine wS hΓ (by simp;exact wR) ?_;refine wS hΓ (by simp[hX];exact wR) ?_;refine wS hΓ (by simp +decide [zBx,Zw,hX,hR,tR,b1,b2];first | exact wR | exact⟨by kernel_rfl,wR⟩) ?_;refine Sim.seq (Sim.draw hmix (by simp) ?_);refine SimR.many hΓ 6 (by simp[zF];rfl) (by omega) (by kernel_rfl) (by simp +decide [hX];first | exact wR | exact⟨by kernel_rfl,wR⟩) ?_;have hf2:=zAP b (NM.del f.now a) 0;cases hg2:NM.get (NM.del f.now a) b with
 | none =>
   rw[hg2]at hf2;simp only[Option.map_none,s8Z]at hf2;have hs2:=zJ3 n hg2;refine SimR.one hΓ _ rfl (by kernel_rfl) (by simp +decide [hX,zE3,zBp,Tryz.f335,hf,hd,hf2,hs2];exact wR) ?_;refine SimR.done rfl ?_;dsimp only;refine Sim.aft (Aft.closeFA f (.ren a b n) f.last 0 4 5 (q+9) 7 [1,2,3] (y:=.slice (q+9) 0 (k0+1) 2 false) ?_ ?_ ?_ ?_ ?_ ?_ ?_ ?_ ?_ ?_ (by simp) ?_)
   · rfl
   · simp[AW,ek]
   · rfl
   · exact rfl
   · rw[eR,show q+9=((((((((X.length+2)+1)+1)+1)+1)+1)+1)+1) by omega]
     simp[DAct.fn]
   · intro i B hB
     rw[eX]at hB;have h3:i<X.length:=(q1Z.1 hB).1;rw[show 7+i=(((((((i+1)+1)+1)+1)+1)+1)+1) by omega];simp only[r9Z];rw[q4Z h3];exact hB
   · intro i c B h1 h2
     match i,h1,h2 with
     | 0,h1,h2=>cases h1;cases h2;rfl
     | 1,h1,h2=>cases h1;cases h2;rfl
     | 2,h1,h2=>cases h1;cases h2;rfl
   · rfl
   · simp <;> omega
   · intro c hc
     rw[eq];simp only[qwZ,rtZ,or_false]at hc;omega
   · refine Aft.weak (Fn:=qbZ 39 .top) (Hn:=[.obj true (⟨f.d,f.acts++[.ren a b n],f.last⟩:FD).blks,.obj false [.cells true [.str a]],.obj false [.cells true [.int .i64 n]],.obj false [.cells true [.str b]]]) (Weak.mk' [0,1,2,3] (by decide) (by decide) (zAX _ _ _ rfl) (zM (b:=0) (by simp) _ _ rfl fun i c x h1 h2=>?_)) (by simp) (Aft.done (by simp) ?_)
     · match i,h1,h2 with
       | 0,h1,h2=>cases h1;cases h2;exact .inl ⟨rfl,rfl⟩
       | 1,h1,h2=>cases h1;cases h2;exact .inr ⟨⟨by simp,by simp⟩,⟨rfl,rfl⟩⟩
       | 2,h1,h2=>cases h1;cases h2;exact .inr ⟨⟨by simp,by simp⟩,⟨rfl,rfl⟩⟩
       | 3,h1,h2=>cases h1;cases h2;exact .inr ⟨⟨by simp,by simp⟩,⟨rfl,rfl⟩⟩
     refine wE hΓ (by simp;exact wT) ?_;exact⟨.inr rfl,_,by simp[Tryz.f185] <;> rfl,wW [0,1,2,3] (by simp[AWb])⟩
 | some v =>
   rw[hg2]at hf2;simp only[rhZ,s8Z]at hf2;have hs2:=zIo (v:=n) hg2;refine SimR.one hΓ _ rfl (by kernel_rfl) (by simp +decide [hX,zE3,zBp,Tryz.f335,hf,hd,hf2,hs2];exact wR) ?_;refine SimR.done rfl ?_;dsimp only;refine Sim.aft (Aft.closeFA f (.ren a b n) f.last 0 4 5 (q+9) 7 [1,2,3] (y:=.slice (q+9) 0 (k0+1) 2 false) ?_ ?_ ?_ ?_ ?_ ?_ ?_ ?_ ?_ ?_ (by simp) ?_)
   · rfl
   · simp[AW,ek]
   · rfl
   · exact rfl
   · rw[eR,show q+9=((((((((X.length+2)+1)+1)+1)+1)+1)+1)+1) by omega]
     simp[DAct.fn]
   · intro i B hB
     rw[eX]at hB;have h3:i<X.length:=(q1Z.1 hB).1;rw[show 7+i=(((((((i+1)+1)+1)+1)+1)+1)+1) by omega];simp only[r9Z];rw[q4Z h3];exact hB
   · intro i c B h1 h2
     match i,h1,h2 with
     | 0,h1,h2=>cases h1;cases h2;rfl
     | 1,h1,h2=>cases h1;cases h2;rfl
     | 2,h1,h2=>cases h1;cases h2;rfl
   · rfl
   · simp <;> omega
   · intro c hc
     rw[eq];simp only[qwZ,rtZ,or_false]at hc;omega
   · refine Aft.weak (Fn:=qbZ 39 .top) (Hn:=[.obj true (⟨f.d,f.acts++[.ren a b n],f.last⟩:FD).blks,.obj false [.cells true [.str a]],.obj false [.cells true [.int .i64 n]],.obj false [.cells true [.str b]]]) (Weak.mk' [0,1,2,3] (by decide) (by decide) (zAX _ _ _ rfl) (zM (b:=0) (by simp) _ _ rfl fun i c x h1 h2=>?_)) (by simp) (Aft.done (by simp) ?_)
     · match i,h1,h2 with
       | 0,h1,h2=>cases h1;cases h2;exact .inl ⟨rfl,rfl⟩
       | 1,h1,h2=>cases h1;cases h2;exact .inr ⟨⟨by simp,by simp⟩,⟨rfl,rfl⟩⟩
       | 2,h1,h2=>cases h1;cases h2;exact .inr ⟨⟨by simp,by simp⟩,⟨rfl,rfl⟩⟩
       | 3,h1,h2=>cases h1;cases h2;exact .inr ⟨⟨by simp,by simp⟩,⟨rfl,rfl⟩⟩
     refine wE hΓ (by simp;exact wT) ?_;exact⟨.inr rfl,_,by simp[Tryz.f185] <;> rfl,wW [0,1,2,3] (by simp[AWb])⟩
theorem zSQ(f:FD)(k:List UInt8)(n:Int)(hg:NM.get f.now k=some n)(hok:f.acts.length<=1000000) :
   Ct Pz 185 [.ptr 0 0,.str [114,101,109,111,118,101],.func 333 [] [.ptr 1 0]] (.obj true f.blks::[zAq (.str k)]) (.int .i64 0) (.obj true (⟨f.d,f.acts++[.rem k],f.last⟩:FD).blks::[zAq (.str k)]):=by
 have hΓ:=zLp;simp only[zAq];refine zE Tryz.func185 rfl ?_;simp only[Tryz.ntmps185,q7Z,q8Z,Nat.reduceAdd,Nat.reduceSub,qbZ,q9Z,qaZ];refine Sim.aft (Aft.open (b:=0) rfl (by simp) (Aft.done (by simp[zY]) ?_));rw[zCT];simp only[q7Z,q8Z,Nat.reduceAdd,s9Z,q9Z,qaZ];obtain⟨R,eR⟩:∃R,Z3 (fun i=>2+3+i) 0 f.acts=R:=⟨_,rfl⟩
 simp only[Nat.reduceAdd]at eR;obtain⟨X,eX⟩:∃X,zo f.acts=X:=⟨_,rfl⟩
 obtain⟨k0,ek⟩:∃k,f.acts.length=k:=⟨_,rfl⟩
 obtain⟨q,eq⟩:∃q,nbD f.acts=q:=⟨_,rfl⟩
 have hR:R.length=k0*2:=by rw[<-eR,<-ek];simp
 have hX:X.length=q:=by rw[<-eX,<-eq,zm]
 rw[eR,eX,ek];rw[ek]at hok;have b1:(k0+1)*24<=140737488355328:=by omega
 have b2:k0+1<=9223372036854775807:=by omega
 have tR:R.take (k0*2)=R:=q6Z (by omega);have hf:=zAP k f.now 0;rw[hg]at hf;simp only[rhZ,s8Z]at hf;have hd:=zGR hg;refine wS hΓ (by simp;exact wR) ?_;refine wS hΓ (by simp[hX];exact wR) ?_;refine wS hΓ (by simp +decide [zBx,Zw,hX,hR,tR,b1,b2];first | exact wR | exact⟨by kernel_rfl,wR⟩) ?_;refine Sim.seq (Sim.draw hmix (by simp) ?_);refine SimR.many hΓ 6 (by simp[zF];rfl) (by omega) (by kernel_rfl) (by simp +decide [hX];first | exact wR | exact⟨by kernel_rfl,wR⟩) ?_;refine SimR.one hΓ _ rfl (by kernel_rfl) (by simp +decide [hX,zE3,zBp,Tryz.f333,hf,hd];exact wR) ?_;refine SimR.done rfl ?_;dsimp only;refine Sim.aft (Aft.closeFA f (.rem k) f.last 0 2 3 (q+7) 5 [1] (y:=.slice (q+7) 0 (k0+1) 2 false) ?_ ?_ ?_ ?_ ?_ ?_ ?_ ?_ ?_ ?_ (by simp) ?_)
 · rfl
 · simp[AW,ek]
 · rfl
 · exact rfl
 · rw[eR,show q+7=((((((X.length+2)+1)+1)+1)+1)+1) by omega]
   simp[DAct.fn]
 · intro i B hB
   rw[eX]at hB;have h3:i<X.length:=(q1Z.1 hB).1;rw[show 5+i=(((((i+1)+1)+1)+1)+1) by omega];simp only[r9Z];rw[q4Z h3];exact hB
 · intro i c B h1 h2
   match i,h1,h2 with
   | 0,h1,h2=>cases h1;cases h2;rfl
 · rfl
 · simp <;> omega
 · intro c hc
   rw[eq];simp only[qwZ,rtZ,or_false]at hc;omega
 · refine Aft.weak (Fn:=qbZ 39 .top) (Hn:=[.obj true (⟨f.d,f.acts++[.rem k],f.last⟩:FD).blks,.obj false [.cells true [.str k]]]) (Weak.mk' [0,1] (by decide) (by decide) (zAX _ _ _ rfl) (zM (b:=0) (by simp) _ _ rfl fun i c x h1 h2=>?_)) (by simp) (Aft.done (by simp) ?_)
   · match i,h1,h2 with
     | 0,h1,h2=>cases h1;cases h2;exact .inl ⟨rfl,rfl⟩
     | 1,h1,h2=>cases h1;cases h2;exact .inr ⟨⟨by simp,by simp⟩,⟨rfl,rfl⟩⟩
   refine wE hΓ (by simp;exact wT) ?_;exact⟨.inr rfl,_,by simp[Tryz.f185] <;> rfl,wW [0,1] (by simp[AWb])⟩
end
section
open Go Go.Lib
attribute [-simp] zH zc zq zK zy
theorem Aft.closeFS{n0:Nat}{F:List AV}{H:zA}{K:List AV->zA->Prop}(f:FD)(b L:Nat)
   (hb:H[b]? = some (.cells true [.map L,.map (L+1),.sl (L+2) 0 f.acts.length 2 false,.int .i64 f.last]))
   (h1:H[L]? = some (.map (zd f.d))) (h2:H[L+1]? = some (.map (zd f.now))) (hr:H[L+2]? = some (.cells true (Z3 (fun i=>L+3+i) 0 f.acts)))
   (hX:∀(i:Nat) (B:ABlk),(zo f.acts)[i]? = some B->H[L+3+i]? = some B) (hbL:b<L) (hn:n0<=H.length) (h:Aft n0 F (ZH H b [L,L+1,L+2] true f.blks) K):Aft n0 F H K:=by
 refine Aft.closeFD f b L (L+1) (L+2) (List.range' (L+3) (nbD f.acts)) (fun i=>L+3+i) (x:=.sl (L+2) 0 f.acts.length 2 false) (o:=true) hb ?_ h1 h2 (fun _=>hr) (by simp) ?_ ?_ ?_ hn h
 · simp[AW]
 · intro i hi
   rw[List.getElem?_range' hi];simp
 · intro i k B e1 e2
   have hi:i<nbD f.acts:=by rw[<-zm];exact (q1Z.1 e2).1
   rw[List.getElem?_range' hi]at e1;simp only[Nat.one_mul,Option.some.injEq]at e1;subst e1;exact hX i B e2
 · simp only[rdZ,qwZ,List.mem_range'_1,not_or]
   exact⟨by omega,by omega,by omega,by omega,List.nodup_range'⟩
def zWp:List UInt8:=[99,114,101,97,116,101]
def zZ1:List UInt8:=[114,101,110,97,109,101]
def zaE:List UInt8:=[114,101,109,111,118,101]
def zFq(H:zA)(c:Nat):Option AV:=match H[c]? with
 | some (.obj false [.cells true [x]])=>some x
 | _=>none
theorem zCp{H:zA}{c:Nat}{x:AV}(h:zFq H c=some x):H[c]? = some (zAq x):=by
 unfold zFq at h;split at h
 · rename_i hc
   cases h;exact hc
 · cases h
noncomputable section
open Classical
def doS:zJ:=fun args H=>match args with
 | [.ptr b 0,.str w,.func F [] [.ptr c1 0]]=>match H[b]?,zFq H c1 with
   | some (.obj true sub),some (.str k)=>match zHF sub with
     | some f=>if F=333/\w=zaE/\(∃n,NM.get f.now k=some n)/\f.acts.length<=1000000/\b≠c1 then some (.int .i64 0,H.set b (.obj true (⟨f.d,f.acts++[.rem k],f.last⟩:FD).blks),[b]) else none
     | none=>none
   | _,_=>none
 | [.ptr b 0,.str w,.func F [] [.ptr c1 0,.ptr c2 0]]=>match H[b]?,zFq H c1,zFq H c2 with
   | some (.obj true sub),some (.int .i64 n),some (.str k)=>match zHF sub with
     | some f=>if F=186/\w=zWp/\NM.get f.now k=none/\f.acts.length<=1000000/\b≠c1/\b≠c2/\c1≠c2 then some (.int .i64 0,H.set b (.obj true (⟨f.d,f.acts++[.cre k n],f.last⟩:FD).blks),[b]) else none
     | none=>none
   | _,_,_=>none
 | [.ptr b 0,.str w,.func F [] [.ptr c1 0,.ptr c2 0,.ptr c3 0]]=>match H[b]?,zFq H c1,zFq H c2,zFq H c3 with
   | some (.obj true sub),some (.str x),some (.int .i64 n),some (.str y)=>match zHF sub with
     | some f=>if F=335/\w=zZ1/\NM.get f.now x=some n/\f.acts.length<=1000000/\b≠c1/\b≠c2/\b≠c3/\c1≠c2/\c1≠c3/\c2≠c3 then some (.int .i64 0,H.set b (.obj true (⟨f.d,f.acts++[.ren x y n],f.last⟩:FD).blks),[b]) else none
     | none=>none
   | _,_,_,_=>none
 | _=>none
theorem zTz:Sound Pz 185 doS:=by
 have key:∀args H v H' W,doS args H=some (v,H',W)->∃b B,W=[b]/\H'=H.set b B/\Ct Pz 185 args H v H':=by
   intro args H v H' W hs;unfold doS at hs;split at hs
   · rename_i b w F c1
     split at hs <;> try cases hs
     rename_i sub k hb hc1;split at hs <;> try cases hs
     rename_i f hf;split at hs <;> cases hs
     rename_i hc;obtain⟨rfl,rfl,⟨n,hg⟩,hk,hn1⟩:=hc;have e:=zBw hf;subst e;have q1:=zCp hc1;have hbl:b<H.length:=(q1Z.1 hb).1;have l1:c1<H.length:=(q1Z.1 q1).1;refine ⟨b,_,rfl,rfl,?_⟩;have:=zP (H:=H) (args:=[.ptr b 0,.str zaE,.func 333 [] [.ptr c1 0]]) (zSQ f k n hg hk) [b,c1] (by simp[hn1]) ⟨⟨rfl,rfl⟩,rfl,⟨rfl,trivial,⟨rfl,rfl⟩,trivial⟩,trivial⟩
       ⟨by rw[q2Z,hb];exact⟨rfl,rfl⟩,hbl,by rw[q2Z,q1];exact⟨rfl,rfl⟩,l1,trivial⟩ rfl
     simpa[zN,ABlk.own,reB,reA,zAq] using this
   · rename_i b w F c1 c2
     split at hs <;> try cases hs
     rename_i sub n k hb hc1 hc2;split at hs <;> try cases hs
     rename_i f hf;split at hs <;> cases hs
     rename_i hc;obtain⟨rfl,rfl,hg,hk,hn1,hn2,hn3⟩:=hc;have e:=zBw hf;subst e;have q1:=zCp hc1;have q2:=zCp hc2;have hbl:b<H.length:=(q1Z.1 hb).1;have l1:c1<H.length:=(q1Z.1 q1).1;have l2:c2<H.length:=(q1Z.1 q2).1;refine ⟨b,_,rfl,rfl,?_⟩;have:=zP (H:=H) (args:=[.ptr b 0,.str zWp,.func 186 [] [.ptr c1 0,.ptr c2 0]]) (zSV f k n hg hk) [b,c1,c2] (by simp[hn1,hn2,hn3]) ⟨⟨rfl,rfl⟩,rfl,⟨rfl,trivial,⟨rfl,rfl⟩,⟨rfl,rfl⟩,trivial⟩,trivial⟩
       ⟨by rw[q2Z,hb];exact⟨rfl,rfl⟩,hbl,by rw[q2Z,q1];exact⟨rfl,rfl⟩,l1,by rw[q2Z,q2];exact⟨rfl,rfl⟩,l2,trivial⟩ rfl
     simpa[zN,ABlk.own,reB,reA,zAq] using this
   · rename_i b w F c1 c2 c3
     split at hs <;> try cases hs
     rename_i sub x n y hb hc1 hc2 hc3;split at hs <;> try cases hs
     rename_i f hf;split at hs <;> cases hs
     rename_i hc;obtain⟨rfl,rfl,hg,hk,hn1,hn2,hn3,hn4,hn5,hn6⟩:=hc;have e:=zBw hf;subst e;have q1:=zCp hc1;have q2:=zCp hc2;have q3:=zCp hc3;have hbl:b<H.length:=(q1Z.1 hb).1;have l1:c1<H.length:=(q1Z.1 q1).1;have l2:c2<H.length:=(q1Z.1 q2).1;have l3:c3<H.length:=(q1Z.1 q3).1;refine ⟨b,_,rfl,rfl,?_⟩;have:=zP (H:=H) (args:=[.ptr b 0,.str zZ1,.func 335 [] [.ptr c1 0,.ptr c2 0,.ptr c3 0]]) (zTp f x y n hg hk) [b,c1,c2,c3] (by simp[hn1,hn2,hn3,hn4,hn5,hn6]) ⟨⟨rfl,rfl⟩,rfl,⟨rfl,trivial,⟨rfl,rfl⟩,⟨rfl,rfl⟩,⟨rfl,rfl⟩,trivial⟩,trivial⟩
       ⟨by rw[q2Z,hb];exact⟨rfl,rfl⟩,hbl,by rw[q2Z,q1];exact⟨rfl,rfl⟩,l1,by rw[q2Z,q2];exact⟨rfl,rfl⟩,l2,by rw[q2Z,q3];exact⟨rfl,rfl⟩,l3,trivial⟩ rfl
     simpa[zN,ABlk.own,reB,reA,zAq] using this
   · cases hs
 refine ⟨zD Tryz.func185 rfl (by decide),fun args H v H' W hs=>?_,fun args H v H' W hs=>?_⟩
 · obtain⟨b,B,rfl,rfl,h⟩:=key args H v H' W hs
   exact h
 · obtain⟨b,B,rfl,rfl,h⟩:=key args H v H' W hs
   refine ⟨by simp,fun c hc hn=>?_⟩;rw[qfZ (fun e=>hn (by simp[e]))]
end
def zNm:List FuncId:=[184]
noncomputable def zYY:Gam:=zZ [(185,doS)]
theorem zWu:GOk Pz (zAV Pz zYY 0 zNm 2):=zp hmix (zB zTz zC) 0 zNm 2
end
end Go.Proofs.YtfhidaoiofeooaaGreatDoor
