/- Parts of the proof of WalTells: lemmas, each with its own conditions. -/
import Derived.Test.YtfhidaoiofeooaaGreatDoorY22
set_option maxHeartbeats 64000000
open List renaming length_cons → q7Z, length_nil → q8Z, cons_append → q9Z, nil_append → qaZ, replicate → qbZ, mem_cons → qwZ, flatten_cons → rcZ, replicate_succ → rvZ
namespace Go.Proofs.YtfhidaoiofeooaaGreatDoor
open _root_.Go.Proofs.Tryz renaming prog → Pz
set_option maxRecDepth 100000
section
open Go
end
section
open Go
attribute [-simp] zH zc zq zK zy
end
section
open Go Go.Lib
attribute [-simp] zH zc zq zK zy
end
section
open Go Go.Lib
theorem zOB:∀{n:Nat} {l:List AV},All2 zE2 (qbZ n [Prim.int .u16]).flatten l->∃zs:List Int,l=ZE zs/\zs.length=n/\∀z∈zs,0<=z/\z<=65535
 | 0,[],_=>⟨[],rfl,rfl,by simp⟩
 | n+1,x::l,h=>by
   rw[rvZ,rcZ]at h;obtain⟨a,rfl,ha⟩:=h.1;obtain⟨zs,rfl,hl,hq⟩:=zOB (n:=n) (l:=l) h.2;have ba:=bounds_u16 ha;refine ⟨a::zs,rfl,by simp[hl],fun x hx=>?_⟩;rcases qwZ.1 hx with rfl | hx
   · exact⟨ba.1,by omega⟩
   · exact hq x hx
 | 0,_::_,h=>h.elim
 | n+1,[],h=>by
   rw[rvZ,rcZ]at h;exact h.elim
end
section
open Go Go.Lib
attribute [-simp] zH zc zq zK zy
noncomputable def zYU:Gam:=zZ [(67,zM5)]
theorem zVA:GOk Pz zYU:=zB zNB zC
theorem zVU(q:Int)(hq:0<=q):Ct Pz 8 [.int .i64 q] [] (.ptr 0 0) [.obj true (RS.new q).blks]:=by
 have hΓ:=zVA;refine zE Tryz.func8 rfl ?_;simp only[Tryz.ntmps8,q7Z,q8Z,Nat.reduceAdd,Nat.reduceSub,qbZ,q9Z,qaZ];have h1:¬q<0:=by omega
 refine wS hΓ (by simp;exact wR) ?_;refine wS hΓ (by simp[h1];exact wR) ?_;refine Sim.after (wE hΓ (by simp[zYU,zM5];exact wT) ?_);refine Aft.weak (Fn:=[.top,.top,.ptr 0 0]++qbZ 6 .top) (Hn:=(RS.new q).blks) (Weak.mk' [1,0,100] (by decide) (by decide) (by simp[AWs,AW]) (by simp[RS.blks,RS.cell0,RS.new,AWg,AWb,AWs,AW,zAc,zBC])) (by simp) ?_;exact (RS.new q).blks_at.close ([.top,.top,.ptr 0 0]++qbZ 6 .top) (by simp[AWs,AW]) ⟨.inr rfl,_,by simp[Tryz.f8] <;> rfl,Weak.mk' [0] (by decide) rfl (by simp) (by simp[AWb])⟩
theorem zTH(q:Int)(hq:q<0):Ct Pz 8 [.int .i64 q] [] .nilp []:=by
 refine zE Tryz.func8 rfl ?_;simp only[Tryz.ntmps8,q7Z,q8Z,Nat.reduceAdd,Nat.reduceSub,qbZ,q9Z,qaZ];refine wS zC (by simp;exact wR) ?_;refine wE zC (by simp[hq];exact wT) ?_;exact⟨.inr rfl,_,by simp[Tryz.f8] <;> rfl,Weak.mk' [] (by decide) rfl (by simp) (by simp)⟩
noncomputable def zQ6:zJ:=zL6 fun
 | [.int .i64 q]=>if 0<=q then some (.ptr 0 0,[.obj true (RS.new q).blks]) else some (.nilp,[])
 | _=>none
theorem zNj:Sound Pz 8 zQ6:=by
 refine zEt (zD Tryz.func8 rfl (by decide)) fun args v H' h=>?_;split at h;rotate_left
 · cases h
 split at h <;> cases h <;> rename_i hq
 · exact⟨zVU _ hq,rfl,rfl⟩
 · exact⟨zTH _ (by omega),rfl,rfl⟩
end
end Go.Proofs.YtfhidaoiofeooaaGreatDoor
