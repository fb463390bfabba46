/- Parts of the proof of WalKeeps: lemmas, each with its own conditions. -/
import Derived.Test.YtpmfecnajoojeaaGreatDoorY7
set_option maxHeartbeats 64000000
open Bool renaming and_eq_true → qrZ
namespace Go.Proofs.YtpmfecnajoojeaaGreatDoor
set_option maxRecDepth 100000
section
open Go
mutual
theorem below_mono{n m:Nat}(h:n≤m):∀x:AV,below n x=true→below m x=true
 | .top,_=>rfl
 | .bool _,_=>rfl
 | .int _ _,_=>rfl
 | .str _,_=>rfl
 | .ptr b _,k=>by simp only[below,decide_eq_true_eq]at k ⊢;omega
 | .nilp,_=>rfl
 | .slice b _ _ _ _,k=>by simp only[below,decide_eq_true_eq]at k ⊢;omega
 | .sl b _ _ _ _,k=>by simp only[below,decide_eq_true_eq]at k ⊢;omega
 | .nils,_=>rfl
 | .map b,k=>by simp only[below,decide_eq_true_eq]at k ⊢;omega
 | .nilm,_=>rfl
 | .func _ xs ys,k=>by
   simp only[below,qrZ]at k ⊢;exact⟨belows_mono h xs k.1,belows_mono h ys k.2⟩
 | .yld b,k=>by simp only[below,decide_eq_true_eq]at k ⊢;omega
 | .nilf,_=>rfl
 | .agg l,k=>by simp only[below]at k ⊢;exact belows_mono h l k
 | .tuple l,k=>by simp only[below]at k ⊢;exact belows_mono h l k
theorem belows_mono{n m:Nat}(h:n≤m):∀l:List AV,belows n l=true→belows m l=true
 | [],_=>rfl
 | x::xs,k=>by
   simp only[belows,qrZ]at k ⊢;exact⟨below_mono h x k.1,belows_mono h xs k.2⟩
end
end
end Go.Proofs.YtpmfecnajoojeaaGreatDoor
