/- Parts of the proof of ReplayBack: lemmas, each with its own conditions. -/
import Derived.Test.YthafeihjlamhhaaGreatDoorY44
import Derived.Test.YthafeihjlamhhaaGreatDoorY24
import Derived.Test.YthafeihjlamhhaaGreatDoorY45
set_option maxHeartbeats 64000000
open Bool renaming and_eq_true → qrZ
namespace Go.Proofs.YthafeihjlamhhaaGreatDoor
set_option maxRecDepth 100000
section
open Go
mutual
theorem zPt{n m:Nat}(h:n<=m):∀x:AV,below n x=true->below m x=true
 | .top,_=>rfl
 | .bool _,_=>rfl
 | .int _ _,_=>rfl
 | .str _,_=>rfl
 | .ptr b _,k=>by simp only[below,decide_eq_true_eq]at k ⊢;omega
 | .nilp,_=>rfl
 | .slice b _ _ _ _,k=>by simp only[below,decide_eq_true_eq]at k ⊢;omega
 | .sl b _ _ _ _,k=>by simp only[below,decide_eq_true_eq]at k ⊢;omega
 | .nils,_=>rfl
 | .map b,k=>by simp only[below,decide_eq_true_eq]at k ⊢;omega
 | .nilm,_=>rfl
 | .func _ xs ys,k=>by
   simp only[below,qrZ]at k ⊢;exact⟨zAk h xs k.1,zAk h ys k.2⟩
 | .yld b,k=>by simp only[below,decide_eq_true_eq]at k ⊢;omega
 | .nilf,_=>rfl
 | .agg l,k=>by simp only[below]at k ⊢;exact zAk h l k
 | .tuple l,k=>by simp only[below]at k ⊢;exact zAk h l k
theorem zAk{n m:Nat}(h:n<=m):∀l:List AV,zi n l=true->zi m l=true
 | [],_=>rfl
 | x::xs,k=>by
   simp only[zi,qrZ]at k ⊢;exact⟨zPt h x k.1,zAk h xs k.2⟩
end
end
section
open Go Go.Lib
attribute [-simp] zJ zT zk zL zm
end
end Go.Proofs.YthafeihjlamhhaaGreatDoor
