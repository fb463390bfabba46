/- Parts of the proof of ReplayBack: lemmas, each with its own conditions. -/
import Derived.Test.YthafeihjlamhhaaGreatDoorY23
set_option maxHeartbeats 64000000
open Bool renaming and_eq_true → qrZ
namespace Go.Proofs.YthafeihjlamhhaaGreatDoor
set_option maxRecDepth 100000
section
open Go Go.Lib
attribute [-simp] zJ zT zk zL zm
theorem zBf(m:Nat):∀l:List AV,ZS l=true->zi m l=true
 | [],_=>rfl
 | x::l,h=>by
   simp only[ZS,List.all_cons,qrZ]at h;have:=zBf m l h.2
   cases x <;> simp_all [zBT,zi,below]
end
end Go.Proofs.YthafeihjlamhhaaGreatDoor
