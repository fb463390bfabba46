/- Parts of the proof of ReplayBack: lemmas, each with its own conditions. -/
import Derived.Test.YthafeihjlamhhaaGreatDoorY23
set_option maxHeartbeats 64000000
open Bool renaming and_eq_true → qrZ
namespace Go.Proofs.YthafeihjlamhhaaGreatDoor
set_option maxRecDepth 100000
section
open Go Go.Lib
attribute [-simp] zJ zT zk zL zm
theorem zBk(m:Nat):∀l:List AV,ZT l=true->zi m l=true
 | [],_=>rfl
 | x::l,h=>by
   simp only[ZT,List.all_cons,qrZ]at h;have:=zBk m l h.2
   cases x <;> simp_all [zBQ,zi,below]
end
end Go.Proofs.YthafeihjlamhhaaGreatDoor
