/- Parts of the proof of SweepTells: lemmas, each with its own conditions. -/
import Derived.Test.YtfhidaoiofeooaaGreatDoorY16
set_option maxHeartbeats 64000000
namespace Go.Proofs.YtfhidaoiofeooaaGreatDoor
set_option maxRecDepth 100000
section
open Go Go.Lib
attribute [-simp] zG zT zc zJ zn
end
section
open Go Go.Lib
attribute [-simp] zG zT zc zJ zn
noncomputable section
open Classical
end
end
section
open Go Go.Lib
attribute [-simp] zG zT zc zJ zn
end
end Go.Proofs.YtfhidaoiofeooaaGreatDoor
