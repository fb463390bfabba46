/- Parts of the proof of ReplayBack: lemmas, each with its own conditions. -/
import Derived.Test.YthafeihjlamhhaaGreatDoorY15
set_option maxHeartbeats 64000000
namespace Go.Proofs.YthafeihjlamhhaaGreatDoor
set_option maxRecDepth 100000
section
open Go
end
section
open Go
attribute [-simp] zJ zT zk zL zm
end
section
open Go Go.Lib
attribute [-simp] zJ zT zk zL zm
end
end Go.Proofs.YthafeihjlamhhaaGreatDoor
