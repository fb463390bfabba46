/- Parts of the proof of ReplayBack: lemmas, each with its own conditions. -/
import Derived.Test.YthafeihjlamhhaaGreatDoorY35
set_option maxHeartbeats 64000000
namespace Go.Proofs.YthafeihjlamhhaaGreatDoor
set_option maxRecDepth 100000
section
open Go Go.Lib
end
end Go.Proofs.YthafeihjlamhhaaGreatDoor
