/- Parts of the proof of SweepLess: lemmas, each with its own conditions. -/
import Derived.Test.YtpmfecnajoojeaaGreatDoorY11
import Derived.Test.YtpmfecnajoojeaaGreatDoorY14
set_option maxHeartbeats 64000000
namespace Go.Proofs.YtpmfecnajoojeaaGreatDoor
set_option maxRecDepth 100000
section
open Go Go.Lib
end
end Go.Proofs.YtpmfecnajoojeaaGreatDoor
