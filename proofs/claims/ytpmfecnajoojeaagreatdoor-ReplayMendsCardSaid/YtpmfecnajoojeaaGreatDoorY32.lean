/- Parts of the proof of ReplayMends: lemmas, each with its own conditions. -/
import Derived.Test.YtpmfecnajoojeaaGreatDoorY29
set_option maxHeartbeats 64000000
namespace Go.Proofs.YtpmfecnajoojeaaGreatDoor
set_option maxRecDepth 100000
section
open Go Go.Lib
attribute [-simp] zJ zY zn zL zl
end
section
open Go Go.Lib Go.Sort
attribute [-simp] zJ zY zn zL zl
end
end Go.Proofs.YtpmfecnajoojeaaGreatDoor
