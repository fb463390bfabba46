/- Parts of the proof of SweepLess: lemmas, each with its own conditions. -/
import Derived.Test.YtpmfecnajoojeaaGreatDoorY9
set_option maxHeartbeats 64000000
namespace Go.Proofs.YtpmfecnajoojeaaGreatDoor
set_option maxRecDepth 100000
section
open Go Go.Lib
def mayF(k:List UInt8):Prop:=0<k.length∧k.length≤64
instance (k:List UInt8):Decidable (mayF k):=by unfold mayF;infer_instance
end
end Go.Proofs.YtpmfecnajoojeaaGreatDoor
