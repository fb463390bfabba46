/- Parts of the proof of SweepLess: lemmas, each with its own conditions. -/
import Derived.Test.YtpmfecnajoojeaaGreatDoorY12
set_option maxHeartbeats 64000000
namespace Go.Proofs.YtpmfecnajoojeaaGreatDoor
set_option maxRecDepth 100000
section
open Go
def objS{σ:Type}(dec:AHeap→Option σ)(enc:σ→AHeap)(g:σ→List AV→AHeap→Option (σ×AV)):Summ:=fun args H=>match args with
 | .ptr b 0::xs=>match H[b]? with
   | some (.obj true sub)=>match dec sub with
     | some s=>match g s xs H with
       | some (s',v)=>some (v,H.set b (.obj true (enc s')),[b])
       | none=>none
     | none=>none
   | _=>none
 | _=>none
attribute [simp] objS
end
section
open Go
attribute [-simp] drawOk_eq adraw qrun acode aops
end
section
open Go
noncomputable section
open Classical
end
end
section
open Go
end
end Go.Proofs.YtpmfecnajoojeaaGreatDoor
