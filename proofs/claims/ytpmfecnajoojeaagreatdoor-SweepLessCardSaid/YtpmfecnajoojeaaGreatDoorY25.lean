/- Parts of the proof of SweepLess: lemmas, each with its own conditions. -/
import Derived.Test.YtpmfecnajoojeaaGreatDoorY22
import Derived.Test.YtpmfecnajoojeaaGreatDoorY23
import Derived.Test.YtpmfecnajoojeaaGreatDoorY24
set_option maxHeartbeats 64000000
open List renaming getElem?_eq_some_iff → q1Z, getElem?_append_left → q4Z
namespace Go.Proofs.YtpmfecnajoojeaaGreatDoor
set_option maxRecDepth 100000
section
open Go
end
section
open Go Go.Lib
attribute [-simp] drawOk_eq adraw qrun acode aops
theorem orphR_get(m:Mf)(l:List (List UInt8)){k:Nat}(hk:k<(orph m l).length):∀h,(orphR m l)[k]'h=.str (orph m l)[k]:=fun h=>by
 have e:(orphR m l)[k]? = some (.str (orph m l)[k]):=by
   unfold orphR
   rw[q4Z (by simpa using hk)]
   simp[hk]
 exact (q1Z.1 e).2
end
end Go.Proofs.YtpmfecnajoojeaaGreatDoor
