/- Parts of the proof of ReplayReads: lemmas, each with its own conditions. -/
import Derived.Shelf.Spec.SlicesInsertGrow
import Derived.Test.YthafeihjlamhhaaGreatDoorY6
import Derived.Test.YthafeihjlamhhaaGreatDoorTypes
namespace Go.Proofs.YthafeihjlamhhaaGreatDoor
open Go Go.RowKit Go.Lib
set_option maxRecDepth 100000
end Go.Proofs.YthafeihjlamhhaaGreatDoor
namespace Go.Proofs.YthafeihjlamhhaaGreatDoor
open Go Go.RowKit Go.Lib
set_option maxRecDepth 100000
attribute [-simp] drawOk_eq adraw qrun acode aops
end Go.Proofs.YthafeihjlamhhaaGreatDoor
