/- Parts of the proof of WalTells: lemmas, each with its own conditions. -/
import Derived.Shelf.SlIterI.Collect
import Derived.Maps.RangeRun
import Derived.Test.YtfhidaoiofeooaaGreatDoorY16
set_option maxHeartbeats 64000000
namespace Go.Proofs.YtfhidaoiofeooaaGreatDoor
set_option maxRecDepth 100000
section
open Go.RowKit Go.Maps Go.Sort Go.Shelf
end
section
open Go Go.Lib Go.MapKept
open Go.ChangeMaps (setBlock)
end
section
open Go Go.Lib
attribute [-simp] zH zc zq zK zy
end
end Go.Proofs.YtfhidaoiofeooaaGreatDoor
