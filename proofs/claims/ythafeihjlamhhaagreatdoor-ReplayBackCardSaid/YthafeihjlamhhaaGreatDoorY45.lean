/- Parts of the proof of ReplayBack: lemmas, each with its own conditions. -/
import Derived.Test.YthafeihjlamhhaaGreatDoorY12
set_option maxHeartbeats 64000000
namespace Go.Proofs.YthafeihjlamhhaaGreatDoor
set_option maxRecDepth 100000
section
open Go.RowKit Go.Maps Go.Sort Go.Shelf
abbrev NDS:=FuncId->List AV->zA->Option (List (AV×zA))
structure NDOk (P:Program) (S:NDS):Prop where
 enter:∀f args H l,S f args H=some l->∀cargs w,(callFunc f cargs).run P w=.ok (.enter f cargs) w
 ct:∀f args H l,S f args H=some l->∀j w cargs,R j H w->VRs j args cargs.toList->Calls P f cargs w fun e w'=>∃x∈l,∃cv j',e=.returned cv/\VR j' x.1 cv/\Step H.length j H w j' x.2 w'
end
end Go.Proofs.YthafeihjlamhhaaGreatDoor
