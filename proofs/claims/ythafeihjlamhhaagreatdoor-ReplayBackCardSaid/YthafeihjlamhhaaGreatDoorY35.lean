/- Parts of the proof of ReplayBack: lemmas, each with its own conditions. -/
import Derived.Test.YthafeihjlamhhaaGreatDoorY34
set_option maxHeartbeats 64000000
namespace Go.Proofs.YthafeihjlamhhaaGreatDoor
set_option maxRecDepth 100000
section
open Go Go.Lib
attribute [-simp] zJ zT zk zL zm
end
section
open Go Go.Lib
structure SwG (F:List (List UInt8×List UInt8)) (lv:List UInt8->Bool) (fd:FD) (fs:FS):Prop where
 core:Core fd fs
 each:fd.each fun l _=>(∀e∈F,lv e.1=true->Zh fs l e.1=some ⟨e.2,[]⟩)/\∀k n,NM.get l k=some n->∃b,(k,b)∈F/\Zh fs l k=some ⟨b,[]⟩
end
section
open Go Go.Lib
attribute [-simp] zJ zT zk zL zm
end
end Go.Proofs.YthafeihjlamhhaaGreatDoor
