/- Parts of the proof of SweepStops: lemmas, each with its own conditions. -/
import Derived.Test.YthafeihjlamhhaaGreatDoorY7
set_option maxHeartbeats 64000000
namespace Go.Proofs.YthafeihjlamhhaaGreatDoor
set_option maxRecDepth 100000
section
open Go
theorem AWg.append{rn:List Nat}{H:AHeap}:∀{xs ys:AHeap} {bs cs:List Nat},AWg rn H xs bs→AWg rn H ys cs→AWg rn H (xs++ys) (bs++cs)
 | [],_,[],_,_,h=>h
 | _::_,_,_::_,_,h,h'=>⟨h.1,AWg.append h.2 h'⟩
 | [],_,_::_,_,h,_=>h.elim
 | _::_,_,[],_,h,_=>h.elim
theorem AWg.of{rn:List Nat}{H:AHeap}:∀(xs:AHeap) (bs:List Nat),xs.length=bs.length→(∀(i:Nat) x b,xs[i]?=some x→bs[i]?=some b→b<H.length→AWb rn x (H.getD b .dead))→AWg rn H xs bs
 | [],[],_,_=>trivial
 | [],_::_,h,_=>by simp at h
 | _::_,[],h,_=>by simp at h
 | x::xs,b::bs,h,hall=>by
   simp only[AWg]
   refine ⟨?_,AWg.of xs bs (by simpa using h) fun i y c hy hc=>hall (i+1) y c (by simpa using hy) (by simpa using hc)⟩
   split
   · exact hall 0 x b rfl rfl ‹_›
   · trivial
end
end Go.Proofs.YthafeihjlamhhaaGreatDoor
