/- Parts of the proof of SweepLess: lemmas, each with its own conditions. -/
import Derived.Test.YtpmfecnajoojeaaGreatDoorY7
set_option maxHeartbeats 64000000
namespace Go.Proofs.YtpmfecnajoojeaaGreatDoor
set_option maxRecDepth 100000
section
open Go
def LessF:List AV→List AV→Prop
 | [],[]=>True
 | x::xs,y::ys=>(x=.top∨x=y)∧LessF xs ys
 | _,_=>False
theorem LessF.ok{j:Inj}:∀{xs ys:List AV} {vs:List Value},LessF xs ys→VRs j ys vs→VRs j xs vs
 | [],[],_,_,h=>h
 | x::xs,y::ys,vs,h,hv=>by
   simp only[VRs]at hv ⊢;obtain⟨v,ws,e,h1,h2⟩:=hv;refine ⟨v,ws,e,?_,LessF.ok h.2 h2⟩;rcases h.1 with rfl | rfl
   · simp[VR]
   · exact h1
 | [],_::_,_,h,_=>h.elim
 | _::_,[],_,h,_=>h.elim
theorem Sim.less{P:Program}{r:Option Nat}{n0:Nat}{c:Code}{F Fn:List AV}{H:AHeap}{Q:AX→List AV→AHeap→Prop}(hl:LessF Fn F)(h:Sim P r n0 c Fn H Q):Sim P r n0 c F H Q :=
 fun B j w a m hB hR hF hd=>h B j w a m hB hR (hl.ok hF) hd
attribute [simp] LessF
end
section
open Go
end
end Go.Proofs.YtpmfecnajoojeaaGreatDoor
