/- Parts of the proof of SweepLess: lemmas, each with its own conditions. -/
import Derived.WalkKit
import Derived.Lib.ItoaNum
set_option maxHeartbeats 64000000
namespace Go.Proofs.YtpmfecnajoojeaaGreatDoor
set_option maxRecDepth 100000
section
open Go
def IfcV(v:Value):Prop:=v=.nilIface∨∃t p,v=.iface t p
def PowAt(h:Nat→Option Obj):Prop:=∃T fz,h 3=some (.cells (Lib.pow10Tab.map fun z=>Value.int .u64 z).toArray T fz)
def ErrAt(h:Nat→Option Obj)(g:Nat):Prop:=∃T fz v,h g=some (.cells #[v] T fz)∧IfcV v
def gsz:Nat:=max 3 (max 0 1)+1
def GloP(h:Nat→Option Obj):Prop:=PowAt h∧ErrAt h 0∧ErrAt h 1
def gview(w:World):Nat→Option Obj:=fun b=>if b<gsz then w.heap[b]? else none
def GloW(w:World):Prop:=GloP (gview w)∧gsz≤w.heap.size
theorem GloW.next{w w':World}(h:GloW w)(hs:w.heap.size≤w'.heap.size)(hk:∀u,u<gsz→w'.heap[u]? = w.heap[u]?):GloW w':=by
 refine ⟨?_,Nat.le_trans h.2 hs⟩
 have:gview w'=gview w:=by
   funext b
   unfold gview;split
   · exact hk b ‹_›
   · rfl
 rw[this];exact h.1
end
end Go.Proofs.YtpmfecnajoojeaaGreatDoor
