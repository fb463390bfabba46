/- Parts of the proof of WalTells: lemmas, each with its own conditions. -/
import Derived.WalkKit
import Derived.Lib.ItoaNum
set_option maxHeartbeats 64000000
namespace Go.Proofs.YtfhidaoiofeooaaGreatDoor
set_option maxRecDepth 100000
section
open Go
def zYP(h:Nat->Option Obj):Prop:=∃T fz,h 3=some (.cells (Lib.pow10Tab.map fun z=>Value.int .u64 z).toArray T fz)
def gsz:Nat:=3+1
def zaR(h:Nat->Option Obj):Prop:=zYP h/\True
def zJn(w:World):Nat->Option Obj:=fun b=>if b<gsz then w.heap[b]? else none
def GloW(w:World):Prop:=zaR (zJn w)/\gsz<=w.heap.size
theorem GloW.next{w w':World}(h:GloW w)(hs:w.heap.size<=w'.heap.size)(hk:∀u,u<gsz->w'.heap[u]? = w.heap[u]?):GloW w':=by
 refine ⟨?_,Nat.le_trans h.2 hs⟩;have:zJn w'=zJn w:=by
   funext b
   unfold zJn;split
   · exact hk b ‹_›
   · rfl
 rw[this];exact h.1
end
end Go.Proofs.YtfhidaoiofeooaaGreatDoor
