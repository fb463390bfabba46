/- Parts of the proof of DiskTells: lemmas, each with its own conditions. -/
import Derived.WalkKit
import Derived.Lib.ItoaNum
set_option maxHeartbeats 64000000
namespace Go.Proofs.YtfhidaoiofeooaaGreat
set_option maxRecDepth 100000
section
open Go
def gsz:Nat:=0
def zXB(_:Nat->Option Obj):Prop:=True
theorem zRT(h:Nat->Option Obj):zXB h:=trivial
def zQz(w:World):Nat->Option Obj:=fun b=>if b<gsz then w.heap[b]? else none
def GloW(w:World):Prop:=zXB (zQz w)/\gsz<=w.heap.size
theorem GloW.next{w w':World}(h:GloW w)(hs:w.heap.size<=w'.heap.size)(hk:∀u,u<gsz->w'.heap[u]? = w.heap[u]?):GloW w':=by
 refine ⟨?_,Nat.le_trans h.2 hs⟩
 have:zQz w'=zQz w:=by
   funext b
   unfold zQz;split
   · exact hk b ‹_›
   · rfl
 rw[this];exact h.1
end
end Go.Proofs.YtfhidaoiofeooaaGreat
