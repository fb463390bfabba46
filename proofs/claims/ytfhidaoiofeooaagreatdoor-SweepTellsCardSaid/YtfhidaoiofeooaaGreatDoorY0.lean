/- Parts of the proof of SweepTells: lemmas, each with its own conditions. -/
import Derived.WalkKit
import Derived.Lib.ItoaNum
set_option maxHeartbeats 64000000
namespace Go.Proofs.YtfhidaoiofeooaaGreatDoor
set_option maxRecDepth 100000
section
open Go
def zTT(v:Value):Prop:=v=.nilIface\/∃t p,v=.iface t p
def zUU(h:Nat->Option Obj):Prop:=∃T fz,h 3=some (.cells (Lib.pow10Tab.map fun z=>Value.int .u64 z).toArray T fz)
def zJc(h:Nat->Option Obj)(g:Nat):Prop:=∃T fz v,h g=some (.cells #[v] T fz)/\zTT v
def gsz:Nat:=max 3 (max 1 2)+1
def zVy(h:Nat->Option Obj):Prop:=zUU h/\zJc h 1/\zJc h 2
def zCb(w:World):Nat->Option Obj:=fun b=>if b<gsz then w.heap[b]? else none
def GloW(w:World):Prop:=zVy (zCb w)/\gsz<=w.heap.size
theorem GloW.next{w w':World}(h:GloW w)(hs:w.heap.size<=w'.heap.size)(hk:∀u,u<gsz->w'.heap[u]? = w.heap[u]?):GloW w':=by
 refine ⟨?_,Nat.le_trans h.2 hs⟩;have:zCb w'=zCb w:=by
   funext b
   unfold zCb;split
   · exact hk b ‹_›
   · rfl
 rw[this];exact h.1
end
end Go.Proofs.YtfhidaoiofeooaaGreatDoor
