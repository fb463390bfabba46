/- Parts of the proof of ReplayBack: lemmas, each with its own conditions. -/
import Derived.WalkKit
import Derived.Lib.ItoaNum
set_option maxHeartbeats 64000000
namespace Go.Proofs.YthafeihjlamhhaaGreatDoor
set_option maxRecDepth 100000
section
open Go
def zUh(v:Value):Prop:=v=.nilIface\/∃t p,v=.iface t p
def zWs(h:Nat->Option Obj):Prop:=∃T fz,h 2=some (.cells (Lib.pow10Tab.map fun z=>Value.int .u64 z).toArray T fz)
def zJ4(h:Nat->Option Obj)(g:Nat):Prop:=∃T fz v,h g=some (.cells #[v] T fz)/\zUh v
def gsz:Nat:=max 2 (max 0 1)+1
def zYf(h:Nat->Option Obj):Prop:=zWs h/\zJ4 h 0/\zJ4 h 1
def zCX(w:World):Nat->Option Obj:=fun b=>if b<gsz then w.heap[b]? else none
def GloW(w:World):Prop:=zYf (zCX w)/\gsz<=w.heap.size
theorem GloW.next{w w':World}(h:GloW w)(hs:w.heap.size<=w'.heap.size)(hk:∀u,u<gsz->w'.heap[u]? = w.heap[u]?):GloW w':=by
 refine ⟨?_,Nat.le_trans h.2 hs⟩
 have:zCX w'=zCX w:=by
   funext b
   unfold zCX;split
   · exact hk b ‹_›
   · rfl
 rw[this];exact h.1
end
end Go.Proofs.YthafeihjlamhhaaGreatDoor
