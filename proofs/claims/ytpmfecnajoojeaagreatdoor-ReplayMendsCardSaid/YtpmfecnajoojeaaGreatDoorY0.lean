/- Parts of the proof of ReplayMends: lemmas, each with its own conditions. -/
import Derived.WalkKit
import Derived.Lib.ItoaNum
set_option maxHeartbeats 64000000
namespace Go.Proofs.YtpmfecnajoojeaaGreatDoor
set_option maxRecDepth 100000
section
open Go
def zUm(v:Value):Prop:=v=.nilIface\/∃t p,v=.iface t p
def zWZ(h:Nat->Option Obj):Prop:=∃T fz,h 3=some (.cells (Lib.pow10Tab.map fun z=>Value.int .u64 z).toArray T fz)
def zKZ(h:Nat->Option Obj)(g:Nat):Prop:=∃T fz v,h g=some (.cells #[v] T fz)/\zUm v
def gsz:Nat:=max 3 (max 0 1)+1
def zYL(h:Nat->Option Obj):Prop:=zWZ h/\zKZ h 0/\zKZ h 1
def zCj(w:World):Nat->Option Obj:=fun b=>if b<gsz then w.heap[b]? else none
def GloW(w:World):Prop:=zYL (zCj w)/\gsz<=w.heap.size
theorem GloW.next{w w':World}(h:GloW w)(hs:w.heap.size<=w'.heap.size)(hk:∀u,u<gsz->w'.heap[u]? = w.heap[u]?):GloW w':=by
 refine ⟨?_,Nat.le_trans h.2 hs⟩
 have:zCj w'=zCj w:=by
   funext b
   unfold zCj;split
   · exact hk b ‹_›
   · rfl
 rw[this];exact h.1
end
end Go.Proofs.YtpmfecnajoojeaaGreatDoor
