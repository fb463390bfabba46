/- What package-level variables hold, as far as the walks ask. -/
import Derived.WalkKit
import Derived.Lib.ItoaNum
namespace Go.Proofs.Ytjolihoakdifoaa
open Go

/-- An interface's value. -/
def IfcV (v : Value) : Prop := v = .nilIface ∨ ∃ t p, v = .iface t p

/-- Nothing is asked of them. -/
def gsz : Nat := 0
def GloP (_ : Nat → Option Obj) : Prop := True
theorem gloP_none (h : Nat → Option Obj) : GloP h := trivial

/-- A world's first blocks. -/
def gview (w : World) : Nat → Option Obj := fun b => if b < gsz then w.heap[b]? else none

def GloW (w : World) : Prop := GloP (gview w) ∧ gsz ≤ w.heap.size

theorem GloW.next {w w' : World} (h : GloW w) (hs : w.heap.size ≤ w'.heap.size) (hk : ∀ u, u < gsz → w'.heap[u]? = w.heap[u]?) : GloW w' := by
  refine ⟨?_, Nat.le_trans h.2 hs⟩
  have : gview w' = gview w := by
    funext b
    unfold gview
    split
    · exact hk b ‹_›
    · rfl
  rw [this]
  exact h.1

end Go.Proofs.Ytjolihoakdifoaa
