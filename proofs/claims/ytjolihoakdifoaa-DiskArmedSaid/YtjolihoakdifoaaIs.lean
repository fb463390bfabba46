/- Texts in order. -/
import Derived.Test.YtjolihoakdifoaaGd
import Derived.Sort.Walk0
import Derived.Sort.KeysCollected
namespace Go.Proofs.Ytjolihoakdifoaa
open Go.RowKit Go.Maps Go.Sort
set_option maxRecDepth 100000

/-- Texts in order. -/
def insU (x : List UInt8) : List (List UInt8) → List (List UInt8)
  | [] => [x]
  | y :: ys => if Op.bytesLess y x then y :: insU x ys else x :: y :: ys
def sortU : List (List UInt8) → List (List UInt8)
  | [] => []
  | x :: xs => insU x (sortU xs)

theorem insU_perm (x : List UInt8) : ∀ ys, (insU x ys).Perm (x :: ys)
  | [] => .refl _
  | y :: ys => by
    simp only [insU]
    split
    · exact ((insU_perm x ys).cons y).trans (.swap x y ys)
    · exact .refl _
theorem sortU_perm : ∀ xs, (sortU xs).Perm xs
  | [] => .refl _
  | x :: xs => (insU_perm x _).trans ((sortU_perm xs).cons x)

theorem insU_sorted (x : List UInt8) : ∀ ys, ys.Pairwise (fun a b => leB a b = true) → (insU x ys).Pairwise (fun a b => leB a b = true)
  | [], _ => by simp [insU]
  | y :: ys, h => by
    obtain ⟨h1, h2⟩ := List.pairwise_cons.1 h
    simp only [insU]
    split
    · rename_i hl
      rw [bytesLess_eq] at hl
      have hl' : y < x := by simpa using hl
      refine List.pairwise_cons.2 ⟨fun z hz => ?_, insU_sorted x ys h2⟩
      rcases List.mem_cons.1 ((insU_perm x ys).mem_iff.1 hz) with rfl | hz
      · simp only [leB, decide_eq_true_eq]; exact Std.le_of_lt hl'
      · exact h1 z hz
    · rename_i hl
      rw [bytesLess_eq] at hl
      have hl' : x ≤ y := by simpa using hl
      refine List.pairwise_cons.2 ⟨fun z hz => ?_, h⟩
      rcases List.mem_cons.1 hz with rfl | hz
      · simpa [leB] using hl'
      · have := h1 z hz
        simp only [leB, decide_eq_true_eq] at this ⊢
        exact List.le_trans hl' this
theorem sortU_sorted : ∀ xs, (sortU xs).Pairwise (fun a b => leB a b = true)
  | [] => .nil
  | x :: xs => insU_sorted x _ (sortU_sorted xs)

theorem sortU_eq {l l' : List (List UInt8)} (h : l.Perm l') : l.mergeSort leB = sortU l' := by
  have tr : ∀ a b c : List UInt8, leB a b = true → leB b c = true → leB a c = true := fun a b c h1 h2 => by simp only [leB, decide_eq_true_eq] at *; exact List.le_trans h1 h2
  have to : ∀ a b : List UInt8, (leB a b || leB b a) = true := fun a b => by simp only [leB, Bool.or_eq_true, decide_eq_true_eq]; exact List.le_total a b
  refine List.Perm.eq_of_pairwise (le := fun a b => leB a b = true) (fun a b _ _ h1 h2 => ?_) (List.pairwise_mergeSort tr to l) (sortU_sorted l') (((List.mergeSort_perm l leB).trans h).trans (sortU_perm l').symm)
  simp only [leB, decide_eq_true_eq] at h1 h2
  exact List.le_antisymm h1 h2


end Go.Proofs.Ytjolihoakdifoaa
