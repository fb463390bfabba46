/- Names: the plain law of NameBack. -/
import Derived.Test.YtkeffhaldeedpaaDoorQk
import Derived.Test.YtkeffhaldeedpaaDoorQg
namespace Go.Proofs.YtkeffhaldeedpaaDoor
open Go Go.Lib
set_option maxRecDepth 100000

theorem nparse_mk {k : Int} (hk : k = 3 ∨ k = 4) {m : Nat} (h1 : 1 ≤ m) (h2 : m ≤ 1000000000) : nparse (mk k m) = (k, (m : Int)) := by
  rcases hk with rfl | rfl
  · rw [mk3 h1 h2]; exact (both_wal h1 h2).1
  · rw [mk4 h1 h2]; exact (both_seg h1 h2).1

theorem mk_inj {k : Int} (hk : k = 3 ∨ k = 4) {n m : Nat} (h1 : 1 ≤ n) (h2 : n ≤ 1000000000) (h3 : 1 ≤ m) (h4 : m ≤ 1000000000) (h : mk k n = mk k m) : n = m := by
  have e1 := nparse_mk hk h1 h2
  rw [h, nparse_mk hk h3 h4] at e1
  have := (Prod.mk.inj e1).2
  omega

theorem dg_mono : ∀ (b m n : Nat), m < b → n ≤ m → (dg n).length ≤ (dg m).length
  | 0, _, _, h, _ => absurd h (Nat.not_lt_zero _)
  | b + 1, m, n, h, hn => by
    by_cases h1 : m < 10
    · rw [dg_small h1, dg_small (by omega)]; simp
    · rw [dg_big h1]
      by_cases h2 : n < 10
      · rw [dg_small h2]; simp
      · rw [dg_big h2, List.length_append, List.length_append]
        have := dg_mono b (m / 10) (n / 10) (by omega) (Nat.div_le_div_right hn)
        simp only [List.length_cons, List.length_nil]
        omega

theorem mk_mono {k : Int} (hk : k = 3 ∨ k = 4) {n m : Nat} (h1 : 1 ≤ n) (h4 : m ≤ 1000000000) (h : n ≤ m) : (mk k n).length ≤ (mk k m).length := by
  have := dg_mono (m + 1) m n (by omega) h
  rcases hk with rfl | rfl
  · rw [mk3 h1 (by omega), mk3 (by omega) h4, List.length_append, List.length_append]; omega
  · rw [mk4 h1 (by omega), mk4 (by omega) h4, List.length_append, List.length_append]; omega

theorem cpt_takeB (z : List Int) : (intsA (cpt z)).take (compact z).length = intsA (compact z) := by
  unfold cpt intsA
  rw [List.map_append]
  exact List.take_left' (by simp)

/-- What is known is made again just so. -/
theorem nparse_back (s : List UInt8) (k n : Int) (h : nparse s = (k, n)) : (k = 0 ∧ n = 0) ∨ (k ≠ 0 ∧ mk k n = s) := by
  unfold nparse at h
  split at h
  · cases h; rename_i hs; subst hs; exact .inr ⟨by decide, rfl⟩
  split at h
  · cases h; rename_i hs; subst hs; exact .inr ⟨by decide, rfl⟩
  split at h
  · rename_i hs; cases h; exact .inr ⟨by decide, hs.2⟩
  split at h
  · rename_i hs; cases h; exact .inr ⟨by decide, hs.2⟩
  · cases h; exact .inl ⟨rfl, rfl⟩

theorem nparse_manif : nparse manifW = (1, 0) := by unfold nparse; rw [if_pos rfl]

theorem numOf_mk {k : Int} (hk : k = 3 ∨ k = 4) {m : Nat} (h1 : 1 ≤ m) (h2 : m ≤ 1000000000) : numOf k (mk k m) = some (m : Int) := by
  unfold numOf
  rw [nparse_mk hk h1 h2]
  exact if_pos ⟨rfl, by dsimp only; omega⟩
theorem numOf_manif {k : Int} : numOf k manifW = none := by
  unfold numOf
  rw [nparse_manif]
  exact if_neg (by rintro ⟨_, h⟩; cases h)

def pairI (n m : Int) : List Int := if n = m then [n] else [min n m, max n m]

theorem numN_pair {k : Int} (hk : k = 3 ∨ k = 4) {n m : Nat} (h1 : 1 ≤ n) (h2 : n ≤ 1000000000) (h3 : 1 ≤ m) (h4 : m ≤ 1000000000) :
    numN k [mk k n, mk k m, mk k n, manifW] = pairI n m := by
  refine ascI_ext (numN_asc _ _) ?_ fun x => ?_
  · unfold pairI ascI
    split
    · simp
    · simp; omega
  · rw [mem_numN]
    simp only [List.mem_cons, List.not_mem_nil, or_false]
    have e1 := numOf_mk hk h1 h2
    have e2 := numOf_mk hk h3 h4
    have e3 := numOf_manif (k := k)
    have key : (∃ s, (s = mk k n ∨ s = mk k m ∨ s = mk k n ∨ s = manifW) ∧ numOf k s = some x) ↔ (x = n ∨ x = m) := by
      constructor
      · rintro ⟨s, rfl | rfl | rfl | rfl, h⟩
        · rw [e1] at h; cases h; exact .inl rfl
        · rw [e2] at h; cases h; exact .inr rfl
        · rw [e1] at h; cases h; exact .inl rfl
        · rw [e3] at h; cases h
      · rintro (rfl | rfl)
        · exact ⟨_, .inl rfl, e1⟩
        · exact ⟨_, .inr (.inl rfl), e2⟩
    rw [key]
    unfold pairI
    split
    · rename_i h
      simp; omega
    · simp; omega

end Go.Proofs.YtkeffhaldeedpaaDoor
