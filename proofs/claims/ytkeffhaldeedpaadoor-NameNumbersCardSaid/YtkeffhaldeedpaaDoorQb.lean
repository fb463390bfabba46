/- Names: plain law of what a text is. -/
import Derived.Test.YtkeffhaldeedpaaDoorQa
import Derived.Lib.AtoiTie
namespace Go.Proofs.YtkeffhaldeedpaaDoor
open Go Go.Lib

theorem decFrom_append : ∀ (l r : List UInt8) (acc : Nat), decFrom acc (l ++ r) = (decFrom acc l).bind fun n => decFrom n r
  | [], r, acc => rfl
  | b :: l, r, acc => by
    simp only [List.cons_append, decFrom]
    cases digitVal b with
    | none => rfl
    | some d => exact decFrom_append l r _

theorem digit_ok {d : Nat} (h : d ≤ 9) : digitVal (UInt8.ofNat (48 + d)) = some d := by
  have e : (UInt8.ofNat (48 + d)).toNat = 48 + d := by simp [UInt8.toNat_ofNat']; omega
  unfold digitVal
  rw [e, if_pos (by omega)]
  congr 1
  omega

theorem decFrom_dg : ∀ (k m : Nat), m < k → decFrom 0 (dg m) = some m
  | 0, m, h => by omega
  | k + 1, m, h => by
    by_cases hm : m < 10
    · rw [dg_small hm]
      simp only [decFrom, digit_ok (show m ≤ 9 by omega)]
      simp
    · rw [dg_big hm, decFrom_append, decFrom_dg k (m / 10) (by omega)]
      simp only [Option.bind, decFrom, digit_ok (show m % 10 ≤ 9 by omega)]
      congr 1
      omega

theorem dg_ne (m : Nat) : dg m ≠ [] := by
  by_cases hm : m < 10
  · rw [dg_small hm]; simp
  · rw [dg_big hm]; simp

theorem dg_bytes : ∀ (k m : Nat), m < k → ∀ b ∈ dg m, 48 ≤ b.toNat ∧ b.toNat ≤ 57
  | 0, m, h => by omega
  | k + 1, m, h => by
    have one : ∀ d, d ≤ 9 → 48 ≤ (UInt8.ofNat (48 + d)).toNat ∧ (UInt8.ofNat (48 + d)).toNat ≤ 57 := fun d hd => by
      have e : (UInt8.ofNat (48 + d)).toNat = 48 + d := by simp [UInt8.toNat_ofNat']; omega
      omega
    intro b hb
    by_cases hm : m < 10
    · rw [dg_small hm] at hb
      rcases List.mem_singleton.1 hb with rfl
      exact one m (by omega)
    · rw [dg_big hm] at hb
      rcases List.mem_append.1 hb with hb | hb
      · exact dg_bytes k (m / 10) (by omega) b hb
      · rcases List.mem_singleton.1 hb with rfl
        exact one _ (by omega)

theorem dg_len (m : Nat) (h : m ≤ 1000000000) : 1 ≤ (dg m).length ∧ (dg m).length ≤ 10 :=
  ⟨List.length_pos_iff.2 (dg_ne m), dg_length 9 m (by omega)⟩

theorem atoi_dg (m : Nat) (h : m ≤ 1000000000) : atoiAll (dg m) = .ok (m : Int) := by
  rw [atoiAll_short _ (by have := (dg_len m h).2; omega)]
  have hd := decFrom_dg (m + 1) m (by omega)
  have hb := dg_bytes (m + 1) m (by omega)
  have hne := dg_ne m
  cases hq : dg m with
  | nil => exact absurd hq hne
  | cons b r =>
    rw [hq] at hd hb
    have h1 := hb b (List.mem_cons_self ..)
    have h45 : (b == 45) = false := by
      rw [beq_eq_false_iff_ne]; rintro rfl; exact absurd h1.1 (by decide)
    have h43 : (b == 43) = false := by
      rw [beq_eq_false_iff_ne]; rintro rfl; exact absurd h1.1 (by decide)
    simp only [atoi, h45, h43, decNat, List.isEmpty_cons, hd]
    rfl

/-- What Atoi answers, whatever comes. -/
def atoA (d : List UInt8) : Int := match atoiAll d with
  | .ok v => v
  | .«syntax» => 0
  | .range => atoiSat d

def nparse (s : List UInt8) : Int × Int :=
  if s = manifW then (1, 0) else if s = tempW then (2, 0)
  else if s.take 4 = walW ∧ mk 3 (atoA (s.drop 4)) = s then (3, atoA (s.drop 4))
  else if s.take 4 = segW ∧ mk 4 (atoA (s.drop 4)) = s then (4, atoA (s.drop 4)) else (0, 0)

def rparse (s : List UInt8) : Int × Int :=
  if s = manifW then (1, 0) else if s = tempW then (2, 0)
  else if s.length < 5 ∨ 14 < s.length then (0, 0)
  else match decFrom 0 (s.drop 4) with
    | none => (0, 0)
    | some n => if s = mk 3 n then (3, (n : Int)) else if s = mk 4 n then (4, (n : Int)) else (0, 0)

theorem mk3 {m : Nat} (h1 : 1 ≤ m) (h2 : m ≤ 1000000000) : mk 3 m = walW ++ dg m := by
  unfold mk; rw [if_neg (by decide), if_neg (by decide), if_neg (by omega), if_pos rfl]; rfl
theorem mk4 {m : Nat} (h1 : 1 ≤ m) (h2 : m ≤ 1000000000) : mk 4 m = segW ++ dg m := by
  unfold mk; rw [if_neg (by decide), if_neg (by decide), if_neg (by omega), if_neg (by decide), if_pos rfl]; rfl
/-- A name with a number is of that form. -/
theorem mk_inv {k n : Int} (hk : k = 3 ∨ k = 4) {s : List UInt8} (hs : mk k n = s) (hne : s ≠ []) : ∃ m : Nat, n = m ∧ 1 ≤ m ∧ m ≤ 1000000000 ∧ s = (if k = 3 then walW else segW) ++ dg m := by
  by_cases hr : n < 1 ∨ 1000000000 < n
  · exfalso
    apply hne
    rw [← hs]
    unfold mk
    rcases hk with rfl | rfl
    · rw [if_neg (by decide), if_neg (by decide), if_pos hr]
    · rw [if_neg (by decide), if_neg (by decide), if_pos hr]
  · obtain ⟨m, rfl⟩ : ∃ m : Nat, n = m := ⟨n.toNat, by omega⟩
    refine ⟨m, rfl, by omega, by omega, ?_⟩
    rw [← hs]
    rcases hk with rfl | rfl
    · rw [mk3 (by omega) (by omega)]; rfl
    · rw [mk4 (by omega) (by omega)]; rfl

theorem wal_take (l : List UInt8) : (walW ++ l).take 4 = walW ∧ (walW ++ l).drop 4 = l := ⟨rfl, rfl⟩
theorem seg_take (l : List UInt8) : (segW ++ l).take 4 = segW ∧ (segW ++ l).drop 4 = l := ⟨rfl, rfl⟩

theorem atoA_dg {m : Nat} (h : m ≤ 1000000000) : atoA (dg m) = m := by unfold atoA; rw [atoi_dg m h]

theorem both_wal {m : Nat} (h1 : 1 ≤ m) (h2 : m ≤ 1000000000) : nparse (walW ++ dg m) = (3, (m : Int)) ∧ rparse (walW ++ dg m) = (3, (m : Int)) := by
  have n1 : walW ++ dg m ≠ manifW := fun e => by cases e
  have n2 : walW ++ dg m ≠ tempW := fun e => by cases e
  have hl := dg_len m h2
  have hlen : (walW ++ dg m).length = 4 + (dg m).length := by rw [List.length_append]; rfl
  constructor
  · unfold nparse
    rw [if_neg n1, if_neg n2, (wal_take _).2, atoA_dg h2, if_pos ⟨rfl, mk3 h1 h2⟩]
  · unfold rparse
    rw [if_neg n1, if_neg n2, if_neg (by omega), (wal_take _).2, decFrom_dg (m + 1) m (by omega)]
    dsimp only
    rw [if_pos (mk3 h1 h2).symm]

theorem both_seg {m : Nat} (h1 : 1 ≤ m) (h2 : m ≤ 1000000000) : nparse (segW ++ dg m) = (4, (m : Int)) ∧ rparse (segW ++ dg m) = (4, (m : Int)) := by
  have n1 : segW ++ dg m ≠ manifW := fun e => by cases e
  have n2 : segW ++ dg m ≠ tempW := fun e => by cases e
  have hl := dg_len m h2
  have hlen : (segW ++ dg m).length = 4 + (dg m).length := by rw [List.length_append]; rfl
  constructor
  · unfold nparse
    rw [if_neg n1, if_neg n2, if_neg (by rintro ⟨h, _⟩; cases h), (seg_take _).2, atoA_dg h2, if_pos ⟨rfl, mk4 h1 h2⟩]
  · unfold rparse
    rw [if_neg n1, if_neg n2, if_neg (by omega), (seg_take _).2, decFrom_dg (m + 1) m (by omega)]
    dsimp only
    rw [if_neg (by rw [mk3 h1 h2]; intro e; cases e), if_pos (mk4 h1 h2).symm]

theorem parse_same (s : List UInt8) : nparse s = rparse s := by
  by_cases hw : ∃ m : Nat, 1 ≤ m ∧ m ≤ 1000000000 ∧ s = walW ++ dg m
  · obtain ⟨m, h1, h2, rfl⟩ := hw
    rw [(both_wal h1 h2).1, (both_wal h1 h2).2]
  by_cases hg : ∃ m : Nat, 1 ≤ m ∧ m ≤ 1000000000 ∧ s = segW ++ dg m
  · obtain ⟨m, h1, h2, rfl⟩ := hg
    rw [(both_seg h1 h2).1, (both_seg h1 h2).2]
  unfold nparse rparse
  by_cases n1 : s = manifW
  · rw [if_pos n1, if_pos n1]
  by_cases n2 : s = tempW
  · rw [if_neg n1, if_pos n2, if_neg n1, if_pos n2]
  rw [if_neg n1, if_neg n2, if_neg n1, if_neg n2]
  have no : ∀ (k : Int), k = 3 ∨ k = 4 → ∀ n, s ≠ [] → mk k n ≠ s := fun k hk n hne e => by
    obtain ⟨m, -, h1, h2, h3⟩ := mk_inv hk e hne
    rcases hk with rfl | rfl
    · exact hw ⟨m, h1, h2, h3⟩
    · exact hg ⟨m, h1, h2, h3⟩
  rw [if_neg (by rintro ⟨h, e⟩; exact no 3 (.inl rfl) _ (by rintro rfl; cases h) e), if_neg (by rintro ⟨h, e⟩; exact no 4 (.inr rfl) _ (by rintro rfl; cases h) e)]
  by_cases hl : s.length < 5 ∨ 14 < s.length
  · rw [if_pos hl]
  · rw [if_neg hl]
    have hne : s ≠ [] := by rintro rfl; simp at hl
    cases decFrom 0 (s.drop 4) with
    | none => rfl
    | some n =>
      dsimp only
      rw [if_neg (fun e => no 3 (.inl rfl) _ hne e.symm), if_neg (fun e => no 4 (.inr rfl) _ hne e.symm)]

end Go.Proofs.YtkeffhaldeedpaaDoor
