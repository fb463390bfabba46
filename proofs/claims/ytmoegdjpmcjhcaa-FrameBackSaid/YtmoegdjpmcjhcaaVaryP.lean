/- Plain Lean: numbers in as few bytes as they need. No program in sight. -/
import Derived.Lib.BitFns
import Derived.Lib.ItoaNum
namespace Vy
open Go

def blen (n : Nat) : Nat := (Lib.bitLen n + 7) / 8

theorem bitLen_lo (n : Nat) (h0 : n ≠ 0) (h : n < 2^64) : 2 ^ (Lib.bitLen n - 1) ≤ n ∧ n < 2 ^ Lib.bitLen n ∧ 1 ≤ Lib.bitLen n :=
  have := Lib.bitLenAux_bounds 64 n h h0
  ⟨this.2.1, this.2.2, this.1⟩

theorem blen_spec (n : Nat) (h0 : n ≠ 0) (h : n < 2^64) : 256 ^ (blen n - 1) ≤ n ∧ n < 256 ^ blen n ∧ 1 ≤ blen n ∧ blen n ≤ 8 := by
  obtain ⟨h1, h2, h3⟩ := bitLen_lo n h0 h
  have h4 := Lib.bitLen_le n 64 (by omega) h
  unfold blen
  have e : ∀ k, (256 : Nat) ^ k = 2 ^ (8 * k) := fun k => by rw [Nat.pow_mul]
  refine ⟨?_, ?_, by omega, by omega⟩
  · rw [e]
    exact Nat.le_trans (Nat.pow_le_pow_right (by omega) (by omega)) h1
  · rw [e]
    exact Nat.lt_of_lt_of_le h2 (Nat.pow_le_pow_right (by omega) (by omega))

theorem blen_le (n : Nat) (h0 : 248 ≤ n) (h : n < 2^64) : 1 ≤ blen n ∧ blen n ≤ 8 := (blen_spec n (by omega) h).2.2

theorem pow_lt_of {a b : Nat} (h : 256 ^ a < 256 ^ b) : a < b := (Nat.pow_lt_pow_iff_right (by omega)).1 h

theorem blen_unique (n m : Nat) (h0 : n ≠ 0) (h : n < 2^64) (h1 : 256 ^ (m - 1) ≤ n) (h2 : n < 256 ^ m) (hm : 1 ≤ m) : blen n = m := by
  obtain ⟨a, b, c, _⟩ := blen_spec n h0 h
  have e1 : blen n - 1 < m := pow_lt_of (Nat.lt_of_le_of_lt a h2)
  have e2 : m - 1 < blen n := pow_lt_of (Nat.lt_of_le_of_lt h1 b)
  omega

theorem blen_mono (a b : Nat) (h0 : a ≠ 0) (h : a ≤ b) (hb : b < 2^64) : blen a ≤ blen b := by
  obtain ⟨a1, a2, a3, _⟩ := blen_spec a h0 (by omega)
  obtain ⟨b1, b2, b3, _⟩ := blen_spec b (by omega) hb
  have e1 : blen a - 1 < blen b := pow_lt_of (by omega)
  omega

/-- The m lowest bytes, lowest first. -/
def le : Nat → Nat → List UInt8
  | 0, _ => []
  | m + 1, n => UInt8.ofNat (n % 256) :: le m (n / 256)

theorem le_length (m n : Nat) : (le m n).length = m := by
  induction m generalizing n with
  | zero => rfl
  | succ m ih => simp [le, ih]

theorem le_get (m n j : Nat) (h : j < m) : (le m n)[j]? = some (UInt8.ofNat (n / 256 ^ j % 256)) := by
  induction m generalizing n j with
  | zero => omega
  | succ m ih =>
    cases j with
    | zero => simp [le]
    | succ j =>
      simp only [le, List.getElem?_cons_succ]
      rw [ih _ _ (by omega), Nat.div_div_eq_div_mul, Nat.pow_succ, Nat.mul_comm]

/-- What bytes, lowest first, come to. -/
def val : List UInt8 → Nat
  | [] => 0
  | b :: r => b.toNat + 256 * val r

theorem val_lt (l : List UInt8) : val l < 256 ^ l.length := by
  induction l with
  | nil => simp [val]
  | cons b r ih =>
    have := UInt8.toNat_lt b
    simp only [val, List.length_cons, Nat.pow_succ]
    omega

theorem val_le (m n : Nat) : val (le m n) = n % 256 ^ m := by
  induction m generalizing n with
  | zero => simp [le, val]; omega
  | succ m ih =>
    simp only [le, val, ih]
    have : (UInt8.ofNat (n % 256)).toNat = n % 256 := by simp
    rw [this, Nat.pow_succ, Nat.mul_comm (256 ^ m) 256, Nat.mod_mul]

theorem le_val (l : List UInt8) : le l.length (val l) = l := by
  induction l with
  | nil => rfl
  | cons b r ih =>
    have hb := UInt8.toNat_lt b
    simp only [List.length_cons, le, val]
    have h1 : (b.toNat + 256 * val r) % 256 = b.toNat := by omega
    have h2 : (b.toNat + 256 * val r) / 256 = val r := by omega
    rw [h1, h2, ih]
    simp

theorem val_append (l r : List UInt8) : val (l ++ r) = val l + 256 ^ l.length * val r := by
  induction l with
  | nil => simp [val]
  | cons b l ih =>
    simp only [List.cons_append, val, ih, List.length_cons, Nat.pow_succ, Nat.mul_add, Nat.add_assoc]
    rw [Nat.mul_comm (256 ^ l.length) 256, Nat.mul_assoc]

/-- A number's bytes. -/
def enc (n : Nat) : List UInt8 := if n < 248 then [UInt8.ofNat n] else UInt8.ofNat (247 + blen n) :: le (blen n) n
def size (n : Nat) : Nat := if n < 248 then 1 else 1 + blen n
theorem enc_length (n : Nat) : (enc n).length = size n := by
  unfold enc size
  split <;> simp [le_length, Nat.add_comm]
theorem size_bd (n : Nat) (h : n < 2^64) : 1 ≤ size n ∧ size n ≤ 9 := by
  unfold size
  split
  · omega
  · have := blen_le n (by omega) h
    omega
def put (l : List Nat) : List UInt8 := l.flatMap enc
theorem put_snoc (l : List Nat) (n : Nat) : put (l ++ [n]) = put l ++ enc n := by simp [put]
theorem put_length_le (l : List Nat) (h : ∀ n ∈ l, n < 2^64) : (put l).length ≤ 9 * l.length := by
  induction l with
  | nil => simp [put]
  | cons a r ih =>
    have h1 := (size_bd a (h a (by simp))).2
    have h2 := ih (fun n hn => h n (by simp [hn]))
    simp only [put, List.flatMap_cons, List.length_append, List.length_cons, enc_length] at *
    omega

/-- Byte j of a number's bytes, 0 behind them. -/
def lb (n j : Nat) : Nat := ((enc n).getD j 0).toNat

/-- What stands at a place: the number, the place behind it, the error's number. -/
def get (s : List UInt8) (at_ : Int) : Nat × Int × Int :=
  if at_ < 0 ∨ (s.length : Int) ≤ at_ then (0, at_, 3) else
  let k := at_.toNat
  let b := (s.getD k 0).toNat
  if b < 248 then (b, at_ + 1, 0) else
  if s.length - k ≤ b - 247 then (0, at_, 3) else
  let n := val ((s.drop (k + 1)).take (b - 247))
  if size n = 1 + (b - 247) then (n, at_ + 1 + (b - 247 : Nat), 0) else (0, at_, 5)

theorem val_take_succ (s : List UInt8) (j : Nat) (h : j < s.length) : val (s.take (j + 1)) = val (s.take j) + 256 ^ j * s[j].toNat := by
  rw [List.take_succ_eq_append_getElem h, val_append]
  simp [val, List.length_take, Nat.min_eq_left (Nat.le_of_lt h)]

theorem size_mono (a b : Nat) (h : a ≤ b) (hb : b < 2^64) : size a ≤ size b := by
  unfold size
  split
  · split
    · omega
    · omega
  · rw [if_neg (by omega)]
    have := blen_mono a b (by omega) h hb
    omega

/-- Of two numbers' bytes none is the beginning of the other one's. -/
theorem enc_prefix (a b : Nat) (ha : a < 2^64) (hb : b < 2^64) (h : enc a <+: enc b) : a = b := by
  obtain ⟨t, ht⟩ := h
  unfold enc at ht
  by_cases h1 : a < 248
  · rw [if_pos h1] at ht
    by_cases h2 : b < 248
    · rw [if_pos h2] at ht
      simp at ht
      have := congrArg UInt8.toNat ht.1
      simp at this
      omega
    · rw [if_neg h2] at ht
      simp at ht
      have := congrArg UInt8.toNat ht.1
      have := blen_le b (by omega) hb
      simp at *
      omega
  · rw [if_neg h1] at ht
    have hla := blen_le a (by omega) ha
    by_cases h2 : b < 248
    · rw [if_pos h2] at ht
      simp at ht
      have := congrArg UInt8.toNat ht.1
      simp at *
      omega
    · rw [if_neg h2] at ht
      have hlb := blen_le b (by omega) hb
      simp only [List.cons_append, List.cons.injEq] at ht
      obtain ⟨e1, e2⟩ := ht
      have e3 : blen a = blen b := by
        have := congrArg UInt8.toNat e1
        simp at this
        omega
      have e4 : t = [] := by
        have := congrArg List.length e2
        simp [le_length] at this
        exact List.eq_nil_of_length_eq_zero (by omega)
      subst e4
      have e5 := congrArg val e2
      rw [List.append_nil, val_le, val_le, e3, Nat.mod_eq_of_lt, Nat.mod_eq_of_lt] at e5
      · exact e5
      · exact (blen_spec b (by omega) hb).2.1
      · rw [← e3]; exact (blen_spec a (by omega) ha).2.1

theorem get_ok (s : List UInt8) (a : Int) (n : Nat) (x : Int) (h : get s a = (n, x, 0)) : 0 ≤ a ∧ a < x ∧ x ≤ s.length := by
  unfold get at h
  split at h
  · simp at h
  · rename_i h1
    have hk : (a.toNat : Int) = a := Int.toNat_of_nonneg (by omega)
    simp only at h
    split at h
    · simp only [Prod.mk.injEq] at h; omega
    · split at h
      · simp at h
      · split at h
        · simp only [Prod.mk.injEq] at h; omega
        · simp at h

/-- So many numbers, one behind the other: they, the place behind, the error's number; none, where one can't be had. -/
def row (s : List UInt8) (a : Int) : Nat → List Nat × Int × Int
  | 0 => ([], a, 0)
  | m + 1 => if (get s a).2.2 = 0 then
      (if (row s (get s a).2.1 m).2.2 = 0 then ((get s a).1 :: (row s (get s a).2.1 m).1, (row s (get s a).2.1 m).2) else ([], (row s (get s a).2.1 m).2))
    else ([], (get s a).2)

theorem row_snoc (s : List UInt8) (k : Nat) : ∀ (a0 : Int) (vs : List Nat) (a : Int), row s a0 k = (vs, a, 0) → (get s a).2.2 = 0 → row s a0 (k + 1) = (vs ++ [(get s a).1], (get s a).2.1, 0) := by
  induction k with
  | zero =>
    intro a0 vs a h hg
    simp only [row, Prod.mk.injEq] at h
    obtain ⟨rfl, rfl, _⟩ := h
    simp [row, hg]
  | succ k ih =>
    intro a0 vs a h hg
    rw [row] at h
    split at h
    · rename_i h1
      split at h
      · rename_i h2
        simp only [Prod.mk.injEq] at h
        obtain ⟨rfl, h3⟩ := h
        have h4 := ih (get s a0).2.1 (row s (get s a0).2.1 k).1 a (by rw [← h3]) hg
        rw [row, if_pos h1, h4]
        simp
      · rename_i h2
        rw [Prod.mk.injEq] at h
        rw [h.2] at h2
        exact absurd rfl h2
    · rename_i h1
      rw [Prod.mk.injEq] at h
      rw [h.2] at h1
      exact absurd rfl h1

theorem row_stop (s : List UInt8) (k : Nat) : ∀ (m : Nat) (a0 : Int) (vs : List Nat) (a : Int), row s a0 k = (vs, a, 0) → (get s a).2.2 ≠ 0 → k < m → row s a0 m = ([], (get s a).2) := by
  induction k with
  | zero =>
    intro m a0 vs a h hg hm
    simp only [row, Prod.mk.injEq] at h
    obtain ⟨rfl, rfl, _⟩ := h
    cases m with
    | zero => omega
    | succ m => rw [row, if_neg hg]
  | succ k ih =>
    intro m a0 vs a h hg hm
    cases m with
    | zero => omega
    | succ m =>
      rw [row] at h
      split at h
      · rename_i h1
        split at h
        · rename_i h2
          simp only [Prod.mk.injEq] at h
          obtain ⟨rfl, h3⟩ := h
          have h4 := ih m (get s a0).2.1 (row s (get s a0).2.1 k).1 a (by rw [← h3]) hg (by omega)
          rw [row, if_pos h1, h4]
          simp [hg]
        · rename_i h2
          rw [Prod.mk.injEq] at h
          rw [h.2] at h2
          exact absurd rfl h2
      · rename_i h1
        rw [Prod.mk.injEq] at h
        rw [h.2] at h1
        exact absurd rfl h1

theorem row_length (s : List UInt8) (k : Nat) : ∀ (a0 : Int) (vs : List Nat) (a : Int), row s a0 k = (vs, a, 0) → vs.length = k ∧ (k ≠ 0 → 0 ≤ a0 ∧ a0 + k ≤ a ∧ a ≤ s.length) := by
  induction k with
  | zero =>
    intro a0 vs a h
    simp only [row, Prod.mk.injEq] at h
    obtain ⟨rfl, rfl, _⟩ := h
    exact ⟨rfl, fun h => absurd rfl h⟩
  | succ k ih =>
    intro a0 vs a h
    rw [row] at h
    split at h
    · rename_i h1
      split at h
      · rename_i h2
        simp only [Prod.mk.injEq] at h
        obtain ⟨rfl, h3⟩ := h
        obtain ⟨i1, i2⟩ := ih (get s a0).2.1 (row s (get s a0).2.1 k).1 a (by rw [← h3])
        obtain ⟨g1, g2, g3⟩ := get_ok s a0 (get s a0).1 (get s a0).2.1 (by rw [← h1])
        refine ⟨by simp [i1], fun _ => ?_⟩
        by_cases hk : k = 0
        · subst hk
          simp only [row] at h3
          rw [Prod.mk.injEq] at h3
          omega
        · have := i2 hk
          push_cast
          omega
      · rename_i h2
        rw [Prod.mk.injEq] at h
        rw [h.2] at h2
        exact absurd rfl h2
    · rename_i h1
      rw [Prod.mk.injEq] at h
      rw [h.2] at h1
      exact absurd rfl h1

theorem div_pow_succ (n k : Nat) : n / 256 ^ k / 256 = n / 256 ^ (k + 1) := by
  rw [Nat.div_div_eq_div_mul, Nat.pow_succ]

theorem blen_of_div (n k : Nat) (h0 : n ≠ 0) (h : n < 2^64) (h1 : 256 ^ k ≤ n) (h2 : n / 256 ^ k < 256) : blen n = k + 1 := by
  refine blen_unique n (k + 1) h0 h h1 ?_ (by omega)
  rw [Nat.pow_succ]
  exact (Nat.div_lt_iff_lt_mul (Nat.pow_pos (by omega))).1 h2 |> fun h => by rw [Nat.mul_comm]; exact h

theorem le_snoc (k n : Nat) : le (k + 1) n = le k n ++ [UInt8.ofNat (n / 256 ^ k % 256)] := by
  induction k generalizing n with
  | zero => simp [le]
  | succ k ih =>
    rw [le, ih (n / 256), le]
    simp only [List.cons_append, Nat.div_div_eq_div_mul, Nat.pow_succ]
    rw [Nat.mul_comm 256]

/-- What is had of bytes is put just so. -/
theorem enc_of (s : List UInt8) (k m : Nat) (h : k < s.length) (hm : (s[k]).toNat = m + 247) (h1 : 1 ≤ m) (hs : m < s.length - k) :
    enc (val ((s.drop (k + 1)).take m)) = (s.drop k).take (1 + m) ↔ size (val ((s.drop (k + 1)).take m)) = 1 + m := by
  have hl : ((s.drop (k + 1)).take m).length = m := by rw [List.length_take, List.length_drop]; omega
  have hd : (s.drop k).take (1 + m) = s[k] :: (s.drop (k + 1)).take m := by
    rw [List.drop_eq_getElem_cons h, Nat.add_comm 1 m, List.take_succ_cons]
  constructor
  · intro e
    have := congrArg List.length e
    rw [enc_length, hd, List.length_cons, hl] at this
    omega
  · intro e
    rw [hd]
    unfold size at e
    split at e
    · omega
    · rename_i hn
      unfold enc
      rw [if_neg hn]
      have hb : blen (val ((s.drop (k + 1)).take m)) = m := by omega
      rw [hb]
      have h3 := le_val ((s.drop (k + 1)).take m)
      rw [hl] at h3
      rw [h3]
      congr 1
      have : s[k] = UInt8.ofNat (247 + m) := by
        rw [Nat.add_comm, ← hm]; simp
      exact this.symm

theorem val_horner (s : List UInt8) (j m : Nat) (hm : m ≤ s.length) (h : j < m) : val ((s.take m).drop j) = s[j].toNat + 256 * val ((s.take m).drop (j + 1)) := by
  rw [List.drop_eq_getElem_cons (by rw [List.length_take]; omega)]
  simp [val]

theorem get_err (s : List UInt8) (a : Int) (n : Nat) (x e : Int) (h : get s a = (n, x, e)) (he : e ≠ 0) : n = 0 ∧ x = a := by
  unfold get at h
  split at h
  · simp only [Prod.mk.injEq] at h; omega
  · simp only at h
    split at h
    · simp only [Prod.mk.injEq] at h; omega
    · split at h
      · simp only [Prod.mk.injEq] at h; omega
      · split at h
        · simp only [Prod.mk.injEq] at h; omega
        · simp only [Prod.mk.injEq] at h; omega

end Vy
