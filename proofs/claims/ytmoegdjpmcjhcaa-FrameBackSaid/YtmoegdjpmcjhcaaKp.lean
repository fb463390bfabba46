/- Plain: the sum of layer 1, by halves and bit by bit. -/
import Derived.Test.YtmoegdjpmcjhcaaAx
namespace Go.Proofs.Ytmoegdjpmcjhcaa

def Cr.tab : List Nat := [0, 498536548, 997073096, 651767980, 1994146192, 1802195444, 1303535960, 1342533948, 3988292384, 4027552580, 3604390888, 3412177804, 2607071920, 2262029012, 2685067896, 3183342108]
def Cr.half (n h : Nat) : Nat := (n / 16) ^^^ Cr.tab.getD ((n % 16) ^^^ h) 0
def Cr.step (n : Nat) (b : UInt8) : Nat := Cr.half (Cr.half n (b.toNat % 16)) (b.toNat / 16)
def Cr.more (n : Nat) (s : List UInt8) : Nat := 4294967295 ^^^ s.foldl Cr.step (4294967295 ^^^ n)
def Cr.sum (s : List UInt8) : Nat := Cr.more 0 s
def Cr.four (n : Nat) : List UInt8 := [UInt8.ofNat (n % 256), UInt8.ofNat (n / 256 % 256), UInt8.ofNat (n / 65536 % 256), UInt8.ofNat (n / 16777216 % 256)]
def Cr.seal (s : List UInt8) : List UInt8 := s ++ Cr.four (Cr.sum s)

@[simp] theorem Cr.tab_length : Cr.tab.length = 16 := rfl
@[simp] theorem Cr.tab_take : List.take 16 (Cr.tab.map aW) = Cr.tab.map aW := rfl

theorem xor_u8 (a b : Nat) (ha : a < 256) (hb : b < 256) : bitsA .xor .u8 (a : Int) (b : Int) = ((a ^^^ b : Nat) : Int) := by
  have h1 : (BitVec.ofInt 8 (a : Int)).toNat = a := by
    rw [BitVec.ofInt_natCast, BitVec.toNat_ofNat]; exact Nat.mod_eq_of_lt (by omega)
  have h2 : (BitVec.ofInt 8 (b : Int)).toNat = b := by
    rw [BitVec.ofInt_natCast, BitVec.toNat_ofNat]; exact Nat.mod_eq_of_lt (by omega)
  show IntKind.u8.wrap ((BitVec.ofInt 8 (a : Int) ^^^ BitVec.ofInt 8 (b : Int)).toNat : Int) = _
  rw [BitVec.toNat_xor, h1, h2, IntKind.wrap_u8]
  have := Nat.xor_lt_two_pow (n := 8) ha hb
  omega

theorem xor_u32 (a b : Nat) (ha : a < 4294967296) (hb : b < 4294967296) : bitsA .xor .u32 (a : Int) (b : Int) = ((a ^^^ b : Nat) : Int) := by
  have h1 : (BitVec.ofInt 32 (a : Int)).toNat = a := by
    rw [BitVec.ofInt_natCast, BitVec.toNat_ofNat]; exact Nat.mod_eq_of_lt (by omega)
  have h2 : (BitVec.ofInt 32 (b : Int)).toNat = b := by
    rw [BitVec.ofInt_natCast, BitVec.toNat_ofNat]; exact Nat.mod_eq_of_lt (by omega)
  show IntKind.u32.wrap ((BitVec.ofInt 32 (a : Int) ^^^ BitVec.ofInt 32 (b : Int)).toNat : Int) = _
  rw [BitVec.toNat_xor, h1, h2, IntKind.wrap_u32]
  have := Nat.xor_lt_two_pow (n := 32) ha hb
  omega

theorem and_u8_15 (a : Nat) (ha : a < 256) : bitsA .and .u8 (a : Int) 15 = ((a % 16 : Nat) : Int) := by
  have h1 : (BitVec.ofInt 8 (a : Int)).toNat = a := by
    rw [BitVec.ofInt_natCast, BitVec.toNat_ofNat]; exact Nat.mod_eq_of_lt (by omega)
  show IntKind.u8.wrap ((BitVec.ofInt 8 (a : Int) &&& BitVec.ofInt 8 15).toNat : Int) = _
  rw [BitVec.toNat_and, h1, show (BitVec.ofInt 8 15).toNat = 2 ^ 4 - 1 from rfl, Nat.and_two_pow_sub_one_eq_mod, IntKind.wrap_u8]
  omega

theorem Cr.tab_lt (i : Nat) : Cr.tab.getD i 0 < 4294967296 := by
  by_cases h : i < 16
  · have : ∀ j < 16, Cr.tab.getD j 0 < 4294967296 := by decide
    exact this i h
  · rw [List.getD_eq_getElem?_getD, List.getElem?_eq_none (by simp [Cr.tab]; omega)]; decide

theorem Cr.half_lt (n h : Nat) (hn : n < 4294967296) : Cr.half n h < 4294967296 :=
  Nat.xor_lt_two_pow (n := 32) (by omega) (Cr.tab_lt _)

theorem Cr.fold_lt (hs : List Nat) : ∀ (n : Nat), n < 4294967296 → hs.foldl Cr.half n < 4294967296 := by
  induction hs with
  | nil => exact fun n h => h
  | cons x xs ih => exact fun n h => ih _ (Cr.half_lt n x h)

theorem Cr.step_lt (n : Nat) (b : UInt8) (h : n < 4294967296) : Cr.step n b < 4294967296 := Cr.half_lt _ _ (Cr.half_lt _ _ h)
theorem Cr.steps_lt (s : List UInt8) : ∀ (n : Nat), n < 4294967296 → s.foldl Cr.step n < 4294967296 := by
  induction s with
  | nil => exact fun n h => h
  | cons x xs ih => exact fun n h => ih _ (Cr.step_lt n x h)
theorem Cr.more_lt (n : Nat) (s : List UInt8) (h : n < 4294967296) : Cr.more n s < 4294967296 :=
  Nat.xor_lt_two_pow (n := 32) (by omega) (Cr.steps_lt s _ (Nat.xor_lt_two_pow (n := 32) (by omega) h))
theorem Cr.sum_lt (s : List UInt8) : Cr.sum s < 4294967296 := Cr.more_lt 0 s (by omega)
theorem Cr.seal_length (s : List UInt8) : (Cr.seal s).length = s.length + 4 := by simp [Cr.seal, Cr.four]

/-! Bit by bit -/

def Cr.bit (n b : Nat) : Nat := if n % 2 = b then n / 2 else (n / 2) ^^^ 3988292384
def Cr.bits : Nat → Nat → Nat → Nat
  | 0, n, _ => n
  | k + 1, n, c => Cr.bits k (Cr.bit n (c % 2)) (c / 2)

theorem xor_half (a b : Nat) : (a ^^^ b) / 2 = (a / 2) ^^^ (b / 2) := by
  have := @Nat.xor_div_two a b
  exact this

theorem Cr.bit_xor (x y b : Nat) (hy : y % 2 = 0) : Cr.bit (x ^^^ y) b = Cr.bit x b ^^^ (y / 2) := by
  unfold Cr.bit
  have h1 : (x ^^^ y) % 2 = x % 2 := by
    have := Nat.xor_mod_two_pow (a := x) (b := y) (n := 1)
    simp only [Nat.pow_one] at this
    rw [this, hy, Nat.xor_zero]
  rw [h1, xor_half]
  split
  · rfl
  · rw [Nat.xor_assoc, Nat.xor_assoc, Nat.xor_comm (y / 2)]

theorem Cr.bits_xor : ∀ (k n c m : Nat), Cr.bits k (n ^^^ (2 ^ k * m)) c = Cr.bits k n c ^^^ m
  | 0, n, c, m => by simp [Cr.bits]
  | k + 1, n, c, m => by
    have e : 2 ^ (k + 1) * m = 2 * (2 ^ k * m) := by rw [Nat.pow_succ]; rw [Nat.mul_comm (2 ^ k) 2, Nat.mul_assoc]
    simp only [Cr.bits]
    rw [Cr.bit_xor _ _ _ (by rw [e]; omega), e, Nat.mul_div_cancel_left _ (by omega), Cr.bits_xor k]

theorem Cr.four_bits (n h : Nat) (hh : h < 16) : Cr.bits 4 n h = Cr.half n h := by
  have e : n = (n % 16) ^^^ (2 ^ 4 * (n / 16)) := by
    have h1 : n = 2 ^ 4 * (n / 16) + n % 16 := by omega
    have h2 := Nat.two_pow_add_eq_or_of_lt (i := 4) (b := n % 16) (by omega) (n / 16)
    have h3 : 2 ^ 4 * (n / 16) ||| n % 16 = (2 ^ 4 * (n / 16)) ^^^ (n % 16) := by
      apply Nat.eq_of_testBit_eq
      intro i
      rw [Nat.testBit_or, Nat.testBit_xor, Nat.testBit_two_pow_mul]
      by_cases hi : i < 4
      · have : ¬ (4 ≤ i) := by omega
        simp [this]
      · have : (n % 16).testBit i = false := Nat.testBit_lt_two_pow (Nat.lt_of_lt_of_le (show n % 16 < 2 ^ 4 by omega) (Nat.pow_le_pow_right (by omega) (by omega)))
        simp [this]
    rw [Nat.xor_comm, ← h3, ← h2]
    exact h1
  have key : ∀ r < 16, ∀ h < 16, Cr.bits 4 r h = Cr.tab.getD (r ^^^ h) 0 := by decide
  rw [e, Cr.bits_xor, key _ (by omega) h hh, ← e]
  unfold Cr.half
  rw [Nat.xor_comm]

theorem Cr.bits_add : ∀ (k m n c : Nat), Cr.bits (k + m) n c = Cr.bits m (Cr.bits k n c) (c / 2 ^ k)
  | 0, m, n, c => by simp [Cr.bits]
  | k + 1, m, n, c => by
    rw [show k + 1 + m = (k + m) + 1 by omega]
    simp only [Cr.bits]
    rw [Cr.bits_add k, Nat.div_div_eq_div_mul, Nat.pow_succ, Nat.mul_comm 2]

theorem Cr.bits_mod : ∀ (k n c : Nat), Cr.bits k n (c % 2 ^ k) = Cr.bits k n c
  | 0, n, c => rfl
  | k + 1, n, c => by
    simp only [Cr.bits]
    have h1 : c % 2 ^ (k + 1) % 2 = c % 2 := Nat.mod_mod_of_dvd c ⟨2 ^ k, by rw [Nat.pow_succ, Nat.mul_comm]⟩
    have h2 : c % 2 ^ (k + 1) / 2 = (c / 2) % 2 ^ k := by
      rw [Nat.pow_succ, Nat.mul_comm, Nat.mod_mul_right_div_self]
    rw [h1, h2, Cr.bits_mod k]

theorem Cr.bits_step (n : Nat) (b : UInt8) : Cr.bits 8 n b.toNat = Cr.step n b := by
  have hb := b.toNat_lt
  unfold Cr.step
  rw [show (8 : Nat) = 4 + 4 from rfl, Cr.bits_add, ← Cr.bits_mod 4 n b.toNat, Cr.four_bits _ _ (by omega), Cr.four_bits _ _ (by omega)]

end Go.Proofs.Ytmoegdjpmcjhcaa
