/- Contracts: crc.Seal, Open, and the document's answer of layer 1. -/
import Derived.Test.YtmoegdjpmcjhcaaKa
namespace Go.Proofs.Ytmoegdjpmcjhcaa
open Go
set_option maxRecDepth 100000

set_option maxHeartbeats 4000000 in
theorem seal_ct (s : List UInt8) (hs : s.length ≤ 1000000000000) : Ct Try.prog 42 [.str s] [] (.str (Cr.seal s)) [] := by
  have hΓ := goks_cons sum_sound goks_nil
  have h1 : s.length ≤ 9223372036854775806 := by omega
  have h2 : s.length ≤ 9223372036854775807 := by omega
  have a1 : s.length + 1 ≤ 140737488355328 := by omega
  have a2 : s.length + 2 ≤ 140737488355328 := by omega
  have a3 : s.length + 3 ≤ 140737488355328 := by omega
  have a4 : s.length + 4 ≤ 140737488355328 := by omega
  have b1 : s.length + 1 ≤ 9223372036854775807 := by omega
  have b2 : s.length + 2 ≤ 9223372036854775807 := by omega
  have b3 : s.length + 3 ≤ 9223372036854775807 := by omega
  have b4 : s.length + 4 ≤ 9223372036854775807 := by omega
  obtain ⟨m, hm⟩ : ∃ m, Cr.sum s = m := ⟨_, rfl⟩
  have hml : m < 4294967296 := by rw [← hm]; exact Cr.sum_lt s
  have w1 : IntKind.u8.wrap (m : Int) = ((m % 256 : Nat) : Int) := by rw [IntKind.wrap_u8]; omega
  have w2 : IntKind.u8.wrap ((m : Int).fdiv 256) = ((m / 256 % 256 : Nat) : Int) := by rw [IntKind.wrap_u8, Int.fdiv_eq_ediv_of_nonneg _ (by omega)]; omega
  have w3 : IntKind.u8.wrap ((m : Int).fdiv 65536) = ((m / 65536 % 256 : Nat) : Int) := by rw [IntKind.wrap_u8, Int.fdiv_eq_ediv_of_nonneg _ (by omega)]; omega
  have w4 : IntKind.u8.wrap ((m : Int).fdiv 16777216) = ((m / 16777216 % 256 : Nat) : Int) := by rw [IntKind.wrap_u8, Int.fdiv_eq_ediv_of_nonneg _ (by omega)]; omega
  obtain ⟨c1, d1⟩ : ∃ c, m % 256 = c := ⟨_, rfl⟩
  obtain ⟨c2, d2⟩ : ∃ c, m / 256 % 256 = c := ⟨_, rfl⟩
  obtain ⟨c3, d3⟩ : ∃ c, m / 65536 % 256 = c := ⟨_, rfl⟩
  obtain ⟨c4, d4⟩ : ∃ c, m / 16777216 % 256 = c := ⟨_, rfl⟩
  have hres : Cr.seal s = s ++ [UInt8.ofNat c1, UInt8.ofNat c2, UInt8.ofNat c3, UInt8.ofNat c4] := by
    unfold Cr.seal Cr.four
    rw [hm, d1, d2, d3, d4]
  rw [d1] at w1
  rw [d2] at w2
  rw [d3] at w3
  rw [d4] at w4
  rw [hres]
  clear d1 d2 d3 d4 hres
  have g1 : IntKind.i64.wrap 1 = 1 := by decide
  refine ct_val hmix hΓ (n := 5) Try.func42 ?_ (by simp)
  unfold Try.f42
  simp (decide := true) [sumS, h1, h2, hm, a1, a2, a3, a4, b1, b2, b3, b4, w1, w2, w3, w4, List.take_of_length_le]

def sealS : Summ := pureS fun | [.str s] => if s.length ≤ 1000000000000 then some (.str (Cr.seal s)) else none | _ => none
theorem seal_sound : Sound Try.prog 42 sealS := by
  refine sound_pure (enter_of Try.func42 rfl (by decide)) fun args v h => ?_
  split at h <;> try cases h
  rename_i s
  split at h <;> cases h
  exact ⟨seal_ct s ‹_›, by simp, by simp⟩

def Cr.openOk (s : List UInt8) : Bool := 4 ≤ s.length && Cr.seal (s.take (s.length - 4)) == s

set_option maxHeartbeats 4000000 in
theorem open_ct (s : List UInt8) (hs : s.length ≤ 1000000000000) : Ct Try.prog 53 [.str s] [] (.tuple [.str (if Cr.openOk s then s.take (s.length - 4) else []), .bool (Cr.openOk s)]) [] := by
  have hΓ := goks_cons seal_sound goks_nil
  have hw : IntKind.i64.wrap ((s.length : Int) - 4) = (s.length : Int) - 4 := wr_i64 (by omega) (by omega)
  by_cases h4 : s.length < 4
  · have h4' : (s.length : Int) - 4 < 0 := by omega
    have h4'' : (s.length : Int) < 4 := by omega
    have e : Cr.openOk s = false := by unfold Cr.openOk; simp; omega
    rw [e]
    refine ct_val hmix hΓ (n := 0) Try.func53 ?_ (by simp)
    unfold Try.f53
    simp (decide := true) [hw, h4']
  · obtain ⟨n, hn⟩ : ∃ n, s.length = n + 4 := ⟨s.length - 4, by omega⟩
    have h4' : ¬ ((s.length : Int) - 4 < 0) := by omega
    have h4'' : ¬ ((s.length : Int) < 4) := by omega
    have hw2 : (s.length : Int) - 4 = (n : Int) := by omega
    have hle : n ≤ s.length := by omega
    have hle2 : n ≤ 1000000000000 := by omega
    have e0 : s.length - 4 = n := by omega
    by_cases hc : Cr.seal (s.take n) = s
    · have e : Cr.openOk s = true := by unfold Cr.openOk; rw [e0, hc]; simp; omega
      rw [e, e0]
      refine ct_val hmix hΓ (n := 0) Try.func53 ?_ (by simp)
      unfold Try.f53
      rw [hw2] at hw
      simp (decide := true) [hw2, hw, sealS, hle, hle2, hc]
    · have e : Cr.openOk s = false := by unfold Cr.openOk; rw [e0]; simp [hc]
      rw [e, e0]
      refine ct_val hmix hΓ (n := 0) Try.func53 ?_ (by simp)
      unfold Try.f53
      rw [hw2] at hw
      simp (decide := true) [hw2, hw, sealS, hle, hle2, hc]

def openS : Summ := pureS fun | [.str s] => if s.length ≤ 1000000000000 then some (.tuple [.str (if Cr.openOk s then s.take (s.length - 4) else []), .bool (Cr.openOk s)]) else none | _ => none
theorem open_sound : Sound Try.prog 53 openS := by
  refine sound_pure (enter_of Try.func53 rfl (by decide)) fun args v h => ?_
  split at h <;> try cases h
  rename_i s
  split at h <;> cases h
  exact ⟨open_ct s ‹_›, by simp, by simp⟩

/-! The document's answer of layer 1 -/

theorem turned_ct (n : Nat) (h : n < 4294967296) : Ct Try.prog 75 [.int .u32 n] [] (.int .u32 (4294967295 ^^^ n : Nat)) [] := by
  have e : (4294967295 : Int) - n = ((4294967295 ^^^ n : Nat) : Int) := by
    have : 4294967295 ^^^ n = 4294967295 - n := by
      have h1 : (4294967295 : Nat) = 2 ^ 32 - 1 := rfl
      apply Nat.eq_of_testBit_eq
      intro i
      have h3 : 4294967295 - n = 2 ^ 32 - (n + 1) := by omega
      rw [h3, Nat.testBit_two_pow_sub_succ (by omega), Nat.testBit_xor, h1, Nat.testBit_two_pow_sub_one]
      by_cases hi : i < 32
      · simp [hi]
      · have h32 : 32 ≤ i := by omega
        have : n.testBit i = false := Nat.testBit_lt_two_pow (Nat.lt_of_lt_of_le (show n < 2 ^ 32 by omega) (Nat.pow_le_pow_right (by omega) h32))
        simp [hi, this]
    rw [this]; omega
  have l : 4294967295 ^^^ n < 4294967296 := Nat.xor_lt_two_pow (n := 32) (by omega) h
  have w := wr_u32 (n := ((4294967295 ^^^ n : Nat) : Int)) (by omega) (by omega)
  refine ct_val hmix goks_nil (n := 0) Try.func75 ?_ (by simp)
  unfold Try.f75
  simp [w, e]

theorem bit_ct (n b : Nat) (h1 : n < 4294967296) : Ct Try.prog 76 [.int .u32 n, .int .u32 b] [] (.int .u32 (Cr.bit n b : Nat)) [] := by
  obtain ⟨m, hm⟩ : ∃ m, n % 2 = m := ⟨_, rfl⟩
  obtain ⟨d, hd⟩ : ∃ d, n / 2 = d := ⟨_, rfl⟩
  have e1 : (n : Int).tmod 2 = (m : Int) := by rw [tmod_nn (by omega)]; omega
  have e2 : (n : Int).tdiv 2 = (d : Int) := by rw [tdiv_nn (by omega)]; omega
  have e3 := wr_u32 (n := (d : Int)) (by omega) (by omega)
  have e4 : bitsA .xor .u32 (d : Int) 3988292384 = ((d ^^^ 3988292384 : Nat) : Int) := xor_u32 d 3988292384 (by omega) (by omega)
  unfold Cr.bit
  rw [hm, hd]
  by_cases h : m = b
  · refine ct_val hmix goks_nil (n := 0) Try.func76 ?_ (by simp)
    unfold Try.f76
    simp [e1, e2, e3, h]
  · have h' : ¬ (m : Int) = b := by omega
    refine ct_val hmix goks_nil (n := 0) Try.func76 ?_ (by simp)
    unfold Try.f76
    simp [e1, e2, e3, e4, h, h']

end Go.Proofs.Ytmoegdjpmcjhcaa
