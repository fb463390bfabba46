/- Contracts: frame.Put, Size, Get. -/
import Derived.Test.YtmoegdjpmcjhcaaKc
import Derived.Test.YtmoegdjpmcjhcaaKv
namespace Go.Proofs.Ytmoegdjpmcjhcaa
open Go
set_option maxRecDepth 100000

def Fr.get (s : List UInt8) (a : Int) : List UInt8 × Int × Int :=
  if a < 0 ∨ (s.length : Int) < a then ([], a, 2) else
  if a = s.length then ([], a, 9) else
  if (Vy.get s a).2.2 ≠ 0 then ([], a, (Vy.get s a).2.2) else
  if (Vy.get s a).1 = 0 ∨ 300 < (Vy.get s a).1 then ([], a, 4) else
  if (s.length : Int) < (Vy.get s a).2.1 + (Vy.get s a).1 + 4 then ([], a, 3) else
  if Cr.openOk ((s.drop a.toNat).take (((Vy.get s a).2.1 + (Vy.get s a).1 + 4).toNat - a.toNat)) = false then ([], a, 16) else
  ((s.drop (Vy.get s a).2.1.toNat).take (Vy.get s a).1, (Vy.get s a).2.1 + (Vy.get s a).1 + 4, 0)

def frInl : List FuncId := [45, 66, 44, 41, 46, 47, 48, 49, 50, 51, 52]

theorem frΓ_ok : GOk Try.prog (runG Try.prog (gams [(20, getS), (53, openS)]) 8 frInl 4) := gok_run hmix (goks_cons get_sound (goks_cons open_sound goks_nil)) 8 frInl 4

set_option maxHeartbeats 4000000 in
theorem fget_ct (s : List UInt8) (a : Int) (hs : s.length ≤ 1000000000000) : Ct Try.prog 27 [.str s, .int .i64 a] [] (.tuple [.str (Fr.get s a).1, .int .i64 (Fr.get s a).2.1, .int .i64 (Fr.get s a).2.2]) [] := by
  have hs2 : s.length ≤ 140737488351232 := by omega
  refine ct_val hmix frΓ_ok (n := 8) Try.func27 ?_ (by simp)
  unfold Try.f27
  by_cases h0 : a < 0
  · have h1 : ¬ 0 ≤ a := by omega
    have e : Fr.get s a = ([], a, 2) := by unfold Fr.get; rw [if_pos (.inl h0)]
    rw [e]
    simp (decide := true) [Try.f45, Try.f66, Try.f44, Try.f46, h1]
  have h0' : 0 ≤ a := by omega
  by_cases h1 : (s.length : Int) < a
  · have h1' : ¬ a ≤ (s.length : Int) := by omega
    have e : Fr.get s a = ([], a, 2) := by unfold Fr.get; rw [if_pos (.inr h1)]
    rw [e]
    simp (decide := true) [Try.f45, Try.f66, Try.f44, Try.f46, h0', h1']
  have h1' : a ≤ (s.length : Int) := by omega
  have hne : ¬ (a < 0 ∨ (s.length : Int) < a) := by omega
  by_cases h2 : a = s.length
  · have h2' : ¬ a < (s.length : Int) := by omega
    have e : Fr.get s a = ([], a, 9) := by unfold Fr.get; rw [if_neg hne, if_pos h2]
    rw [e]
    clear h2
    simp (decide := true) [Try.f45, Try.f66, Try.f44, Try.f46, Try.f47, h0', h1', h2']
  have h2' : a < (s.length : Int) := by omega
  obtain ⟨⟨n, x, e⟩, hr⟩ : ∃ r, Vy.get s a = r := ⟨_, rfl⟩
  by_cases h3 : e = 0
  rotate_left
  · have e' : Fr.get s a = ([], a, e) := by unfold Fr.get; rw [if_neg hne, if_neg h2, hr]; simp [h3]
    rw [e']
    clear h2
    simp (decide := true) [Try.f45, Try.f66, Try.f44, Try.f46, Try.f47, Try.f48, h0', h1', h2', getS, hs2, hr, h3]
  subst h3
  have hok := Vy.get_ok s a n x hr
  obtain ⟨k, rfl⟩ : ∃ k : Nat, a = k := ⟨a.toNat, by omega⟩
  obtain ⟨m, rfl⟩ : ∃ m : Nat, x = m := ⟨x.toNat, by omega⟩
  have h2n : k < s.length := by omega
  have h1n : k ≤ s.length := by omega
  by_cases h4 : n = 0 ∨ 300 < n
  · have e' : Fr.get s k = ([], (k : Int), 4) := by unfold Fr.get; rw [if_neg hne, if_neg h2, hr]; simp [h4]
    rw [e']
    rcases Nat.eq_zero_or_pos n with hz | hz
    · subst hz
      clear h2 h4
      simp (decide := true) [Try.f45, Try.f66, Try.f44, Try.f41, Try.f46, Try.f47, Try.f48, Try.f49, h1n, h2n, getS, hs2, hr]
    · have hz' : ¬ n ≤ 300 := by omega
      have hz2 : ¬ (n : Int) ≤ 300 := by omega
      clear h2 h4
      simp (decide := true) [Try.f45, Try.f66, Try.f44, Try.f41, Try.f46, Try.f47, Try.f48, Try.f49, h1n, h2n, getS, hs2, hr, hz, hz2]
  have hz : 0 < n := by omega
  have hz' : n ≤ 300 := by omega
  have hz2 : (n : Int) ≤ 300 := by omega
  have w1 : IntKind.i64.wrap (n : Int) = n := wr_i64 (by omega) (by omega)
  have w2 : IntKind.i64.wrap ((m : Int) + n) = (m : Int) + n := wr_i64 (by omega) (by omega)
  have w3 : IntKind.i64.wrap ((m : Int) + n + 4) = (m : Int) + n + 4 := wr_i64 (by omega) (by omega)
  have t1 : ((m : Int) + n + 4).toNat = m + n + 4 := by omega
  have t2 : ((m : Int) + n).toNat = m + n := by omega
  by_cases h5 : (s.length : Int) < (m : Int) + n + 4
  · have h5' : ¬ (m : Int) + n + 4 ≤ (s.length : Int) := by omega
    have e' : Fr.get s k = ([], (k : Int), 3) := by unfold Fr.get; rw [if_neg hne, if_neg h2, hr]; simp [h4, h5]
    rw [e']
    clear h2 h4
    simp (decide := true) [Try.f45, Try.f66, Try.f44, Try.f41, Try.f46, Try.f47, Try.f48, Try.f49, Try.f50, Try.f51, h1n, h2n, getS, hs2, hr, hz, hz2, w1, w2, w3, h5']
  have h5' : (m : Int) + n + 4 ≤ (s.length : Int) := by omega
  have h5a : 0 ≤ (m : Int) + n + 4 := by omega
  have h5b : 0 ≤ (m : Int) + n := by omega
  have h5c : (m : Int) + n ≤ (s.length : Int) := by omega
  have h5d : (k : Int) ≤ (m : Int) + n + 4 := by omega
  have h5e : (m : Int) ≤ (m : Int) + n := by omega
  obtain ⟨t, ht⟩ : ∃ t, (s.drop k).take (m + n + 4 - k) = t := ⟨_, rfl⟩
  have htl : t.length ≤ 1000000000000 := by rw [← ht]; simp; omega
  by_cases h6 : Cr.openOk t = true
  · have e' : Fr.get s k = ((s.drop m).take n, (m : Int) + n + 4, 0) := by
      unfold Fr.get
      rw [if_neg hne, if_neg h2, hr]
      dsimp only
      rw [t1]
      simp [h4, h5, ht, h6]
    rw [e']
    clear h2 h4
    simp (decide := true) [Try.f45, Try.f66, Try.f44, Try.f41, Try.f46, Try.f47, Try.f48, Try.f49, Try.f50, Try.f51, Try.f52, h1n, h2n, getS, hs2, hr, hz, hz2, w1, w2, w3, h5', h5a, h5b, h5c, h5d, h5e, t1, t2, ht, htl, openS, h6]
  · have h6' : Cr.openOk t = false := by simpa using h6
    have e' : Fr.get s k = ([], (k : Int), 16) := by
      unfold Fr.get
      rw [if_neg hne, if_neg h2, hr]
      dsimp only
      rw [t1]
      simp [h4, h5, ht, h6']
    rw [e']
    clear h2 h4
    simp (decide := true) [Try.f45, Try.f66, Try.f44, Try.f41, Try.f46, Try.f47, Try.f48, Try.f49, Try.f50, Try.f51, Try.f52, h1n, h2n, getS, hs2, hr, hz, hz2, w1, w2, w3, h5', h5a, h5d, t1, ht, htl, openS, h6']

end Go.Proofs.Ytmoegdjpmcjhcaa
