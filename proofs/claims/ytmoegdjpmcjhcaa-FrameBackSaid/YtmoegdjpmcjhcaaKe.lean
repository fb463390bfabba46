/- Contracts: frame.Put, Size, and the document's answer of layer 3: Put, Get. -/
import Derived.Test.YtmoegdjpmcjhcaaKd
namespace Go.Proofs.Ytmoegdjpmcjhcaa
open Go
set_option maxRecDepth 100000

def fgetS : Summ := pureS fun | [.str s, .int .i64 a] => if s.length ≤ 1000000000000 then some (.tuple [.str (Fr.get s a).1, .int .i64 (Fr.get s a).2.1, .int .i64 (Fr.get s a).2.2]) else none | _ => none
theorem fget_sound : Sound Try.prog 27 fgetS := by
  refine sound_pure (enter_of Try.func27 rfl (by decide)) fun args v h => ?_
  split at h <;> try cases h
  rename_i s a
  split at h <;> cases h
  exact ⟨fget_ct s a ‹_›, by simp, by simp⟩

def Fr.put (p : List UInt8) : List UInt8 × Int := if p.length = 0 ∨ 300 < p.length then ([], 4) else (Cr.seal (Vy.enc p.length ++ p), 0)

theorem Vy.put_one (n : Nat) : Vy.put [n] = Vy.enc n := by simp [Vy.put]

set_option maxHeartbeats 4000000 in
theorem fput_ct (p : List UInt8) (hp : p.length ≤ 1000000000) : Ct Try.prog 24 [.str p] [] (.tuple [.str (Fr.put p).1, .int .i64 (Fr.put p).2]) [] := by
  have hΓ := gok_run hmix (goks_cons put_sound (goks_cons seal_sound goks_nil)) 0 [41] 1
  have w1 : IntKind.u64.wrap (p.length : Int) = p.length := wr_u64 (by omega) (by omega)
  obtain ⟨n, hn⟩ : ∃ n, p.length = n := ⟨_, rfl⟩
  refine ct_val hmix hΓ (n := 0) Try.func24 ?_ (by simp)
  unfold Try.f24
  by_cases h4 : n = 0 ∨ 300 < n
  · have e : Fr.put p = ([], 4) := by unfold Fr.put; rw [hn, if_pos h4]
    rw [e]
    rw [hn] at w1
    rcases Nat.eq_zero_or_pos n with hz | hz
    · subst hz
      clear h4
      simp [Try.f41, hn]
    · have hz' : ¬ n ≤ 300 := by omega
      have hz2 : ¬ (n : Int) ≤ 300 := by omega
      clear h4
      simp [Try.f41, hn, w1, hz, hz2]
  · have hz : 0 < n := by omega
    have hz' : n ≤ 300 := by omega
    have hz2 : (n : Int) ≤ 300 := by omega
    have he9 := Vy.size_bd n (by omega)
    rw [← Vy.enc_length] at he9
    have hpt := Vy.put_one n
    obtain ⟨e, he⟩ : ∃ e, Vy.enc n = e := ⟨_, rfl⟩
    rw [he] at he9 hpt
    have l1 : e.length + n ≤ 9223372036854775807 := by omega
    have l2 : e.length + n ≤ 1000000000000 := by omega
    have l3 : n < 18446744073709551616 := by omega
    obtain ⟨q, hq⟩ : ∃ q, Cr.seal (e ++ p) = q := ⟨_, rfl⟩
    have e' : Fr.put p = (q, 0) := by unfold Fr.put; rw [hn, if_neg h4, he, hq]
    rw [e']
    rw [hn] at w1
    clear h4 he
    simp [Try.f41, hn, w1, hz, hz2, putS', sealS, hpt, l1, l2, l3, hq]

def fputS : Summ := pureS fun | [.str p] => if p.length ≤ 1000000000 then some (.tuple [.str (Fr.put p).1, .int .i64 (Fr.put p).2]) else none | _ => none
theorem fput_sound : Sound Try.prog 24 fputS := by
  refine sound_pure (enter_of Try.func24 rfl (by decide)) fun args v h => ?_
  split at h <;> try cases h
  rename_i p
  split at h <;> cases h
  exact ⟨fput_ct p ‹_›, by simp, by simp⟩

set_option maxHeartbeats 4000000 in
theorem fsize_ct (p : List UInt8) (hp : p.length ≤ 1000000000) : Ct Try.prog 29 [.str p] [] (.int .i64 (Fr.put p).1.length) [] := by
  have hΓ := goks_cons fput_sound goks_nil
  refine ct_val hmix hΓ (n := 0) Try.func29 ?_ (by simp)
  unfold Try.f29
  simp [fputS, hp]

def fsizeS : Summ := pureS fun | [.str p] => if p.length ≤ 1000000000 then some (.int .i64 (Fr.put p).1.length) else none | _ => none
theorem fsize_sound : Sound Try.prog 29 fsizeS := by
  refine sound_pure (enter_of Try.func29 rfl (by decide)) fun args v h => ?_
  split at h <;> try cases h
  rename_i p
  split at h <;> cases h
  exact ⟨fsize_ct p ‹_›, by simp, by simp⟩

/-! The document's answer -/

set_option maxHeartbeats 4000000 in
theorem rfput_ct (p : List UInt8) (hp : p.length ≤ 1000000000) : Ct Try.prog 28 [.str p] [] (.tuple [.str (Fr.put p).1, .int .i64 (Fr.put p).2]) [] := by
  have hΓ := goks_cons rput_sound (goks_cons rseal_sound goks_nil)
  have w1 : IntKind.u64.wrap (p.length : Int) = p.length := wr_u64 (by omega) (by omega)
  obtain ⟨n, hn⟩ : ∃ n, p.length = n := ⟨_, rfl⟩
  refine ct_val hmix hΓ (n := 0) Try.func28 ?_ (by simp)
  unfold Try.f28
  by_cases h4 : n = 0 ∨ 300 < n
  · have e : Fr.put p = ([], 4) := by unfold Fr.put; rw [hn, if_pos h4]
    rw [e]
    rw [hn] at w1
    rcases Nat.eq_zero_or_pos n with hz | hz
    · subst hz
      clear h4
      simp [hn]
    · have hz' : 300 < n := by omega
      have hz2 : 300 < (n : Int) := by omega
      have hz0 : ¬ n = 0 := by omega
      have hb0 : ((n : Int) == 0) = false := by simp; omega
      clear h4
      simp [hn, hz2, hb0]
  · have hz0 : ¬ n = 0 := by omega
    have hb0 : ((n : Int) == 0) = false := by simp; omega
    have hz' : ¬ 300 < n := by omega
    have hz2 : ¬ 300 < (n : Int) := by omega
    have he9 := Vy.size_bd n (by omega)
    rw [← Vy.enc_length] at he9
    obtain ⟨e, he⟩ : ∃ e, Vy.enc n = e := ⟨_, rfl⟩
    rw [he] at he9
    have l1 : e.length + n ≤ 9223372036854775807 := by omega
    have l2 : e.length + n ≤ 1000000000000 := by omega
    have l3 : n < 18446744073709551616 := by omega
    obtain ⟨q, hq⟩ : ∃ q, Cr.seal (e ++ p) = q := ⟨_, rfl⟩
    have e' : Fr.put p = (q, 0) := by unfold Fr.put; rw [hn, if_neg h4, he, hq]
    rw [e']
    rw [hn] at w1
    clear h4
    simp [hn, w1, hb0, hz2, rputS, rsealS, he, l1, l2, l3, hq]

theorem rfput_sound : Sound Try.prog 28 fputS := by
  refine sound_pure (enter_of Try.func28 rfl (by decide)) fun args v h => ?_
  split at h <;> try cases h
  rename_i p
  split at h <;> cases h
  exact ⟨rfput_ct p ‹_›, by simp, by simp⟩

theorem rfΓ_ok : GOk Try.prog (gams [(38, getS), (69, ropenS)]) := goks_cons rget_sound (goks_cons ropen_sound goks_nil)

set_option maxHeartbeats 4000000 in
theorem rfget_ct (s : List UInt8) (a : Int) (hs : s.length ≤ 1000000000000) : Ct Try.prog 55 [.str s, .int .i64 a] [] (.tuple [.str (Fr.get s a).1, .int .i64 (Fr.get s a).2.1, .int .i64 (Fr.get s a).2.2]) [] := by
  have hs2 : s.length ≤ 140737488351232 := by omega
  refine ct_val hmix rfΓ_ok (n := 0) Try.func55 ?_ (by simp)
  unfold Try.f55
  by_cases h0 : a < 0
  · have e : Fr.get s a = ([], a, 2) := by unfold Fr.get; rw [if_pos (.inl h0)]
    rw [e]
    simp [h0]
  by_cases h1 : (s.length : Int) < a
  · have e : Fr.get s a = ([], a, 2) := by unfold Fr.get; rw [if_pos (.inr h1)]
    rw [e]
    simp [h0, h1]
  have hne : ¬ (a < 0 ∨ (s.length : Int) < a) := by omega
  by_cases h2 : a = s.length
  · have e : Fr.get s a = ([], a, 9) := by unfold Fr.get; rw [if_neg hne, if_pos h2]
    rw [e]
    simp [h2]
  obtain ⟨⟨n, x, e⟩, hr⟩ : ∃ r, Vy.get s a = r := ⟨_, rfl⟩
  by_cases h3 : e = 0
  rotate_left
  · have e' : Fr.get s a = ([], a, e) := by unfold Fr.get; rw [if_neg hne, if_neg h2, hr]; simp [h3]
    rw [e']
    simp [h0, h1, h2, getS, hs2, hr, h3]
  subst h3
  have hok := Vy.get_ok s a n x hr
  obtain ⟨k, rfl⟩ : ∃ k : Nat, a = k := ⟨a.toNat, by omega⟩
  obtain ⟨m, rfl⟩ : ∃ m : Nat, x = m := ⟨x.toNat, by omega⟩
  have h2n : ¬ k = s.length := by omega
  have hb2 : ((k : Int) == (s.length : Int)) = false := by simp; omega
  have h1n : ¬ s.length < k := by omega
  by_cases h4 : n = 0 ∨ 300 < n
  · have e' : Fr.get s k = ([], (k : Int), 4) := by unfold Fr.get; rw [if_neg hne, if_neg h2, hr]; simp [h4]
    rw [e']
    rcases Nat.eq_zero_or_pos n with hz | hz
    · subst hz
      clear h4
      simp [h1n, hb2, getS, hs2, hr]
    · have hz' : 300 < n := by omega
      have hz2 : 300 < (n : Int) := by omega
      have hz0 : ¬ n = 0 := by omega
      have hb0 : ((n : Int) == 0) = false := by simp; omega
      clear h4
      simp [h1n, hb2, getS, hs2, hr, hz2, hb0]
  have hz0 : ¬ n = 0 := by omega
  have hb0 : ((n : Int) == 0) = false := by simp; omega
  have hz' : ¬ 300 < n := by omega
  have hz2 : ¬ 300 < (n : Int) := by omega
  have w1 : IntKind.i64.wrap (n : Int) = n := wr_i64 (by omega) (by omega)
  have w2 : IntKind.i64.wrap ((m : Int) + n) = (m : Int) + n := wr_i64 (by omega) (by omega)
  have w3 : IntKind.i64.wrap ((m : Int) + n + 4) = (m : Int) + n + 4 := wr_i64 (by omega) (by omega)
  have w4 : IntKind.i64.wrap ((m : Int) + n) = (m : Int) + n := wr_i64 (by omega) (by omega)
  have t1 : ((m : Int) + n + 4).toNat = m + n + 4 := by omega
  have t2 : ((m : Int) + n).toNat = m + n := by omega
  have t3 : (m : Int) + n + 4 - 4 = (m : Int) + n := by omega
  by_cases h5 : (s.length : Int) < (m : Int) + n + 4
  · have e' : Fr.get s k = ([], (k : Int), 3) := by unfold Fr.get; rw [if_neg hne, if_neg h2, hr]; simp [h4, h5]
    rw [e']
    clear h4
    simp [h1n, hb2, getS, hs2, hr, hb0, hz2, w1, w2, w3, h5]
  have h5' : (m : Int) + n + 4 ≤ (s.length : Int) := by omega
  have h5a : 0 ≤ (m : Int) + n + 4 := by omega
  have h5b : 0 ≤ (m : Int) + n := by omega
  have h5c : (m : Int) + n ≤ (s.length : Int) := by omega
  have h5d : (k : Int) ≤ (m : Int) + n + 4 := by omega
  have h5e : (m : Int) ≤ (m : Int) + n := by omega
  obtain ⟨t, ht⟩ : ∃ t, (s.drop k).take (m + n + 4 - k) = t := ⟨_, rfl⟩
  have htl : t.length ≤ 1000000000000 := by rw [← ht]; simp; omega
  by_cases h6 : Cr.openOk t = true
  · have e' : Fr.get s k = ((s.drop m).take n, (m : Int) + n + 4, 0) := by
      unfold Fr.get
      rw [if_neg hne, if_neg h2, hr]
      dsimp only
      rw [t1]
      simp [h4, h5, ht, h6]
    rw [e']
    clear h4
    simp [h1n, hb2, getS, hs2, hr, hb0, hz2, w1, w2, w3, h5, h5', h5a, h5b, h5c, h5d, h5e, t1, t2, t3, ht, htl, ropenS, h6]
  · have h6' : Cr.openOk t = false := by simpa using h6
    have e' : Fr.get s k = ([], (k : Int), 16) := by
      unfold Fr.get
      rw [if_neg hne, if_neg h2, hr]
      dsimp only
      rw [t1]
      simp [h4, h5, ht, h6']
    rw [e']
    clear h4
    simp [h1n, hb2, getS, hs2, hr, hb0, hz2, w1, w2, w3, h5, h5', h5a, h5d, t1, ht, htl, ropenS, h6']

theorem rfget_sound : Sound Try.prog 55 fgetS := by
  refine sound_pure (enter_of Try.func55 rfl (by decide)) fun args v h => ?_
  split at h <;> try cases h
  rename_i s a
  split at h <;> cases h
  exact ⟨rfget_ct s a ‹_›, by simp, by simp⟩

end Go.Proofs.Ytmoegdjpmcjhcaa
