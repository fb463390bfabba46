/- Contracts: the document's answer of layer 1: Sum, four, Seal, Open. -/
import Derived.Test.YtmoegdjpmcjhcaaKb
namespace Go.Proofs.Ytmoegdjpmcjhcaa
open Go
set_option maxRecDepth 100000

theorem Cr.bit_lt (n b : Nat) (h : n < 4294967296) : Cr.bit n b < 4294967296 := by
  unfold Cr.bit
  split
  · omega
  · exact Nat.xor_lt_two_pow (n := 32) (by omega) (by omega)

theorem Cr.bits_lt : ∀ (k n c : Nat), n < 4294967296 → Cr.bits k n c < 4294967296
  | 0, _n, _c, h => h
  | k + 1, _n, _c, h => Cr.bits_lt k _ _ (Cr.bit_lt _ _ h)

def bitS : Summ := pureS fun | [.int .u32 n, .int .u32 b] => if 0 ≤ n ∧ n.toNat < 4294967296 ∧ 0 ≤ b then some (.int .u32 (Cr.bit n.toNat b.toNat : Nat)) else none | _ => none
theorem bit_sound : Sound Try.prog 76 bitS := by
  refine sound_pure (enter_of Try.func76 rfl (by decide)) fun args v h => ?_
  split at h <;> try cases h
  rename_i n b
  split at h <;> cases h
  rename_i hc
  have h0 := bit_ct n.toNat b.toNat (by omega)
  rw [show ((n.toNat : Nat) : Int) = n by omega, show ((b.toNat : Nat) : Int) = b by omega] at h0
  exact ⟨h0, by simp, by simp⟩

def turnedS : Summ := pureS fun | [.int .u32 n] => if 0 ≤ n ∧ n.toNat < 4294967296 then some (.int .u32 (4294967295 ^^^ n.toNat : Nat)) else none | _ => none
theorem turned_sound : Sound Try.prog 75 turnedS := by
  refine sound_pure (enter_of Try.func75 rfl (by decide)) fun args v h => ?_
  split at h <;> try cases h
  rename_i n
  split at h <;> cases h
  rename_i hc
  have h0 := turned_ct n.toNat (by omega)
  rw [show ((n.toNat : Nat) : Int) = n by omega] at h0
  exact ⟨h0, by simp, by simp⟩

set_option maxHeartbeats 4000000 in
theorem rsum_ct (s : List UInt8) (hs : s.length ≤ 9223372036854775806) : Ct Try.prog 68 [.str s] [] (.int .u32 (Cr.sum s : Nat)) [] := by
  have hΓ := goks_cons bit_sound (goks_cons turned_sound goks_nil)
  refine ct_of_sim Try.func68 rfl ?_
  simp only [Try.ntmps68, List.length_cons, List.length_nil, List.replicate, List.cons_append, List.nil_append]
  refine Sim.step hmix hΓ (n := 0) (by simp; exact ⟨rfl, rfl⟩) (by simp) ?_
  refine Sim.step hmix hΓ (n := 0) (by simp [turnedS]; exact ⟨rfl, rfl⟩) (by simp) ?_
  refine Sim.seq ?_
  refine Sim.step hmix hΓ (n := 0) (by simp; exact ⟨rfl, rfl⟩) (by simp) ?_
  refine Sim.block (Sim.loopW (fun k : Nat => k ≤ s.length)
    (fun k => [.str s, .top, .top, .int .u32 ((s.take k).foldl Cr.step 4294967295 : Nat), .int .i64 k] ++ List.replicate 25 .top)
    (fun _ => []) (fun k => s.length - k) 0 (by simp) (by omega) (Weak.mk' [] (by decide) (by decide) (by simp) (by simp)) fun k hk => ?_)
  by_cases hlt : k < s.length
  · obtain ⟨n0, hq⟩ : ∃ q, (s.take k).foldl Cr.step 4294967295 = q := ⟨_, rfl⟩
    obtain ⟨b, hbk⟩ : ∃ b, s[k]? = some b := ⟨_, List.getElem?_eq_getElem hlt⟩
    have hg : s[k] = b := by rw [List.getElem?_eq_getElem hlt] at hbk; cases hbk; rfl
    have ln0 : n0 < 4294967296 := by rw [← hq]; exact Cr.steps_lt _ _ (by omega)
    have hnext : (s.take (k + 1)).foldl Cr.step 4294967295 = Cr.bits 8 n0 b.toNat := by
      rw [List.take_add_one, hbk, List.foldl_append, hq, Cr.bits_step]; rfl
    have hb := b.toNat_lt
    obtain ⟨c0, hc0⟩ : ∃ x, b.toNat = x := ⟨_, rfl⟩
    rw [hc0] at hb hnext
    have ew : IntKind.u32.wrap (c0 : Int) = (c0 : Int) := wr_u32 (by omega) (by omega)
    have hw : IntKind.i64.wrap ((k : Int) + 1) = k + 1 := wr_i64 (by omega) (by omega)
    rw [hq]
    clear hbk hq
    refine Sim.step hmix hΓ (n := 0) (by simp [hlt]; exact ⟨rfl, rfl⟩) (by simp) ?_
    refine Sim.seq (Sim.block ?_)
    refine Sim.step hmix hΓ (n := 0) (by simp [hlt, hg, hc0, ew]; exact ⟨rfl, rfl⟩) (by simp) ?_
    refine Sim.step hmix hΓ (n := 0) (by simp; exact ⟨rfl, rfl⟩) (by simp) ?_
    refine Sim.block (Sim.loopW (fun j : Nat => j ≤ 8)
      (fun j => [.str s, .top, .top, .int .u32 (Cr.bits j n0 c0 : Nat), .int .i64 k, .int .u32 (c0 / 2 ^ j : Nat), .int .i64 j] ++ List.replicate 23 .top)
      (fun _ => []) (fun j => 8 - j) 0 (by simp) (by omega) (Weak.mk' [] (by decide) (by decide) (by simp [Cr.bits]) (by simp)) fun j hj => ?_)
    by_cases hj8 : j < 8
    · have hsucc : Cr.bits (j + 1) n0 c0 = Cr.bit (Cr.bits j n0 c0) (c0 / 2 ^ j % 2) := by rw [Cr.bits_add]; rfl
      have hcs : c0 / 2 ^ (j + 1) = c0 / 2 ^ j / 2 := by rw [Nat.pow_succ, Nat.div_div_eq_div_mul]
      have hnl : Cr.bits j n0 c0 < 4294967296 := Cr.bits_lt j n0 c0 ln0
      have hcl : c0 / 2 ^ j ≤ 255 := Nat.le_trans (Nat.div_le_self _ _) (by omega)
      obtain ⟨n, hn⟩ : ∃ n, Cr.bits j n0 c0 = n := ⟨_, rfl⟩
      obtain ⟨c, hc⟩ : ∃ c, c0 / 2 ^ j = c := ⟨_, rfl⟩
      rw [hn, hc] at hsucc
      rw [hc] at hcs hcl
      rw [hn] at hnl
      obtain ⟨m, hm⟩ : ∃ x, c % 2 = x := ⟨_, rfl⟩
      obtain ⟨d, hd⟩ : ∃ x, c / 2 = x := ⟨_, rfl⟩
      have em : (c : Int).tmod 2 = (m : Int) := by rw [tmod_nn (by omega)]; omega
      have ed : (c : Int).tdiv 2 = (d : Int) := by rw [tdiv_nn (by omega)]; omega
      have ewd : IntKind.u32.wrap (d : Int) = (d : Int) := wr_u32 (by omega) (by omega)
      have hwj : IntKind.i64.wrap ((j : Int) + 1) = j + 1 := wr_i64 (by omega) (by omega)
      have hji : (j : Int) < 8 := by omega
      rw [hm] at hsucc
      rw [hd] at hcs
      rw [hn, hc]
      clear hn hc hm hd
      refine Sim.exec hmix hΓ (n := 0) (by simp [hji, bitS, hnl, em, ed, ewd, hwj]; exact ⟨rfl, rfl, rfl⟩) (by simp) ?_
      exact ⟨j + 1, by omega, Weak.mk' [] (by decide) (by decide) (by simp [hsucc, hcs]) (by simp), by omega⟩
    · obtain rfl : j = 8 := by omega
      refine Sim.exec hmix hΓ (n := 0) (by simp; exact ⟨rfl, rfl, rfl⟩) (by simp) ?_
      refine Sim.exec hmix hΓ (n := 0) (by simp [hw]; exact ⟨rfl, rfl, rfl⟩) (by simp) ?_
      exact ⟨k + 1, by omega, Weak.mk' [] (by decide) (by decide) (by simp [hnext]) (by simp), by omega⟩
  · obtain rfl : k = s.length := by omega
    have hq32 : s.foldl Cr.step 4294967295 < 4294967296 := Cr.steps_lt _ _ (by omega)
    have hsum : Cr.sum s = 4294967295 ^^^ s.foldl Cr.step 4294967295 := by unfold Cr.sum Cr.more; rw [Nat.xor_zero]
    rw [List.take_length]
    obtain ⟨q, hq⟩ : ∃ q, s.foldl Cr.step 4294967295 = q := ⟨_, rfl⟩
    rw [hq] at hq32 hsum
    rw [hq]
    obtain ⟨m, hm⟩ : ∃ m, Cr.sum s = m := ⟨_, rfl⟩
    rw [hm] at hsum
    rw [hm]
    clear hq hm
    refine Sim.exec hmix hΓ (n := 0) (by simp; exact ⟨rfl, rfl, rfl⟩) (by simp) ?_
    refine Sim.exec hmix hΓ (n := 0) (by simp [turnedS, hq32, ← hsum]; exact ⟨rfl, rfl, rfl⟩) (by simp) ?_
    refine ⟨.inr rfl, _, by simp; rfl, Weak.mk' [] (by decide) (by decide) (by simp) (by simp)⟩

def rsumS : Summ := pureS fun | [.str s] => if s.length ≤ 9223372036854775806 then some (.int .u32 (Cr.sum s : Nat)) else none | _ => none
theorem rsum_sound : Sound Try.prog 68 rsumS := by
  refine sound_pure (enter_of Try.func68 rfl (by decide)) fun args v h => ?_
  split at h <;> try cases h
  rename_i s
  split at h <;> cases h
  exact ⟨rsum_ct s ‹_›, by simp, by simp⟩

set_option maxHeartbeats 4000000 in
theorem four_ct (m : Nat) (hm : m < 4294967296) : Ct Try.prog 67 [.int .u32 m] [] (.str (Cr.four m)) [] := by
  obtain ⟨c1, d1⟩ : ∃ c, m % 256 = c := ⟨_, rfl⟩
  obtain ⟨q2, p2⟩ : ∃ c, m / 256 = c := ⟨_, rfl⟩
  obtain ⟨c2, d2⟩ : ∃ c, q2 % 256 = c := ⟨_, rfl⟩
  obtain ⟨q3, p3⟩ : ∃ c, m / 65536 = c := ⟨_, rfl⟩
  obtain ⟨c3, d3⟩ : ∃ c, q3 % 256 = c := ⟨_, rfl⟩
  obtain ⟨c4, d4⟩ : ∃ c, m / 16777216 = c := ⟨_, rfl⟩
  have t1 : (m : Int).tmod 256 = (c1 : Int) := by rw [tmod_nn (by omega)]; omega
  have t2 : (m : Int).tdiv 256 = (q2 : Int) := by rw [tdiv_nn (by omega)]; omega
  have t3 : (q2 : Int).tmod 256 = (c2 : Int) := by rw [tmod_nn (by omega)]; omega
  have t4 : (m : Int).tdiv 65536 = (q3 : Int) := by rw [tdiv_nn (by omega)]; omega
  have t5 : (q3 : Int).tmod 256 = (c3 : Int) := by rw [tmod_nn (by omega)]; omega
  have t6 : (m : Int).tdiv 16777216 = (c4 : Int) := by rw [tdiv_nn (by omega)]; omega
  have u1 : IntKind.u8.wrap (c1 : Int) = c1 := wr_u8 (by omega) (by omega)
  have u2 : IntKind.u8.wrap (c2 : Int) = c2 := wr_u8 (by omega) (by omega)
  have u3 : IntKind.u8.wrap (c3 : Int) = c3 := wr_u8 (by omega) (by omega)
  have u4 : IntKind.u8.wrap (c4 : Int) = c4 := wr_u8 (by omega) (by omega)
  have v1 : IntKind.u32.wrap (q2 : Int) = q2 := wr_u32 (by omega) (by omega)
  have v2 : IntKind.u32.wrap (q3 : Int) = q3 := wr_u32 (by omega) (by omega)
  have v3 : IntKind.u32.wrap (c4 : Int) = c4 := wr_u32 (by omega) (by omega)
  have hres : Cr.four m = [UInt8.ofNat c1, UInt8.ofNat c2, UInt8.ofNat c3, UInt8.ofNat c4] := by
    unfold Cr.four
    rw [d1, p2, d2, p3, d3, d4, show c4 % 256 = c4 by omega]
  rw [hres]
  clear hres d1 d2 d3 d4 p2 p3
  refine ct_val hmix goks_nil (n := 0) Try.func67 ?_ (by simp)
  unfold Try.f67
  simp [t1, t2, t3, t4, t5, t6, u1, u2, u3, u4, v1, v2, v3]

def fourS : Summ := pureS fun | [.int .u32 n] => if 0 ≤ n ∧ n.toNat < 4294967296 then some (.str (Cr.four n.toNat)) else none | _ => none
theorem four_sound : Sound Try.prog 67 fourS := by
  refine sound_pure (enter_of Try.func67 rfl (by decide)) fun args v h => ?_
  split at h <;> try cases h
  rename_i n
  split at h <;> cases h
  rename_i hc
  have h0 := four_ct n.toNat (by omega)
  rw [show ((n.toNat : Nat) : Int) = n by omega] at h0
  exact ⟨h0, by simp, by simp⟩

set_option maxHeartbeats 1000000 in
theorem rseal_ct (s : List UInt8) (hs : s.length ≤ 1000000000000) : Ct Try.prog 54 [.str s] [] (.str (Cr.seal s)) [] := by
  have hΓ := goks_cons rsum_sound (goks_cons four_sound goks_nil)
  have h1 : s.length ≤ 9223372036854775806 := by omega
  have h2 : s.length + 4 ≤ 9223372036854775807 := by omega
  have h3 := Cr.sum_lt s
  have hse : Cr.seal s = s ++ Cr.four (Cr.sum s) := rfl
  obtain ⟨m, hm⟩ : ∃ m, Cr.sum s = m := ⟨_, rfl⟩
  rw [hm] at h3 hse
  obtain ⟨f, hf⟩ : ∃ f, Cr.four m = f := ⟨_, rfl⟩
  have h4 : f.length = 4 := by rw [← hf]; rfl
  rw [hf] at hse
  rw [hse]
  clear hse
  refine ct_val hmix hΓ (n := 0) Try.func54 ?_ (by simp)
  unfold Try.f54
  simp [rsumS, fourS, h1, h2, h3, h4, hm, hf]

def rsealS : Summ := pureS fun | [.str s] => if s.length ≤ 1000000000000 then some (.str (Cr.seal s)) else none | _ => none
theorem rseal_sound : Sound Try.prog 54 rsealS := by
  refine sound_pure (enter_of Try.func54 rfl (by decide)) fun args v h => ?_
  split at h <;> try cases h
  rename_i s
  split at h <;> cases h
  exact ⟨rseal_ct s ‹_›, by simp, by simp⟩

theorem Cr.openOk_iff (s : List UInt8) : Cr.openOk s = true ↔ 4 ≤ s.length ∧ s.drop (s.length - 4) = Cr.four (Cr.sum (s.take (s.length - 4))) := by
  unfold Cr.openOk
  simp only [Bool.and_eq_true, decide_eq_true_eq, beq_iff_eq]
  refine and_congr_right fun h => ?_
  unfold Cr.seal
  constructor
  · intro e
    have : s.take (s.length - 4) ++ s.drop (s.length - 4) = s.take (s.length - 4) ++ Cr.four (Cr.sum (s.take (s.length - 4))) := by rw [List.take_append_drop, e]
    exact List.append_cancel_left this
  · intro e
    rw [← e, List.take_append_drop]

set_option maxHeartbeats 4000000 in
theorem ropen_ct (s : List UInt8) (hs : s.length ≤ 1000000000000) : Ct Try.prog 69 [.str s] [] (.tuple [.str (if Cr.openOk s then s.take (s.length - 4) else []), .bool (Cr.openOk s)]) [] := by
  have hΓ := goks_cons rsum_sound (goks_cons four_sound goks_nil)
  have hw : IntKind.i64.wrap ((s.length : Int) - 4) = (s.length : Int) - 4 := wr_i64 (by omega) (by omega)
  have hok := Cr.openOk_iff s
  by_cases h4 : s.length < 4
  · have h4' : (s.length : Int) - 4 < 0 := by omega
    have h4'' : (s.length : Int) < 4 := by omega
    have e : Cr.openOk s = false := by rw [Bool.eq_false_iff]; intro h; have := hok.1 h; omega
    rw [e]
    refine ct_val hmix hΓ (n := 0) Try.func69 ?_ (by simp)
    unfold Try.f69
    simp (decide := true) [hw, h4']
  · obtain ⟨n, hn⟩ : ∃ n, s.length = n + 4 := ⟨s.length - 4, by omega⟩
    have h4' : ¬ ((s.length : Int) - 4 < 0) := by omega
    have hw2 : (s.length : Int) - 4 = (n : Int) := by omega
    have hle : n ≤ s.length := by omega
    have hle2 : n ≤ 9223372036854775806 := by omega
    have e0 : s.length - 4 = n := by omega
    have e1 : s.length - n = 4 := by omega
    have h3 := Cr.sum_lt (s.take n)
    have et : List.take 4 (s.drop n) = s.drop n := List.take_of_length_le (by simp; omega)
    rw [e0] at hok
    obtain ⟨m, hm⟩ : ∃ m, Cr.sum (s.take n) = m := ⟨_, rfl⟩
    rw [hm] at h3 hok
    obtain ⟨f, hf⟩ : ∃ f, Cr.four m = f := ⟨_, rfl⟩
    rw [hf] at hok
    obtain ⟨t, ht⟩ : ∃ t, s.drop n = t := ⟨_, rfl⟩
    rw [ht] at et hok
    have etf : f.length = 4 := by rw [← hf]; rfl
    have et2 : List.take 4 f = f := List.take_of_length_le (by omega)
    rw [hw2] at hw
    by_cases hc : t = f
    · have e : Cr.openOk s = true := hok.2 ⟨by omega, hc⟩
      rw [e, e0]
      refine ct_val hmix hΓ (n := 0) Try.func69 ?_ (by simp)
      unfold Try.f69
      simp (decide := true) [hw2, hw, rsumS, fourS, hle, hle2, h3, e1, ht, et2, hm, hf, hc]
    · have e : Cr.openOk s = false := by rw [Bool.eq_false_iff]; intro h; exact hc (hok.1 h).2
      rw [e, e0]
      refine ct_val hmix hΓ (n := 0) Try.func69 ?_ (by simp)
      unfold Try.f69
      simp (decide := true) [hw2, hw, rsumS, fourS, hle, hle2, h3, e1, ht, et, hm, hf, hc]

def ropenS : Summ := pureS fun | [.str s] => if s.length ≤ 1000000000000 then some (.tuple [.str (if Cr.openOk s then s.take (s.length - 4) else []), .bool (Cr.openOk s)]) else none | _ => none
theorem ropen_sound : Sound Try.prog 69 ropenS := by
  refine sound_pure (enter_of Try.func69 rfl (by decide)) fun args v h => ?_
  split at h <;> try cases h
  rename_i s
  split at h <;> cases h
  exact ⟨ropen_ct s ‹_›, by simp, by simp⟩

end Go.Proofs.Ytmoegdjpmcjhcaa
