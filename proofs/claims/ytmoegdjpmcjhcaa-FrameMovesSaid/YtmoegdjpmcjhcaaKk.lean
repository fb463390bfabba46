/- Walk: cedillalaw03.FrameMoves. -/
import Derived.Test.YtmoegdjpmcjhcaaKj
import Derived.Test.YtmoegdjpmcjhcaaBr
import Derived.Test.YtmoegdjpmcjhcaaBs
namespace Go.Proofs.Ytmoegdjpmcjhcaa
open Go
set_option maxRecDepth 100000
attribute [-simp] drawOk_eq adraw qrun acode aops

theorem cut_len (s : List UInt8) (n : Nat) (z : Int) (hz : z = n) : ∃ m : Nat, (if z < (s.length : Int) then z else (s.length : Int)) = (m : Int) ∧ m ≤ n ∧ m ≤ s.length := ⟨min s.length n, by split <;> omega, by omega, by omega⟩

theorem Fr.get_bd (s : List UInt8) (a : Nat) (ha : a ≤ s.length) : 0 ≤ (Fr.get s a).2.1 ∧ (Fr.get s a).2.1 ≤ s.length := by
  obtain ⟨⟨n, x, e⟩, hr⟩ : ∃ r, Vy.get s a = r := ⟨_, rfl⟩
  have hok := Vy.get_ok s a n x
  unfold Fr.get
  rw [hr] at hok ⊢
  split
  · dsimp only; omega
  split
  · dsimp only; omega
  split
  · dsimp only; omega
  split
  · dsimp only; omega
  split
  · dsimp only; omega
  split
  · dsimp only; omega
  rename_i h1 _ h2 _
  dsimp only at h1 h2 ⊢
  have he : e = 0 := by simpa using h1
  subst he
  have := hok rfl
  omega

set_option maxHeartbeats 4000000 in
theorem moves_ct (s a b : List UInt8) (at_ : Int) (h0 : 0 ≤ at_) (h1 : at_ ≤ 65535) : ∃ H', Ct Try.prog 7 [.str s, .agg [.str a, .str b], .int .u16 at_] [] (.bool true) H' := by
  have hΓ := goks_cons works_sound (goks_cons fput_sound (goks_cons fget_sound goks_nil))
  refine ⟨[], ?_⟩
  refine ct_of_sim Try.func7 rfl ?_
  simp only [Try.ntmps7, List.length_cons, List.length_nil, Nat.reduceAdd, Nat.reduceSub, List.replicate, List.cons_append, List.nil_append]
  obtain ⟨m1, e1, l1, k1⟩ := cut_len s 400 400 rfl
  obtain ⟨m2, e2, l2, k2⟩ := cut_len a 50 50 rfl
  obtain ⟨m3, e3, l3, k3⟩ := cut_len b 300 300 rfl
  refine Sim.step hmix hΓ (n := 0) (by simp; exact ⟨rfl, rfl⟩) (by simp) ?_
  refine Sim.step hmix hΓ (n := 0) (by simp [worksS]; exact ⟨rfl, rfl⟩) (by simp) ?_
  obtain ⟨s', hs'⟩ : ∃ x, s.take m1 = x := ⟨_, rfl⟩
  obtain ⟨a', ha'⟩ : ∃ x, a.take m2 = x := ⟨_, rfl⟩
  obtain ⟨b', hb'⟩ : ∃ x, b.take m3 = x := ⟨_, rfl⟩
  refine Sim.step hmix hΓ (n := 4) (by simp (decide := true) [e1, e2, e3, k1, k2, k3, hs', ha', hb']; exact ⟨rfl, rfl⟩) (by simp) ?_
  have ls' : s'.length ≤ 400 := by rw [← hs']; simp; omega
  have la' : a'.length ≤ 50 := by rw [← ha']; simp; omega
  have lb' : b'.length ≤ 300 := by rw [← hb']; simp; omega
  clear hs' ha' hb' e1 e2 e3 k1 k2 k3
  have lf := Fr.put_le b'
  obtain ⟨⟨f, fe⟩, hf⟩ : ∃ x, Fr.put b' = x := ⟨_, rfl⟩
  rw [hf] at lf
  dsimp only at lf
  have p1 : b'.length ≤ 1000000000 := by omega
  refine Sim.step hmix hΓ (n := 0) (by simp [fputS, p1, hf]; exact ⟨rfl, rfl⟩) (by simp) ?_
  obtain ⟨u, hu⟩ : ∃ x, f ++ s' = x := ⟨_, rfl⟩
  have lu : u.length ≤ 713 := by rw [← hu]; simp; omega
  have q1 : f.length + s'.length ≤ 9223372036854775807 := by omega
  refine Sim.step hmix hΓ (n := 0) (by simp [hu, q1]; exact ⟨rfl, rfl⟩) (by simp) ?_
  obtain ⟨n, hn, nl⟩ : ∃ n : Nat, at_.tmod ((u.length : Int) + 1) = n ∧ n ≤ u.length := by
    refine ⟨(at_ % ((u.length : Int) + 1)).toNat, ?_, ?_⟩
    · rw [tmod_nn h0]
      have := Int.emod_nonneg at_ (show (u.length : Int) + 1 ≠ 0 by omega)
      omega
    · have := Int.emod_lt_of_pos at_ (show 0 < (u.length : Int) + 1 by omega)
      have := Int.emod_nonneg at_ (show (u.length : Int) + 1 ≠ 0 by omega)
      omega
  have w0 : IntKind.i64.wrap at_ = at_ := wr_i64 (by omega) (by omega)
  have w1 : IntKind.i64.wrap ((u.length : Int) + 1) = (u.length : Int) + 1 := wr_i64 (by omega) (by omega)
  have w2 : IntKind.i64.wrap (n : Int) = n := wr_i64 (by omega) (by omega)
  have w3 : ¬ ((u.length : Int) + 1 = 0) := by omega
  refine Sim.step hmix hΓ (n := 0) (by simp [w0, w1, hn, w2, w3]; exact ⟨rfl, rfl⟩) (by simp) ?_
  have p2 : u.length ≤ 1000000000000 := by omega
  obtain ⟨⟨q, y, e⟩, hq⟩ : ∃ r, Fr.get u n = r := ⟨_, rfl⟩
  have hmov := Fr.get_moved u a' n nl
  have htl := Fr.get_tail u n nl
  have hown := Fr.get_own u a' n nl
  have hway := Fr.get_way u n
  have hsame := Fr.get_bd u n nl
  rw [hq] at hmov htl hown hway hsame
  dsimp only at hmov htl hown hway hsame
  refine Sim.step hmix hΓ (n := 0) (by simp [fgetS, p2, hq]; exact ⟨rfl, rfl⟩) (by simp) ?_
  have p3 : a'.length + u.length ≤ 1000000000000 := by omega
  have p4 : a'.length + u.length ≤ 9223372036854775807 := by omega
  have w4 : IntKind.i64.wrap ((a'.length : Int) + n) = (a'.length : Int) + n := wr_i64 (by omega) (by omega)
  refine Sim.step hmix hΓ (n := 0) (by simp [fgetS, p3, p4, w4, hmov]; exact ⟨rfl, rfl⟩) (by simp) ?_
  have p5 : (n : Int) ≤ (u.length : Int) := by omega
  have p6 : u.length - n ≤ 1000000000000 := by omega
  have ht : (u.drop n).take (u.length - n) = u.drop n := List.take_of_length_le (by simp)
  refine Sim.step hmix hΓ (n := 0) (by simp [fgetS, p5, p6, nl, ht, htl]; exact ⟨rfl, rfl⟩) (by simp) ?_
  have w5 : IntKind.i64.wrap (y + a'.length) = y + a'.length := wr_i64 (by omega) (by omega)
  have w6 : IntKind.i64.wrap (y - n) = y - n := wr_i64 (by omega) (by omega)
  refine Sim.step hmix hΓ (n := 0) (by simp (maxSteps := 1000000) [w5, w6]; exact ⟨rfl, rfl⟩) (by simp) ?_
  by_cases he : e = 0
  · subst he
    obtain ⟨g1, g2, g3⟩ := hway rfl
    have hown := hown rfl
    have g4 : 0 ≤ y := by omega
    have g5 : (y.toNat) ≤ u.length := by omega
    have p7 : y.toNat + a'.length ≤ 1000000000000 := by omega
    have p8 : y.toNat + a'.length ≤ 9223372036854775807 := by omega
    refine Sim.exec hmix hΓ (n := 0) (by simp (maxSteps := 1000000) [fgetS, g3, g4, g5, p7, p8, hown]; exact ⟨rfl, rfl, rfl⟩) (by simp) ?_
    exact ⟨.inr rfl, _, by simp; rfl, Weak.mk' [] (by decide) (by decide) (by simp) (by simp)⟩
  · have he2 : (e == 0) = false := by simpa using he
    refine Sim.exec hmix hΓ (n := 0) (by simp (maxSteps := 1000000) [he, he2]; exact ⟨rfl, rfl, rfl⟩) (by simp) ?_
    exact ⟨.inr rfl, _, by simp; rfl, Weak.mk' [] (by decide) (by decide) (by simp) (by simp)⟩

end Go.Proofs.Ytmoegdjpmcjhcaa
