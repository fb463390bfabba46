/- The law cedillalaw05.EntryBytes: the walk. -/
import Derived.Test.YtndkhkponamplaaEg
import Derived.Test.YtndkhkponamplaaEk
namespace Go.Proofs.Ytndkhkponamplaa
open Go
set_option maxRecDepth 100000
attribute [-simp] drawOk_eq adraw qrun acode aops

def ebΓ : Gam := gams [(8, eputS), (9, eputS), (10, valueS), (11, valueS), (12, egetS), (13, egetS), (14, ofS), (15, ofS), (16, trueK)]
theorem ebΓ_ok : GOk Try.prog ebΓ := goks_cons eput_sound (goks_cons reput_sound (goks_cons value_sound (goks_cons rvalue_sound (goks_cons eget_sound (goks_cons reget_sound (goks_cons of_sound (goks_cons rof_sound (goks_cons entryKnownS0_sound goks_nil))))))))

theorem eput_len (e : En) (hn : okN e.2.1 = true) : (eput e).1.length ≤ e.1.length + 10 := by
  unfold eput
  simp only [okN, decide_eq_true_eq] at hn
  have h1 := (Vy.size_bd e.2.1.toNat (by omega)).2
  split
  · split
    · simp
    · simp [Vy.enc_length]; omega
  · simp

theorem shr_rng (v : Int) (h0 : 0 ≤ v) (h1 : v < 18446744073709551616) (k : Nat) : 0 ≤ v.fdiv (2 ^ k) ∧ v.fdiv (2 ^ k) < 18446744073709551616 := by
  have hp : (0 : Int) < 2 ^ k := Int.pow_pos (by decide)
  rw [Int.fdiv_eq_ediv_of_nonneg _ (Int.le_of_lt hp)]
  refine ⟨Int.ediv_nonneg h0 (Int.le_of_lt hp), Int.lt_of_le_of_lt (Int.ediv_le_self _ h0) h1⟩

set_option maxHeartbeats 16000000 in
theorem ebytes_ct (w s : List UInt8) (n v : Int) (g : Bool) (hn : okN n = true) (v0 : 0 ≤ v) (v1 : v < 18446744073709551616) (hw : w.length ≤ 9223372036854775807) (hs : s.length ≤ 9223372036854775807) :
    Ct Try.prog 3 [.agg [.str w, .int .u32 n, .bool g], .str s, .int .u64 v] [] (.bool true) [] := by
  obtain ⟨a, ha⟩ : ∃ a : Nat, min (w.length : Int) 300 = a := ⟨(min (w.length : Int) 300).toNat, by omega⟩
  obtain ⟨b, hb⟩ : ∃ b : Nat, min (s.length : Int) 300 = b := ⟨(min (s.length : Int) 300).toNat, by omega⟩
  have a1 : a ≤ w.length := by omega
  have b1 : b ≤ s.length := by omega
  have a1i : (a : Int) ≤ w.length := by omega
  have b1i : (b : Int) ≤ s.length := by omega
  obtain ⟨x, hx⟩ : ∃ x, w.take a = x := ⟨_, rfl⟩
  obtain ⟨y, hy⟩ : ∃ y, s.take b = y := ⟨_, rfl⟩
  have xl : x.length ≤ 300 := by rw [← hx, List.length_take]; omega
  have yl : y.length ≤ 300 := by rw [← hy, List.length_take]; omega
  obtain ⟨pb, pc, hP⟩ : ∃ pb pc, eput (x, n, g) = (pb, pc) := ⟨_, _, rfl⟩
  have pl : pb.length ≤ 310 := by
    have := eput_len (x, n, g) hn
    rw [hP] at this
    dsimp only at this
    omega
  refine ct_of_sim Try.func3 rfl ?_
  simp only [Try.ntmps3, List.length_cons, List.length_nil, Nat.reduceAdd, Nat.reduceSub, List.replicate, List.cons_append, List.nil_append]
  refine Sim.step hmix ebΓ_ok (n := 0) (by simp; exact ⟨rfl, rfl⟩) (by simp) ?_
  refine Sim.step hmix ebΓ_ok (n := 0) (by simp (decide := true) [-minA, minA_min, ha, hb, a1, b1, a1i, b1i, hx, hy]; exact ⟨rfl, rfl⟩) (by simp) ?_
  have p1 : 1 + y.length ≤ 9223372036854775807 := by omega
  have p2 : y.length + 1 ≤ 9223372036854775807 := by omega
  refine Sim.step hmix ebΓ_ok (n := 0) (by simp (decide := true) [ebΓ, eputS, hn, hP]; exact ⟨rfl, rfl⟩) (by simp) ?_
  refine Sim.step hmix ebΓ_ok (n := 0) (by simp (decide := true) [ebΓ, eputS, hn, hP]; exact ⟨rfl, rfl⟩) (by simp) ?_
  refine Sim.step hmix ebΓ_ok (n := 0) (by simp (decide := true) [ebΓ, valueS, hn]; exact ⟨rfl, rfl⟩) (by simp) ?_
  refine Sim.seq (Sim.step hmix ebΓ_ok (n := 0) (by simp [p1, p2]; exact ⟨rfl, rfl⟩) (by simp) ?_)
  refine Sim.block (Sim.loopW (fun k : Nat => k ≤ 4)
    (fun k => [.top, .str y, .int .u64 v] ++ List.replicate 63 .top ++ [.agg [.str y, .str pb, .str (1 :: y), .str (2 :: y)], .int .i64 k] ++ List.replicate 50 .top)
    (fun _ => []) (fun k => 4 - k) 0 (by simp) (by simp) (Weak.mk' [] (by decide) (by decide) (by simp) (by simp)) fun k hk => ?_)
  by_cases hlt : k < 4
  · obtain ⟨t, ht, htl⟩ : ∃ t : List UInt8, [AV.str y, .str pb, .str (1 :: y), .str (2 :: y)][k]? = some (.str t) ∧ t.length ≤ 1000000 := by
      match k, hlt with
      | 0, _ => exact ⟨y, rfl, by omega⟩
      | 1, _ => exact ⟨pb, rfl, by omega⟩
      | 2, _ => exact ⟨1 :: y, rfl, by simp; omega⟩
      | 3, _ => exact ⟨2 :: y, rfl, by simp; omega⟩
    have ht2 : ∀ h, ([AV.str y, .str pb, .str (1 :: y), .str (2 :: y)] : List AV)[k]'h = .str t := fun h => by
      rw [List.getElem?_eq_getElem h] at ht
      exact Option.some.inj ht
    have hti : (k : Int) < 4 := by omega
    obtain ⟨z, c, hg⟩ : ∃ z c, eget t = (z, c) := ⟨_, _, rfl⟩
    obtain ⟨z1, z2, z3⟩ := z
    have hw1 : IntKind.i64.wrap ((k : Int) + 1) = k + 1 := wr_i64 (by omega) (by omega)
    refine Sim.step hmix ebΓ_ok (n := 0) (by simp [hlt, hti]; exact ⟨rfl, rfl⟩) (by simp) ?_
    refine Sim.step hmix ebΓ_ok (n := 0) (by simp; exact ⟨rfl, rfl⟩) (by simp) ?_
    refine Sim.seq (Sim.block ?_)
    refine Sim.step hmix ebΓ_ok (n := 0) (by simp [hlt, hti, ht2]; exact ⟨rfl, rfl⟩) (by simp) ?_
    refine Sim.step hmix ebΓ_ok (n := 0) (by simp (decide := true) [ebΓ, egetS, htl, hg, enA]; exact ⟨rfl, rfl⟩) (by simp) ?_
    refine Sim.step hmix ebΓ_ok (n := 0) (by simp (decide := true) [ebΓ, egetS, htl, hg, enA]; exact ⟨rfl, rfl⟩) (by simp) ?_
    refine Sim.exec hmix ebΓ_ok (n := 0) (by simp (decide := true); exact ⟨rfl, rfl, rfl⟩) (by simp) ?_
    dsimp only
    refine Sim.exec hmix ebΓ_ok (n := 0) (by simp [hw1]; exact ⟨rfl, rfl, rfl⟩) (by simp) ?_
    dsimp only
    exact ⟨k + 1, by omega, Weak.mk' [] (by decide) (by decide) (by simp) (by simp), by omega⟩
  · have hti : ¬ (k : Int) < 4 := by omega
    refine Sim.exec hmix ebΓ_ok (n := 0) (by simp [hlt, hti]; exact ⟨rfl, rfl, rfl⟩) (by simp) ?_
    dsimp only
    rw [if_pos rfl]
    refine Sim.seq (Sim.step hmix ebΓ_ok (n := 0) (by simp; exact ⟨rfl, rfl⟩) (by simp) ?_)
    refine Sim.block (Sim.loopW (fun i : Nat => i ≤ 100)
      (fun i => [.top, .str y, .int .u64 v] ++ List.replicate 14 .top ++ [.int .i64 i] ++ List.replicate 100 .top)
      (fun _ => []) (fun i => 100 - i) 0 (by simp) (by simp) (Weak.mk' [] (by decide) (by decide) (by simp) (by simp)) fun i hi => ?_)
    by_cases hli : i < 64
    · have hii : (i : Int) < 64 := by omega
      obtain ⟨q, hq⟩ : ∃ q, v.fdiv (2 ^ (min i 64)) = q := ⟨_, rfl⟩
      have q0 := (shr_rng v v0 v1 (min i 64)).1
      have q1 := (shr_rng v v0 v1 (min i 64)).2
      rw [hq] at q0 q1
      have hni : ¬ (i : Int) < 0 := by omega
      have hm : min i 64 = i := by omega
      rw [hm] at hq
      obtain ⟨z, c, hg⟩ : ∃ z c, eof y q = (z, c) := ⟨_, _, rfl⟩
      obtain ⟨z1, z2, z3⟩ := z
      have hw1 : IntKind.i64.wrap ((i : Int) + 7) = ((i + 7 : Nat) : Int) := by rw [wr_i64 (by omega) (by omega)]; rfl
      refine Sim.step hmix ebΓ_ok (n := 0) (by simp [hli, hii]; exact ⟨rfl, rfl⟩) (by simp) ?_
      refine Sim.seq (Sim.block ?_)
      refine Sim.step hmix ebΓ_ok (n := 0) (by simp (decide := true) [ebΓ, ofS, hni, hm, hq, q0, q1, hg, enA]; exact ⟨rfl, rfl⟩) (by simp) ?_
      refine Sim.step hmix ebΓ_ok (n := 0) (by simp (decide := true) [ebΓ, ofS, hni, hm, hq, q0, q1, hg, enA]; exact ⟨rfl, rfl⟩) (by simp) ?_
      refine Sim.exec hmix ebΓ_ok (n := 0) (by simp (decide := true); exact ⟨rfl, rfl, rfl⟩) (by simp) ?_
      dsimp only
      refine Sim.exec hmix ebΓ_ok (n := 0) (by simp [hw1]; exact ⟨rfl, rfl, rfl⟩) (by simp) ?_
      dsimp only
      exact ⟨i + 7, by omega, Weak.mk' [] (by decide) (by decide) (by simp) (by simp), by omega⟩
    · have hii : ¬ (i : Int) < 64 := by omega
      refine Sim.exec hmix ebΓ_ok (n := 0) (by simp [hli, hii]; exact ⟨rfl, rfl, rfl⟩) (by simp) ?_
      dsimp only
      rw [if_pos rfl]
      refine Sim.exec hmix ebΓ_ok (n := 0) (by simp [ebΓ, trueK]; exact ⟨rfl, rfl, rfl⟩) (by simp) ?_
      exact ⟨.inr rfl, _, by simp; rfl, Weak.mk' [] (by decide) (by decide) (by simp) (by simp)⟩

def entryBytes_shape : List (Bool × List CT) := [(true, [.one .str, .one (.int .u32), .one .bool]), (false, [.one .str]), (false, [.one (.int .u64)])]

theorem entryBytes_law : ∀ xs H, AbsArgs entryBytes_shape 0 xs H → ∃ H', Ct Try.prog 3 xs H (.bool true) H' := by
  intro xs H h0
  obtain ⟨z1, y1, H1, H2, rfl, k0, rfl, h1⟩ := absArgs_agg h0
  obtain ⟨x1, w1, rfl, ⟨w, rfl, hw⟩, k1⟩ := absOk_one k0
  obtain ⟨x2, w2, rfl, ⟨n, rfl, hn⟩, k2⟩ := absOk_one k1
  obtain ⟨x3, w3, rfl, ⟨g, rfl⟩, k3⟩ := absOk_one k2
  obtain ⟨rfl, rfl⟩ := absOk_nil k3
  obtain ⟨x4, y2, rfl, ⟨s, rfl, hs⟩, h2⟩ := absArgs_one h1
  obtain ⟨x5, y3, rfl, ⟨v, rfl, hv⟩, h3⟩ := absArgs_one h2
  obtain ⟨rfl, rfl⟩ := absArgs_nil h3
  have bn := bounds_u32 hn
  have bv := bounds_u64 hv
  exact ⟨_, ebytes_ct w s n v g (by simp [okN]; omega) (by omega) (by omega) (by unfold maxLen at hw; omega) (by unfold maxLen at hs; omega)⟩

end Go.Proofs.Ytndkhkponamplaa
