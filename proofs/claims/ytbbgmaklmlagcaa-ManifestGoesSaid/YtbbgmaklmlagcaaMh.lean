/- Manifests, the document's: Compacted, Flushed. -/
import Derived.Test.YtbbgmaklmlagcaaMg
namespace Go.Proofs.Ytbbgmaklmlagcaa
open Go
set_option maxRecDepth 100000
attribute [-simp] drawOk_eq adraw qrun acode aops

set_option maxHeartbeats 8000000 in
theorem rcompacted_ct (m : Mf) (from_ to_ : Int) (s : List Sg) (hm : m.segs.length ≤ 1000000) (hs : s.length ≤ 1000000) (v0 : -4611686018427387904 ≤ m.v) (v1 : m.v ≤ 4611686018427387904) (n0 : -4611686018427387904 ≤ m.n) (n1 : m.n ≤ 4611686018427387904) :
    Ct Try.prog 25 [mfA 0 m, .int .i64 from_, .int .i64 to_, .sl 1 0 s.length 3 false] [.cells false (sgsA m.segs), .cells false (sgsA s)]
      (mfA 2 (m.compacted from_ to_ s)) [.cells false (sgsA m.segs), .cells false (sgsA s), .cells true (sgsA (m.compacted from_ to_ s).segs)] := by
  have hΓ := goks_nil (P := Try.prog)
  obtain ⟨la, lb⟩ := m.lo_le from_
  obtain ⟨ha, hb, hc⟩ := m.hi_le from_ to_
  unfold Mf.compacted mfA
  dsimp only
  obtain ⟨a, ea⟩ : ∃ a, m.lo from_ = a := ⟨_, rfl⟩
  obtain ⟨b, eb⟩ : ∃ b, m.hi from_ to_ = b := ⟨_, rfl⟩
  rw [ea] at la lb ha hb ⊢
  rw [eb] at ha hb hc ⊢
  clear ea eb
  obtain ⟨mv, mf, mn, l⟩ := m
  simp only at *
  refine ct_of_sim Try.func25 rfl ?_
  simp only [Try.ntmps25, List.length_cons, List.length_nil, Nat.reduceAdd, Nat.reduceSub, List.replicate, List.cons_append, List.nil_append]
  have w3 : IntKind.i64.wrap (mv + 1) = mv + 1 := wr_i64 (by omega) (by omega)
  refine Sim.step hmix hΓ (n := 0) (by simp; exact ⟨rfl, rfl⟩) (by simp) ?_
  refine Sim.step hmix hΓ (n := 0) (by simp [-minA, minA_min, minA_max, la]; exact ⟨rfl, rfl⟩) (by simp) ?_
  refine Sim.step hmix hΓ (n := 0) (by simp [-minA, minA_min, minA_max, ha]; exact ⟨rfl, rfl⟩) (by simp) ?_
  refine Sim.step hmix hΓ (n := 0) (by simp [w3]; exact ⟨rfl, rfl⟩) (by simp) ?_
  refine Sim.step hmix hΓ (n := 0) (by simp; exact ⟨rfl, rfl⟩) (by simp) ?_
  refine Sim.seq (Sim.step hmix hΓ (n := 0) (by simp; exact ⟨rfl, rfl⟩) (by simp) ?_)
  refine Sim.block (Sim.loopW (fun k : Nat => k ≤ s.length)
    (fun k => [.top, .int .i64 a, .int .i64 b, .sl 1 0 s.length 3 false, .ptr 2 0, .top, .top, .top, .ptr 3 0, .ptr 4 0, .sl 5 0 k 3 false, .int .i64 k] ++ List.replicate 65 .top)
    (fun k => [.cells false (sgsA l), .cells false (sgsA s), .cells true [.int .i64 mv, .int .i64 mf, .int .i64 mn, .sl 0 0 l.length 3 false], .cells true [.int .i64 0, .int .i64 0, .int .i64 0, .nils], .cells true [.int .i64 (mv + 1), .int .i64 mf, .int .i64 (mn + k), .nils], .cells true (sgsA (numb mn (s.take k)).reverse)]) (fun k => s.length - k) 0 (by simp) (by simp) (Weak.mk' [0, 1, 2, 3, 4, 100] (by decide) (by decide) (by simp) (by simp [numb, sgsA])) fun k hk => ?_)
  by_cases hlt : k < s.length
  · obtain ⟨x, hx⟩ : ∃ x, s[k]? = some x := ⟨_, List.getElem?_eq_getElem hlt⟩
    have g1 := sgs_get s k hlt
    rw [(List.getElem?_eq_some_iff.1 hx).2] at g1
    have k1 : k * 3 + 3 ≤ s.length * 3 := by omega
    have e : numb mn (s.take (k + 1)) = numb mn (s.take k) ++ [(mn + k, x.2)] := by
      rw [List.take_add_one, hx, Option.toList_some, numb_snoc]; simp; omega
    have er : (numb mn (s.take (k + 1))).reverse = (mn + k, x.2) :: (numb mn (s.take k)).reverse := by rw [e]; simp
    obtain ⟨L, eL⟩ : ∃ L, (numb mn (s.take k)).reverse = L := ⟨_, rfl⟩
    have hL : L.length = k := by rw [← eL]; simp; omega
    rw [eL] at er ⊢
    obtain ⟨x1, x2, x3⟩ := x
    simp [sgA] at g1
    have w1 : IntKind.i64.wrap (mn + k + 1) = mn + (k + 1 : Nat) := by rw [wr_i64 (by omega) (by omega)]; push_cast; omega
    have w2 : IntKind.i64.wrap ((k : Int) + 1) = k + 1 := wr_i64 (by omega) (by omega)
    have tkL : (sgsA L).take (k * 3) = sgsA L := List.take_of_length_le (by simp; omega)
    have b1 : (1 + k) * 24 ≤ 140737488355328 := by omega
    have b2 : 1 + k ≤ 9223372036854775807 := by omega
    by_cases h0 : k = 0
    · subst h0
      have : L = [] := by simpa using hL
      subst this
      simp at g1 w1
      refine Sim.exec hmix hΓ (n := 0) (by simp (decide := true) [hlt, w1, w2, g1, k1]; exact ⟨rfl, rfl, rfl⟩) (by simp) ?_
      exact ⟨1, by omega, Weak.mk' [0, 1, 2, 3, 4, 7] (by decide) (by decide) (by simp) (by simp [er, sgsA, sgA]), by omega⟩
    · refine Sim.exec hmix hΓ (n := 0) (by simp (decide := true) [hlt, w1, w2, g1, k1, h0, hL, tkL, b1, b2]; exact ⟨rfl, rfl, rfl⟩) (by simp) ?_
      exact ⟨k + 1, by omega, Weak.mk' [0, 1, 2, 3, 4, 8] (by decide) (by decide) (by simp; omega) (by simp [er, sgsA, sgA]), by omega⟩
  have hks : k = s.length := by omega
  subst hks
  refine Sim.exec hmix hΓ (n := 0) (by simp; exact ⟨rfl, rfl, rfl⟩) (by simp) ?_
  dsimp only
  rw [if_pos rfl]
  obtain ⟨r, hr⟩ : ∃ r, (numb mn s).reverse = r := ⟨_, rfl⟩
  have lr : r.length = s.length := by rw [← hr]; simp
  rw [hr, ← lr]
  obtain ⟨q, hq⟩ : ∃ q, r.length = q := ⟨_, rfl⟩
  obtain ⟨w, hw⟩ : ∃ w, l.length - b = w := ⟨_, rfl⟩
  have eA : (sgsA l).take (a * 3) = sgsA (l.take a) := sgs_take l a
  have eB : (sgsA l).drop (b * 3) = sgsA (l.drop b) := sgs_drop l b
  have z1 : a * 3 ≤ l.length * 3 := by omega
  have z2 : b * 3 + w * 3 ≤ l.length * 3 := by omega
  have tkA : (sgsA (l.take a)).take (a * 3) = sgsA (l.take a) := List.take_of_length_le (by simp; omega)
  have tkr : (sgsA r).take (q * 3) = sgsA r := List.take_of_length_le (by simp; omega)
  have tkB : (sgsA (l.drop b)).take (w * 3) = sgsA (l.drop b) := List.take_of_length_le (by simp; omega)
  have hmin : min a l.length = a := by omega
  have b1 : a * 24 ≤ 140737488355328 := by omega
  have b2 : a ≤ 9223372036854775807 := by omega
  have b3 : (a + q) * 24 ≤ 140737488355328 := by omega
  have b4 : a + q ≤ 9223372036854775807 := by omega
  have b5 : (a + q + w) * 24 ≤ 140737488355328 := by omega
  have b6 : a + q + w ≤ 9223372036854775807 := by omega
  have h4 : (a + q) * 3 = a * 3 + q * 3 := by omega
  have h3 : (sgsA (l.take a) ++ sgsA r).take ((a + q) * 3) = sgsA (l.take a) ++ sgsA r := List.take_of_length_le (by simp; omega)
  have h5 := h3
  rw [h4] at h5
  rw [hq]
  refine Sim.seq (Sim.draw hmix (by simp) ?_)
  refine SimR.many hΓ 6 (by simp [stageOps, blankOp]; rfl) (by omega) (by kernel_rfl) (by simp (decide := true) [lb, hc, hw]; exact ⟨rfl, rfl⟩) ?_
  refine SimR.one hΓ _ rfl (by kernel_rfl) (by simp (decide := true) [lb, hc, z1, eA, tkA, hmin, b1, b2]; exact ⟨rfl, rfl⟩) ?_
  refine SimR.many hΓ 9 (by simp [stageOps, blankOp]; rfl) (by omega) (by kernel_rfl) (by simp (decide := true); exact ⟨rfl, rfl⟩) ?_
  refine SimR.done rfl ?_
  dsimp only
  refine Sim.step hmix hΓ (n := 0) (by simp (decide := true) [lb, hc, z1, eA, tkA, tkr, hmin, b3, b4, hq]; exact ⟨rfl, rfl⟩) (by simp) ?_
  refine Sim.seq (Sim.draw hmix (by simp) ?_)
  refine SimR.many hΓ 6 (by simp [stageOps, blankOp]; rfl) (by omega) (by kernel_rfl) (by simp (decide := true) [lb, hc, hw]; exact ⟨rfl, rfl⟩) ?_
  refine SimR.one hΓ _ rfl (by kernel_rfl) (by simp (decide := true) [lb, hc, z2, eB, tkB, hmin, b5, b6, hq, h3, h4]; exact ⟨rfl, rfl⟩) ?_
  refine SimR.many hΓ 9 (by simp [stageOps, blankOp]; rfl) (by omega) (by kernel_rfl) (by simp (decide := true); exact ⟨rfl, rfl⟩) ?_
  refine SimR.done rfl ?_
  dsimp only
  refine Sim.exec hmix hΓ (n := 0) (by simp; exact ⟨rfl, rfl, rfl⟩) (by simp) ?_
  exact ⟨.inr rfl, _, by simp [Try.f25] <;> rfl, Weak.mk' [0, 1, 8] (by decide) (by decide) (by simp [hq, hw, hmin]; omega) (by simp [h5])⟩

theorem rcompacted_sound : Sound Try.prog 25 compactedS := by
  refine sound_readNew (enter_of Try.func25 rfl (by decide)) fun args H v N h => ?_
  split at h <;> try cases h
  rename_i x a b y
  split at h <;> try cases h
  rename_i m s hx hy
  split at h <;> cases h
  rename_i hc
  obtain ⟨c1, c2, c3, c4, c5, c6⟩ := hc
  obtain ⟨wd, w1, w2, w3⟩ := mf_row_win hx hy
  refine ct_winN (H0 := [.cells false (sgsA m.segs), .cells false (sgsA s)]) (args0 := [mfA 0 m, .int .i64 a, .int .i64 b, .sl 1 0 s.length 3 false]) ?_ rfl wd ⟨w1, by simp [winA], by simp [winA], w2, trivial⟩ w3
  have := rcompacted_ct m a b s c1 c2 c3 c4 c5 c6
  simpa [mfA] using this

theorem rflΓ_ok : GOk Try.prog (gams [(25, compactedS)]) := goks_cons rcompacted_sound goks_nil

set_option maxHeartbeats 4000000 in
theorem rflushed_ct (m : Mf) (f : Int) (s : List Sg) (hc : m.fit s) :
    Ct Try.prog 23 [mfA 0 m, .int .i64 f, .sl 1 0 s.length 3 false] [.cells false (sgsA m.segs), .cells false (sgsA s)]
      (mfA 2 (m.flushed f s)) [.cells false (sgsA m.segs), .cells false (sgsA s), .cells true (sgsA (m.flushed f s).segs)] := by
  have e : m.flushed f s = ⟨(m.compacted 0 0 s).v, f, (m.compacted 0 0 s).n, (m.compacted 0 0 s).segs⟩ := rfl
  obtain ⟨r, hr⟩ : ∃ r, m.compacted 0 0 s = r := ⟨_, rfl⟩
  rw [e, hr]
  obtain ⟨mv, mf, mn, l⟩ := m
  obtain ⟨rv, rf, rn, rl⟩ := r
  refine ct_runE hmix rflΓ_ok (n := 0) Try.func23 ?_
  unfold Try.f23
  exact ⟨_, _, (by simp (decide := true) [mfA, compactedS, rowSgs, hc, hr]; exact ⟨rfl, rfl⟩), Weak.mk' [0, 1, 4] (by decide) rfl (by simp [mfA]) (by simp)⟩

theorem rflushed_sound : Sound Try.prog 23 flushedS := by
  refine sound_readNew (enter_of Try.func23 rfl (by decide)) fun args H v N h => ?_
  split at h <;> try cases h
  rename_i x f y
  split at h <;> try cases h
  rename_i m s hx hy
  split at h <;> cases h
  rename_i hc
  obtain ⟨wd, w1, w2, w3⟩ := mf_row_win hx hy
  refine ct_winN (H0 := [.cells false (sgsA m.segs), .cells false (sgsA s)]) (args0 := [mfA 0 m, .int .i64 f, .sl 1 0 s.length 3 false]) ?_ rfl wd ⟨w1, by simp [winA], w2, trivial⟩ w3
  have := rflushed_ct m f s hc
  simpa [mfA] using this

end Go.Proofs.Ytbbgmaklmlagcaa
