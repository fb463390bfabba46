/- Walk: cedillalaw23.ManifestGoes, what is looked at behind a turn. -/
import Derived.Test.YtbbgmaklmlagcaaMl
namespace Go.Proofs.Ytbbgmaklmlagcaa
open Go
set_option maxRecDepth 100000
attribute [-simp] drawOk_eq adraw qrun acode aops

theorem put_len (n x y : Int) (S : List Sg) (a b mk : Nat) (hmk : mk = 0 ∨ mk = 1) (hab : a ≤ b) (hb : b ≤ S.length) : (S.take a ++ ((if mk = 1 then [((n, x, y) : Sg)] else []) ++ S.drop b)).length = a + mk + (S.length - b) := by
  rcases hmk with rfl | rfl <;> simp <;> omega

theorem put_low (n x y : Int) (S : List Sg) (a b mk : Nat) (hab : a ≤ b) (hb : b ≤ S.length) (k : Nat) (hk : k < a) : (S.take a ++ ((if mk = 1 then [((n, x, y) : Sg)] else []) ++ S.drop b))[k]? = S[k]? := by
  rw [List.getElem?_append_left (by simp; omega), List.getElem?_take, if_pos hk]

theorem put_mid (n x y : Int) (S : List Sg) (a b : Nat) (hab : a ≤ b) (hb : b ≤ S.length) : (S.take a ++ ((if 1 = 1 then [((n, x, y) : Sg)] else []) ++ S.drop b))[a]? = some (n, x, y) := by
  have : (S.take a).length = a := by simp; omega
  rw [List.getElem?_append_right (by omega), this]; simp

theorem put_high (n x y : Int) (S : List Sg) (a b mk : Nat) (hmk : mk = 0 ∨ mk = 1) (hab : a ≤ b) (hb : b ≤ S.length) (k : Nat) (hk : b ≤ k) : (S.take a ++ ((if mk = 1 then [((n, x, y) : Sg)] else []) ++ S.drop b))[k - (b - a) + mk]? = S[k]? := by
  have : (S.take a).length = a := by simp; omega
  rw [List.getElem?_append_right (by omega), this]
  rcases hmk with rfl | rfl
  · simp; congr 1; omega
  · simp only [if_true, List.cons_append, List.nil_append]
    rw [show k - (b - a) + 1 - a = (k - b) + 1 by omega, List.getElem?_cons_succ, List.getElem?_drop]
    congr 1; omega

set_option maxHeartbeats 16000000 in
theorem goes_checks (l : List (Int × Int × Int)) (v f n z g : Int) (S W : List Sg) (i a b mk : Nat) (hi : i < 60) (hS : S.length ≤ i) (hn : n ≤ i + 1) (hn1 : 1 ≤ n) (hv : v = i) (b2 : 0 ≤ z ∧ z ≤ 255) (hab : a ≤ b) (hb : b ≤ S.length) (hmk : mk = 0 ∨ mk = 1)
    (hW : W = S.take a ++ ((if mk = 1 then [(n, 1 + z, 50 + z)] else []) ++ S.drop b)) (hR : Mf.right ⟨v + 1, g, n + (mk : Nat), W⟩ = true) :
    Sim Try.prog none 1 (restC 5 (inC (fstC (restC 1 (inC (inC (restC 1 (fstC (restC 4 (bodyOf Try.f3)))))))))) ([.sl 0 0 l.length 3 false, .top, .bool false, .ptr 1 0, .int .i64 (n - 1), .int .i64 (i : Nat), .ptr 3 0, .ptr 4 0, .int .i64 (a : Nat), .int .i64 (b : Nat), .int .i64 (mk : Nat)] ++ List.replicate 206 .top) [.cells false (gosA l), .cells true [.int .i64 (v + 1), .int .i64 g, .int .i64 (n + (mk : Nat)), .sl 5 0 W.length 3 false], .cells true (sgsA S), .cells true [.int .i64 v, .int .i64 f, .int .i64 n, .sl 2 0 S.length 3 false], .cells true [.int .i64 7, .int .i64 (1 + z), .int .i64 (50 + z)], .cells true (sgsA W)] (fun e F' H' => e = .normal ∧ Weak 1 F' H' ([.sl 0 0 l.length 3 false, .top, .bool false, .ptr 1 0, .int .i64 (n + (mk : Nat) - 1), .int .i64 (i : Nat)] ++ List.replicate 211 .top) [.cells false (gosA l), .cells true [.int .i64 (v + 1), .int .i64 g, .int .i64 (n + (mk : Nat)), .sl 2 0 W.length 3 false], .cells true (sgsA W)]) := by
  have hΓ := goΓ_ok
  simp only [bodyOf, Try.f3, Option.getD_some, restC, inC, fstC]
  have lW : W.length = a + mk + (S.length - b) := by rw [hW]; exact put_len _ _ _ S a b mk hmk hab hb
  have lW2 : W.length ≤ 1000000000000 := by omega
  have low := fun k hk => put_low n (1 + z) (50 + z) S a b mk hab hb k hk
  have high := fun k hk => put_high n (1 + z) (50 + z) S a b mk hmk hab hb k hk
  have mid := put_mid n (1 + z) (50 + z) S a b hab hb
  rw [← hW] at low high
  have mid' : mk = 1 → W[a]? = some (n, 1 + z, 50 + z) := by rintro rfl; rw [hW]; exact mid
  clear hW mid
  have w1 : IntKind.i64.wrap (n - 1 + (mk : Nat)) = n + (mk : Nat) - 1 := by rw [wr_i64 (by omega) (by omega)]; omega
  have w2 : IntKind.i64.wrap ((i : Int) + 1) = v + 1 := by rw [wr_i64 (by omega) (by omega)]; omega
  have w3 : IntKind.i64.wrap (n + (mk : Nat)) = n + (mk : Nat) := wr_i64 (by omega) (by omega)
  have w4 : IntKind.i64.wrap ((b : Int) - a) = (b : Int) - a := wr_i64 (by omega) (by omega)
  have w5 : IntKind.i64.wrap ((S.length : Int) - (b - a)) = (S.length : Int) - (b - a) := wr_i64 (by omega) (by omega)
  have w6 : IntKind.i64.wrap ((S.length : Int) - (b - a) + (mk : Nat)) = (W.length : Int) := by rw [wr_i64 (by omega) (by omega)]; omega
  refine Sim.step hmix hΓ (n := 0) (by simp [w1]; exact ⟨rfl, rfl⟩) (by simp) ?_
  refine Sim.step hmix hΓ (n := 0) (by simp [goInl, mrightS, rowSgs, hR, lW2, w2, w3, w4, w5, w6]; exact ⟨rfl, rfl⟩) (by simp) ?_
  refine Sim.seq (Sim.step hmix hΓ (n := 0) (by simp; exact ⟨rfl, rfl⟩) (by simp) ?_)
  refine Sim.block (Sim.loopW (fun k : Nat => k ≤ a)
    (fun k => [.sl 0 0 l.length 3 false, .top, .bool false, .ptr 1 0, .int .i64 (n + (mk : Nat) - 1), .int .i64 (i : Nat), .ptr 3 0, .ptr 4 0, .int .i64 (a : Nat), .int .i64 (b : Nat), .int .i64 (mk : Nat), .int .i64 (k : Nat)] ++ List.replicate 205 .top) (fun _ => [.cells false (gosA l), .cells true [.int .i64 (v + 1), .int .i64 g, .int .i64 (n + (mk : Nat)), .sl 5 0 W.length 3 false], .cells true (sgsA S), .cells true [.int .i64 v, .int .i64 f, .int .i64 n, .sl 2 0 S.length 3 false], .cells true [.int .i64 7, .int .i64 (1 + z), .int .i64 (50 + z)], .cells true (sgsA W)]) (fun k => a - k) 0 (by simp) (by omega) (Weak.mk' [0, 1, 2, 3, 4, 5] (by decide) (by decide) (by simp) (by simp)) fun k hk => ?_)
  by_cases hka : k < a
  · obtain ⟨s, hs⟩ : ∃ s, S[k]? = some s := ⟨_, List.getElem?_eq_getElem (by omega)⟩
    have hs2 := low k hka
    rw [hs] at hs2
    have g1 := sgs_get S k (by omega)
    rw [(List.getElem?_eq_some_iff.1 hs).2] at g1
    have g2 := sgs_get W k (by omega)
    rw [(List.getElem?_eq_some_iff.1 hs2).2] at g2
    have a1 : k < S.length := by omega
    have a2 : k < W.length := by omega
    have a3 : k * 3 + 3 ≤ S.length * 3 := by omega
    have a4 : k * 3 + 3 ≤ W.length * 3 := by omega
    have wk : IntKind.i64.wrap ((k : Int) + 1) = k + 1 := wr_i64 (by omega) (by omega)
    obtain ⟨s1, s2, s3⟩ := s
    simp [sgA] at g1 g2
    refine Sim.step hmix hΓ (n := 0) (by simp [hka]; exact ⟨rfl, rfl⟩) (by simp) ?_
    refine Sim.seq (Sim.block (Sim.seq (Sim.draw hmix (by simp) ?_)))
    refine SimR.many hΓ 11 (by simp [stageOps, blankOp]; rfl) (by omega) (by kernel_rfl) (by simp (decide := true) [g1, g2, a1, a2, a3, a4]; first | exact ⟨rfl, rfl⟩ | exact ⟨by kernel_rfl, rfl, rfl⟩) ?_
    refine SimR.done rfl ?_
    dsimp only
    refine Sim.exec hmix hΓ (n := 0) (by simp; exact ⟨rfl, rfl, rfl⟩) (by simp) ?_
    dsimp only
    refine Sim.exec hmix hΓ (n := 0) (by simp [wk]; exact ⟨rfl, rfl, rfl⟩) (by simp) ?_
    exact ⟨k + 1, by omega, Weak.mk' [0, 1, 2, 3, 4, 5] (by decide) (by decide) (by simp) (by simp), by omega⟩
  refine Sim.exec hmix hΓ (n := 0) (by simp [hka]; exact ⟨rfl, rfl, rfl⟩) (by simp) ?_
  dsimp only
  rw [if_pos rfl]
  refine Sim.weak (Fn := [.sl 0 0 l.length 3 false, .top, .bool false, .ptr 1 0, .int .i64 (n + (mk : Nat) - 1), .int .i64 (i : Nat), .ptr 3 0, .ptr 4 0, .int .i64 (a : Nat), .int .i64 (b : Nat), .int .i64 (mk : Nat)] ++ List.replicate 206 .top) (Hn := [.cells false (gosA l), .cells true [.int .i64 (v + 1), .int .i64 g, .int .i64 (n + (mk : Nat)), .sl 5 0 W.length 3 false], .cells true (sgsA S), .cells true [.int .i64 v, .int .i64 f, .int .i64 n, .sl 2 0 S.length 3 false], .cells true [.int .i64 7, .int .i64 (1 + z), .int .i64 (50 + z)], .cells true (sgsA W)]) (Weak.mk' [0, 1, 2, 3, 4, 5] (by decide) (by decide) (by simp) (by simp)) (by simp) ?_
  refine Sim.seq (Sim.step hmix hΓ (n := 0) (by simp; exact ⟨rfl, rfl⟩) (by simp) ?_)
  refine Sim.block (Sim.loopW (fun k : Nat => b ≤ k ∧ k ≤ S.length)
    (fun k => [.sl 0 0 l.length 3 false, .top, .bool false, .ptr 1 0, .int .i64 (n + (mk : Nat) - 1), .int .i64 (i : Nat), .ptr 3 0, .ptr 4 0, .int .i64 (a : Nat), .int .i64 (b : Nat), .int .i64 (mk : Nat), .top, .int .i64 (k : Nat)] ++ List.replicate 204 .top) (fun _ => [.cells false (gosA l), .cells true [.int .i64 (v + 1), .int .i64 g, .int .i64 (n + (mk : Nat)), .sl 5 0 W.length 3 false], .cells true (sgsA S), .cells true [.int .i64 v, .int .i64 f, .int .i64 n, .sl 2 0 S.length 3 false], .cells true [.int .i64 7, .int .i64 (1 + z), .int .i64 (50 + z)], .cells true (sgsA W)]) (fun k => S.length - k) b (by simp) (by omega) (Weak.mk' [0, 1, 2, 3, 4, 5] (by decide) (by decide) (by simp) (by simp)) fun k hk => ?_)
  by_cases hka : k < S.length
  · obtain ⟨s, hs⟩ : ∃ s, S[k]? = some s := ⟨_, List.getElem?_eq_getElem (by omega)⟩
    have hs2 := high k hk.1
    rw [hs] at hs2
    obtain ⟨q, hq⟩ : ∃ q, k - (b - a) + mk = q := ⟨_, rfl⟩
    rw [hq] at hs2
    have hqW := (List.getElem?_eq_some_iff.1 hs2).1
    have g1 := sgs_get S k (by omega)
    rw [(List.getElem?_eq_some_iff.1 hs).2] at g1
    have g2 := sgs_get W q hqW
    rw [(List.getElem?_eq_some_iff.1 hs2).2] at g2
    have a3 : k * 3 + 3 ≤ S.length * 3 := by omega
    have a4 : q * 3 + 3 ≤ W.length * 3 := by omega
    have w7 : IntKind.i64.wrap ((k : Int) - (b - a)) = (k : Int) - (b - a) := wr_i64 (by omega) (by omega)
    have w8 : IntKind.i64.wrap ((k : Int) - (b - a) + (mk : Nat)) = (q : Int) := by rw [wr_i64 (by omega) (by omega)]; omega
    have wk : IntKind.i64.wrap ((k : Int) + 1) = k + 1 := wr_i64 (by omega) (by omega)
    obtain ⟨s1, s2, s3⟩ := s
    simp [sgA] at g1 g2
    refine Sim.step hmix hΓ (n := 0) (by simp [hka]; exact ⟨rfl, rfl⟩) (by simp) ?_
    refine Sim.seq (Sim.block (Sim.seq (Sim.draw hmix (by simp) ?_)))
    refine SimR.many hΓ 17 (by simp [stageOps, blankOp]; rfl) (by omega) (by kernel_rfl) (by simp (decide := true) [g1, g2, hka, hqW, a3, a4, w4, w7, w8]; first | exact ⟨rfl, rfl⟩ | exact ⟨by kernel_rfl, rfl, rfl⟩) ?_
    refine SimR.done rfl ?_
    dsimp only
    refine Sim.exec hmix hΓ (n := 0) (by simp; exact ⟨rfl, rfl, rfl⟩) (by simp) ?_
    dsimp only
    refine Sim.exec hmix hΓ (n := 0) (by simp [wk]; exact ⟨rfl, rfl, rfl⟩) (by simp) ?_
    exact ⟨k + 1, by omega, Weak.mk' [0, 1, 2, 3, 4, 5] (by decide) (by decide) (by simp) (by simp), by omega⟩
  refine Sim.exec hmix hΓ (n := 0) (by simp [hka]; exact ⟨rfl, rfl, rfl⟩) (by simp) ?_
  dsimp only
  rw [if_pos rfl]
  refine Sim.weak (Fn := [.sl 0 0 l.length 3 false, .top, .bool false, .ptr 1 0, .int .i64 (n + (mk : Nat) - 1), .int .i64 (i : Nat), .ptr 3 0, .ptr 4 0, .int .i64 (a : Nat), .int .i64 (b : Nat), .int .i64 (mk : Nat)] ++ List.replicate 206 .top) (Hn := [.cells false (gosA l), .cells true [.int .i64 (v + 1), .int .i64 g, .int .i64 (n + (mk : Nat)), .sl 5 0 W.length 3 false], .cells true (sgsA S), .cells true [.int .i64 v, .int .i64 f, .int .i64 n, .sl 2 0 S.length 3 false], .cells true [.int .i64 7, .int .i64 (1 + z), .int .i64 (50 + z)], .cells true (sgsA W)]) (Weak.mk' [0, 1, 2, 3, 4, 5] (by decide) (by decide) (by simp) (by simp)) (by simp) ?_
  rcases hmk with rfl | rfl
  · refine Sim.seq (Sim.draw hmix (by simp) ?_)
    refine SimR.many hΓ 16 (by simp [stageOps, blankOp]; rfl) (by omega) (by kernel_rfl) (by simp (decide := true); first | exact ⟨rfl, rfl⟩ | exact ⟨by kernel_rfl, rfl, rfl⟩) ?_
    refine SimR.done rfl ?_
    dsimp only
    refine Sim.exec hmix hΓ (n := 0) (by simp; exact ⟨rfl, rfl, rfl⟩) (by simp) ?_
    exact ⟨rfl, Weak.mk' [0, 1, 5] (by decide) (by decide) (by simp) (by simp)⟩
  · have hm := mid' rfl
    have hmW := (List.getElem?_eq_some_iff.1 hm).1
    have g1 := sgs_get W a hmW
    rw [(List.getElem?_eq_some_iff.1 hm).2] at g1
    have a3 : a * 3 + 3 ≤ W.length * 3 := by omega
    have en : n + 1 - 1 = n := by omega
    simp [sgA] at g1
    refine Sim.seq (Sim.draw hmix (by simp) ?_)
    refine SimR.many hΓ 16 (by simp [stageOps, blankOp]; rfl) (by omega) (by kernel_rfl) (by simp (decide := true) [g1, hmW, a3, en]; first | exact ⟨rfl, rfl⟩ | exact ⟨by kernel_rfl, rfl, rfl⟩) ?_
    refine SimR.done rfl ?_
    dsimp only
    refine Sim.exec hmix hΓ (n := 0) (by simp; exact ⟨rfl, rfl, rfl⟩) (by simp) ?_
    exact ⟨rfl, Weak.mk' [0, 1, 5] (by decide) (by decide) (by simp) (by simp)⟩

end Go.Proofs.Ytbbgmaklmlagcaa
