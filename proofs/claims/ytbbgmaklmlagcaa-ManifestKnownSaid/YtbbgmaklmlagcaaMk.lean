/- 'cedillalaw23.ManifestTurns' in the large: both manifests, and the arguments. -/
import Derived.Test.YtbbgmaklmlagcaaMj
namespace Go.Proofs.Ytbbgmaklmlagcaa
open Go
set_option maxRecDepth 100000
attribute [-simp] drawOk_eq adraw qrun acode aops

set_option maxHeartbeats 8000000 in
theorem turns_ct (v0 f n0 fl ta tc tb x y : Int) (l tl : List Sg) :
    ∃ H', Ct Try.prog 4 [mfA 0 ⟨v0, f, n0, l⟩, .int .i64 fl, .agg [.int .u16 ta, .int .u16 tc, .int .u8 tb, .int .i64 x, .int .i64 y, .sl 1 0 tl.length 3 false]] [.cells false (sgsA l), .cells false (sgsA tl)] (.bool true) H' := by
  have hΓ := tuΓ_ok
  refine ⟨[.cells false (sgsA l), .cells false (sgsA tl)], ?_⟩
  refine ct_of_sim Try.func4 rfl ?_
  simp only [Try.ntmps4, List.length_cons, List.length_nil, Nat.reduceAdd, Nat.reduceSub, List.replicate, List.cons_append, List.nil_append, mfA]
  refine Sim.step hmix hΓ (n := 0) (by simp; exact ⟨rfl, rfl⟩) (by simp) ?_
  obtain ⟨d, hd, hd1, hd2, hd3⟩ := min_cut tl.length 5 (by omega)
  refine Sim.step hmix hΓ (n := 0) (by simp [-minA, minA_min, hd, hd1]; exact ⟨rfl, rfl⟩) (by simp) ?_
  have z0 : ¬ ((1099511627776 : Int) = 0) := by decide
  obtain ⟨v, ev⟩ : ∃ v, v0.tmod 1099511627776 = v := ⟨_, rfl⟩
  obtain ⟨n, en⟩ : ∃ n, n0.tmod 1099511627776 = n := ⟨_, rfl⟩
  have bv1 := Int.lt_tmod_of_pos v0 (show (0 : Int) < 1099511627776 by decide)
  have bv2 := Int.tmod_lt_of_pos v0 (show (0 : Int) < 1099511627776 by decide)
  have bn1 := Int.lt_tmod_of_pos n0 (show (0 : Int) < 1099511627776 by decide)
  have bn2 := Int.tmod_lt_of_pos n0 (show (0 : Int) < 1099511627776 by decide)
  rw [ev] at bv1 bv2
  rw [en] at bn1 bn2
  refine Sim.step hmix hΓ (n := 0) (by simp [ev]; exact ⟨rfl, rfl⟩) (by simp) ?_
  refine Sim.step hmix hΓ (n := 0) (by simp [en]; exact ⟨rfl, rfl⟩) (by simp) ?_
  obtain ⟨c, hc, hc1, hc2, hc3⟩ := min_cut l.length 20 (by omega)
  obtain ⟨M, eM⟩ : ∃ M, Mf.made ⟨v, f, n, l⟩ = M := ⟨_, rfl⟩
  have bM : M.segs.length ≤ 20 ∧ 0 ≤ M.v ∧ M.v ≤ 900000000 ∧ 0 ≤ M.n ∧ M.n ≤ 900000000 := by
    have h1 := modI_rng v 900000001 (by omega)
    have h3 := modI_rng n 800000000 (by omega)
    rw [← eM]; unfold Mf.made; simp; omega
  refine Sim.seq (Sim.seq (Sim.draw hmix (by simp) ?_))
  refine SimR.many hΓ 6 (by simp [stageOps, blankOp]; rfl) (by omega) (by kernel_rfl) (by simp (decide := true) [-minA, minA_min, tuInl, Try.f19, hc, hc1, madeS, rowSgs, eM, mfA, scA]; first | exact ⟨rfl, rfl⟩ | exact ⟨by kernel_rfl, rfl, rfl⟩) ?_
  refine SimR.done rfl ?_
  dsimp only
  refine Sim.block (Sim.loopW (fun i : Nat => i ≤ 2)
    (fun i => [.top, .int .i64 fl, .top, .ptr 2 0, .top, .ptr 3 0, .bool false, .sl 1 0 d 3 false] ++ List.replicate 29 .top ++ [.agg [.int .i64 v, .int .i64 f, .int .i64 n, .sl 0 0 c 3 false, .int .i64 M.v, .int .i64 M.f, .int .i64 M.n, .sl 4 0 M.segs.length 3 false], .int .i64 (i : Nat)] ++ List.replicate 110 .top) (fun _ => [.cells false (sgsA l), .cells false (sgsA tl), .cells true [.int .i64 v, .int .i64 f, .int .i64 n, .sl 0 0 l.length 3 false], .cells true [.int .u16 ta, .int .u16 tc, .int .u8 tb, .int .i64 x, .int .i64 y, .sl 1 0 tl.length 3 false], .cells true (sgsA M.segs)]) (fun i => 2 - i) 0 (by simp) (by omega) (Weak.mk' [0, 1, 2, 3, 6] (by decide) (by decide) (by simp) (by simp)) fun i hi => ?_)
  by_cases hi2 : i < 2
  · match i, hi2 with
    | 0, _ =>
      refine Sim.step hmix hΓ (n := 0) (by simp; exact ⟨rfl, rfl⟩) (by simp) ?_
      refine Sim.step hmix hΓ (n := 0) (by simp; exact ⟨rfl, rfl⟩) (by simp) ?_
      refine Sim.seq (Sim.block ?_)
      refine Sim.step hmix hΓ (n := 0) (by simp (decide := true); exact ⟨rfl, rfl⟩) (by simp) ?_
      have h := turns_round0 v f n M.v M.f M.n fl ta tc tb x y 0 v f n l tl M.segs (l.take c) (tl.take d) c d c hc1 (by omega) (sgs_take l c) (by simp; omega) hd1 (by omega) (sgs_take tl d) (by simp; omega) (by unfold Mf.fit; simp; omega)
      simp only [bodyOf, Try.f4, Option.getD_some, restC, inC, fstC] at h
      refine Sim.weak (Fn := [.top, .int .i64 fl, .top, .ptr 2 0, .top, .ptr 3 0, .bool false, .sl 1 0 d 3 false, .top, .ptr 5 0] ++ List.replicate 27 .top ++ [.agg [.int .i64 v, .int .i64 f, .int .i64 n, .sl 0 0 c 3 false, .int .i64 M.v, .int .i64 M.f, .int .i64 M.n, .sl 4 0 M.segs.length 3 false], .int .i64 0] ++ List.replicate 110 .top) (Hn := [.cells false (sgsA l), .cells false (sgsA tl), .cells true [.int .i64 v, .int .i64 f, .int .i64 n, .sl 0 0 l.length 3 false], .cells true [.int .u16 ta, .int .u16 tc, .int .u8 tb, .int .i64 x, .int .i64 y, .sl 1 0 tl.length 3 false], .cells true (sgsA M.segs), .cells true [.int .i64 v, .int .i64 f, .int .i64 n, .sl 0 0 c 3 false]]) (Weak.mk' [0, 1, 2, 3, 4, 5] (by decide) (by decide) (by simp) (by simp)) (by simp) (Sim.mono h ?_)
      rintro e F' H' hl ⟨rfl, hw⟩
      dsimp only
      refine Sim.weak hw hl ?_
      refine Sim.exec hmix hΓ (n := 0) (by simp; exact ⟨rfl, rfl, rfl⟩) (by simp) ?_
      exact ⟨1, by omega, Weak.mk' [0, 1, 2, 3, 4] (by decide) (by decide) (by simp) (by simp), by omega⟩
    | 1, _ =>
      refine Sim.step hmix hΓ (n := 0) (by simp; exact ⟨rfl, rfl⟩) (by simp) ?_
      refine Sim.step hmix hΓ (n := 0) (by simp; exact ⟨rfl, rfl⟩) (by simp) ?_
      refine Sim.seq (Sim.block ?_)
      refine Sim.step hmix hΓ (n := 0) (by simp (decide := true); exact ⟨rfl, rfl⟩) (by simp) ?_
      have h := turns_round4 v f n M.v M.f M.n fl ta tc tb x y 1 M.v M.f M.n l tl M.segs M.segs (tl.take d) c d M.segs.length (Nat.le_refl _) (by omega) (take_sgsA _) rfl hd1 (by omega) (sgs_take tl d) (by simp; omega) (by unfold Mf.fit; simp; omega)
      simp only [bodyOf, Try.f4, Option.getD_some, restC, inC, fstC] at h
      refine Sim.weak (Fn := [.top, .int .i64 fl, .top, .ptr 2 0, .top, .ptr 3 0, .bool false, .sl 1 0 d 3 false, .top, .ptr 5 0] ++ List.replicate 27 .top ++ [.agg [.int .i64 v, .int .i64 f, .int .i64 n, .sl 0 0 c 3 false, .int .i64 M.v, .int .i64 M.f, .int .i64 M.n, .sl 4 0 M.segs.length 3 false], .int .i64 1] ++ List.replicate 110 .top) (Hn := [.cells false (sgsA l), .cells false (sgsA tl), .cells true [.int .i64 v, .int .i64 f, .int .i64 n, .sl 0 0 l.length 3 false], .cells true [.int .u16 ta, .int .u16 tc, .int .u8 tb, .int .i64 x, .int .i64 y, .sl 1 0 tl.length 3 false], .cells true (sgsA M.segs), .cells true [.int .i64 M.v, .int .i64 M.f, .int .i64 M.n, .sl 4 0 M.segs.length 3 false]]) (Weak.mk' [0, 1, 2, 3, 4, 5] (by decide) (by decide) (by simp) (by simp)) (by simp) (Sim.mono h ?_)
      rintro e F' H' hl ⟨rfl, hw⟩
      dsimp only
      refine Sim.weak hw hl ?_
      refine Sim.exec hmix hΓ (n := 0) (by simp; exact ⟨rfl, rfl, rfl⟩) (by simp) ?_
      exact ⟨2, by omega, Weak.mk' [0, 1, 2, 3, 4] (by decide) (by decide) (by simp) (by simp), by omega⟩
  have : i = 2 := by omega
  subst this
  refine Sim.exec hmix hΓ (n := 0) (by simp; exact ⟨rfl, rfl, rfl⟩) (by simp) ?_
  dsimp only
  rw [if_pos rfl]
  refine Sim.step hmix hΓ (n := 0) (by simp [tuInl, trueS]; exact ⟨rfl, rfl⟩) (by simp) ?_
  refine Sim.exec hmix hΓ (n := 0) (by simp; exact ⟨rfl, rfl, rfl⟩) (by simp) ?_
  exact ⟨.inr rfl, _, by simp [Try.f4] <;> rfl, Weak.mk' [0, 1] (by decide) (by decide) (by simp) (by simp)⟩

/-- A row, as a part of arguments. -/
theorem absOk_row {el : List Prim} {ts : List CT} {k : Nat} {xs : List AV} {H : AHeap} (h : AbsOk (.row el :: ts) k xs H) :
    ∃ x ys l n H2, xs = x :: ys ∧ H = .cells false l :: H2 ∧ (n = 0 ∧ x = .nils ∨ x = .slice k 0 n el.length false) ∧ n ≤ maxLen ∧ All2 PrimA (List.replicate n el).flatten l ∧ AbsOk ts (k + 1) ys H2 := by
  cases xs with
  | nil => exact h.elim
  | cons x ys =>
    cases H with
    | nil => exact h.elim
    | cons B H1 =>
      simp only [AbsOk] at h
      obtain ⟨⟨l, n, rfl, h3, h4, h5⟩, h6⟩ := h
      exact ⟨x, ys, l, n, H1, rfl, rfl, h3, h4, h5, h6⟩

/-- A row of segments. -/
theorem row_sgs : ∀ {n : Nat} {l : List AV}, All2 PrimA (List.replicate n [Prim.int .i64, Prim.int .i64, Prim.int .i64]).flatten l → ∃ ss : List Sg, l = sgsA ss ∧ ss.length = n
  | 0, [], _ => ⟨[], rfl, rfl⟩
  | n + 1, x :: l, h => by
    rw [List.replicate_succ, List.flatten_cons] at h
    obtain ⟨a, rfl, _⟩ := h.1
    have h2 := h.2
    cases l with
    | nil => exact h2.elim
    | cons y l =>
      obtain ⟨b, rfl, _⟩ := h2.1
      have h3 := h2.2
      cases l with
      | nil => exact h3.elim
      | cons z l =>
        obtain ⟨c, rfl, _⟩ := h3.1
        obtain ⟨ss, rfl, hl⟩ := row_sgs (n := n) (l := l) h3.2
        exact ⟨(a, b, c) :: ss, rfl, by simp [hl]⟩
  | 0, _ :: _, h => h.elim
  | n + 1, [], h => by
    rw [List.replicate_succ, List.flatten_cons] at h
    exact h.elim

def manifestTurns_shape : List (Bool × List CT) := [(true, [.one (.int .i64), .one (.int .i64), .one (.int .i64), .row [.int .i64, .int .i64, .int .i64]]), (false, [.one (.int .i64)]), (true, [.one (.int .u16), .one (.int .u16), .one (.int .u8), .one (.int .i64), .one (.int .i64), .row [.int .i64, .int .i64, .int .i64]])]

theorem manifestTurns_law : ∀ xs H, AbsArgs manifestTurns_shape 0 xs H → ∃ H', Ct Try.prog 4 xs H (.bool true) H' := by
  intro xs H h0
  obtain ⟨z1, y1, H1, H2, rfl, k0, rfl, h1⟩ := absArgs_agg h0
  obtain ⟨x1, w1, rfl, ⟨v, rfl, _⟩, k1⟩ := absOk_one k0
  obtain ⟨x2, w2, rfl, ⟨f, rfl, _⟩, k2⟩ := absOk_one k1
  obtain ⟨x3, w3, rfl, ⟨n, rfl, _⟩, k3⟩ := absOk_one k2
  obtain ⟨x4, w4, l, a, H3, rfl, rfl, hx, _, hl, k4⟩ := absOk_row k3
  obtain ⟨rfl, rfl⟩ := absOk_nil k4
  obtain ⟨ss, rfl, hn⟩ := row_sgs hl
  obtain ⟨x5, y2, rfl, ⟨fl, rfl, _⟩, h2⟩ := absArgs_one h1
  obtain ⟨z2, y3, H4, H5, rfl, j0, rfl, h3⟩ := absArgs_agg h2
  obtain ⟨u1, v1, rfl, ⟨ta, rfl, _⟩, j1⟩ := absOk_one j0
  obtain ⟨u2, v2, rfl, ⟨tc, rfl, _⟩, j2⟩ := absOk_one j1
  obtain ⟨u3, v3, rfl, ⟨tb, rfl, _⟩, j3⟩ := absOk_one j2
  obtain ⟨u4, v4, rfl, ⟨x, rfl, _⟩, j4⟩ := absOk_one j3
  obtain ⟨u5, v5, rfl, ⟨y, rfl, _⟩, j5⟩ := absOk_one j4
  obtain ⟨u6, v6, tl, b, H6, rfl, rfl, hy, _, hm, j6⟩ := absOk_row j5
  obtain ⟨rfl, rfl⟩ := absOk_nil j6
  obtain ⟨rfl, rfl⟩ := absArgs_nil h3
  obtain ⟨tt, rfl, hb⟩ := row_sgs hm
  subst hn; subst hb
  obtain ⟨H', hc⟩ := turns_ct v f n fl ta tc tb x y ss tt
  refine ⟨H', ct_args hc fun j vs hv => ?_⟩
  simp only [VRs, VR, mfA] at hv ⊢
  obtain ⟨c1, ws1, e1, ⟨cs1, e2, p1, q1, r1, s1, p2, q2, r2, s2, p3, q3, r3, s3, p4, q4, r4, s4, e4⟩, c2, ws2, e5, t2, c3, ws3, e6, ⟨cs2, e7, a1, b1, d1, g1, a2, b2, d2, g2, a3, b3, d3, g3, a4, b4, d4, g4, a5, b5, d5, g5, a6, b6, d6, g6, e8⟩, e9⟩ := hv
  exact ⟨c1, ws1, e1, ⟨cs1, e2, p1, q1, r1, s1, p2, q2, r2, s2, p3, q3, r3, s3, p4, q4, r4, VR_arg_sl hx s4, e4⟩, c2, ws2, e5, t2, c3, ws3, e6, ⟨cs2, e7, a1, b1, d1, g1, a2, b2, d2, g2, a3, b3, d3, g3, a4, b4, d4, g4, a5, b5, d5, g5, a6, b6, d6, VR_arg_sl hy g6, e8⟩, e9⟩

end Go.Proofs.Ytbbgmaklmlagcaa
