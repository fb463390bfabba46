/- Walk: cedillalaw23.ManifestBack. -/
import Derived.Test.YtbbgmaklmlagcaaNc
import Derived.Test.YtbbgmaklmlagcaaMk
namespace Go.Proofs.Ytbbgmaklmlagcaa
open Go
set_option maxRecDepth 100000
attribute [-simp] drawOk_eq adraw qrun acode aops

theorem bkΓ_ok : GOk Try.prog (gams [(20, madeS), (27, mputS), (28, mgetS), (18, mrightS), (26, msameS), (45, sealS), (14, trueS)]) :=
  goks_cons made_sound (goks_cons mput_sound (goks_cons mget_sound (goks_cons mright_sound (goks_cons msame_sound (goks_cons seal_sound (goks_cons (true_sound Try.func14 rfl (by decide) mworks_ct) goks_nil))))))

theorem beq_dec (p q : List UInt8) : (p == q) = decide (p = q) := by cases hx : (p == q) <;> simp_all

theorem Mf.bytes_le {m : Mf} (h : m.right = true) : m.bytes.length ≤ 30000 := by
  have := Mf.put_len h
  simp only [Mf.bytes, Cr.seal_length, List.length_append, List.length_cons, List.length_nil]
  omega

set_option maxHeartbeats 8000000 in
theorem back_ct (a b : Mf) (s : List UInt8) :
    ∃ H', Ct Try.prog 9 [mfA 0 a, mfA 1 b, .str s] [.cells false (sgsA a.segs), .cells false (sgsA b.segs)] (.bool true) H' := by
  have hΓ := bkΓ_ok
  refine ⟨[.cells false (sgsA a.segs), .cells false (sgsA b.segs)], ?_⟩
  refine ct_of_sim Try.func9 rfl ?_
  have ra := Mf.made_right a
  have rb := Mf.made_right b
  have ba : a.made.segs.length ≤ 20 := by unfold Mf.made; simp; omega
  have bb : b.made.segs.length ≤ 20 := by unfold Mf.made; simp; omega
  obtain ⟨X, eX⟩ : ∃ M, a.made = M := ⟨_, rfl⟩
  obtain ⟨Y, eY⟩ : ∃ M, b.made = M := ⟨_, rfl⟩
  rw [eX] at ra ba
  rw [eY] at rb bb
  have lX : X.segs.length ≤ 1000000000000 := by omega
  have lY : Y.segs.length ≤ 1000000000000 := by omega
  have pX := Mf.bytes_le ra
  have pY := Mf.bytes_le rb
  have gX := Mf.get_put ra
  have uX : X.put = (X.bytes, 0) := by unfold Mf.put; rw [if_pos ra]
  have uY : Y.put = (Y.bytes, 0) := by unfold Mf.put; rw [if_pos rb]
  have eqs : decide (X.bytes = Y.bytes) = decide (X = Y) := by
    simp only [decide_eq_decide]
    exact ⟨Mf.bytes_inj ra rb, fun h => by rw [h]⟩
  obtain ⟨p, hp⟩ : ∃ p, X.bytes = p := ⟨_, rfl⟩
  obtain ⟨q, hq⟩ : ∃ q, Y.bytes = q := ⟨_, rfl⟩
  rw [hp] at pX gX uX eqs
  rw [hq] at pY uY eqs
  rw [mf_dec] at eqs
  have lp : p.length ≤ 1000000000000 := by omega
  obtain ⟨av, af, an, al⟩ := a
  obtain ⟨bv, bf, bn, bl⟩ := b
  obtain ⟨v, f, n, l⟩ := X
  obtain ⟨v', f', n', l'⟩ := Y
  simp only at lX lY eqs
  have eqs2 : ((p == q) = (decide (v = v') && (decide (f = f') && (decide (n = n') && decide (l = l'))))) = True := by
    rw [beq_dec, eqs]
    exact eq_true rfl
  simp only [Try.ntmps9, List.length_cons, List.length_nil, Nat.reduceAdd, Nat.reduceSub, List.replicate, List.cons_append, List.nil_append, mfA]
  refine Sim.step hmix hΓ (n := 0) (by simp; exact ⟨rfl, rfl⟩) (by simp) ?_
  refine Sim.step hmix hΓ (n := 0) (by simp [trueS]; exact ⟨rfl, rfl⟩) (by simp) ?_
  refine Sim.seq (Sim.draw hmix (by simp) ?_)
  refine SimR.many hΓ 8 (by simp [stageOps]; rfl) (by omega) (by kernel_rfl) (by simp (decide := true) [madeS, rowSgs, eX, eY, mfA, scA]; first | exact ⟨rfl, rfl⟩ | exact ⟨by kernel_rfl, rfl, rfl⟩) ?_
  refine SimR.done rfl ?_
  dsimp only
  refine Sim.step hmix hΓ (n := 0) (by simp [mputS, rowSgs, lX, uX]; exact ⟨rfl, rfl⟩) (by simp) ?_
  refine Sim.step hmix hΓ (n := 0) (by simp [mputS, rowSgs, lY, uY]; exact ⟨rfl, rfl⟩) (by simp) ?_
  refine Sim.step hmix hΓ (n := 0) (by simp [mgetS, gX, lp, mfA]; exact ⟨rfl, rfl⟩) (by simp) ?_
  refine Sim.step hmix hΓ (n := 0) (by simp [mrightS, msameS, rowSgs, lX, ra, eqs2]; exact ⟨rfl, rfl⟩) (by simp) ?_
  obtain ⟨d, hd, hd1, hd2, hd3⟩ := min_cut s.length 200 (by omega)
  have hd4 : (d : Int) ≤ (s.length : Int) := by omega
  obtain ⟨u, hu⟩ : ∃ u, s.take d = u := ⟨_, rfl⟩
  have lu : u.length ≤ 200 := by rw [← hu]; simp; omega
  refine Sim.step hmix hΓ (n := 0) (by simp [-minA, minA_min, hd, hd4, hu]; exact ⟨rfl, rfl⟩) (by simp) ?_
  have j1 : u.length ≤ 1000000000000 := by omega
  have j2 : u.length + 1 + 1 + 1 ≤ 1000000000000 := by omega
  have j3 : 3 + u.length ≤ 9223372036854775807 := by omega
  refine Sim.seq (Sim.step hmix hΓ (n := 0) (by simp [sealS, j1, j2, j3]; exact ⟨rfl, rfl⟩) (by simp) ?_)
  obtain ⟨B, hB⟩ : ∃ B, Cr.seal u = B := ⟨_, rfl⟩
  obtain ⟨C, hC⟩ : ∃ C, Cr.seal (67 :: 77 :: 1 :: u) = C := ⟨_, rfl⟩
  have lB : B.length ≤ 1000000000000 := by rw [← hB, Cr.seal_length]; omega
  have lC : C.length ≤ 1000000000000 := by rw [← hC, Cr.seal_length]; simp; omega
  rw [hB, hC]
  refine Sim.block (Sim.loopW (fun i : Nat => i ≤ 3)
    (fun i => List.replicate 6 .top ++ [.bool false] ++ List.replicate 76 .top ++ [.agg [.str u, .str B, .str C], .int .i64 (i : Nat)] ++ List.replicate 27 .top) (fun _ => [.cells false (sgsA al), .cells false (sgsA bl)]) (fun i => 3 - i) 0 (by simp) (by simp) ?_ fun i hi => ?_)
  · exact Weak.mk' [0, 1] (by decide) (by decide) (by simp) (by simp)
  by_cases hi3 : i < 3
  · match i, hi3 with
    | 0, _ =>
      refine Sim.step hmix hΓ (n := 0) (by simp; exact ⟨rfl, rfl⟩) (by simp) ?_
      refine Sim.step hmix hΓ (n := 0) (by simp; exact ⟨rfl, rfl⟩) (by simp) ?_
      refine Sim.seq (Sim.block ?_)
      refine Sim.step hmix hΓ (n := 0) (by simp; exact ⟨rfl, rfl⟩) (by simp) ?_
      have gb := Mf.get_back u
      have gf := Mf.get_few u
      obtain ⟨⟨⟨mv, mf, mn, ml⟩, e⟩, hg⟩ : ∃ r, Mf.get u = r := ⟨_, rfl⟩
      rw [hg] at gb gf
      simp only at gf
      have lm : ml.length ≤ 1000000000000 := by omega
      refine Sim.step hmix hΓ (n := 0) (by simp [mgetS, hg, j1, mfA]; exact ⟨rfl, rfl⟩) (by simp) ?_
      by_cases he : e = 0
      · subst he
        obtain ⟨r1, r2⟩ := gb _ rfl
        have r3 : Mf.put ⟨mv, mf, mn, ml⟩ = (u, 0) := by unfold Mf.put; rw [if_pos r1, r2]
        refine Sim.exec hmix hΓ (n := 0) (by simp [mputS, mrightS, rowSgs, lm, r1, r3]; exact ⟨rfl, rfl, rfl⟩) (by simp) ?_
        dsimp only
        refine Sim.exec hmix hΓ (n := 0) (by simp; exact ⟨rfl, rfl, rfl⟩) (by simp) ?_
        exact ⟨1, by omega, Weak.mk' [0, 1] (by decide) (by decide) (by simp) (by simp), by omega⟩
      · refine Sim.exec hmix hΓ (n := 0) (by simp [he]; exact ⟨rfl, rfl, rfl⟩) (by simp) ?_
        dsimp only
        rw [if_pos rfl]
        refine Sim.exec hmix hΓ (n := 0) (by simp; exact ⟨rfl, rfl, rfl⟩) (by simp) ?_
        exact ⟨1, by omega, Weak.mk' [0, 1] (by decide) (by decide) (by simp) (by simp), by omega⟩
    | 1, _ =>
      refine Sim.step hmix hΓ (n := 0) (by simp; exact ⟨rfl, rfl⟩) (by simp) ?_
      refine Sim.step hmix hΓ (n := 0) (by simp; exact ⟨rfl, rfl⟩) (by simp) ?_
      refine Sim.seq (Sim.block ?_)
      refine Sim.step hmix hΓ (n := 0) (by simp; exact ⟨rfl, rfl⟩) (by simp) ?_
      have gb := Mf.get_back B
      have gf := Mf.get_few B
      obtain ⟨⟨⟨mv, mf, mn, ml⟩, e⟩, hg⟩ : ∃ r, Mf.get B = r := ⟨_, rfl⟩
      rw [hg] at gb gf
      simp only at gf
      have lm : ml.length ≤ 1000000000000 := by omega
      refine Sim.step hmix hΓ (n := 0) (by simp [mgetS, hg, lB, mfA]; exact ⟨rfl, rfl⟩) (by simp) ?_
      by_cases he : e = 0
      · subst he
        obtain ⟨r1, r2⟩ := gb _ rfl
        have r3 : Mf.put ⟨mv, mf, mn, ml⟩ = (B, 0) := by unfold Mf.put; rw [if_pos r1, r2]
        refine Sim.exec hmix hΓ (n := 0) (by simp [mputS, mrightS, rowSgs, lm, r1, r3]; exact ⟨rfl, rfl, rfl⟩) (by simp) ?_
        dsimp only
        refine Sim.exec hmix hΓ (n := 0) (by simp; exact ⟨rfl, rfl, rfl⟩) (by simp) ?_
        exact ⟨2, by omega, Weak.mk' [0, 1] (by decide) (by decide) (by simp) (by simp), by omega⟩
      · refine Sim.exec hmix hΓ (n := 0) (by simp [he]; exact ⟨rfl, rfl, rfl⟩) (by simp) ?_
        dsimp only
        rw [if_pos rfl]
        refine Sim.exec hmix hΓ (n := 0) (by simp; exact ⟨rfl, rfl, rfl⟩) (by simp) ?_
        exact ⟨2, by omega, Weak.mk' [0, 1] (by decide) (by decide) (by simp) (by simp), by omega⟩
    | 2, _ =>
      refine Sim.step hmix hΓ (n := 0) (by simp; exact ⟨rfl, rfl⟩) (by simp) ?_
      refine Sim.step hmix hΓ (n := 0) (by simp; exact ⟨rfl, rfl⟩) (by simp) ?_
      refine Sim.seq (Sim.block ?_)
      refine Sim.step hmix hΓ (n := 0) (by simp; exact ⟨rfl, rfl⟩) (by simp) ?_
      have gb := Mf.get_back C
      have gf := Mf.get_few C
      obtain ⟨⟨⟨mv, mf, mn, ml⟩, e⟩, hg⟩ : ∃ r, Mf.get C = r := ⟨_, rfl⟩
      rw [hg] at gb gf
      simp only at gf
      have lm : ml.length ≤ 1000000000000 := by omega
      refine Sim.step hmix hΓ (n := 0) (by simp [mgetS, hg, lC, mfA]; exact ⟨rfl, rfl⟩) (by simp) ?_
      by_cases he : e = 0
      · subst he
        obtain ⟨r1, r2⟩ := gb _ rfl
        have r3 : Mf.put ⟨mv, mf, mn, ml⟩ = (C, 0) := by unfold Mf.put; rw [if_pos r1, r2]
        refine Sim.exec hmix hΓ (n := 0) (by simp [mputS, mrightS, rowSgs, lm, r1, r3]; exact ⟨rfl, rfl, rfl⟩) (by simp) ?_
        dsimp only
        refine Sim.exec hmix hΓ (n := 0) (by simp; exact ⟨rfl, rfl, rfl⟩) (by simp) ?_
        exact ⟨3, by omega, Weak.mk' [0, 1] (by decide) (by decide) (by simp) (by simp), by omega⟩
      · refine Sim.exec hmix hΓ (n := 0) (by simp [he]; exact ⟨rfl, rfl, rfl⟩) (by simp) ?_
        dsimp only
        rw [if_pos rfl]
        refine Sim.exec hmix hΓ (n := 0) (by simp; exact ⟨rfl, rfl, rfl⟩) (by simp) ?_
        exact ⟨3, by omega, Weak.mk' [0, 1] (by decide) (by decide) (by simp) (by simp), by omega⟩
  have : i = 3 := by omega
  subst this
  refine Sim.exec hmix hΓ (n := 0) (by simp; exact ⟨rfl, rfl, rfl⟩) (by simp) ?_
  dsimp only
  rw [if_pos rfl]
  refine Sim.exec hmix hΓ (n := 0) (by simp; exact ⟨rfl, rfl, rfl⟩) (by simp) ?_
  exact ⟨.inr rfl, _, by simp [Try.f9] <;> rfl, Weak.mk' [0, 1] (by decide) (by decide) (by simp) (by simp)⟩

def manifestBack_shape : List (Bool × List CT) := [(true, [.one (.int .i64), .one (.int .i64), .one (.int .i64), .row [.int .i64, .int .i64, .int .i64]]), (true, [.one (.int .i64), .one (.int .i64), .one (.int .i64), .row [.int .i64, .int .i64, .int .i64]]), (false, [.one .str])]

theorem manifestBack_law : ∀ xs H, AbsArgs manifestBack_shape 0 xs H → ∃ H', Ct Try.prog 9 xs H (.bool true) H' := by
  intro xs H h0
  obtain ⟨z1, y1, H1, H2, rfl, k0, rfl, h1⟩ := absArgs_agg h0
  obtain ⟨x1, w1, rfl, ⟨v, rfl, _⟩, k1⟩ := absOk_one k0
  obtain ⟨x2, w2, rfl, ⟨f, rfl, _⟩, k2⟩ := absOk_one k1
  obtain ⟨x3, w3, rfl, ⟨n, rfl, _⟩, k3⟩ := absOk_one k2
  obtain ⟨x4, w4, l, a, H3, rfl, rfl, hx, _, hl, k4⟩ := absOk_row k3
  obtain ⟨rfl, rfl⟩ := absOk_nil k4
  obtain ⟨ss, rfl, hn⟩ := row_sgs hl
  obtain ⟨z2, y3, H4, H5, rfl, j0, rfl, h3⟩ := absArgs_agg h1
  obtain ⟨u1, v1, rfl, ⟨v', rfl, _⟩, j1⟩ := absOk_one j0
  obtain ⟨u2, v2, rfl, ⟨f', rfl, _⟩, j2⟩ := absOk_one j1
  obtain ⟨u3, v3, rfl, ⟨n', rfl, _⟩, j3⟩ := absOk_one j2
  obtain ⟨u6, v6, tl, b, H6, rfl, rfl, hy, _, hm, j6⟩ := absOk_row j3
  obtain ⟨rfl, rfl⟩ := absOk_nil j6
  obtain ⟨tt, rfl, hb⟩ := row_sgs hm
  obtain ⟨x5, y2, rfl, ⟨s, rfl, _⟩, h4⟩ := absArgs_one h3
  obtain ⟨rfl, rfl⟩ := absArgs_nil h4
  subst hn; subst hb
  obtain ⟨H', hc⟩ := back_ct ⟨v, f, n, ss⟩ ⟨v', f', n', tt⟩ s
  refine ⟨H', ct_args hc fun j vs hv => ?_⟩
  simp only [VRs, VR, mfA] at hv ⊢
  obtain ⟨c1, ws1, e1, ⟨cs1, e2, p1, q1, r1, s1, p2, q2, r2, s2, p3, q3, r3, s3, p4, q4, r4, s4, e4⟩, c2, ws2, e5, ⟨cs2, e7, a1, b1, d1, g1, a2, b2, d2, g2, a3, b3, d3, g3, a6, b6, d6, g6, e8⟩, t2⟩ := hv
  exact ⟨c1, ws1, e1, ⟨cs1, e2, p1, q1, r1, s1, p2, q2, r2, s2, p3, q3, r3, s3, p4, q4, r4, VR_arg_sl hx s4, e4⟩, c2, ws2, e5, ⟨cs2, e7, a1, b1, d1, g1, a2, b2, d2, g2, a3, b3, d3, g3, a6, b6, d6, VR_arg_sl hy g6, e8⟩, t2⟩

end Go.Proofs.Ytbbgmaklmlagcaa
