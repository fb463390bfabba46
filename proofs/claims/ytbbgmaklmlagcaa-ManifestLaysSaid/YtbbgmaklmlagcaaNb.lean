/- 'cedillalaw23.ManifestLays': its arguments. -/
import Derived.Test.YtbbgmaklmlagcaaNa
import Derived.Test.YtbbgmaklmlagcaaMk
namespace Go.Proofs.Ytbbgmaklmlagcaa
open Go
set_option maxRecDepth 100000
attribute [-simp] drawOk_eq adraw qrun acode aops

def manifestLays_shape : List (Bool × List CT) := [(true, [.one (.int .i64), .one (.int .i64), .one (.int .i64), .row [.int .i64, .int .i64, .int .i64]]), (false, [.one .str]), (true, [.one (.int .u16), .one (.int .u16), .one (.int .u8), .one (.int .i64), .one (.int .i64), .row [.int .i64, .int .i64, .int .i64]])]

theorem manifestLays_law : ∀ xs H, AbsArgs manifestLays_shape 0 xs H → ∃ H', Ct Try.prog 8 xs H (.bool true) H' := by
  intro xs H h0
  obtain ⟨z1, y1, H1, H2, rfl, k0, rfl, h1⟩ := absArgs_agg h0
  obtain ⟨x1, w1, rfl, ⟨v, rfl, _⟩, k1⟩ := absOk_one k0
  obtain ⟨x2, w2, rfl, ⟨f, rfl, _⟩, k2⟩ := absOk_one k1
  obtain ⟨x3, w3, rfl, ⟨n, rfl, _⟩, k3⟩ := absOk_one k2
  obtain ⟨x4, w4, l, a, H3, rfl, rfl, hx, _, hl, k4⟩ := absOk_row k3
  obtain ⟨rfl, rfl⟩ := absOk_nil k4
  obtain ⟨ss, rfl, hn⟩ := row_sgs hl
  obtain ⟨x5, y2, rfl, ⟨s, rfl, _⟩, h2⟩ := absArgs_one h1
  obtain ⟨z2, y3, H4, H5, rfl, j0, rfl, h3⟩ := absArgs_agg h2
  obtain ⟨u1, v1, rfl, ⟨ta, rfl, ha⟩, j1⟩ := absOk_one j0
  obtain ⟨u2, v2, rfl, ⟨tc, rfl, hc2⟩, j2⟩ := absOk_one j1
  obtain ⟨u3, v3, rfl, ⟨tb, rfl, _⟩, j3⟩ := absOk_one j2
  obtain ⟨u4, v4, rfl, ⟨x, rfl, _⟩, j4⟩ := absOk_one j3
  obtain ⟨u5, v5, rfl, ⟨y, rfl, _⟩, j5⟩ := absOk_one j4
  obtain ⟨u6, v6, tl, b, H6, rfl, rfl, hy, _, hm, j6⟩ := absOk_row j5
  obtain ⟨rfl, rfl⟩ := absOk_nil j6
  obtain ⟨rfl, rfl⟩ := absArgs_nil h3
  obtain ⟨tt, rfl, hb⟩ := row_sgs hm
  subst hn; subst hb
  have ba := bounds_u16 ha
  have bb := bounds_u16 hc2
  obtain ⟨H', hc⟩ := lays_ct v f n ta tc tb x y ss tt s ba.1 (by omega) bb.1 (by omega)
  refine ⟨H', ct_args hc fun j vs hv => ?_⟩
  simp only [VRs, VR, mfA] at hv ⊢
  obtain ⟨c1, ws1, e1, ⟨cs1, e2, p1, q1, r1, s1, p2, q2, r2, s2, p3, q3, r3, s3, p4, q4, r4, s4, e4⟩, c2, ws2, e5, t2, c3, ws3, e6, ⟨cs2, e7, a1, b1, d1, g1, a2, b2, d2, g2, a3, b3, d3, g3, a4, b4, d4, g4, a5, b5, d5, g5, a6, b6, d6, g6, e8⟩, e9⟩ := hv
  exact ⟨c1, ws1, e1, ⟨cs1, e2, p1, q1, r1, s1, p2, q2, r2, s2, p3, q3, r3, s3, p4, q4, r4, VR_arg_sl hx s4, e4⟩, c2, ws2, e5, t2, c3, ws3, e6, ⟨cs2, e7, a1, b1, d1, g1, a2, b2, d2, g2, a3, b3, d3, g3, a4, b4, d4, g4, a5, b5, d5, g5, a6, b6, d6, VR_arg_sl hy g6, e8⟩, e9⟩

end Go.Proofs.Ytbbgmaklmlagcaa
