/- 'cedillalaw23.ManifestBursts': its arguments. -/
import Derived.Test.YtbbgmaklmlagcaaNf
namespace Go.Proofs.Ytbbgmaklmlagcaa
open Go
set_option maxRecDepth 100000

def manifestBursts_shape : List (Bool × List CT) := [(true, [.one (.int .i64), .one (.int .i64), .one (.int .i64), .row [.int .i64, .int .i64, .int .i64]]), (false, [.one (.int .u16)]), (false, [.one (.int .u32)])]

theorem manifestBursts_law : ∀ xs H, AbsArgs manifestBursts_shape 0 xs H → ∃ H', Ct Try.prog 5 xs H (.bool true) H' := by
  intro xs H h0
  obtain ⟨z1, y1, H1, H2, rfl, k0, rfl, h1⟩ := absArgs_agg h0
  obtain ⟨x1, w1, rfl, ⟨v, rfl, _⟩, k1⟩ := absOk_one k0
  obtain ⟨x2, w2, rfl, ⟨f, rfl, _⟩, k2⟩ := absOk_one k1
  obtain ⟨x3, w3, rfl, ⟨n, rfl, _⟩, k3⟩ := absOk_one k2
  obtain ⟨x4, w4, l, a, H3, rfl, rfl, hx, _, hl, k4⟩ := absOk_row k3
  obtain ⟨rfl, rfl⟩ := absOk_nil k4
  obtain ⟨ss, rfl, hn⟩ := row_sgs hl
  obtain ⟨x5, y2, rfl, ⟨a, rfl, ha⟩, h2⟩ := absArgs_one h1
  obtain ⟨x6, y3, rfl, ⟨p, rfl, _⟩, h3⟩ := absArgs_one h2
  obtain ⟨rfl, rfl⟩ := absArgs_nil h3
  subst hn
  have ba := bounds_u16 ha
  obtain ⟨H', hc⟩ := bursts_ct ⟨v, f, n, ss⟩ a p ba.1 (by omega)
  refine ⟨H', ct_args hc fun j vs hv => ?_⟩
  simp only [VRs, VR, mfA] at hv ⊢
  obtain ⟨c1, ws1, e1, ⟨cs1, e2, p1, q1, r1, s1, p2, q2, r2, s2, p3, q3, r3, s3, p4, q4, r4, s4, e4⟩, t2⟩ := hv
  exact ⟨c1, ws1, e1, ⟨cs1, e2, p1, q1, r1, s1, p2, q2, r2, s2, p3, q3, r3, s3, p4, q4, r4, VR_arg_sl hx s4, e4⟩, t2⟩

end Go.Proofs.Ytbbgmaklmlagcaa
