/- The law cedillalaw05.EntryBack: its arguments. -/
import Derived.Test.YtndkhkponamplaaEm
import Derived.Test.YtndkhkponamplaaLa
namespace Go.Proofs.Ytndkhkponamplaa
open Go
set_option maxRecDepth 100000
attribute [-simp] drawOk_eq adraw qrun acode aops

theorem absOk_row {el : List Prim} {ts : List CT} {k : Nat} {xs : List AV} {H : AHeap} (h : AbsOk (.row el :: ts) k xs H) :
    ∃ x ys l n H2, xs = x :: ys ∧ H = .cells false l :: H2 ∧ (n = 0 ∧ x = .nils ∨ x = .slice k 0 n el.length false) ∧ n ≤ maxLen ∧ All2 PrimA (List.replicate n el).flatten l ∧ AbsOk ts (k + 1) ys H2 := by
  cases xs with
  | nil => exact h.elim
  | cons x ys =>
    cases H with
    | nil => exact h.elim
    | cons B H1 =>
      simp only [AbsOk] at h
      obtain ⟨⟨l, n, rfl, h3, h4, h5⟩, h6⟩ := h
      exact ⟨x, ys, l, n, H1, rfl, rfl, h3, h4, h5, h6⟩

/-- A row of bytes. -/
theorem row_bytes : ∀ {n : Nat} {l : List AV}, All2 PrimA (List.replicate n [Prim.int .u8]).flatten l → ∃ ls : List Nat, l = ls.map aB ∧ ls.length = n ∧ ∀ c ∈ ls, c < 256
  | 0, [], _ => ⟨[], rfl, rfl, by simp⟩
  | n + 1, x :: l, h => by
    rw [List.replicate_succ, List.flatten_cons] at h
    obtain ⟨a, rfl, ha⟩ := h.1
    obtain ⟨ls, rfl, hl, h2⟩ := row_bytes (n := n) (l := l) h.2
    have hb := bounds_u8 ha
    refine ⟨a.toNat :: ls, by simp [aB]; omega, by simp [hl], fun c hc => ?_⟩
    rcases List.mem_cons.1 hc with rfl | hc
    · omega
    · exact h2 c hc
  | 0, _ :: _, h => h.elim
  | n + 1, [], h => by
    rw [List.replicate_succ, List.flatten_cons] at h
    exact h.elim

def entryBack_shape : List (Bool × List CT) := [(true, [.row [.int .u8], .one (.int .u32), .one .bool]), (true, [.row [.int .u8], .one (.int .u32), .one .bool]), (false, [.one .str])]

theorem entryBack_law : ∀ xs H, AbsArgs entryBack_shape 0 xs H → ∃ H', Ct Try.prog 4 xs H (.bool true) H' := by
  intro xs H h0
  obtain ⟨z1, y1, H1, H2, rfl, k0, rfl, h1⟩ := absArgs_agg h0
  obtain ⟨x1, w1, l, n, H3, rfl, rfl, hx, hmx, hl, k1⟩ := absOk_row k0
  obtain ⟨x2, w2, rfl, ⟨na, rfl, hna⟩, k2⟩ := absOk_one k1
  obtain ⟨x3, w3, rfl, ⟨ga, rfl⟩, k3⟩ := absOk_one k2
  obtain ⟨rfl, rfl⟩ := absOk_nil k3
  obtain ⟨la, rfl, hn, ha⟩ := row_bytes hl
  obtain ⟨z2, y2, H4, H5, rfl, j0, rfl, h2⟩ := absArgs_agg h1
  obtain ⟨u1, v1, m, o, H6, rfl, rfl, hy, hmy, hm, j1⟩ := absOk_row j0
  obtain ⟨u2, v2, rfl, ⟨nb, rfl, hnb⟩, j2⟩ := absOk_one j1
  obtain ⟨u3, v3, rfl, ⟨gb, rfl⟩, j3⟩ := absOk_one j2
  obtain ⟨rfl, rfl⟩ := absOk_nil j3
  obtain ⟨lb, rfl, ho, hb⟩ := row_bytes hm
  obtain ⟨x4, y3, rfl, ⟨s, rfl, hs⟩, h3⟩ := absArgs_one h2
  obtain ⟨rfl, rfl⟩ := absArgs_nil h3
  subst hn; subst ho
  have ba := bounds_u32 hna
  have bb := bounds_u32 hnb
  have hc := eback_ct la lb na nb ga gb s ha hb (by unfold maxLen at hmx; omega) (by unfold maxLen at hmy; omega) (by simp [okN]; omega) (by simp [okN]; omega) (by unfold maxLen at hs; omega)
  refine ⟨_, ct_args hc fun j vs hv => ?_⟩
  simp only [VRs, VR] at hv ⊢
  obtain ⟨c1, ws1, e1, ⟨cs1, e2, p1, q1, r1, s1, e3⟩, c2, ws2, e4, ⟨cs2, e5, p2, q2, r2, s2, e6⟩, e7⟩ := hv
  exact ⟨c1, ws1, e1, ⟨cs1, e2, p1, q1, r1, VR_arg_sl hx s1, e3⟩, c2, ws2, e4, ⟨cs2, e5, p2, q2, r2, VR_arg_sl hy s2, e6⟩, e7⟩

end Go.Proofs.Ytndkhkponamplaa
