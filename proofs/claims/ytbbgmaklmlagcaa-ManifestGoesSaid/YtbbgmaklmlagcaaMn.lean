/- 'cedillalaw23.ManifestGoes' in the large. -/
import Derived.Test.YtbbgmaklmlagcaaMm
namespace Go.Proofs.Ytbbgmaklmlagcaa
open Go
set_option maxRecDepth 100000
attribute [-simp] drawOk_eq adraw qrun acode aops

set_option maxHeartbeats 16000000 in
theorem goes_ct (l : List (Int × Int × Int)) (hb : ∀ x ∈ l, (0 ≤ x.1 ∧ x.1 ≤ 255) ∧ (0 ≤ x.2.1 ∧ x.2.1 ≤ 255) ∧ (0 ≤ x.2.2 ∧ x.2.2 ≤ 255)) :
    ∃ H', Ct Try.prog 3 [.sl 0 0 l.length 3 false] [.cells false (gosA l)] (.bool true) H' := by
  have hΓ := goΓ_ok
  refine ⟨[.cells false (gosA l)], ?_⟩
  refine ct_of_sim Try.func3 rfl ?_
  simp only [Try.ntmps3, List.length_cons, List.length_nil, Nat.reduceAdd, Nat.reduceSub, List.replicate, List.cons_append, List.nil_append]
  refine Sim.step hmix hΓ (n := 0) (by simp; exact ⟨rfl, rfl⟩) (by simp) ?_
  refine Sim.step hmix hΓ (n := 0) (by simp [goInl, trueS]; exact ⟨rfl, rfl⟩) (by simp) ?_
  refine Sim.step hmix hΓ (n := 0) (by simp [goInl, Try.f15]; exact ⟨rfl, rfl⟩) (by simp) ?_
  refine Sim.step hmix hΓ (n := 0) (by simp; exact ⟨rfl, rfl⟩) (by simp) ?_
  refine Sim.seq (Sim.step hmix hΓ (n := 0) (by simp; exact ⟨rfl, rfl⟩) (by simp) ?_)
  refine Sim.block (Sim.loopW (fun p : Nat × Mf => p.1 ≤ l.length ∧ p.1 ≤ 60 ∧ p.2.v = p.1 ∧ p.2.right = true ∧ p.2.segs.length ≤ p.1 ∧ 1 ≤ p.2.f ∧ p.2.f ≤ 1 + 2 * p.1 ∧ 1 ≤ p.2.n ∧ p.2.n ≤ p.1 + 1)
    (fun p => [.sl 0 0 l.length 3 false, .top, .bool false, .ptr 1 0, .int .i64 (p.2.n - 1), .int .i64 (p.1 : Nat)] ++ List.replicate 211 .top) (fun p => [.cells false (gosA l), .cells true [.int .i64 p.2.v, .int .i64 p.2.f, .int .i64 p.2.n, .sl 2 0 p.2.segs.length 3 false], .cells true (sgsA p.2.segs)]) (fun p => l.length - p.1) (0, ⟨0, 1, 1, []⟩) (by simp) ⟨Nat.zero_le _, by decide, rfl, by decide, by decide, by decide, by decide, by decide, by decide⟩ (Weak.mk' [0, 2, 100] (by decide) (by decide) (by simp) (by simp [sgsA])) fun p hp => ?_)
  obtain ⟨i, v, f, n, S⟩ := p
  obtain ⟨i1, i2, hv, hr, hS, hf1, hf, hn1, hn⟩ := hp
  simp only at i1 i2 hv hr hS hf1 hf hn1 hn ⊢
  by_cases hlt : i < l.length ∧ i < 60
  rotate_left
  · have e2 : ∀ c : i < l.length, ¬ ((i : Int) < 60) := by intro c; omega
    by_cases c : i < l.length
    · refine Sim.exec hmix hΓ (n := 0) (by simp [c, e2 c]; exact ⟨rfl, rfl, rfl⟩) (by simp) ?_
      dsimp only
      rw [if_pos rfl]
      refine Sim.exec hmix hΓ (n := 0) (by simp; exact ⟨rfl, rfl, rfl⟩) (by simp) ?_
      exact ⟨.inr rfl, _, by simp [Try.f3] <;> rfl, Weak.mk' [0] (by decide) (by decide) (by simp) (by simp)⟩
    · refine Sim.exec hmix hΓ (n := 0) (by simp [c]; exact ⟨rfl, rfl, rfl⟩) (by simp) ?_
      dsimp only
      rw [if_pos rfl]
      refine Sim.exec hmix hΓ (n := 0) (by simp; exact ⟨rfl, rfl, rfl⟩) (by simp) ?_
      exact ⟨.inr rfl, _, by simp [Try.f3] <;> rfl, Weak.mk' [0] (by decide) (by decide) (by simp) (by simp)⟩
  obtain ⟨c1, c2⟩ := hlt
  have c2' : (i : Int) < 60 := by omega
  obtain ⟨x, hx⟩ : ∃ x, l[i]? = some x := ⟨_, List.getElem?_eq_getElem c1⟩
  obtain ⟨b0, b1, b2⟩ := hb x (List.mem_of_getElem? hx)
  obtain ⟨q1, q2, q3⟩ := gos_at l i x hx
  obtain ⟨z, hz⟩ : ∃ z, x.2.2 = z := ⟨_, rfl⟩
  obtain ⟨r, hrr⟩ : ∃ r, x.1.tmod 4 = r := ⟨_, rfl⟩
  have z1 : i * 3 < l.length * 3 := by omega
  have z3 : i * 3 + 2 < l.length * 3 := by omega
  have hbx2 := b2
  rw [hz] at q3 b2
  have w0 : IntKind.i64.wrap z = z := wr_i64 (by omega) (by omega)
  have w1 : IntKind.i64.wrap (1 + z) = 1 + z := wr_i64 (by omega) (by omega)
  have w2 : IntKind.i64.wrap (50 + z) = 50 + z := wr_i64 (by omega) (by omega)
  have wi : IntKind.i64.wrap ((i : Int) + 1) = i + 1 := wr_i64 (by omega) (by omega)
  have sw := goes_switch l v f n z S i x hx hr (by omega) hS hf hf1 hn hn1 hv b0 b1 hbx2 hz r hrr
  simp only [bodyOf, Try.f3, Option.getD_some, restC, inC, fstC] at sw
  refine Sim.step hmix hΓ (n := 0) (by simp [c1, c2']; exact ⟨rfl, rfl⟩) (by simp) ?_
  refine Sim.seq (Sim.block ?_)
  refine Sim.step hmix hΓ (n := 0) (by simp; exact ⟨rfl, rfl⟩) (by simp) ?_
  refine Sim.seq (Sim.draw hmix (by simp) ?_)
  refine SimR.many hΓ 17 (by simp [stageOps, blankOp]; rfl) (by omega) (by kernel_rfl) (by simp (decide := true) [c1, q3, z3, w0, w1, w2]; first | exact ⟨rfl, rfl⟩ | exact ⟨by kernel_rfl, rfl, rfl⟩) ?_
  refine SimR.done rfl ?_
  dsimp only
  refine Sim.step hmix hΓ (n := 0) (by simp; exact ⟨rfl, rfl⟩) (by simp) ?_
  refine Sim.step hmix hΓ (n := 0) (by simp; exact ⟨rfl, rfl⟩) (by simp) ?_
  refine Sim.seq (Sim.step hmix hΓ (n := 0) (by simp (decide := true) [c1, q1, z1, hrr]; exact ⟨rfl, rfl⟩) (by simp) ?_)
  refine Sim.weak (Fn := [.sl 0 0 l.length 3 false, .top, .bool false, .ptr 1 0, .int .i64 (n - 1), .int .i64 (i : Nat), .ptr 3 0, .ptr 4 0, .int .i64 0, .int .i64 0, .int .i64 1] ++ List.replicate 36 .top ++ [.int .u8 r] ++ List.replicate 169 .top) (Hn := [.cells false (gosA l), .cells true [.int .i64 v, .int .i64 f, .int .i64 n, .sl 2 0 S.length 3 false], .cells true (sgsA S), .cells true [.int .i64 v, .int .i64 f, .int .i64 n, .sl 2 0 S.length 3 false], .cells true [.int .i64 7, .int .i64 (1 + z), .int .i64 (50 + z)]]) (Weak.mk' [0, 1, 2, 3, 4] (by decide) (by decide) (by simp) (by simp)) (by simp) (Sim.mono sw ?_)
  rintro e F' H' hl' ⟨rfl, a, b, mk, g, W, hab, hbS, hmk, g1, g2, hW, hw⟩
  dsimp only
  have hright := put_right v f n g S a b mk (1 + z) (50 + z) hr hab hmk (by omega) (by omega) (by omega) (by omega) (by omega) (by omega)
  rw [← hW] at hright
  have ck := goes_checks l v f n z g S W i a b mk (by omega) hS hn hn1 hv b2 hab hbS hmk hW hright
  simp only [bodyOf, Try.f3, Option.getD_some, restC, inC, fstC] at ck
  refine Sim.weak hw hl' (Sim.mono ck ?_)
  rintro e F'' H'' hl'' ⟨rfl, hw2⟩
  dsimp only
  refine Sim.weak hw2 hl'' ?_
  refine Sim.exec hmix hΓ (n := 0) (by simp [wi]; exact ⟨rfl, rfl, rfl⟩) (by simp) ?_
  have lW := put_len n (1 + z) (50 + z) S a b mk hmk hab hbS
  rw [← hW] at lW
  exact ⟨(i + 1, ⟨v + 1, g, n + (mk : Nat), W⟩), ⟨by simp only; omega, by simp only; omega, by simp only; omega, hright, by simp only; omega, by simp only; omega, by simp only; omega, by simp only; omega, by simp only; omega⟩, Weak.mk' [0, 1, 2] (by decide) (by decide) (by simp) (by simp), by simp only; omega⟩

/-- A row of turns. -/
theorem row_gos : ∀ {n : Nat} {l : List AV}, All2 PrimA (List.replicate n [Prim.int .u8, Prim.int .u8, Prim.int .u8]).flatten l → ∃ ss : List (Int × Int × Int), l = gosA ss ∧ ss.length = n ∧ ∀ x ∈ ss, (0 ≤ x.1 ∧ x.1 ≤ 255) ∧ (0 ≤ x.2.1 ∧ x.2.1 ≤ 255) ∧ (0 ≤ x.2.2 ∧ x.2.2 ≤ 255)
  | 0, [], _ => ⟨[], rfl, rfl, by simp⟩
  | n + 1, x :: l, h => by
    rw [List.replicate_succ, List.flatten_cons] at h
    obtain ⟨a, rfl, ha⟩ := h.1
    have h2 := h.2
    cases l with
    | nil => exact h2.elim
    | cons y l =>
      obtain ⟨b, rfl, hb⟩ := h2.1
      have h3 := h2.2
      cases l with
      | nil => exact h3.elim
      | cons z l =>
        obtain ⟨c, rfl, hc⟩ := h3.1
        obtain ⟨ss, rfl, hl, hq⟩ := row_gos (n := n) (l := l) h3.2
        have ba := bounds_u8 ha
        have bb := bounds_u8 hb
        have bc := bounds_u8 hc
        refine ⟨(a, b, c) :: ss, rfl, by simp [hl], fun x hx => ?_⟩
        rcases List.mem_cons.1 hx with rfl | hx
        · exact ⟨ba, bb, bc⟩
        · exact hq x hx
  | 0, _ :: _, h => h.elim
  | n + 1, [], h => by
    rw [List.replicate_succ, List.flatten_cons] at h
    exact h.elim

def manifestGoes_shape : List (Bool × List CT) := [(false, [.row [.int .u8, .int .u8, .int .u8]])]

theorem manifestGoes_law : ∀ xs H, AbsArgs manifestGoes_shape 0 xs H → ∃ H', Ct Try.prog 3 xs H (.bool true) H' := by
  intro xs H h0
  obtain ⟨x1, y1, l, n, H2, rfl, rfl, hx, _, hl, h1⟩ := absArgs_row h0
  obtain ⟨rfl, rfl⟩ := absArgs_nil h1
  obtain ⟨ss, rfl, hn, hb⟩ := row_gos hl
  subst hn
  obtain ⟨H', hc⟩ := goes_ct ss hb
  refine ⟨H', ct_args hc fun j vs hv => ?_⟩
  simp only [VRs] at hv ⊢
  obtain ⟨c1, ws1, e1, t1, e2⟩ := hv
  exact ⟨c1, ws1, e1, VR_arg_sl hx t1, e2⟩

end Go.Proofs.Ytbbgmaklmlagcaa
