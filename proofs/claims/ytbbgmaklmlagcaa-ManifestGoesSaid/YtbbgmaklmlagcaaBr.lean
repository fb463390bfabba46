/- Arguments opened one by one. -/
import Derived.Test.YtbbgmaklmlagcaaBq
namespace Go.Proofs.Ytbbgmaklmlagcaa

theorem absArgs_one {p : Prim} {ss : List (Bool × List CT)} {k : Nat} {xs : List AV} {H : AHeap} (h : AbsArgs ((false, [.one p]) :: ss) k xs H) : ∃ x ys, xs = x :: ys ∧ PrimA p x ∧ AbsArgs ss k ys H := by
  cases xs with
  | nil => exact h.elim
  | cons x ys =>
    obtain ⟨H1, H2, h1, rfl, h2⟩ := h
    simp only [AbsOk] at h1
    cases H1 with
    | nil => exact ⟨x, ys, rfl, h1.1, h2⟩
    | cons _ _ => exact h1.2.elim

theorem absArgs_row {el : List Prim} {ss : List (Bool × List CT)} {k : Nat} {xs : List AV} {H : AHeap} (h : AbsArgs ((false, [.row el]) :: ss) k xs H) :
    ∃ x ys l n H2, xs = x :: ys ∧ H = .cells false l :: H2 ∧ (n = 0 ∧ x = .nils ∨ x = .slice k 0 n el.length false) ∧ n ≤ maxLen ∧ All2 PrimA (List.replicate n el).flatten l ∧ AbsArgs ss (k + 1) ys H2 := by
  cases xs with
  | nil => exact h.elim
  | cons x ys =>
    obtain ⟨H1, H2, h1, rfl, h2⟩ := h
    cases H1 with
    | nil => exact h1.elim
    | cons B H1 =>
      simp only [AbsOk] at h1
      obtain ⟨⟨l, n, rfl, h3, h4, h5⟩, h6⟩ := h1
      cases H1 with
      | nil => exact ⟨x, ys, l, n, H2, rfl, rfl, h3, h4, h5, h2⟩
      | cons _ _ => exact h6.elim

theorem absArgs_nil {k : Nat} {xs : List AV} {H : AHeap} (h : AbsArgs [] k xs H) : xs = [] ∧ H = [] := by
  cases xs <;> cases H <;> first | exact ⟨rfl, rfl⟩ | exact h.elim

theorem absArgs_agg {ts : List CT} {ss : List (Bool × List CT)} {k : Nat} {xs : List AV} {H : AHeap} (h : AbsArgs ((true, ts) :: ss) k xs H) : ∃ ys xs' H1 H2, xs = .agg ys :: xs' ∧ AbsOk ts k ys H1 ∧ H = H1 ++ H2 ∧ AbsArgs ss (k + H1.length) xs' H2 := by
  cases xs with
  | nil => exact h.elim
  | cons x xs =>
    obtain ⟨ys, H1, H2, rfl, h1, h2, h3⟩ := h
    exact ⟨ys, xs, H1, H2, rfl, h1, h2, h3⟩

theorem absOk_one {p : Prim} {ts : List CT} {k : Nat} {xs : List AV} {H : AHeap} (h : AbsOk (.one p :: ts) k xs H) : ∃ x ys, xs = x :: ys ∧ PrimA p x ∧ AbsOk ts k ys H := by
  cases xs with
  | nil => exact h.elim
  | cons x ys =>
    simp only [AbsOk] at h
    exact ⟨x, ys, rfl, h.1, h.2⟩

theorem absOk_nil {k : Nat} {xs : List AV} {H : AHeap} (h : AbsOk [] k xs H) : xs = [] ∧ H = [] := by
  cases xs <;> cases H <;> first | exact ⟨rfl, rfl⟩ | exact h.elim

theorem trodAll_len {H : Type} {enc : TypeId × Value → H} {P : Program} {w : World} {base : Nat} {spare : Nat → Bool} {held : Bool} : ∀ {ts : List TypeId} {vs : List Value} {ds : List (DataW H)} {ps : List MemPlace}, DataW.TrodAll enc P w base spare held ts vs ds ps → ds.length = ts.length
  | [], vs, ds, ps, h => by
    obtain ⟨_, rfl, _⟩ := Go.ChangeShapes.trodAll_nil h
    rfl
  | t :: ts, vs, ds, ps, h => by
    obtain ⟨v, vs', d, ds', p, q, rfl, rfl, rfl, hT, hA'⟩ := Go.ChangeShapes.trodAll_cons h
    simp [trodAll_len hA']

/-- A row of texts. -/
theorem row_strs : ∀ {n : Nat} {l : List AV}, All2 PrimA (List.replicate n [Prim.str]).flatten l → ∃ ss : List (List UInt8), l = ss.map AV.str ∧ ss.length = n ∧ ∀ s ∈ ss, s.length ≤ maxLen
  | 0, [], _ => ⟨[], rfl, rfl, by simp⟩
  | n + 1, x :: l, h => by
    rw [List.replicate_succ, List.flatten_cons] at h
    obtain ⟨s, rfl, hs⟩ := h.1
    obtain ⟨ss, rfl, hl, h2⟩ := row_strs (n := n) (l := l) h.2
    exact ⟨s :: ss, rfl, by simp [hl], by simpa using ⟨hs, h2⟩⟩
  | 0, _ :: _, h => h.elim
  | n + 1, [], h => by
    rw [List.replicate_succ, List.flatten_cons] at h
    exact h.elim

end Go.Proofs.Ytbbgmaklmlagcaa
