/- Laws of any arguments: from an abstract run to the call, and the arguments behind it. -/
import Derived.Test.YtbbgmaklmlagcaaBp
namespace Go.Proofs.Ytbbgmaklmlagcaa
open Go.ChangeShapes Go.WideShapes Go.ChangeAt Go.RowKit

def isAggT (P : Program) (t : TypeId) : Option Bool :=
  match P.underlying t with
  | some (.struct _) => some true
  | some (.array _ _) => some true
  | some .bool => some false
  | some (.int _) => some false
  | some .string => some false
  | some (.slice _) => some false
  | _ => none

/-- The arguments' types, in cells. -/
def shapesOf (P : Program) (n : Nat) : List TypeId → Option (List (Bool × List CT))
  | [] => some []
  | t :: ts => match isAggT P t, flat P n t with
    | some b, some a => if P.cellsOf t = a.length then (shapesOf P n ts).map ((b, a) :: ·) else none
    | _, _ => none

section
variable {H : Type} {enc : TypeId × Value → H} {P : Program} {w : World} {base base' : Nat}

theorem someBlk_cell {u : TypeId} {a : Addr} {len cap : Nat} (h : Cell.okWide P w .any base u (.slice (some a) len cap)) : SomeBlk w := by
  unfold Cell.okWide at h
  split at h
  all_goals first
    | (rename_i hv; cases hv)
    | skip
  all_goals try (exfalso; rename_i hv _; cases hv)
  unfold Cell.ok at h
  split at h
  all_goals try (exact h.elim)
  all_goals try (rename_i hv; cases hv)
  obtain ⟨_, _, _, _, row, cells, hs, _⟩ := h
  unfold World.shape? at hs
  split at hs
  · rename_i c T fz hh
    exact ⟨_, c, T, fz, hh⟩
  · cases hs

theorem val_form {t : TypeId} {b : Bool} {v : Value} (hb : isAggT P t = some b) (hv : Value.okWide P w .any base t v) :
    (b = true → ∃ cs, v = .agg cs) ∧ (b = false → v.cells = #[v]) ∧ ∀ u ∈ v.cells.toList, ∀ a len cap, u = .slice (some a) len cap → SomeBlk w := by
  unfold isAggT at hb
  have agg : (∃ cs : Array Value, v = .agg cs ∧ cs.size = P.cellsOf t ∧ Row.okWide P w .any base t cs) → ∀ u ∈ v.cells.toList, ∀ a len cap, u = .slice (some a) len cap → SomeBlk w := by
    rintro ⟨cs, rfl, _, ts, _, _, hr⟩ u hu a len cap rfl
    obtain ⟨i, hi⟩ := List.getElem?_of_mem hu
    obtain ⟨t', _, hc⟩ := hr i _ (by simpa [Value.cells] using hi)
    exact someBlk_cell hc
  have cell : Cell.okWide P w .any base t v → (∀ cs, v ≠ .agg cs) → v.cells = #[v] ∧ ∀ u ∈ v.cells.toList, ∀ a len cap, u = .slice (some a) len cap → SomeBlk w := by
    intro hc hne
    have e : v.cells = #[v] := by
      cases v <;> first | rfl | exact absurd rfl (hne _)
    refine ⟨e, fun u hu a len cap hua => ?_⟩
    rw [e] at hu
    simp at hu
    subst hu
    subst hua
    exact someBlk_cell hc
  unfold Value.okWide at hv
  split at hb <;> rename_i hu <;> first | cases hb | skip
  · rw [hu] at hv
    exact ⟨fun _ => ⟨hv.choose, hv.choose_spec.1⟩, fun h => (by cases h), agg hv⟩
  · rw [hu] at hv
    exact ⟨fun _ => ⟨hv.choose, hv.choose_spec.1⟩, fun h => (by cases h), agg hv⟩
  all_goals
    rw [hu] at hv
    have hc := cell hv fun cs hcs => by
      subst hcs
      simp only [Cell.okWide, Cell.ok, hu] at hv
    exact ⟨fun h => (by cases h), fun _ => hc.1, hc.2⟩

theorem args_abs : ∀ (n : Nat) (ts : List TypeId) (ss : List (Bool × List CT)) (vs : List Value) (ds : List (DataW H)) (ps : List MemPlace) (k : Nat), shapesOf P n ts = some ss → DataW.TrodAll enc P w base' (fun _ => true) true ts vs ds ps →
    (∀ (j : Nat) t v, ts[j]? = some t → vs[j]? = some v → Value.okWide P w .any base t v) →
    ∃ (xs : List AV) (H : AHeap) (js : List (Option JB)), AbsArgs ss k xs H ∧ js.length = H.length ∧ (∀ (i : Nat) B p, H[i]? = some B → js[i]? = some p → p ≠ none → ∀ j q, p = some q → BRel j w B q) ∧
      (∀ j : Inj, (∀ i, i < js.length → j (k + i) = (js[i]?).join) → VRs j xs vs) ∧ (∀ (i : Nat) (B : ABlk), H[i]? = some B → ∃ l, B = .cells false l)
  | n, [], ss, vs, ds, ps, k, hs, hA, _ => by
    cases hs
    obtain ⟨rfl, _, _⟩ := trodAll_nil hA
    exact ⟨[], [], [], trivial, rfl, fun i B p h => by simp at h, fun j _ => by simp [VRs], fun i B h => by simp at h⟩
  | n, t :: ts, ss, vs, ds, ps, k, hs, hA, hv => by
    unfold shapesOf at hs
    split at hs
    · rename_i b a hb ha
      split at hs
      · rename_i hcl
        obtain ⟨ss', hss, rfl⟩ := Option.map_eq_some_iff.1 hs
        obtain ⟨v, vs', d, ds', p, q, rfl, _, _, ⟨fuel, hT⟩, hA'⟩ := trodAll_cons hA
        obtain ⟨f1, f2, f3⟩ := val_form hb (hv 0 t v rfl rfl)
        have hc := trod_flat (w := w) n t a fuel _ _ ha hcl hT
        obtain ⟨ys, H1, js1, g1, g2, g3, g4, g5⟩ := cells_abs a _ k hc f3
        obtain ⟨xs, H2, js2, k1, k2, k3, k4, k5⟩ := args_abs n ts ss' vs' ds' q (k + H1.length) hss hA' fun j t' v' ht hv' => hv (j + 1) t' v' (by simpa using ht) (by simpa using hv')
        have blk : ∀ (i : Nat) B p, (H1 ++ H2)[i]? = some B → (js1 ++ js2)[i]? = some p → p ≠ none → ∀ j q, p = some q → BRel j w B q := by
          intro i B p hB hp
          by_cases hi : i < H1.length
          · rw [List.getElem?_append_left hi] at hB
            rw [List.getElem?_append_left (by omega)] at hp
            exact g3 i B p hB hp
          · rw [List.getElem?_append_right (by omega)] at hB
            rw [List.getElem?_append_right (by omega), g2] at hp
            exact k3 _ B p hB hp
        have own : ∀ (i : Nat) (B : ABlk), (H1 ++ H2)[i]? = some B → ∃ l, B = .cells false l := by
          intro i B hB
          by_cases hi : i < H1.length
          · rw [List.getElem?_append_left hi] at hB
            exact g5 i B hB
          · rw [List.getElem?_append_right (by omega)] at hB
            exact k5 _ B hB
        have j1 : ∀ j : Inj, (∀ i, i < (js1 ++ js2).length → j (k + i) = ((js1 ++ js2)[i]?).join) → VRs j ys v.cells.toList ∧ VRs j xs vs' := by
          intro j hj
          refine ⟨g4 j fun i hi => ?_, k4 j fun i hi => ?_⟩
          · rw [hj i (by simp; omega), List.getElem?_append_left hi]
          · rw [show k + H1.length + i = k + (H1.length + i) by omega, hj (H1.length + i) (by simp; omega), List.getElem?_append_right (by omega), g2, Nat.add_sub_cancel_left]
        cases b with
        | true =>
          obtain ⟨cs, rfl⟩ := f1 rfl
          refine ⟨.agg ys :: xs, H1 ++ H2, js1 ++ js2, ⟨ys, H1, H2, rfl, g1, rfl, k1⟩, by simp [g2, k2], blk, fun j hj => ?_, own⟩
          obtain ⟨h1, h2⟩ := j1 j hj
          exact ⟨_, vs', rfl, by simp only [VR]; exact ⟨cs, rfl, h1⟩, h2⟩
        | false =>
          have e := f2 rfl
          rw [e] at j1 hc
          have hy : ∃ y, ys = [y] := by
            have h1 := hc.length
            simp at h1
            cases a with
            | nil => simp at h1
            | cons c a =>
              cases a with
              | cons _ _ => simp at h1
              | nil =>
                cases c with
                | one p => cases ys with
                  | nil => simp [AbsOk] at g1
                  | cons y ys => cases ys with
                    | nil => exact ⟨y, rfl⟩
                    | cons _ _ => simp [AbsOk] at g1
                | row el => cases ys with
                  | nil => simp [AbsOk] at g1
                  | cons y ys => cases H1 with
                    | nil => simp [AbsOk] at g1
                    | cons B H1 => cases ys with
                      | nil => exact ⟨y, rfl⟩
                      | cons _ _ => simp [AbsOk] at g1
          obtain ⟨y, rfl⟩ := hy
          refine ⟨y :: xs, H1 ++ H2, js1 ++ js2, ⟨H1, H2, g1, rfl, k1⟩, by simp [g2, k2], blk, fun j hj => ?_, own⟩
          obtain ⟨h1, h2⟩ := j1 j hj
          simp [VRs] at h1
          exact ⟨v, vs', rfl, h1, h2⟩
      · cases hs
    · cases hs

/-- A law's call. -/
theorem law_call {f : FuncId} {n : Nat} {ts : List TypeId} {ss : List (Bool × List CT)} {args : Array Value} {ds : List (DataW H)} {ps : List MemPlace} (hs : shapesOf P n ts = some ss)
    (hA : DataW.TrodAll enc P w base' (fun _ => true) true ts args.toList ds ps) (hv : ∀ (j : Nat) t v, ts[j]? = some t → args[j]? = some v → Value.okWide P w .any base t v)
    (h : ∀ xs H, AbsArgs ss 0 xs H → ∃ H', Ct P f xs H (.bool true) H') :
    Calls P f args w fun e w' => e = .returned (.bool true) ∧ Below w.heap.size w w' := by
  obtain ⟨xs, H, js, h1, h2, h3, h4, h5⟩ := args_abs (base := base) n ts ss args.toList ds ps 0 hs hA fun j t v ht hv' => hv j t v ht (by simpa using hv')
  obtain ⟨H', hct⟩ := h xs H h1
  have hR : R (fun i => (js[i]?).join) H w := by
    refine ⟨fun b hb => ?_, fun b x p hb hp => ?_, fun b b' y x p p' hb hy => ?_⟩
    · rw [List.getElem?_eq_none (by omega)]; rfl
    · obtain ⟨q, hq, e⟩ := Option.join_eq_some_iff.1 hp |> fun h => (⟨some p, h, rfl⟩ : ∃ q, js[b]? = some q ∧ q = some p)
      exact h3 b x q hb hq (by rw [e]; simp) _ p e
    · obtain ⟨l, rfl⟩ := h5 b y hb
      cases hy
  refine (hct _ w args hR (h4 _ fun i hi => by rw [Nat.zero_add])).mono ?_
  rintro e w' ⟨cv, j', rfl, hv1, hst⟩
  simp only [VR] at hv1
  subst hv1
  refine ⟨rfl, hst.keeps.os, hst.keeps.tape, hst.keeps.output, hst.keeps.size, fun c hc => hst.keeps.block c hc fun b y p hb hy hp => ?_⟩
  obtain ⟨l, rfl⟩ := h5 b y hb
  cases hy

/-- The arguments read as they did. -/
theorem trodAll_below (hl : laidOutB P = true) : ∀ (ts : List TypeId), ts.all (fun t => P.readableRec t && decide (t < P.types.size)) = true → ∀ {w' : World} {vs : List Value} {ds : List (DataW H)} {ps : List MemPlace},
    DataW.TrodAll enc P w 0 (fun _ => true) true ts vs ds ps → Below w.heap.size w w' → DataW.TrodAll enc P w' 0 (fun b => decide (b < w.heap.size)) true ts vs ds ps
  | [], _, w', vs, ds, ps, h, _ => by
    obtain ⟨rfl, rfl, rfl⟩ := trodAll_nil h
    exact trodAll_mk0
  | t :: ts, hr, w', vs, ds, ps, h, hb => by
    obtain ⟨v, vs', d, ds', p, q, rfl, rfl, rfl, hT, hA'⟩ := trodAll_cons h
    simp only [List.all_cons, Bool.and_eq_true, decide_eq_true_eq] at hr
    obtain ⟨m, hm⟩ := hT
    exact trodAll_cons_mk (Below.trod hl hr.1.1 hr.1.2 ⟨m, hm⟩ hb fun x hx => DataW.trod_lt m _ _ _ hm x hx) (trodAll_below hl ts (by simpa using hr.2) hA' hb)

end

end Go.Proofs.Ytbbgmaklmlagcaa
