/- Parts of the proof of ReplayReads: lemmas, each with its own conditions. -/
import Derived.Test.YthafeihjlamhhaaGreatDoorY7
import Derived.Test.YthafeihjlamhhaaGreatDoorY9
import Derived.Test.YthafeihjlamhhaaGreatDoorY6
namespace Go.Proofs.YthafeihjlamhhaaGreatDoor
open Go.ChangeShapes Go.WideShapes Go.ChangeAt Go.RowKit
inductive AS where
  | flat (b : Bool) (ts : List CT)
  | rows (ts : List CT)
  deriving DecidableEq
def AbsArgs2 : List AS → Nat → List AV → AHeap → Prop
  | [], _, [], [] => True
  | .flat true ts :: ss, k, x :: xs, H => ∃ ys H1 H2, x = .agg ys ∧ AbsOk ts k ys H1 ∧ H = H1 ++ H2 ∧ AbsArgs2 ss (k + H1.length) xs H2
  | .flat false ts :: ss, k, x :: xs, H => ∃ H1 H2, AbsOk ts k [x] H1 ∧ H = H1 ++ H2 ∧ AbsArgs2 ss (k + H1.length) xs H2
  | .rows ts :: ss, k, x :: xs, H => ∃ n ys H1 H2, (n = 0 ∧ x = .nils ∨ x = .slice k 0 n ts.length false) ∧ n ≤ maxLen ∧ AbsOk (List.replicate n ts).flatten (k + 1) ys H1 ∧ H = .cells false ys :: H1 ++ H2 ∧ AbsArgs2 ss (k + 1 + H1.length) xs H2
  | _, _, _, _ => False
def shapes2 (P : Program) (n : Nat) : List TypeId → Option (List AS)
  | [] => some []
  | t :: ts => match isAggT P t, flat P n t with
    | some b, some a => if P.cellsOf t = a.length then (shapes2 P n ts).map (.flat b a :: ·) else none
    | _, none => match P.underlying t with
      | some (.slice e) => match flat P n e with
        | some a => if P.cellsOf e = a.length ∧ 0 < a.length then (shapes2 P n ts).map (.rows a :: ·) else none
        | none => none
      | _ => none
    | none, some _ => none
section
variable {H : Type} {enc : TypeId × Value → H} {P : Program} {w : World} {base base' : Nat}
theorem rows_join2 {el : List CT} {a : Addr} : ∀ (m : Nat), (∀ i, i < m → ∃ cs : List Value, All2 (CellOk w) el cs ∧ ∀ k u, cs[k]? = some u → w.cell? (a.add (i * el.length + k)) = some u) →
    ∃ l, All2 (CellOk w) (List.replicate m el).flatten l ∧ ∀ i u, l[i]? = some u → w.cell? (a.add i) = some u
  | 0, _ => ⟨[], trivial, fun i u h => by simp at h⟩
  | m + 1, h => by
    obtain ⟨l, h1, h2⟩ := rows_join2 m fun i hi => h i (by omega)
    obtain ⟨cs, g1, g2⟩ := h m (by omega)
    have hl : l.length = m * el.length := by rw [← h1.length, flatten_replicate_length]
    refine ⟨l ++ cs, ?_, fun i u hi => ?_⟩
    · rw [List.replicate_succ', List.flatten_append]
      simp only [List.flatten_cons, List.flatten_nil, List.append_nil]
      exact h1.append g1
    · by_cases hlt : i < l.length
      · rw [List.getElem?_append_left hlt] at hi
        exact h2 i u hi
      · rw [List.getElem?_append_right (by omega)] at hi
        have := g2 _ u hi
        rw [show m * el.length + (i - l.length) = i by omega] at this
        exact this
def BlksOk (w : World) (k : Nat) (H : AHeap) (js : List (Option JB)) : Prop :=
  ∀ j : Inj, (∀ i, i < js.length → j (k + i) = (js[i]?).join) → ∀ (i : Nat) B q, H[i]? = some B → js[i]? = some (some q) → BRel j w B q
theorem blks_append {k : Nat} {H1 H2 : AHeap} {js1 js2 : List (Option JB)} (hl : js1.length = H1.length) (h1 : BlksOk w k H1 js1) (h2 : BlksOk w (k + H1.length) H2 js2) : BlksOk w k (H1 ++ H2) (js1 ++ js2) := by
  intro j hj i B q hB hq
  have j1 : ∀ i, i < js1.length → j (k + i) = (js1[i]?).join := fun i hi => by
    rw [hj i (by simp; omega), List.getElem?_append_left hi]
  have j2 : ∀ i, i < js2.length → j (k + H1.length + i) = (js2[i]?).join := fun i hi => by
    rw [show k + H1.length + i = k + (H1.length + i) by omega, hj (H1.length + i) (by simp; omega), List.getElem?_append_right (by omega), hl, Nat.add_sub_cancel_left]
  by_cases hi : i < H1.length
  · rw [List.getElem?_append_left hi] at hB
    rw [List.getElem?_append_left (by omega)] at hq
    exact h1 j j1 i B q hB hq
  · rw [List.getElem?_append_right (by omega)] at hB
    rw [List.getElem?_append_right (by omega), hl] at hq
    exact h2 j j2 _ B q hB hq
theorem own_append {H1 H2 : AHeap} (h1 : ∀ (i : Nat) (B : ABlk), H1[i]? = some B → ∃ l, B = .cells false l) (h2 : ∀ (i : Nat) (B : ABlk), H2[i]? = some B → ∃ l, B = .cells false l) : ∀ (i : Nat) (B : ABlk), (H1 ++ H2)[i]? = some B → ∃ l, B = .cells false l := by
  intro i B hB
  by_cases hi : i < H1.length
  · rw [List.getElem?_append_left hi] at hB
    exact h1 i B hB
  · rw [List.getElem?_append_right (by omega)] at hB
    exact h2 _ B hB
theorem rows_abs {n : Nat} {t e : TypeId} {a : List CT} {v : Value} {fuel : Nat} {x : DataW H × List MemPlace} (k : Nat) (hu : P.underlying t = some (.slice e)) (ha : flat P n e = some a) (hcl : P.cellsOf e = a.length) (h0 : 0 < a.length)
    (hx : DataW.trod enc P w base' (fun _ => true) true fuel t [v] = some x) (hE : ∀ ad len cap, v = .slice (some ad) len cap → SomeBlk w) :
    ∃ (m : Nat) (y : AV) (ys : List AV) (H1 : AHeap) (js : List (Option JB)), (m = 0 ∧ y = .nils ∨ y = .slice k 0 m a.length false) ∧ m ≤ maxLen ∧ AbsOk (List.replicate m a).flatten (k + 1) ys H1 ∧ js.length = H1.length + 1 ∧ BlksOk w k (.cells false ys :: H1) js ∧
      (∀ j : Inj, (∀ i, i < js.length → j (k + i) = (js[i]?).join) → VR j y v) ∧ (∀ (i : Nat) (B : ABlk), (ABlk.cells false ys :: H1)[i]? = some B → ∃ l, B = .cells false l) := by
  have none_ok : ∀ (p : Option JB), (∀ q, p = some q → ∃ cs T fz, w.heap[q.blk]? = some (.cells cs T fz) ∧ cs.size = q.size ∧ q.base ≤ q.size) → BlksOk w k [.cells false []] [p] := by
    intro p hp j _ i B q hB hq
    have hi : i = 0 := by
      have := (List.getElem?_eq_some_iff.1 hB).1
      simpa using this
    subst hi
    cases hB
    simp at hq
    obtain ⟨cs, T, fz, h1, h2, h3⟩ := hp q hq
    exact ⟨cs, T, fz, h1, h2, by simpa using h3, fun i x hx => by simp at hx, fun h => by cases h⟩
  have one_own : ∀ (i : Nat) (B : ABlk), [ABlk.cells false []][i]? = some B → ∃ l, B = .cells false l := by
    intro i B hB
    have hi : i = 0 := by
      have := (List.getElem?_eq_some_iff.1 hB).1
      simpa using this
    subst hi
    cases hB
    exact ⟨[], rfl⟩
  rcases Deep.open_slice hu hx with ⟨hv1, _⟩ | ⟨ad, len, cap, m, n', D, Pl, hv1, _, hle, hm, hmm, _, hel2⟩
  · obtain rfl : v = .slice none 0 0 := by simpa using hv1
    refine ⟨0, .nils, [], [], [none], .inl ⟨rfl, rfl⟩, Nat.zero_le _, trivial, rfl, none_ok none (fun q h => by cases h), fun j _ => by simp [VR], one_own⟩
  · obtain rfl : v = .slice (some ad) len cap := by simpa using hv1
    simp at hmm
    subst hmm
    by_cases hz : m = 0
    · subst hz
      obtain rfl : len = 0 := by omega
      obtain ⟨q, c, T, fz, hq⟩ := hE ad 0 0 rfl
      refine ⟨0, .slice k 0 0 a.length false, [], [], [some ⟨q, 0, c.size⟩], .inr rfl, Nat.zero_le _, trivial, rfl, none_ok _ (fun q' h => by cases h; exact ⟨c, T, fz, hq, rfl, Nat.zero_le _⟩), fun j hj => ?_, one_own⟩
      simp only [VR]
      have := hj 0 (by simp)
      exact ⟨_, ad, 0, by simpa using this, rfl, Nat.le_refl _, fun h => (by cases h), hm, .inl rfl⟩
    · obtain ⟨l, hl, hc⟩ := rows_join2 (w := w) (el := a) (a := ad) m fun i hi => by
        obtain ⟨cs', hcs', ht⟩ := hel2 i hi
        have hk := trod_flat n e a n' cs' _ ha hcl ht
        refine ⟨cs', hk, fun k u hk => ?_⟩
        obtain ⟨_, hcl', hce⟩ := World.cells?_some hcs'
        have hkl : k < P.cellsOf e := by rw [← hcl']; exact (List.getElem?_eq_some_iff.1 hk).1
        have := hce k hkl
        rw [hk] at this
        rw [← hcl]
        rw [← this, addr_add_add]
      have hll : l.length = m * a.length := by rw [← hl.length, flatten_replicate_length]
      have hpos : 0 < l.length := by rw [hll]; exact Nat.mul_pos (by omega) h0
      have hlast := hc (l.length - 1) l[l.length - 1] (by rw [List.getElem?_eq_getElem])
      have hfirst := hc 0 l[0] (by rw [List.getElem?_eq_getElem])
      have had := addr_plain (w := w) (x := ad) (v := l[0]) (by simpa [Addr.add] using hfirst)
      obtain ⟨B, O, S⟩ := ad
      cases had
      have hcell : ∀ (i : Nat) u, w.cell? ⟨B, O + i, none⟩ = some u → ∃ c T fz, w.heap[B]? = some (.cells c T fz) ∧ c[O + i]? = some u := by
        intro i u hu
        unfold World.cell? at hu
        dsimp only at hu
        split at hu
        · rename_i c T fz hh
          exact ⟨c, T, fz, hh, by simpa using hu⟩
        · cases hu
      obtain ⟨c, T, fz, hB, hcl2⟩ := hcell (l.length - 1) _ (by rw [← addr_plain_add]; exact hlast)
      have hsz := (Array.getElem?_eq_some_iff.1 hcl2).1
      have htk := hl.take (len * a.length)
      rw [take_flatten_replicate _ _ _ hle] at htk
      obtain ⟨ys, H1, js, g1, g2, g3, g4, g5⟩ := cells_abs _ _ (k + 1) htk fun v _ ad len cap _ => ⟨B, c, T, fz, hB⟩
      have hle2 : len * a.length ≤ m * a.length := Nat.mul_le_mul_right _ hle
      have hlt : (l.take (len * a.length)).length = len * a.length := by rw [List.length_take, hll]; omega
      refine ⟨len, .slice k 0 len a.length false, ys, H1, some ⟨B, O, c.size⟩ :: js, .inr rfl, by omega, g1, by simp [g2], fun j hj i B' q hB' hq => ?_, fun j hj => ?_, fun i B' hB' => ?_⟩
      · have hj2 : ∀ i, i < js.length → j (k + 1 + i) = (js[i]?).join := fun i hi => by
          have := hj (i + 1) (by simp; omega)
          rw [show k + 1 + i = k + (i + 1) by omega, this]
          simp
        cases i with
        | zero =>
          simp at hB' hq
          subst hB'; subst hq
          have hv := g4 j hj2
          have hyl : ys.length = len * a.length := by rw [hv.length, hlt]
          refine ⟨c, T, fz, hB, rfl, by dsimp only; omega, fun i x hx => ?_, fun h => by cases h⟩
          have hi : i < (l.take (len * a.length)).length := by rw [hlt, ← hyl]; exact (List.getElem?_eq_some_iff.1 hx).1
          have hr := (VRs_iff.1 hv).2 i x _ hx (List.getElem?_eq_getElem hi)
          obtain ⟨u, hu⟩ : ∃ u, (l.take (len * a.length))[i] = u := ⟨_, rfl⟩
          rw [hu] at hr
          have hu2 : l[i]? = some u := by
            have : (l.take (len * a.length))[i]? = some u := by rw [List.getElem?_eq_getElem hi, hu]
            rw [List.getElem?_take] at this
            split at this
            · exact this
            · cases this
          obtain ⟨c', T', fz', hB2, hu'⟩ := hcell i u (by rw [← addr_plain_add]; exact hc i u hu2)
          rw [hB] at hB2
          cases hB2
          exact ⟨u, hu', hr⟩
        | succ i =>
          exact g3 i B' (some q) (by simpa using hB') (by simpa using hq) (by simp) j q rfl
      · simp only [VR]
        have := hj 0 (by simp)
        exact ⟨_, _, m, by simpa using this, rfl, hle, fun h => (by cases h), hm, .inr ⟨rfl, by dsimp only; omega⟩⟩
      · cases i with
        | zero => simp at hB'; exact ⟨_, hB'.symm⟩
        | succ i => exact g5 i B' (by simpa using hB')
theorem val_slice {t e : TypeId} {v : Value} (hu : P.underlying t = some (.slice e)) (hv : Value.okWide P w .any base t v) : v.cells = #[v] ∧ ∀ a len cap, v = .slice (some a) len cap → SomeBlk w := by
  have hb : isAggT P t = some false := by unfold isAggT; rw [hu]
  obtain ⟨_, h2, h3⟩ := val_form hb hv
  refine ⟨h2 rfl, fun a len cap hva => h3 v (by rw [h2 rfl]; simp) a len cap hva⟩
theorem blks_of {k : Nat} {H : AHeap} {js : List (Option JB)} (h : ∀ (i : Nat) B p, H[i]? = some B → js[i]? = some p → p ≠ none → ∀ j q, p = some q → BRel j w B q) : BlksOk w k H js :=
  fun j _ i B q hB hq => h i B (some q) hB hq (by simp) j q rfl
theorem args_abs2 : ∀ (n : Nat) (ts : List TypeId) (ss : List AS) (vs : List Value) (ds : List (DataW H)) (ps : List MemPlace) (k : Nat), shapes2 P n ts = some ss → DataW.TrodAll enc P w base' (fun _ => true) true ts vs ds ps →
    (∀ (j : Nat) t v, ts[j]? = some t → vs[j]? = some v → Value.okWide P w .any base t v) →
    ∃ (xs : List AV) (H : AHeap) (js : List (Option JB)), AbsArgs2 ss k xs H ∧ js.length = H.length ∧ BlksOk w k H js ∧
      (∀ j : Inj, (∀ i, i < js.length → j (k + i) = (js[i]?).join) → VRs j xs vs) ∧ (∀ (i : Nat) (B : ABlk), H[i]? = some B → ∃ l, B = .cells false l)
  | n, [], ss, vs, ds, ps, k, hs, hA, _ => by
    cases hs
    obtain ⟨rfl, _, _⟩ := trodAll_nil hA
    exact ⟨[], [], [], trivial, rfl, fun j _ i B q h => by simp at h, fun j _ => by simp [VRs], fun i B h => by simp at h⟩
  | n, t :: ts, ss, vs, ds, ps, k, hs, hA, hv => by
    unfold shapes2 at hs
    obtain ⟨v, vs', d, ds', p, q, rfl, _, _, ⟨fuel, hT⟩, hA'⟩ := trodAll_cons hA
    split at hs
    · rename_i b a hb ha
      split at hs
      · rename_i hcl
        obtain ⟨ss', hss, rfl⟩ := Option.map_eq_some_iff.1 hs
        obtain ⟨f1, f2, f3⟩ := val_form hb (hv 0 t v rfl rfl)
        have hc := trod_flat (w := w) n t a fuel _ _ ha hcl hT
        obtain ⟨ys, H1, js1, g1, g2, g3, g4, g5⟩ := cells_abs a _ k hc f3
        obtain ⟨xs, H2, js2, k1, k2, k3, k4, k5⟩ := args_abs2 n ts ss' vs' ds' q (k + H1.length) hss hA' fun j t' v' ht hv' => hv (j + 1) t' v' (by simpa using ht) (by simpa using hv')
        have blk := blks_append g2 (blks_of (k := k) g3) k3
        have own := own_append g5 k5
        have j1 : ∀ j : Inj, (∀ i, i < (js1 ++ js2).length → j (k + i) = ((js1 ++ js2)[i]?).join) → VRs j ys v.cells.toList ∧ VRs j xs vs' := by
          intro j hj
          refine ⟨g4 j fun i hi => ?_, k4 j fun i hi => ?_⟩
          · rw [hj i (by simp; omega), List.getElem?_append_left hi]
          · rw [show k + H1.length + i = k + (H1.length + i) by omega, hj (H1.length + i) (by simp; omega), List.getElem?_append_right (by omega), g2, Nat.add_sub_cancel_left]
        cases b with
        | true =>
          obtain ⟨cs, rfl⟩ := f1 rfl
          refine ⟨.agg ys :: xs, H1 ++ H2, js1 ++ js2, ⟨ys, H1, H2, rfl, g1, rfl, k1⟩, by simp [g2, k2], blk, fun j hj => ?_, own⟩
          obtain ⟨h1, h2⟩ := j1 j hj
          exact ⟨_, vs', rfl, by simp only [VR]; exact ⟨cs, rfl, h1⟩, h2⟩
        | false =>
          have e := f2 rfl
          rw [e] at j1 hc
          have hy : ∃ y, ys = [y] := by
            have h1 := hc.length
            simp at h1
            cases a with
            | nil => simp at h1
            | cons c a =>
              cases a with
              | cons _ _ => simp at h1
              | nil =>
                cases c with
                | one p => cases ys with
                  | nil => simp [AbsOk] at g1
                  | cons y ys => cases ys with
                    | nil => exact ⟨y, rfl⟩
                    | cons _ _ => simp [AbsOk] at g1
                | row el => cases ys with
                  | nil => simp [AbsOk] at g1
                  | cons y ys => cases H1 with
                    | nil => simp [AbsOk] at g1
                    | cons B H1 => cases ys with
                      | nil => exact ⟨y, rfl⟩
                      | cons _ _ => simp [AbsOk] at g1
          obtain ⟨y, rfl⟩ := hy
          refine ⟨y :: xs, H1 ++ H2, js1 ++ js2, ⟨H1, H2, g1, rfl, k1⟩, by simp [g2, k2], blk, fun j hj => ?_, own⟩
          obtain ⟨h1, h2⟩ := j1 j hj
          simp [VRs] at h1
          exact ⟨v, vs', rfl, h1, h2⟩
      · cases hs
    · split at hs
      rotate_left
      · cases hs
      rename_i e hu
      split at hs
      rotate_left
      · cases hs
      rename_i a ha
      split at hs
      rotate_left
      · cases hs
      rename_i hcl
      obtain ⟨ss', hss, rfl⟩ := Option.map_eq_some_iff.1 hs
      obtain ⟨f2, f3⟩ := val_slice hu (hv 0 t v rfl rfl)
      rw [f2] at hT
      obtain ⟨m, y, ys, H1, js1, g0, gm, g1, g2, g3, g4, g5⟩ := rows_abs (w := w) k hu ha hcl.1 hcl.2 hT f3
      obtain ⟨xs, H2, js2, k1, k2, k3, k4, k5⟩ := args_abs2 n ts ss' vs' ds' q (k + 1 + H1.length) hss hA' fun j t' v' ht hv' => hv (j + 1) t' v' (by simpa using ht) (by simpa using hv')
      have g2' : js1.length = (ABlk.cells false ys :: H1).length := by rw [g2]; rfl
      have hlen : k + (ABlk.cells false ys :: H1).length = k + 1 + H1.length := by simp; omega
      have blk := blks_append g2' g3 (by rw [hlen]; exact k3)
      have own := own_append g5 k5
      refine ⟨y :: xs, (.cells false ys :: H1) ++ H2, js1 ++ js2, ⟨m, ys, H1, H2, g0, gm, g1, rfl, k1⟩, by simp [g2, k2]; omega, blk, fun j hj => ?_, own⟩
      refine ⟨v, vs', rfl, g4 j fun i hi => ?_, k4 j fun i hi => ?_⟩
      · rw [hj i (by simp; omega), List.getElem?_append_left hi]
      · rw [show k + 1 + H1.length + i = k + (js1.length + i) by omega, hj (js1.length + i) (by simp; omega), List.getElem?_append_right (by omega), Nat.add_sub_cancel_left]
    · cases hs
theorem law_call2 {f : FuncId} {n : Nat} {ts : List TypeId} {ss : List AS} {args : Array Value} {ds : List (DataW H)} {ps : List MemPlace} (hs : shapes2 P n ts = some ss)
    (hA : DataW.TrodAll enc P w base' (fun _ => true) true ts args.toList ds ps) (hv : ∀ (j : Nat) t v, ts[j]? = some t → args[j]? = some v → Value.okWide P w .any base t v)
    (h : ∀ xs H, AbsArgs2 ss 0 xs H → ∃ H', Ct P f xs H (.bool true) H') (hg : GloW w := by exact gloW_none _) :
    Calls P f args w fun e w' => e = .returned (.bool true) ∧ Below w.heap.size w w' := by
  obtain ⟨xs, H, js, h1, h2, h3, h4, h5⟩ := args_abs2 (base := base) n ts ss args.toList ds ps 0 hs hA fun j t v ht hv' => hv j t v ht (by simpa using hv')
  obtain ⟨H', hct⟩ := h xs H h1
  let j0 : Inj := ⟨fun i => (js[i]?).join, fun _ => [], fun _ => []⟩
  have hj0 : ∀ i, j0 i = (js[i]?).join := fun _ => rfl
  have hro : H.all isRo = true := by
    rw [List.all_eq_true]
    intro y hy
    obtain ⟨b, hb⟩ := List.getElem?_of_mem hy
    obtain ⟨l, rfl⟩ := h5 b y hb
    rfl
  have hR : R j0 H w := by
    refine R.ro (fun b hb => ?_) (fun b x p hb hp => ?_) hro hg
    · rw [hj0, List.getElem?_eq_none (by omega)]; rfl
    · obtain ⟨q, hq, e⟩ := Option.join_eq_some_iff.1 hp |> fun h => (⟨some p, h, rfl⟩ : ∃ q, js[b]? = some q ∧ q = some p)
      exact h3 j0 (fun i hi => by rw [Nat.zero_add, hj0]) b x p hb (by rw [hq, e])
  refine (hct _ w args hR (h4 _ fun i hi => by rw [Nat.zero_add, hj0])).mono ?_
  rintro e w' ⟨cv, j', rfl, hv1, hst⟩
  simp only [VR] at hv1
  subst hv1
  refine ⟨rfl, hst.keeps.os, hst.keeps.tape, hst.keeps.output, hst.keeps.size, fun c hc => hst.keeps.block c hc fun ⟨b, y, p, hb, hy, hp, _⟩ => ?_⟩
  obtain ⟨l, rfl⟩ := h5 b y hb
  cases hy
end
end Go.Proofs.YthafeihjlamhhaaGreatDoor
namespace Go.Proofs.YthafeihjlamhhaaGreatDoor
theorem absArgs2_agg {ts : List CT} {ss : List AS} {k : Nat} {xs : List AV} {H : AHeap} (h : AbsArgs2 (.flat true ts :: ss) k xs H) : ∃ ys xs' H1 H2, xs = .agg ys :: xs' ∧ AbsOk ts k ys H1 ∧ H = H1 ++ H2 ∧ AbsArgs2 ss (k + H1.length) xs' H2 := by
  cases xs with
  | nil => exact h.elim
  | cons x xs =>
    obtain ⟨ys, H1, H2, rfl, h1, h2, h3⟩ := h
    exact ⟨ys, xs, H1, H2, rfl, h1, h2, h3⟩
theorem absArgs2_one {p : Prim} {ss : List AS} {k : Nat} {xs : List AV} {H : AHeap} (h : AbsArgs2 (.flat false [.one p] :: ss) k xs H) : ∃ x ys, xs = x :: ys ∧ PrimA p x ∧ AbsArgs2 ss k ys H := by
  cases xs with
  | nil => exact h.elim
  | cons x ys =>
    obtain ⟨H1, H2, h1, rfl, h2⟩ := h
    simp only [AbsOk] at h1
    obtain ⟨h3, h4⟩ := h1
    cases H1 with
    | nil => exact ⟨x, ys, rfl, h3, h2⟩
    | cons _ _ => exact h4.elim
theorem absArgs2_rows {ts : List CT} {ss : List AS} {k : Nat} {xs : List AV} {H : AHeap} (h : AbsArgs2 (.rows ts :: ss) k xs H) :
    ∃ x xs' n ys H1 H2, xs = x :: xs' ∧ (n = 0 ∧ x = .nils ∨ x = .slice k 0 n ts.length false) ∧ n ≤ maxLen ∧ AbsOk (List.replicate n ts).flatten (k + 1) ys H1 ∧ H = .cells false ys :: H1 ++ H2 ∧ AbsArgs2 ss (k + 1 + H1.length) xs' H2 := by
  cases xs with
  | nil => exact h.elim
  | cons x xs =>
    obtain ⟨n, ys, H1, H2, h1, h2, h3, h4, h5⟩ := h
    exact ⟨x, xs, n, ys, H1, H2, rfl, h1, h2, h3, h4, h5⟩
theorem absArgs2_nil {k : Nat} {xs : List AV} {H : AHeap} (h : AbsArgs2 [] k xs H) : xs = [] ∧ H = [] := by
  cases xs <;> cases H <;> first | exact ⟨rfl, rfl⟩ | exact h.elim
theorem ct_weak {P : Program} {f : FuncId} {args args0 : List AV} {H H0 H' : AHeap} {v : AV} (hw : Weak H.length args H args0 H0) (h : Ct P f args0 H0 v H') : Ct P f args H v H' := by
  intro j w cargs hR hargs
  obtain ⟨j', hs, hF'⟩ := hw.step (Nat.le_refl _) (Step.refl hR (Nat.le_refl _)) hargs
  refine (h j' w cargs hs.rel hF').mono ?_
  rintro e w' ⟨cv, j2, rfl, h1, h2⟩
  exact ⟨cv, j2, rfl, h1, hs.trans h2 hs.len⟩
end Go.Proofs.YthafeihjlamhhaaGreatDoor
namespace Go.Proofs.YthafeihjlamhhaaGreatDoor
open Go
set_option maxRecDepth 100000
attribute [-simp] drawOk_eq adraw qrun acode aops
abbrev Dr := List Nat × Int × Bool
def dcells : Nat → List Dr → List AV
  | _, [] => []
  | k, d :: ds => .sl k 0 d.1.length 1 false :: .int .u32 d.2.1 :: .bool d.2.2 :: dcells (k + 1) ds
def dblks (ds : List Dr) : AHeap := ds.map fun d => .cells false (d.1.map aB)
def drH (ds : List Dr) : AHeap := .cells false (dcells 1 ds) :: dblks ds
theorem dcells_length : ∀ (k : Nat) (ds : List Dr), (dcells k ds).length = ds.length * 3
  | _, [] => rfl
  | k, d :: ds => by simp [dcells, dcells_length (k + 1) ds]; omega
theorem dcells_get : ∀ (ds : List Dr) (k i : Nat) (h : i < ds.length), ((dcells k ds).drop (i * 3)).take 3 = [.sl (k + i) 0 ds[i].1.length 1 false, .int .u32 ds[i].2.1, .bool ds[i].2.2]
  | d :: ds, k, 0, _ => by simp [dcells]
  | d :: ds, k, i + 1, h => by
    have := dcells_get ds (k + 1) i (by simpa using h)
    rw [show (i + 1) * 3 = i * 3 + 3 by omega, show k + (i + 1) = k + 1 + i by omega]
    simpa [dcells] using this
theorem belows_dcells : ∀ (ds : List Dr) (k N : Nat), k + ds.length ≤ N → belows N (dcells k ds) = true
  | [], _, _, _ => rfl
  | d :: ds, k, N, h => by
    simp only [List.length_cons] at h
    simp only [dcells, belows, below, Bool.and_eq_true, decide_eq_true_eq, Bool.true_and]
    exact ⟨by omega, belows_dcells ds (k + 1) N (by omega)⟩
theorem drH_length (ds : List Dr) : (drH ds).length = ds.length + 1 := by simp [drH, dblks]
theorem drH_at (ds : List Dr) (i : Nat) (h : i < ds.length) : (drH ds)[i + 1]? = some (.cells false (ds[i].1.map aB)) := by
  simp [drH, dblks, List.getElem?_eq_getElem h]
theorem drH_flat (ds : List Dr) : ∀ x ∈ drH ds, ∃ o l, x = ABlk.cells o l ∧ belows (ds.length + 1) l = true := by
  intro x hx
  rcases List.mem_cons.1 hx with rfl | hx
  · exact ⟨false, _, rfl, belows_dcells ds 1 _ (by omega)⟩
  · obtain ⟨d, _, rfl⟩ := List.mem_map.1 hx
    exact ⟨false, _, rfl, belows_free _ _ (frees_aB _)⟩
def dEs (ds : List Dr) : List En := ds.map fun d => dE d.1 d.2.1 d.2.2
def DrOk (ds : List Dr) : Prop := ∀ d ∈ ds, (∀ c ∈ d.1, c < 256) ∧ d.1.length ≤ 9223372036854775807
def enΓ : Gam := gams [(71, draftS)]
theorem enΓ_ok : GOk Tryz.prog enΓ := goks_cons draft_sound goks_nil
theorem draftOf_at (H : AHeap) (b : Nat) (ls : List Nat) (n : Int) (g : Bool) (o : Bool) (hb : H[b]? = some (.cells o (ls.map aB))) (h1 : ∀ c ∈ ls, c < 256) (h2 : ls.length ≤ 9223372036854775807) :
    draftS [.agg [.sl b 0 ls.length 1 false, .int .u32 n, .bool g]] H = some (.agg (enA (dE ls n g)), H, []) := by
  have h0 : (ls.map aB).take ls.length = ls.map aB := List.take_of_length_le (by simp)
  have h3 : ls.all (fun x => decide (x < 256)) = true := by simpa using h1
  have h4 : draftOf H (.agg [.sl b 0 ls.length 1 false, .int .u32 n, .bool g]) = some (ls, n, g) := by
    simp only [draftOf, hb, List.drop_zero, h0, natsOf_aB]
    rw [if_pos ⟨by simp, h3, h2⟩]
  simp [draftS, readS, h4]
set_option maxHeartbeats 8000000 in
theorem entries_ct (ds : List Dr) (most : Nat) (hm : most ≤ 100) (hd : DrOk ds) (hl : ds.length ≤ 9223372036854775807) :
    Ct Tryz.prog 16 [.sl 0 0 ds.length 3 false, .int .i64 most] (drH ds) (.sl (ds.length + 1) 0 (dEs (ds.take most)).length 3 false) (drH ds ++ [.cells true (ensA (dEs (ds.take most)))]) := by
  obtain ⟨N, hN⟩ : ∃ N, ds.length + 1 = N := ⟨_, rfl⟩
  have hXl := drH_length ds
  have hXf := drH_flat ds
  rw [hN] at hXl hXf
  refine ct_of_sim Tryz.func16 rfl ?_
  rw [hXl, hN]
  simp only [Tryz.ntmps16, List.length_cons, List.length_nil, Nat.reduceAdd, Nat.reduceSub, List.replicate, List.cons_append, List.nil_append]
  refine Sim.step hmix enΓ_ok (n := 0) (by simp; exact ⟨rfl, rfl⟩) (by omega) ?_
  refine Sim.step hmix enΓ_ok (n := 0) (by simp; exact ⟨rfl, rfl⟩) (by omega) ?_
  refine Sim.seq (Sim.step hmix enΓ_ok (n := 0) (by simp; exact ⟨rfl, rfl⟩) (by omega) ?_)
  refine Sim.block (Sim.loopW (fun k : Nat => k ≤ ds.length ∧ k ≤ most)
    (fun k => [.sl 0 0 ds.length 3 false, .int .i64 most, .top, .top, .top, .sl N 0 (dEs (ds.take k)).length 3 false, .int .i64 k] ++ List.replicate 20 .top)
    (fun k => drH ds ++ [.cells true (ensA (dEs (ds.take k)))]) (fun k => most - k) 0 (by omega) ⟨by omega, by omega⟩ ?_ fun k hk => ?_)
  · have := Weak.tail (A := drH ds) (T := []) (Tn := [.cells true (ensA (dEs (ds.take 0)))]) (F := [.sl 0 0 ds.length 3 false, .int .i64 most, .tuple [], .tuple [], .nils, .nils, .int .i64 0] ++ List.replicate 20 (.tuple [])) (Fn := [.sl 0 0 ds.length 3 false, .int .i64 most, .top, .top, .top, .sl N 0 (dEs (ds.take 0)).length 3 false, .int .i64 (0 : Nat)] ++ List.replicate 20 .top) hXl hXf [0] (by decide) (by
        have h0 : (List.range N ++ [0].map (N + ·))[0]? = some 0 := by rw [List.getElem?_append_left (by simp; omega), List.getElem?_range (by omega)]
        have h0' : ∀ h, (List.range N ++ [N])[0]'h = 0 := fun h => by rw [List.getElem_append_left (by rw [List.length_range]; omega), List.getElem_range]
        simp [AWs, AW, dEs, h0']) (by simp [AWg, hXl])
    simpa using this
  · obtain ⟨hk1, hk2⟩ := hk
    obtain ⟨out, ho⟩ : ∃ out, dEs (ds.take k) = out := ⟨_, rfl⟩
    have hol : out.length = k := by rw [← ho]; simp [dEs]; omega
    obtain ⟨X, hX⟩ : ∃ X, drH ds = X := ⟨_, rfl⟩
    have hX0 : X[0]? = some (.cells false (dcells 1 ds)) := by rw [← hX]; rfl
    rw [hX] at hXl hXf
    rw [ho, hX]
    have b1 : (out.length + 1) * 24 ≤ 140737488355328 := by omega
    have b2 : out.length + 1 ≤ 9223372036854775807 := by omega
    by_cases hlt : k < ds.length ∧ k < most
    · obtain ⟨h1, h2⟩ := hlt
      have h1i : (k : Int) < ds.length := by omega
      have h2i : (k : Int) < most := by omega
      obtain ⟨d, hdd⟩ : ∃ d, ds[k] = d := ⟨_, rfl⟩
      have hd' : ds[k]? = some d := by rw [List.getElem?_eq_getElem h1, hdd]
      have g1 := dcells_get ds 1 k h1
      rw [hdd] at g1
      have gl := dcells_length 1 ds
      have k1 : k * 3 + 3 ≤ ds.length * 3 := by omega
      obtain ⟨ls, n, g⟩ := d
      have hok := hd _ (List.mem_of_getElem? hd')
      have hXk : X[1 + k]? = some (.cells false (ls.map aB)) := by rw [← hX, Nat.add_comm, drH_at ds k h1, hdd]
      have hw : IntKind.i64.wrap ((k : Int) + 1) = k + 1 := wr_i64 (by omega) (by omega)
      have hN0 : 0 < N := by omega
      have hkN : 1 + k < N := by omega
      obtain ⟨ew, en', eg, hE⟩ : ∃ ew en' eg, dE ls n g = (ew, en', eg) := ⟨_, _, _, rfl⟩
      have hds : ∀ T : AHeap, draftS [.agg [.sl (1 + k) 0 ls.length 1 false, .int .u32 n, .bool g]] (X ++ T) = some (.agg [.str ew, .int .u32 en', .bool eg], X ++ T, []) := fun T => by
        have := draftOf_at (X ++ T) (1 + k) ls n g false (by rw [List.getElem?_append_left (by omega)]; exact hXk) hok.1 hok.2
        rw [hE] at this
        exact this
      have hX0' : ∀ T : AHeap, (X ++ T)[0]? = some (.cells false (dcells 1 ds)) := fun T => by rw [List.getElem?_append_left (by omega)]; exact hX0
      have hX0g : ∀ (T : AHeap) h, (X ++ T)[0]'h = .cells false (dcells 1 ds) := fun T h => by
        have := hX0' T
        rw [List.getElem?_eq_getElem h] at this
        exact Option.some.inj this
      have hnext : dEs (ds.take (k + 1)) = out ++ [(ew, en', eg)] := by rw [← ho, ← hE]; simp [dEs, List.take_add_one, hd']
      refine Sim.step hmix enΓ_ok (n := 0) (by simp [h1i, h2i]; exact ⟨rfl, rfl⟩) (by simp; omega) ?_
      refine Sim.seq (Sim.block ?_)
      refine Sim.exec hmix enΓ_ok (n := 0) (by simp (decide := true) [h1, hX0g, g1, gl, k1, enΓ, hds, hXl, b1, b2]; exact ⟨rfl, rfl, rfl⟩) (by simp; omega) ?_
      dsimp only
      refine Sim.exec hmix enΓ_ok (n := 0) (by simp [hw]; exact ⟨rfl, rfl, rfl⟩) (by simp; omega) ?_
      dsimp only
      have r0 : ∀ h, (List.range N ++ [N + 2])[0]'h = 0 := fun h => by rw [List.getElem_append_left (by rw [List.length_range]; omega), List.getElem_range]
      have rN : ∀ h, (List.range N ++ [N + 2])[N]'h = N + 2 := fun h => by rw [List.getElem_append_right (by simp)]; simp
      refine ⟨k + 1, ⟨by omega, by omega⟩, ?_, by omega⟩
      refine Weak.tail hXl hXf [2] (by decide) ?_ ?_
      · simp [AWs, AW, r0, rN, hnext]
      · have hfr := frees_ens (out ++ [(ew, en', eg)])
        simp [AWg, AWb, hXl, hnext]
        have hfr2 : frees (ensA out ++ [AV.str ew, AV.int IntKind.u32 en', AV.bool eg]) = true := by
          have e : ensA out ++ [AV.str ew, AV.int IntKind.u32 en', AV.bool eg] = ensA (out ++ [(ew, en', eg)]) := by simp [ensA, enA]
          rw [e]
          exact hfr
        exact AWs.refl _ _ hfr2
    · have hkd : dEs (ds.take most) = out := by
        rw [← ho]
        rcases Nat.lt_or_ge k most with h9 | h9
        · have : k = ds.length := by omega
          rw [this, List.take_length, List.take_of_length_le (by omega)]
        · rw [show k = most by omega]
      rw [hkd]
      have r0 : ∀ h, (List.range N ++ [N])[0]'h = 0 := fun h => by rw [List.getElem_append_left (by rw [List.length_range]; omega), List.getElem_range]
      have rN : ∀ h, (List.range N ++ [N])[N]'h = N := fun h => by rw [List.getElem_append_right (by simp)]; simp
      by_cases h1 : k < ds.length
      · have h2 : ¬ k < most := fun h => hlt ⟨h1, h⟩
        have h1i : (k : Int) < ds.length := by omega
        have h2i : ¬ (k : Int) < most := by omega
        refine Sim.exec hmix enΓ_ok (n := 0) (by simp [h1i, h2i]; exact ⟨rfl, rfl, rfl⟩) (by simp; omega) ?_
        dsimp only
        rw [if_pos rfl]
        refine Sim.exec hmix enΓ_ok (n := 0) (by simp; exact ⟨rfl, rfl, rfl⟩) (by simp; omega) ?_
        refine ⟨.inr rfl, _, by simp; rfl, Weak.tail hXl hXf [0] (by decide) ?_ ?_⟩
        · simp [AWs, AW, rN]
        · simp [AWg, AWb, hXl]
      · have h1i : ¬ (k : Int) < ds.length := by omega
        refine Sim.exec hmix enΓ_ok (n := 0) (by simp [h1i]; exact ⟨rfl, rfl, rfl⟩) (by simp; omega) ?_
        dsimp only
        rw [if_pos rfl]
        refine Sim.exec hmix enΓ_ok (n := 0) (by simp; exact ⟨rfl, rfl, rfl⟩) (by simp; omega) ?_
        refine ⟨.inr rfl, _, by simp; rfl, Weak.tail hXl hXf [0] (by decide) ?_ ?_⟩
        · simp [AWs, AW, rN]
        · simp [AWg, AWb, hXl]
theorem Rp.len_le (s : List UInt8) : ((Rp.rd s 0).1.length : Int) ≤ s.length := by
  have key : ∀ (k : Nat) (acc : List En) (a : Int), Rp.At s (acc, a) → s.length - a.toNat ≤ k → ((Rp.rd s 0).1.length : Int) ≤ s.length := by
    intro k
    induction k with
    | zero =>
      intro acc a h hk
      cases h1 : Rp.one s a with
      | none =>
        rw [Rp.at_end h h1]
        obtain ⟨_, h2, h3, _⟩ := h
        dsimp only at h2 h3 ⊢
        omega
      | some y =>
        obtain ⟨_, w2, w3, _⟩ := Rp.one_way (x := y.1) (b := y.2) h1
        have := h.1
        dsimp only at this
        omega
    | succ k ih =>
      intro acc a h hk
      cases h1 : Rp.one s a with
      | none =>
        rw [Rp.at_end h h1]
        obtain ⟨_, h2, h3, _⟩ := h
        dsimp only at h2 h3 ⊢
        omega
      | some y =>
        obtain ⟨_, w2, w3, _⟩ := Rp.one_way (x := y.1) (b := y.2) h1
        have := h.1
        dsimp only at this
        exact ih _ _ (Rp.at_next (x := y.1) (b := y.2) h h1) (by omega)
  exact key _ _ _ (Rp.at0 s) (Nat.le_refl _)
def rbΓ : Gam := gams [(191, fgetS), (108, egetS)]
theorem rbΓ_ok : GOk Tryz.prog rbΓ := goks_cons fget_sound (goks_cons eget_sound goks_nil)
set_option maxHeartbeats 16000000 in
theorem read_ct (s : List UInt8) (hs : s.length ≤ 1000000000) :
    Ct Tryz.prog 63 [.str s] [] (.tuple [.sl 0 0 (Rp.rd s 0).1.length 3 false, .int .i64 (Rp.rd s 0).2]) [.cells true (ensA (Rp.rd s 0).1)] := by
  have hΓ := gok_run hmix goks_nil 0 [136] 1
  have hs2 : s.length ≤ 1000000000000 := by omega
  obtain ⟨⟨L, X⟩, hr⟩ : ∃ r, Rp.rd s 0 = r := ⟨_, rfl⟩
  rw [hr]
  dsimp only
  refine ct_of_sim Tryz.func63 rfl ?_
  simp only [Tryz.ntmps63, List.length_cons, List.length_nil, Nat.reduceAdd, Nat.reduceSub, List.replicate, List.cons_append, List.nil_append]
  refine Sim.step hmix hΓ (n := 0) (by simp; exact ⟨rfl, rfl⟩) (by simp) ?_
  refine Sim.scope ?_
  refine Sim.step hmix hΓ (n := 0) (by simp; exact ⟨rfl, rfl⟩) (by simp) ?_
  refine Sim.seq (Sim.step hmix hΓ (n := 0) (by simp [Tryz.f136]; exact ⟨rfl, rfl⟩) (by simp) ?_)
  refine Sim.block ?_
  by_cases hc : (Fr.get s X).2.2 = 0
  · refine Sim.rangeFuncN hmix (fun rc => [.cells true [.sl 4 0 L.length 3 false], .cells true [.int .i64 X], .cells true [.str s], rc, .cells true (ensA L)]) .done (some (.exit 0)) (.tuple []) (gf := 201) (cap := [.ptr 2 0]) (by simp) (enter_of Tryz.func201 rfl (by decide)) (by decide) (by simp) (by simp) (by simp) rfl (by simp) ?_ ?_
    · generalize hrc : ABlk.loop _ _ _ LoopState.ready none _ = rc
      generalize hrd : ABlk.loop _ _ _ LoopState.done (some (Code.exit 0)) _ = rd
      refine ct_of_sim Tryz.func201 rfl ?_
      simp only [Tryz.ntmps201, List.length_cons, List.length_nil, List.replicate, List.cons_append, List.nil_append]
      refine Sim.step hmix rbΓ_ok (n := 0) (by simp [rbΓ, fgetS, hs2]; exact ⟨rfl, rfl⟩) (by simp) ?_
      refine Sim.block (Sim.loopW (fun p : List En × Int => Rp.At s p)
        (fun p => [.yld 3, .ptr 2 0, .top, .str (Fr.get s p.2).1, .int .i64 (Fr.get s p.2).2.1, .int .i64 (Fr.get s p.2).2.2] ++ List.replicate 21 .top)
        (fun p => [.cells true [.sl 4 0 p.1.length 3 false], .cells true [.int .i64 p.2], .cells true [.str s], rc, .cells true (ensA p.1)]) (fun p => s.length - p.2.toNat) ([], 0) (by simp) (Rp.at0 s) ?_ fun p hp => ?_)
      · subst hrc
        exact Weak.mk' [0, 1, 2, 3, 100] (by decide) (by decide) (by simp) (by simp)
      obtain ⟨acc, a⟩ := p
      have hp' := hp
      obtain ⟨h1, h2, h3, h4⟩ := hp'
      dsimp only at h1 h2 h3 h4 ⊢
      subst hrc
      subst hrd
      have hΓ2 := gok_run hmix rbΓ_ok 0 [] 1
      have hql := Rp.get_le s a
      obtain ⟨⟨q, y, e⟩, hq⟩ : ∃ r, Fr.get s a = r := ⟨_, rfl⟩
      obtain ⟨⟨⟨w, n, g⟩, e2⟩, hx⟩ : ∃ r, eget q = r := ⟨_, rfl⟩
      rw [hq] at hql ⊢
      dsimp only at hql ⊢
      have hq6 : q.length ≤ 1000000 := by omega
      obtain ⟨⟨q', y', e'⟩, hq'⟩ : ∃ r, Fr.get s y = r := ⟨_, rfl⟩
      have c1 : (acc.length + 1) * 24 ≤ 140737488355328 := by omega
      have c2 : acc.length + 1 ≤ 9223372036854775807 := by omega
      have tk : (ensA acc).take (acc.length * 3) = ensA acc := List.take_of_length_le (by simp)
      by_cases hok : e = 0 ∧ e2 = 0
      · obtain ⟨rfl, rfl⟩ := hok
        have h5 : Rp.one s a = some ((w, n, g), y) := by
          unfold Rp.one
          rw [hq]
          simp [hx]
        have hn := Rp.at_next hp h5
        obtain ⟨w1, w2, w3, _⟩ := Rp.one_way h5
        refine Sim.exec hmix hΓ2 (n := 0) (by simp (decide := true) [rbΓ, fgetS, egetS, hs2, hq6, hx, enA, hq', c1, c2, tk]; exact ⟨rfl, rfl, rfl⟩) (by simp) ?_
        dsimp only
        refine ⟨(acc ++ [(w, n, g)], y), hn, ?_, by dsimp only; omega⟩
        rw [hq']
        exact Weak.mk' [0, 1, 2, 3, 7] (by decide) (by decide) (by simp) (by simp [ensA, enA]; exact AWs.refl _ _ (by simpa [ensA, enA] using frees_ens (acc ++ [(w, n, g)])))
      · have h5 : Rp.one s a = none := by
          unfold Rp.one
          rw [hq]
          simp only [hx]
          rw [if_neg hok]
        have h6 := Rp.at_end hp h5
        rw [hr] at h6
        simp only [Prod.mk.injEq] at h6
        obtain ⟨rfl, rfl⟩ := h6
        rw [hq] at hc
        dsimp only at hc
        subst hc
        have he3 : (e2 != 0) = true := by simpa using hok
        refine Sim.exec hmix hΓ2 (n := 0) (by simp (decide := true) [rbΓ, fgetS, egetS, hq6, hx, enA, he3]; exact ⟨rfl, rfl, rfl⟩) (by simp) ?_
        dsimp only
        refine ⟨.inl rfl, _, by simp [Tryz.f201]; rfl, ?_⟩
        exact Weak.mk' [0, 1, 2, 3, 4] (by decide) (by decide) (by simp) (by simp)
    · dsimp only
      refine Sim.exec hmix hΓ (n := 0) (by simp (decide := true); exact ⟨rfl, rfl, rfl⟩) (by simp) ?_
      exact ⟨.inr rfl, _, by simp [Tryz.f63] <;> rfl, Weak.mk' [4] (by decide) (by decide) (by simp) (by simp)⟩
  · refine Sim.rangeFuncN hmix (fun rc => [.cells true [.sl 4 0 L.length 3 false], .cells true [.int .i64 X], .cells true [.str s], rc, .cells true (ensA L)]) .ready none (.tuple []) (gf := 201) (cap := [.ptr 2 0]) (by simp) (enter_of Tryz.func201 rfl (by decide)) (by decide) (by simp) (by simp) (by simp) rfl (by simp) ?_ ?_
    · generalize hrc : ABlk.loop _ _ _ LoopState.ready none _ = rc
      refine ct_of_sim Tryz.func201 rfl ?_
      simp only [Tryz.ntmps201, List.length_cons, List.length_nil, List.replicate, List.cons_append, List.nil_append]
      refine Sim.step hmix rbΓ_ok (n := 0) (by simp [rbΓ, fgetS, hs2]; exact ⟨rfl, rfl⟩) (by simp) ?_
      refine Sim.block (Sim.loopW (fun p : List En × Int => Rp.At s p)
        (fun p => [.yld 3, .ptr 2 0, .top, .str (Fr.get s p.2).1, .int .i64 (Fr.get s p.2).2.1, .int .i64 (Fr.get s p.2).2.2] ++ List.replicate 21 .top)
        (fun p => [.cells true [.sl 4 0 p.1.length 3 false], .cells true [.int .i64 p.2], .cells true [.str s], rc, .cells true (ensA p.1)]) (fun p => s.length - p.2.toNat) ([], 0) (by simp) (Rp.at0 s) ?_ fun p hp => ?_)
      · subst hrc
        exact Weak.mk' [0, 1, 2, 3, 100] (by decide) (by decide) (by simp) (by simp)
      obtain ⟨acc, a⟩ := p
      have hp' := hp
      obtain ⟨h1, h2, h3, h4⟩ := hp'
      dsimp only at h1 h2 h3 h4 ⊢
      subst hrc
      have hΓ2 := gok_run hmix rbΓ_ok 0 [] 1
      have hql := Rp.get_le s a
      obtain ⟨⟨q, y, e⟩, hq⟩ : ∃ r, Fr.get s a = r := ⟨_, rfl⟩
      obtain ⟨⟨⟨w, n, g⟩, e2⟩, hx⟩ : ∃ r, eget q = r := ⟨_, rfl⟩
      rw [hq] at hql ⊢
      dsimp only at hql ⊢
      have hq6 : q.length ≤ 1000000 := by omega
      obtain ⟨⟨q', y', e'⟩, hq'⟩ : ∃ r, Fr.get s y = r := ⟨_, rfl⟩
      have c1 : (acc.length + 1) * 24 ≤ 140737488355328 := by omega
      have c2 : acc.length + 1 ≤ 9223372036854775807 := by omega
      have tk : (ensA acc).take (acc.length * 3) = ensA acc := List.take_of_length_le (by simp)
      by_cases hok : e = 0 ∧ e2 = 0
      · obtain ⟨rfl, rfl⟩ := hok
        have h5 : Rp.one s a = some ((w, n, g), y) := by
          unfold Rp.one
          rw [hq]
          simp [hx]
        have hn := Rp.at_next hp h5
        obtain ⟨w1, w2, w3, _⟩ := Rp.one_way h5
        refine Sim.exec hmix hΓ2 (n := 0) (by simp (decide := true) [rbΓ, fgetS, egetS, hs2, hq6, hx, enA, hq', c1, c2, tk]; exact ⟨rfl, rfl, rfl⟩) (by simp) ?_
        dsimp only
        refine ⟨(acc ++ [(w, n, g)], y), hn, ?_, by dsimp only; omega⟩
        rw [hq']
        exact Weak.mk' [0, 1, 2, 3, 7] (by decide) (by decide) (by simp) (by simp [ensA, enA]; exact AWs.refl _ _ (by simpa [ensA, enA] using frees_ens (acc ++ [(w, n, g)])))
      · have h5 : Rp.one s a = none := by
          unfold Rp.one
          rw [hq]
          simp only [hx]
          rw [if_neg hok]
        have h6 := Rp.at_end hp h5
        rw [hr] at h6
        simp only [Prod.mk.injEq] at h6
        obtain ⟨rfl, rfl⟩ := h6
        rw [hq] at hc
        dsimp only at hc
        have he2 : (e == 0) = false := by simpa using hc
        refine Sim.exec hmix hΓ2 (n := 0) (by simp (decide := true) [he2]; exact ⟨rfl, rfl, rfl⟩) (by simp) ?_
        dsimp only
        refine ⟨.inl rfl, _, by simp [Tryz.f201]; rfl, ?_⟩
        exact Weak.mk' [0, 1, 2, 3, 4] (by decide) (by decide) (by simp) (by simp)
    · dsimp only
      refine Sim.exec hmix hΓ (n := 0) (by simp (decide := true); exact ⟨rfl, rfl, rfl⟩) (by simp) ?_
      exact ⟨.inr rfl, _, by simp [Tryz.f63] <;> rfl, Weak.mk' [4] (by decide) (by decide) (by simp) (by simp)⟩
def rcΓ : Gam := gams [(137, fgetS), (138, egetS)]
theorem rcΓ_ok : GOk Tryz.prog rcΓ := goks_cons rfget_sound (goks_cons reget_sound goks_nil)
set_option maxHeartbeats 16000000 in
theorem rread_ct (s : List UInt8) (hs : s.length ≤ 1000000000) :
    Ct Tryz.prog 64 [.str s] [] (.tuple [.sl 0 0 (Rp.rd s 0).1.length 3 false, .int .i64 (Rp.rd s 0).2]) [.cells true (ensA (Rp.rd s 0).1)] := by
  have hs2 : s.length ≤ 1000000000000 := by omega
  obtain ⟨⟨L, X⟩, hr⟩ : ∃ r, Rp.rd s 0 = r := ⟨_, rfl⟩
  rw [hr]
  dsimp only
  refine ct_of_sim Tryz.func64 rfl ?_
  simp only [Tryz.ntmps64, List.length_cons, List.length_nil, Nat.reduceAdd, Nat.reduceSub, List.replicate, List.cons_append, List.nil_append]
  refine Sim.step hmix rcΓ_ok (n := 0) (by simp; exact ⟨rfl, rfl⟩) (by simp) ?_
  refine Sim.step hmix rcΓ_ok (n := 0) (by simp; exact ⟨rfl, rfl⟩) (by simp) ?_
  refine Sim.step hmix rcΓ_ok (n := 0) (by simp; exact ⟨rfl, rfl⟩) (by simp) ?_
  refine Sim.block (Sim.loopW (fun p : List En × Int => Rp.At s p)
    (fun p => [.str s, .top, .top, .top, .sl 0 0 p.1.length 3 false, .int .i64 p.2] ++ List.replicate 30 .top)
    (fun p => [.cells true (ensA p.1)]) (fun p => s.length - p.2.toNat) ([], 0) (by simp) (Rp.at0 s) ?_ fun p hp => ?_)
  · exact Weak.mk' [100] (by decide) (by decide) (by simp) (by simp)
  · obtain ⟨acc, a⟩ := p
    have hp' := hp
    obtain ⟨h1, h2, h3, h4⟩ := hp'
    dsimp only at h1 h2 h3 h4 ⊢
    have hql := Rp.get_le s a
    obtain ⟨⟨q, y, e⟩, hq⟩ : ∃ r, Fr.get s a = r := ⟨_, rfl⟩
    obtain ⟨⟨⟨w, n, g⟩, e2⟩, hx⟩ : ∃ r, eget q = r := ⟨_, rfl⟩
    rw [hq] at hql
    dsimp only at hql
    have hq6 : q.length ≤ 1000000 := by omega
    have c1 : (acc.length + 1) * 24 ≤ 140737488355328 := by omega
    have c2 : acc.length + 1 ≤ 9223372036854775807 := by omega
    have tk : (ensA acc).take (acc.length * 3) = ensA acc := List.take_of_length_le (by simp)
    by_cases hok : e = 0 ∧ e2 = 0
    · obtain ⟨rfl, rfl⟩ := hok
      have h5 : Rp.one s a = some ((w, n, g), y) := by
        unfold Rp.one
        rw [hq]
        simp [hx]
      have hn := Rp.at_next hp h5
      obtain ⟨w1, w2, w3, _⟩ := Rp.one_way h5
      refine Sim.exec hmix rcΓ_ok (n := 0) (by simp (decide := true) [rcΓ, fgetS, egetS, hs2, hq, hq6, hx, enA, c1, c2, tk]; exact ⟨rfl, rfl, rfl⟩) (by simp) ?_
      dsimp only
      exact ⟨(acc ++ [(w, n, g)], y), hn, Weak.mk' [3] (by decide) (by decide) (by simp) (by simp [ensA, enA]; exact AWs.refl _ _ (by simpa [ensA, enA] using frees_ens (acc ++ [(w, n, g)]))), by dsimp only; omega⟩
    · have h5 : Rp.one s a = none := by
        unfold Rp.one
        rw [hq]
        simp only [hx]
        rw [if_neg hok]
      have h6 := Rp.at_end hp h5
      rw [hr] at h6
      simp only [Prod.mk.injEq] at h6
      obtain ⟨rfl, rfl⟩ := h6
      by_cases he : e = 0
      · subst he
        have he3 : (e2 != 0) = true := by simpa using hok
        refine Sim.exec hmix rcΓ_ok (n := 0) (by simp (decide := true) [rcΓ, fgetS, egetS, hs2, hq, hq6, hx, enA, he3]; exact ⟨rfl, rfl, rfl⟩) (by simp) ?_
        dsimp only
        exact ⟨.inr rfl, _, by simp [Tryz.f64] <;> rfl, Weak.mk' [0] (by decide) (by decide) (by simp) (by simp)⟩
      · have he3 : (e != 0) = true := by simpa using he
        refine Sim.exec hmix rcΓ_ok (n := 0) (by simp (decide := true) [rcΓ, fgetS, hs2, hq, he3]; exact ⟨rfl, rfl, rfl⟩) (by simp) ?_
        dsimp only
        exact ⟨.inr rfl, _, by simp [Tryz.f64] <;> rfl, Weak.mk' [0] (by decide) (by decide) (by simp) (by simp)⟩
def readsR : Summ := newS fun
  | [.str s] => if s.length ≤ 1000000000 then some (.tuple [.sl 0 0 (Rp.rd s 0).1.length 3 false, .int .i64 (Rp.rd s 0).2], [.cells true (ensA (Rp.rd s 0).1)]) else none
  | _ => none
theorem read_sound : Sound Tryz.prog 63 readsR := by
  refine sound_new (enter_of Tryz.func63 rfl (by decide)) fun args v H' h => ?_
  split at h <;> try cases h
  rename_i s
  split at h <;> cases h
  exact ⟨read_ct s ‹_›, by simp, by simp⟩
theorem rread_sound : Sound Tryz.prog 64 readsR := by
  refine sound_new (enter_of Tryz.func64 rfl (by decide)) fun args v H' h => ?_
  split at h <;> try cases h
  rename_i s
  split at h <;> cases h
  exact ⟨rread_ct s ‹_›, by simp, by simp⟩
def fmRΓ : Gam := gams [(135, fputS), (134, eputS)]
theorem fmRΓ_ok : GOk Tryz.prog fmRΓ := goks_cons rfput_sound (goks_cons reput_sound goks_nil)
set_option maxHeartbeats 16000000 in
theorem rframes_ct (l : List En) (hl : l.length ≤ 1000000) (hok : ∀ x ∈ l, okN x.2.1 = true) :
    Ct Tryz.prog 62 [.sl 0 0 l.length 3 false] [.cells false (ensA l)] (.str (Rp.bytes l)) [.cells false (ensA l)] := by
  refine ct_of_sim Tryz.func62 rfl ?_
  simp only [Tryz.ntmps62, List.length_cons, List.length_nil, Nat.reduceAdd, Nat.reduceSub, List.replicate, List.cons_append, List.nil_append]
  refine Sim.step hmix fmRΓ_ok (n := 0) (by simp; exact ⟨rfl, rfl⟩) (by simp) ?_
  refine Sim.step hmix fmRΓ_ok (n := 0) (by simp; exact ⟨rfl, rfl⟩) (by simp) ?_
  refine Sim.seq (Sim.step hmix fmRΓ_ok (n := 0) (by simp; exact ⟨rfl, rfl⟩) (by simp) ?_)
  refine Sim.block (Sim.loopW (fun k : Nat => k ≤ l.length)
    (fun k => [.sl 0 0 l.length 3 false, .top, .top, .str (Rp.bytes (l.take k)), .int .i64 k] ++ List.replicate 27 .top)
    (fun k => [.cells false (ensA l)]) (fun k => l.length - k) 0 (by simp) (by simp) (Weak.mk' [0] (by decide) (by decide) (by simp [Rp.bytes]) (by simp)) fun k hk => ?_)
  by_cases hlt : k < l.length
  · have hlti : (k : Int) < l.length := by omega
    obtain ⟨e, he⟩ : ∃ e, l[k] = e := ⟨_, rfl⟩
    have he' : l[k]? = some e := by rw [List.getElem?_eq_getElem hlt, he]
    have g1 := ens_get l k hlt
    rw [he] at g1
    have k1 : k * 3 + 3 ≤ l.length * 3 := by omega
    have hw : IntKind.i64.wrap ((k : Int) + 1) = k + 1 := wr_i64 (by omega) (by omega)
    have hn := hok e (List.mem_of_getElem? he')
    have hnext : Rp.bytes (l.take (k + 1)) = Rp.bytes (l.take k) ++ (Fr.put (eput e).1).1 := by rw [List.take_add_one, he']; exact Rp.bytes_snoc _ _
    have hb := Rp.bytes_le (l.take k)
    have hb2 : (l.take k).length ≤ 1000000 := by simp; omega
    obtain ⟨wd, wt, gn⟩ := e
    obtain ⟨⟨P, er⟩, hP⟩ : ∃ r, eput (wd, wt, gn) = r := ⟨_, rfl⟩
    obtain ⟨B, hB⟩ : ∃ B, Rp.bytes (l.take k) = B := ⟨_, rfl⟩
    have hPl := Fr.put_le P
    obtain ⟨⟨U, ef⟩, hU⟩ : ∃ r, Fr.put P = r := ⟨_, rfl⟩
    rw [hP] at hnext
    rw [hB] at hnext hb ⊢
    dsimp only at hnext
    rw [hU] at hnext hPl
    dsimp only at hnext hPl hn
    have hP2 : P.length ≤ 1000000000 := by
      have e9 : P = (eput (wd, wt, gn)).1 := by rw [hP]
      have hn' : 0 ≤ wt ∧ wt < 4294967296 := by simpa [okN] using hn
      rw [e9]
      unfold eput
      split
      · rename_i h
        simp only [okW, decide_eq_true_eq] at h
        dsimp only
        have := Vy.size_bd wt.toNat (by omega)
        split
        · simp only [List.length_cons]; omega
        · simp only [List.length_cons, List.length_append, Vy.enc_length]; omega
      · simp
    have hBU : B.length + U.length ≤ 9223372036854775807 := by omega
    refine Sim.step hmix fmRΓ_ok (n := 0) (by simp [hlti]; exact ⟨rfl, rfl⟩) (by simp) ?_
    refine Sim.seq (Sim.block ?_)
    refine Sim.exec hmix fmRΓ_ok (n := 0) (by simp (decide := true) [fmRΓ, fputS, eputS, hlt, g1, k1, enA, hn, hP, hU, hP2, hBU]; exact ⟨rfl, rfl, rfl⟩) (by simp) ?_
    dsimp only
    refine Sim.exec hmix fmRΓ_ok (n := 0) (by simp [hw]; exact ⟨rfl, rfl, rfl⟩) (by simp) ?_
    dsimp only
    exact ⟨k + 1, by omega, Weak.mk' [0] (by decide) (by decide) (by simp [hnext]) (by simp), by omega⟩
  · have hke : k = l.length := by omega
    subst hke
    refine Sim.exec hmix fmRΓ_ok (n := 0) (by simp; exact ⟨rfl, rfl, rfl⟩) (by simp) ?_
    dsimp only
    rw [if_pos rfl]
    refine Sim.exec hmix fmRΓ_ok (n := 0) (by simp; exact ⟨rfl, rfl, rfl⟩) (by simp) ?_
    exact ⟨.inr rfl, _, by simp [Tryz.f62] <;> rfl, Weak.mk' [0] (by decide) (by decide) (by simp) (by simp)⟩
end Go.Proofs.YthafeihjlamhhaaGreatDoor
