/- Parts of the proof of DiskKeeps: lemmas, each with its own conditions. -/
import Derived.Test.YtjolihoakdifoaaGreatY7
import Derived.Test.YtjolihoakdifoaaGreatY16
import Derived.Test.YtjolihoakdifoaaGreatY13
namespace Go.Proofs.YtjolihoakdifoaaGreat
open Go.ChangeShapes Go.WideShapes Go.ChangeAt Go.RowKit
inductive AS where
  | flat (b : Bool) (ts : List CT)
  | rows (ts : List CT)
  deriving DecidableEq
def AbsArgs2 : List AS → Nat → List AV → AHeap → Prop
  | [], _, [], [] => True
  | .flat true ts :: ss, k, x :: xs, H => ∃ ys H1 H2, x = .agg ys ∧ AbsOk ts k ys H1 ∧ H = H1 ++ H2 ∧ AbsArgs2 ss (k + H1.length) xs H2
  | .flat false ts :: ss, k, x :: xs, H => ∃ H1 H2, AbsOk ts k [x] H1 ∧ H = H1 ++ H2 ∧ AbsArgs2 ss (k + H1.length) xs H2
  | .rows ts :: ss, k, x :: xs, H => ∃ n ys H1 H2, (n = 0 ∧ x = .nils ∨ x = .slice k 0 n ts.length false) ∧ n ≤ maxLen ∧ AbsOk (List.replicate n ts).flatten (k + 1) ys H1 ∧ H = .cells false ys :: H1 ++ H2 ∧ AbsArgs2 ss (k + 1 + H1.length) xs H2
  | _, _, _, _ => False
def shapes2 (P : Program) (n : Nat) : List TypeId → Option (List AS)
  | [] => some []
  | t :: ts => match isAggT P t, flat P n t with
    | some b, some a => if P.cellsOf t = a.length then (shapes2 P n ts).map (.flat b a :: ·) else none
    | _, none => match P.underlying t with
      | some (.slice e) => match flat P n e with
        | some a => if P.cellsOf e = a.length ∧ 0 < a.length then (shapes2 P n ts).map (.rows a :: ·) else none
        | none => none
      | _ => none
    | none, some _ => none
section
variable {H : Type} {enc : TypeId × Value → H} {P : Program} {w : World} {base base' : Nat}
theorem rows_join2 {el : List CT} {a : Addr} : ∀ (m : Nat), (∀ i, i < m → ∃ cs : List Value, All2 (CellOk w) el cs ∧ ∀ k u, cs[k]? = some u → w.cell? (a.add (i * el.length + k)) = some u) →
    ∃ l, All2 (CellOk w) (List.replicate m el).flatten l ∧ ∀ i u, l[i]? = some u → w.cell? (a.add i) = some u
  | 0, _ => ⟨[], trivial, fun i u h => by simp at h⟩
  | m + 1, h => by
    obtain ⟨l, h1, h2⟩ := rows_join2 m fun i hi => h i (by omega)
    obtain ⟨cs, g1, g2⟩ := h m (by omega)
    have hl : l.length = m * el.length := by rw [← h1.length, flatten_replicate_length]
    refine ⟨l ++ cs, ?_, fun i u hi => ?_⟩
    · rw [List.replicate_succ', List.flatten_append]
      simp only [List.flatten_cons, List.flatten_nil, List.append_nil]
      exact h1.append g1
    · by_cases hlt : i < l.length
      · rw [List.getElem?_append_left hlt] at hi
        exact h2 i u hi
      · rw [List.getElem?_append_right (by omega)] at hi
        have := g2 _ u hi
        rw [show m * el.length + (i - l.length) = i by omega] at this
        exact this
def BlksOk (w : World) (k : Nat) (H : AHeap) (js : List (Option JB)) : Prop :=
  ∀ j : Inj, (∀ i, i < js.length → j (k + i) = (js[i]?).join) → ∀ (i : Nat) B q, H[i]? = some B → js[i]? = some (some q) → BRel j w B q
theorem blks_append {k : Nat} {H1 H2 : AHeap} {js1 js2 : List (Option JB)} (hl : js1.length = H1.length) (h1 : BlksOk w k H1 js1) (h2 : BlksOk w (k + H1.length) H2 js2) : BlksOk w k (H1 ++ H2) (js1 ++ js2) := by
  intro j hj i B q hB hq
  have j1 : ∀ i, i < js1.length → j (k + i) = (js1[i]?).join := fun i hi => by
    rw [hj i (by simp; omega), List.getElem?_append_left hi]
  have j2 : ∀ i, i < js2.length → j (k + H1.length + i) = (js2[i]?).join := fun i hi => by
    rw [show k + H1.length + i = k + (H1.length + i) by omega, hj (H1.length + i) (by simp; omega), List.getElem?_append_right (by omega), hl, Nat.add_sub_cancel_left]
  by_cases hi : i < H1.length
  · rw [List.getElem?_append_left hi] at hB
    rw [List.getElem?_append_left (by omega)] at hq
    exact h1 j j1 i B q hB hq
  · rw [List.getElem?_append_right (by omega)] at hB
    rw [List.getElem?_append_right (by omega), hl] at hq
    exact h2 j j2 _ B q hB hq
theorem own_append {H1 H2 : AHeap} (h1 : ∀ (i : Nat) (B : ABlk), H1[i]? = some B → ∃ l, B = .cells false l) (h2 : ∀ (i : Nat) (B : ABlk), H2[i]? = some B → ∃ l, B = .cells false l) : ∀ (i : Nat) (B : ABlk), (H1 ++ H2)[i]? = some B → ∃ l, B = .cells false l := by
  intro i B hB
  by_cases hi : i < H1.length
  · rw [List.getElem?_append_left hi] at hB
    exact h1 i B hB
  · rw [List.getElem?_append_right (by omega)] at hB
    exact h2 _ B hB
theorem rows_abs {n : Nat} {t e : TypeId} {a : List CT} {v : Value} {fuel : Nat} {x : DataW H × List MemPlace} (k : Nat) (hu : P.underlying t = some (.slice e)) (ha : flat P n e = some a) (hcl : P.cellsOf e = a.length) (h0 : 0 < a.length)
    (hx : DataW.trod enc P w base' (fun _ => true) true fuel t [v] = some x) (hE : ∀ ad len cap, v = .slice (some ad) len cap → SomeBlk w) :
    ∃ (m : Nat) (y : AV) (ys : List AV) (H1 : AHeap) (js : List (Option JB)), (m = 0 ∧ y = .nils ∨ y = .slice k 0 m a.length false) ∧ m ≤ maxLen ∧ AbsOk (List.replicate m a).flatten (k + 1) ys H1 ∧ js.length = H1.length + 1 ∧ BlksOk w k (.cells false ys :: H1) js ∧
      (∀ j : Inj, (∀ i, i < js.length → j (k + i) = (js[i]?).join) → VR j y v) ∧ (∀ (i : Nat) (B : ABlk), (ABlk.cells false ys :: H1)[i]? = some B → ∃ l, B = .cells false l) := by
  have none_ok : ∀ (p : Option JB), (∀ q, p = some q → ∃ cs T fz, w.heap[q.blk]? = some (.cells cs T fz) ∧ cs.size = q.size ∧ q.base ≤ q.size) → BlksOk w k [.cells false []] [p] := by
    intro p hp j _ i B q hB hq
    have hi : i = 0 := by
      have := (List.getElem?_eq_some_iff.1 hB).1
      simpa using this
    subst hi
    cases hB
    simp at hq
    obtain ⟨cs, T, fz, h1, h2, h3⟩ := hp q hq
    exact ⟨cs, T, fz, h1, h2, by simpa using h3, fun i x hx => by simp at hx, fun h => by cases h⟩
  have one_own : ∀ (i : Nat) (B : ABlk), [ABlk.cells false []][i]? = some B → ∃ l, B = .cells false l := by
    intro i B hB
    have hi : i = 0 := by
      have := (List.getElem?_eq_some_iff.1 hB).1
      simpa using this
    subst hi
    cases hB
    exact ⟨[], rfl⟩
  rcases Deep.open_slice hu hx with ⟨hv1, _⟩ | ⟨ad, len, cap, m, n', D, Pl, hv1, _, hle, hm, hmm, _, hel2⟩
  · obtain rfl : v = .slice none 0 0 := by simpa using hv1
    refine ⟨0, .nils, [], [], [none], .inl ⟨rfl, rfl⟩, Nat.zero_le _, trivial, rfl, none_ok none (fun q h => by cases h), fun j _ => by simp [VR], one_own⟩
  · obtain rfl : v = .slice (some ad) len cap := by simpa using hv1
    simp at hmm
    subst hmm
    by_cases hz : m = 0
    · subst hz
      obtain rfl : len = 0 := by omega
      obtain ⟨q, c, T, fz, hq⟩ := hE ad 0 0 rfl
      refine ⟨0, .slice k 0 0 a.length false, [], [], [some ⟨q, 0, c.size⟩], .inr rfl, Nat.zero_le _, trivial, rfl, none_ok _ (fun q' h => by cases h; exact ⟨c, T, fz, hq, rfl, Nat.zero_le _⟩), fun j hj => ?_, one_own⟩
      simp only [VR]
      have := hj 0 (by simp)
      exact ⟨_, ad, 0, by simpa using this, rfl, Nat.le_refl _, fun h => (by cases h), hm, .inl rfl⟩
    · obtain ⟨l, hl, hc⟩ := rows_join2 (w := w) (el := a) (a := ad) m fun i hi => by
        obtain ⟨cs', hcs', ht⟩ := hel2 i hi
        have hk := trod_flat n e a n' cs' _ ha hcl ht
        refine ⟨cs', hk, fun k u hk => ?_⟩
        obtain ⟨_, hcl', hce⟩ := World.cells?_some hcs'
        have hkl : k < P.cellsOf e := by rw [← hcl']; exact (List.getElem?_eq_some_iff.1 hk).1
        have := hce k hkl
        rw [hk] at this
        rw [← hcl]
        rw [← this, addr_add_add]
      have hll : l.length = m * a.length := by rw [← hl.length, flatten_replicate_length]
      have hpos : 0 < l.length := by rw [hll]; exact Nat.mul_pos (by omega) h0
      have hlast := hc (l.length - 1) l[l.length - 1] (by rw [List.getElem?_eq_getElem])
      have hfirst := hc 0 l[0] (by rw [List.getElem?_eq_getElem])
      have had := addr_plain (w := w) (x := ad) (v := l[0]) (by simpa [Addr.add] using hfirst)
      obtain ⟨B, O, S⟩ := ad
      cases had
      have hcell : ∀ (i : Nat) u, w.cell? ⟨B, O + i, none⟩ = some u → ∃ c T fz, w.heap[B]? = some (.cells c T fz) ∧ c[O + i]? = some u := by
        intro i u hu
        unfold World.cell? at hu
        dsimp only at hu
        split at hu
        · rename_i c T fz hh
          exact ⟨c, T, fz, hh, by simpa using hu⟩
        · cases hu
      obtain ⟨c, T, fz, hB, hcl2⟩ := hcell (l.length - 1) _ (by rw [← addr_plain_add]; exact hlast)
      have hsz := (Array.getElem?_eq_some_iff.1 hcl2).1
      have htk := hl.take (len * a.length)
      rw [take_flatten_replicate _ _ _ hle] at htk
      obtain ⟨ys, H1, js, g1, g2, g3, g4, g5⟩ := cells_abs _ _ (k + 1) htk fun v _ ad len cap _ => ⟨B, c, T, fz, hB⟩
      have hle2 : len * a.length ≤ m * a.length := Nat.mul_le_mul_right _ hle
      have hlt : (l.take (len * a.length)).length = len * a.length := by rw [List.length_take, hll]; omega
      refine ⟨len, .slice k 0 len a.length false, ys, H1, some ⟨B, O, c.size⟩ :: js, .inr rfl, by omega, g1, by simp [g2], fun j hj i B' q hB' hq => ?_, fun j hj => ?_, fun i B' hB' => ?_⟩
      · have hj2 : ∀ i, i < js.length → j (k + 1 + i) = (js[i]?).join := fun i hi => by
          have := hj (i + 1) (by simp; omega)
          rw [show k + 1 + i = k + (i + 1) by omega, this]
          simp
        cases i with
        | zero =>
          simp at hB' hq
          subst hB'; subst hq
          have hv := g4 j hj2
          have hyl : ys.length = len * a.length := by rw [hv.length, hlt]
          refine ⟨c, T, fz, hB, rfl, by dsimp only; omega, fun i x hx => ?_, fun h => by cases h⟩
          have hi : i < (l.take (len * a.length)).length := by rw [hlt, ← hyl]; exact (List.getElem?_eq_some_iff.1 hx).1
          have hr := (VRs_iff.1 hv).2 i x _ hx (List.getElem?_eq_getElem hi)
          obtain ⟨u, hu⟩ : ∃ u, (l.take (len * a.length))[i] = u := ⟨_, rfl⟩
          rw [hu] at hr
          have hu2 : l[i]? = some u := by
            have : (l.take (len * a.length))[i]? = some u := by rw [List.getElem?_eq_getElem hi, hu]
            rw [List.getElem?_take] at this
            split at this
            · exact this
            · cases this
          obtain ⟨c', T', fz', hB2, hu'⟩ := hcell i u (by rw [← addr_plain_add]; exact hc i u hu2)
          rw [hB] at hB2
          cases hB2
          exact ⟨u, hu', hr⟩
        | succ i =>
          exact g3 i B' (some q) (by simpa using hB') (by simpa using hq) (by simp) j q rfl
      · simp only [VR]
        have := hj 0 (by simp)
        exact ⟨_, _, m, by simpa using this, rfl, hle, fun h => (by cases h), hm, .inr ⟨rfl, by dsimp only; omega⟩⟩
      · cases i with
        | zero => simp at hB'; exact ⟨_, hB'.symm⟩
        | succ i => exact g5 i B' (by simpa using hB')
theorem val_slice {t e : TypeId} {v : Value} (hu : P.underlying t = some (.slice e)) (hv : Value.okWide P w .any base t v) : v.cells = #[v] ∧ ∀ a len cap, v = .slice (some a) len cap → SomeBlk w := by
  have hb : isAggT P t = some false := by unfold isAggT; rw [hu]
  obtain ⟨_, h2, h3⟩ := val_form hb hv
  refine ⟨h2 rfl, fun a len cap hva => h3 v (by rw [h2 rfl]; simp) a len cap hva⟩
theorem blks_of {k : Nat} {H : AHeap} {js : List (Option JB)} (h : ∀ (i : Nat) B p, H[i]? = some B → js[i]? = some p → p ≠ none → ∀ j q, p = some q → BRel j w B q) : BlksOk w k H js :=
  fun j _ i B q hB hq => h i B (some q) hB hq (by simp) j q rfl
theorem args_abs2 : ∀ (n : Nat) (ts : List TypeId) (ss : List AS) (vs : List Value) (ds : List (DataW H)) (ps : List MemPlace) (k : Nat), shapes2 P n ts = some ss → DataW.TrodAll enc P w base' (fun _ => true) true ts vs ds ps →
    (∀ (j : Nat) t v, ts[j]? = some t → vs[j]? = some v → Value.okWide P w .any base t v) →
    ∃ (xs : List AV) (H : AHeap) (js : List (Option JB)), AbsArgs2 ss k xs H ∧ js.length = H.length ∧ BlksOk w k H js ∧
      (∀ j : Inj, (∀ i, i < js.length → j (k + i) = (js[i]?).join) → VRs j xs vs) ∧ (∀ (i : Nat) (B : ABlk), H[i]? = some B → ∃ l, B = .cells false l)
  | n, [], ss, vs, ds, ps, k, hs, hA, _ => by
    cases hs
    obtain ⟨rfl, _, _⟩ := trodAll_nil hA
    exact ⟨[], [], [], trivial, rfl, fun j _ i B q h => by simp at h, fun j _ => by simp [VRs], fun i B h => by simp at h⟩
  | n, t :: ts, ss, vs, ds, ps, k, hs, hA, hv => by
    unfold shapes2 at hs
    obtain ⟨v, vs', d, ds', p, q, rfl, _, _, ⟨fuel, hT⟩, hA'⟩ := trodAll_cons hA
    split at hs
    · rename_i b a hb ha
      split at hs
      · rename_i hcl
        obtain ⟨ss', hss, rfl⟩ := Option.map_eq_some_iff.1 hs
        obtain ⟨f1, f2, f3⟩ := val_form hb (hv 0 t v rfl rfl)
        have hc := trod_flat (w := w) n t a fuel _ _ ha hcl hT
        obtain ⟨ys, H1, js1, g1, g2, g3, g4, g5⟩ := cells_abs a _ k hc f3
        obtain ⟨xs, H2, js2, k1, k2, k3, k4, k5⟩ := args_abs2 n ts ss' vs' ds' q (k + H1.length) hss hA' fun j t' v' ht hv' => hv (j + 1) t' v' (by simpa using ht) (by simpa using hv')
        have blk := blks_append g2 (blks_of (k := k) g3) k3
        have own := own_append g5 k5
        have j1 : ∀ j : Inj, (∀ i, i < (js1 ++ js2).length → j (k + i) = ((js1 ++ js2)[i]?).join) → VRs j ys v.cells.toList ∧ VRs j xs vs' := by
          intro j hj
          refine ⟨g4 j fun i hi => ?_, k4 j fun i hi => ?_⟩
          · rw [hj i (by simp; omega), List.getElem?_append_left hi]
          · rw [show k + H1.length + i = k + (H1.length + i) by omega, hj (H1.length + i) (by simp; omega), List.getElem?_append_right (by omega), g2, Nat.add_sub_cancel_left]
        cases b with
        | true =>
          obtain ⟨cs, rfl⟩ := f1 rfl
          refine ⟨.agg ys :: xs, H1 ++ H2, js1 ++ js2, ⟨ys, H1, H2, rfl, g1, rfl, k1⟩, by simp [g2, k2], blk, fun j hj => ?_, own⟩
          obtain ⟨h1, h2⟩ := j1 j hj
          exact ⟨_, vs', rfl, by simp only [VR]; exact ⟨cs, rfl, h1⟩, h2⟩
        | false =>
          have e := f2 rfl
          rw [e] at j1 hc
          have hy : ∃ y, ys = [y] := by
            have h1 := hc.length
            simp at h1
            cases a with
            | nil => simp at h1
            | cons c a =>
              cases a with
              | cons _ _ => simp at h1
              | nil =>
                cases c with
                | one p => cases ys with
                  | nil => simp [AbsOk] at g1
                  | cons y ys => cases ys with
                    | nil => exact ⟨y, rfl⟩
                    | cons _ _ => simp [AbsOk] at g1
                | row el => cases ys with
                  | nil => simp [AbsOk] at g1
                  | cons y ys => cases H1 with
                    | nil => simp [AbsOk] at g1
                    | cons B H1 => cases ys with
                      | nil => exact ⟨y, rfl⟩
                      | cons _ _ => simp [AbsOk] at g1
          obtain ⟨y, rfl⟩ := hy
          refine ⟨y :: xs, H1 ++ H2, js1 ++ js2, ⟨H1, H2, g1, rfl, k1⟩, by simp [g2, k2], blk, fun j hj => ?_, own⟩
          obtain ⟨h1, h2⟩ := j1 j hj
          simp [VRs] at h1
          exact ⟨v, vs', rfl, h1, h2⟩
      · cases hs
    · split at hs
      rotate_left
      · cases hs
      rename_i e hu
      split at hs
      rotate_left
      · cases hs
      rename_i a ha
      split at hs
      rotate_left
      · cases hs
      rename_i hcl
      obtain ⟨ss', hss, rfl⟩ := Option.map_eq_some_iff.1 hs
      obtain ⟨f2, f3⟩ := val_slice hu (hv 0 t v rfl rfl)
      rw [f2] at hT
      obtain ⟨m, y, ys, H1, js1, g0, gm, g1, g2, g3, g4, g5⟩ := rows_abs (w := w) k hu ha hcl.1 hcl.2 hT f3
      obtain ⟨xs, H2, js2, k1, k2, k3, k4, k5⟩ := args_abs2 n ts ss' vs' ds' q (k + 1 + H1.length) hss hA' fun j t' v' ht hv' => hv (j + 1) t' v' (by simpa using ht) (by simpa using hv')
      have g2' : js1.length = (ABlk.cells false ys :: H1).length := by rw [g2]; rfl
      have hlen : k + (ABlk.cells false ys :: H1).length = k + 1 + H1.length := by simp; omega
      have blk := blks_append g2' g3 (by rw [hlen]; exact k3)
      have own := own_append g5 k5
      refine ⟨y :: xs, (.cells false ys :: H1) ++ H2, js1 ++ js2, ⟨m, ys, H1, H2, g0, gm, g1, rfl, k1⟩, by simp [g2, k2]; omega, blk, fun j hj => ?_, own⟩
      refine ⟨v, vs', rfl, g4 j fun i hi => ?_, k4 j fun i hi => ?_⟩
      · rw [hj i (by simp; omega), List.getElem?_append_left hi]
      · rw [show k + 1 + H1.length + i = k + (js1.length + i) by omega, hj (js1.length + i) (by simp; omega), List.getElem?_append_right (by omega), Nat.add_sub_cancel_left]
    · cases hs
theorem law_call2 {f : FuncId} {n : Nat} {ts : List TypeId} {ss : List AS} {args : Array Value} {ds : List (DataW H)} {ps : List MemPlace} (hs : shapes2 P n ts = some ss)
    (hA : DataW.TrodAll enc P w base' (fun _ => true) true ts args.toList ds ps) (hv : ∀ (j : Nat) t v, ts[j]? = some t → args[j]? = some v → Value.okWide P w .any base t v)
    (h : ∀ xs H, AbsArgs2 ss 0 xs H → ∃ H', Ct P f xs H (.bool true) H') (hg : GloW w := by exact gloW_none _) :
    Calls P f args w fun e w' => e = .returned (.bool true) ∧ Below w.heap.size w w' := by
  obtain ⟨xs, H, js, h1, h2, h3, h4, h5⟩ := args_abs2 (base := base) n ts ss args.toList ds ps 0 hs hA fun j t v ht hv' => hv j t v ht (by simpa using hv')
  obtain ⟨H', hct⟩ := h xs H h1
  let j0 : Inj := ⟨fun i => (js[i]?).join, fun _ => [], fun _ => []⟩
  have hj0 : ∀ i, j0 i = (js[i]?).join := fun _ => rfl
  have hro : H.all isRo = true := by
    rw [List.all_eq_true]
    intro y hy
    obtain ⟨b, hb⟩ := List.getElem?_of_mem hy
    obtain ⟨l, rfl⟩ := h5 b y hb
    rfl
  have hR : R j0 H w := by
    refine R.ro (fun b hb => ?_) (fun b x p hb hp => ?_) hro hg
    · rw [hj0, List.getElem?_eq_none (by omega)]; rfl
    · obtain ⟨q, hq, e⟩ := Option.join_eq_some_iff.1 hp |> fun h => (⟨some p, h, rfl⟩ : ∃ q, js[b]? = some q ∧ q = some p)
      exact h3 j0 (fun i hi => by rw [Nat.zero_add, hj0]) b x p hb (by rw [hq, e])
  refine (hct _ w args hR (h4 _ fun i hi => by rw [Nat.zero_add, hj0])).mono ?_
  rintro e w' ⟨cv, j', rfl, hv1, hst⟩
  simp only [VR] at hv1
  subst hv1
  refine ⟨rfl, hst.keeps.os, hst.keeps.tape, hst.keeps.output, hst.keeps.size, fun c hc => hst.keeps.block c hc fun ⟨b, y, p, hb, hy, hp, _⟩ => ?_⟩
  obtain ⟨l, rfl⟩ := h5 b y hb
  cases hy
end
end Go.Proofs.YtjolihoakdifoaaGreat
namespace Go.Proofs.YtjolihoakdifoaaGreat
theorem absArgs2_one {p : Prim} {ss : List AS} {k : Nat} {xs : List AV} {H : AHeap} (h : AbsArgs2 (.flat false [.one p] :: ss) k xs H) : ∃ x ys, xs = x :: ys ∧ PrimA p x ∧ AbsArgs2 ss k ys H := by
  cases xs with
  | nil => exact h.elim
  | cons x ys =>
    obtain ⟨H1, H2, h1, rfl, h2⟩ := h
    simp only [AbsOk] at h1
    obtain ⟨h3, h4⟩ := h1
    cases H1 with
    | nil => exact ⟨x, ys, rfl, h3, h2⟩
    | cons _ _ => exact h4.elim
theorem absArgs2_row {el : List Prim} {ss : List AS} {k : Nat} {xs : List AV} {H : AHeap} (h : AbsArgs2 (.flat false [.row el] :: ss) k xs H) :
    ∃ x ys l n H2, xs = x :: ys ∧ H = .cells false l :: H2 ∧ (n = 0 ∧ x = .nils ∨ x = .slice k 0 n el.length false) ∧ n ≤ maxLen ∧ All2 PrimA (List.replicate n el).flatten l ∧ AbsArgs2 ss (k + 1) ys H2 := by
  cases xs with
  | nil => exact h.elim
  | cons x ys =>
    obtain ⟨H1, H2, h1, rfl, h2⟩ := h
    cases H1 with
    | nil => simp [AbsOk] at h1
    | cons B H1 =>
      simp only [AbsOk] at h1
      obtain ⟨⟨l, n, rfl, h3, h4, h5⟩, h6⟩ := h1
      cases H1 with
      | nil => exact ⟨x, ys, l, n, H2, rfl, rfl, h3, h4, h5, h2⟩
      | cons _ _ => exact h6.elim
theorem absArgs2_rows {ts : List CT} {ss : List AS} {k : Nat} {xs : List AV} {H : AHeap} (h : AbsArgs2 (.rows ts :: ss) k xs H) :
    ∃ x xs' n ys H1 H2, xs = x :: xs' ∧ (n = 0 ∧ x = .nils ∨ x = .slice k 0 n ts.length false) ∧ n ≤ maxLen ∧ AbsOk (List.replicate n ts).flatten (k + 1) ys H1 ∧ H = .cells false ys :: H1 ++ H2 ∧ AbsArgs2 ss (k + 1 + H1.length) xs' H2 := by
  cases xs with
  | nil => exact h.elim
  | cons x xs =>
    obtain ⟨n, ys, H1, H2, h1, h2, h3, h4, h5⟩ := h
    exact ⟨x, xs, n, ys, H1, H2, rfl, h1, h2, h3, h4, h5⟩
theorem absArgs2_nil {k : Nat} {xs : List AV} {H : AHeap} (h : AbsArgs2 [] k xs H) : xs = [] ∧ H = [] := by
  cases xs <;> cases H <;> first | exact ⟨rfl, rfl⟩ | exact h.elim
theorem ct_weak {P : Program} {f : FuncId} {args args0 : List AV} {H H0 H' : AHeap} {v : AV} (hw : Weak H.length args H args0 H0) (h : Ct P f args0 H0 v H') : Ct P f args H v H' := by
  intro j w cargs hR hargs
  obtain ⟨j', hs, hF'⟩ := hw.step (Nat.le_refl _) (Step.refl hR (Nat.le_refl _)) hargs
  refine (h j' w cargs hs.rel hF').mono ?_
  rintro e w' ⟨cv, j2, rfl, h1, h2⟩
  exact ⟨cv, j2, rfl, h1, hs.trans h2 hs.len⟩
end Go.Proofs.YtjolihoakdifoaaGreat
namespace Go.Proofs.YtjolihoakdifoaaGreat
open Go Go.Lib
set_option maxRecDepth 100000
attribute [-simp] drawOk_eq adraw qrun acode aops
structure DA where
  w : Nat
  a : Nat
  b : Nat
  s : List UInt8
  n : Int
  l : List Int
def DA.ok (x : DA) : Prop := x.w ≤ 255 ∧ x.a ≤ 255 ∧ x.b ≤ 255 ∧ x.s.length ≤ 9223372036854775807 ∧ (-32768 ≤ x.n ∧ x.n ≤ 32767) ∧ x.l.length ≤ 9223372036854775807 ∧ ∀ c ∈ x.l, 0 ≤ c ∧ c ≤ 65535
def daA (k : Nat) (x : DA) : List AV := [.int .u8 x.w, .int .u8 x.a, .int .u8 x.b, .str x.s, .int .i16 x.n, .sl k 0 x.l.length 1 false]
def dasA : Nat → List DA → List AV
  | _, [] => []
  | k, x :: l => daA k x ++ dasA (k + 1) l
def dasB (l : List DA) : AHeap := l.map fun x => .cells false (numA x.l)
def dasH (l : List DA) : AHeap := .cells false (dasA 1 l) :: dasB l
@[simp] theorem dasA_length : ∀ (k : Nat) (l : List DA), (dasA k l).length = l.length * 6
  | _, [] => rfl
  | k, x :: l => by simp [dasA, daA, dasA_length (k + 1) l]; omega
theorem das_get : ∀ (l : List DA) (k i : Nat) (h : i < l.length), ((dasA k l).drop (i * 6)).take 6 = daA (k + i) l[i]
  | a :: l, k, 0, _ => by simp [dasA, daA]
  | a :: l, k, i + 1, h => by
    have := das_get l (k + 1) i (by simpa using h)
    rw [show (i + 1) * 6 = 6 + i * 6 by omega, show k + (i + 1) = k + 1 + i by omega]
    simp only [dasA, List.getElem_cons_succ]
    rw [← List.drop_drop]
    simpa [daA] using this
theorem dasH_length (l : List DA) : (dasH l).length = l.length + 1 := by simp [dasH, dasB]
theorem belows_das : ∀ (l : List DA) (k N : Nat), k + l.length ≤ N → belows N (dasA k l) = true
  | [], _, _, _ => rfl
  | d :: l, k, N, h => by
    simp only [List.length_cons] at h
    simp only [dasA, daA, List.cons_append, List.nil_append, belows, below, Bool.and_eq_true, decide_eq_true_eq, Bool.true_and]
    exact ⟨by omega, belows_das l (k + 1) N (by omega)⟩
theorem dasH_id (l : List DA) (rn : List Nat) (hr : ∀ i, i < l.length + 1 → rn[i]? = some i) : ∀ B ∈ dasH l, AWb rn B B := by
  intro B hB
  rcases List.mem_cons.1 hB with rfl | hB
  · exact ⟨id, AWs.pre hr _ (belows_das l 1 _ (by omega))⟩
  · obtain ⟨x, _, rfl⟩ := List.mem_map.1 hB
    exact ⟨id, (AWs_free (frees_numA x.l)).2 trivial⟩
theorem row_nums : ∀ {n : Nat} {l : List AV}, All2 PrimA (List.replicate n [Prim.int .u16]).flatten l → ∃ zs : List Int, l = numA zs ∧ zs.length = n ∧ ∀ z ∈ zs, 0 ≤ z ∧ z ≤ 65535
  | 0, [], _ => ⟨[], rfl, rfl, by simp⟩
  | n + 1, x :: l, h => by
    rw [List.replicate_succ, List.flatten_cons] at h
    obtain ⟨a, rfl, ha⟩ := h.1
    obtain ⟨zs, rfl, hl, hq⟩ := row_nums (n := n) (l := l) h.2
    have ba := bounds_u16 ha
    refine ⟨a :: zs, rfl, by simp [hl], fun x hx => ?_⟩
    rcases List.mem_cons.1 hx with rfl | hx
    · exact ⟨by omega, by omega⟩
    · exact hq x hx
  | 0, _ :: _, h => h.elim
  | n + 1, [], h => by
    rw [List.replicate_succ, List.flatten_cons] at h
    exact h.elim
theorem absOk_row8 {el : List Prim} {ts : List CT} {k : Nat} {xs : List AV} {H : AHeap} (h : AbsOk (.row el :: ts) k xs H) :
    ∃ x ys l n H2, xs = x :: ys ∧ H = .cells false l :: H2 ∧ (n = 0 ∧ x = .nils ∨ x = .slice k 0 n el.length false) ∧ n ≤ maxLen ∧ All2 PrimA (List.replicate n el).flatten l ∧ AbsOk ts (k + 1) ys H2 := by
  cases xs with
  | nil => exact h.elim
  | cons x ys =>
    cases H with
    | nil => exact h.elim
    | cons B H1 =>
      simp only [AbsOk] at h
      obtain ⟨⟨l, n, rfl, h3, h4, h5⟩, h6⟩ := h
      exact ⟨x, ys, l, n, H1, rfl, rfl, h3, h4, h5, h6⟩
abbrev da_ct : List CT := [.one (.int .u8), .one (.int .u8), .one (.int .u8), .one .str, .one (.int .i16), .row [.int .u16]]
theorem row_das : ∀ (n k : Nat) (ys : List AV) (H : AHeap), AbsOk (List.replicate n da_ct).flatten k ys H →
    ∃ l : List DA, l.length = n ∧ (∀ x ∈ l, x.ok) ∧ H = dasB l ∧ ∀ rn : List Nat, (∀ i, i < n → rn[k + i]? = some (k + i)) → AWs rn (dasA k l) ys
  | 0, k, ys, H, h => by
    obtain ⟨rfl, rfl⟩ := absOk_nil h
    exact ⟨[], rfl, by simp, rfl, fun _ _ => by simp [dasA, AWs]⟩
  | n + 1, k, ys, H, h => by
    rw [List.replicate_succ, List.flatten_cons] at h
    obtain ⟨x1, w1, rfl, ⟨a, rfl, ha⟩, k1⟩ := absOk_one h
    obtain ⟨x2, w2, rfl, ⟨b, rfl, hb⟩, k2⟩ := absOk_one k1
    obtain ⟨x3, w3, rfl, ⟨c, rfl, hc⟩, k3⟩ := absOk_one k2
    obtain ⟨x4, w4, rfl, ⟨s, rfl, hs⟩, k4⟩ := absOk_one k3
    obtain ⟨x5, w5, rfl, ⟨z, rfl, hz⟩, k5⟩ := absOk_one k4
    obtain ⟨x6, w6, l, m, H3, rfl, rfl, hx, hmx, hl, k6⟩ := absOk_row8 k5
    obtain ⟨ns, rfl, hn, hnb⟩ := row_nums hl
    subst hn
    have ba := bounds_u8 ha
    have bb := bounds_u8 hb
    have bc := bounds_u8 hc
    have bz := bounds_i16 hz
    obtain ⟨ds, e1, e2, e4, e5⟩ := row_das n (k + 1) w6 H3 k6
    refine ⟨⟨a.toNat, b.toNat, c.toNat, s, z, ns⟩ :: ds, by simp [e1], fun d hd => ?_, by simp [dasB, e4], fun rn hr => ?_⟩
    · rcases List.mem_cons.1 hd with rfl | hd
      · refine ⟨by dsimp only; omega, by dsimp only; omega, by dsimp only; omega, by unfold maxLen at hs; dsimp only; omega, by dsimp only; omega, by unfold maxLen at hmx; dsimp only; omega, hnb⟩
      · exact e2 d hd
    · have h0 := hr 0 (by omega)
      have hrest := e5 rn fun i hi => by
        have := hr (i + 1) (by omega)
        rwa [show k + (i + 1) = k + 1 + i by omega] at this
      have t1 : ((a.toNat : Nat) : Int) = a := by omega
      have t2 : ((b.toNat : Nat) : Int) = b := by omega
      have t3 : ((c.toNat : Nat) : Int) = c := by omega
      simp only [dasA, daA, List.cons_append, List.nil_append, AWs]
      refine ⟨by simp [AW, t1], by simp [AW, t2], by simp [AW, t3], by simp [AW], by simp [AW], ?_, hrest⟩
      rcases hx with ⟨h1, rfl⟩ | rfl
      · simp [AW, h1]
      · simpa [AW] using h0
theorem das_weak {l : List DA} {ys : List AV} {x : AV} {T : AHeap} {rest restN : List AV} (hx : l.length = 0 ∧ x = .nils ∨ x = .slice 0 0 l.length 6 false)
    (hy : ∀ rn : List Nat, (∀ i, i < l.length → rn[1 + i]? = some (1 + i)) → AWs rn (dasA 1 l) ys) (hT : ∀ B ∈ T, ∃ o l, B = ABlk.cells o l ∧ frees l = true)
    (hr : ∀ rn : List Nat, (∀ i, i < l.length + 1 + T.length → rn[i]? = some i) → AWs rn restN rest) :
    Weak (ABlk.cells false ys :: dasB l ++ T).length (x :: rest) (ABlk.cells false ys :: dasB l ++ T) (.sl 0 0 l.length 6 false :: restN) (dasH l ++ T) := by
  have hM : (ABlk.cells false ys :: dasB l ++ T).length = l.length + 1 + T.length := by simp [dasB]; omega
  rw [hM]
  obtain ⟨M, hm⟩ : ∃ M, l.length + 1 + T.length = M := ⟨_, rfl⟩
  rw [hm] at hM hr ⊢
  have hrn : ∀ i, i < M → (List.range M)[i]? = some i := fun i hi => List.getElem?_range hi
  refine Weak.mk' (List.range M) List.nodup_range (by rw [List.take_of_length_le (by simp)]) ?_ (AWg.of _ _ (by simp [dasH_length]; omega) fun i B b hB hb hlt => ?_)
  · refine ⟨?_, hr _ hrn⟩
    rcases hx with ⟨h1, rfl⟩ | rfl
    · simp [AW, h1]
    · simp only [AW, true_and]
      exact ⟨hrn 0 (by omega), id⟩
  · have hi : i < M := by
      have := (List.getElem?_eq_some_iff.1 hB).1
      rw [List.length_append, dasH_length] at this
      omega
    have hbi : b = i := by rw [List.getElem?_range hi] at hb; cases hb; rfl
    subst hbi
    cases b with
    | zero =>
      simp only [dasH, List.cons_append, List.getElem?_cons_zero, Option.some.injEq] at hB
      subst hB
      exact ⟨id, hy _ fun i hi => hrn _ (by omega)⟩
    | succ b =>
      simp only [dasH, List.cons_append, List.getElem?_cons_succ] at hB
      rw [List.getD_eq_getElem?_getD]
      simp only [List.cons_append, List.getElem?_cons_succ, hB, Option.getD_some]
      rcases List.mem_append.1 (List.mem_of_getElem? hB) with h | h
      · obtain ⟨d, _, rfl⟩ := List.mem_map.1 h
        exact ⟨id, AWs.refl _ _ (frees_numA _)⟩
      · obtain ⟨o, l, rfl, hl⟩ := hT _ h
        exact ⟨id, AWs.refl _ _ hl⟩
def nmD (s : List UInt8) (m : Nat) : List UInt8 := if m % 16 = 15 then s else [[97], [98], [99], [108, 111, 103]].getD (m % 4) []
set_option maxHeartbeats 4000000 in
theorem name_ctD (x : DA) (L : Nat) (m : Nat) (hm : m ≤ 255) : Ct Tryz.prog 7 [.agg [.int .u8 x.w, .int .u8 x.a, .int .u8 x.b, .str x.s, .int .i16 x.n, .sl 0 0 L 1 false], .int .u8 m] [.dead] (.str (nmD x.s m)) [.dead] := by
  obtain ⟨q, hq⟩ : ∃ q, m % 16 = q := ⟨_, rfl⟩
  obtain ⟨p, hp⟩ : ∃ p, m % 4 = p := ⟨_, rfl⟩
  have t1 : (m : Int).tmod 16 = q := by rw [Int.tmod_eq_emod_of_nonneg (by omega)]; omega
  have t2 : (m : Int).tmod 4 = p := by rw [Int.tmod_eq_emod_of_nonneg (by omega)]; omega
  have w1 : IntKind.u8.wrap (q : Int) = q := wr_u8 (by omega) (by omega)
  have w2 : IntKind.u8.wrap (p : Int) = p := wr_u8 (by omega) (by omega)
  unfold nmD
  rw [hq, hp]
  refine ct_of_sim Tryz.func7 rfl ?_
  simp only [Tryz.ntmps7, List.length_cons, List.length_nil, Nat.reduceAdd, Nat.reduceSub, List.replicate, List.cons_append, List.nil_append]
  refine Sim.step hmix goks_nil (n := 0) (by simp; exact ⟨rfl, rfl⟩) (by simp) ?_
  by_cases h : q = 15
  · subst h
    rw [if_pos rfl]
    refine Sim.exec hmix goks_nil (n := 0) (by simp (decide := true) [t1]; exact ⟨rfl, rfl, rfl⟩) (by simp) ?_
    exact ⟨.inr rfl, _, by simp [Tryz.f7] <;> rfl, Weak.mk' [0] (by decide) (by decide) (by simp) (by simp [AWb])⟩
  · rw [if_neg h]
    have h' : ((q : Int) == 15) = false := by simp; omega
    refine Sim.step hmix goks_nil (n := 0) (by simp (decide := true) [t1, h']; exact ⟨rfl, rfl⟩) (by simp) ?_
    have hp4 : p < 4 := by omega
    match p, hp4 with
    | 0, _ =>
      refine Sim.exec hmix goks_nil (n := 0) (by simp (decide := true) [t2]; exact ⟨rfl, rfl, rfl⟩) (by simp) ?_
      exact ⟨.inr rfl, _, by simp [Tryz.f7] <;> rfl, Weak.mk' [0] (by decide) (by decide) (by simp) (by simp [AWb])⟩
    | 1, _ =>
      refine Sim.exec hmix goks_nil (n := 0) (by simp (decide := true) [t2]; exact ⟨rfl, rfl, rfl⟩) (by simp) ?_
      exact ⟨.inr rfl, _, by simp [Tryz.f7] <;> rfl, Weak.mk' [0] (by decide) (by decide) (by simp) (by simp [AWb])⟩
    | 2, _ =>
      refine Sim.exec hmix goks_nil (n := 0) (by simp (decide := true) [t2]; exact ⟨rfl, rfl, rfl⟩) (by simp) ?_
      exact ⟨.inr rfl, _, by simp [Tryz.f7] <;> rfl, Weak.mk' [0] (by decide) (by decide) (by simp) (by simp [AWb])⟩
    | 3, _ =>
      refine Sim.exec hmix goks_nil (n := 0) (by simp (decide := true) [t2]; exact ⟨rfl, rfl, rfl⟩) (by simp) ?_
      exact ⟨.inr rfl, _, by simp [Tryz.f7] <;> rfl, Weak.mk' [0] (by decide) (by decide) (by simp) (by simp [AWb])⟩
noncomputable def nameDS : Summ := open Classical in fun args H => match args with
  | [.agg [.int .u8 w, .int .u8 a, .int .u8 b, .str s, .int .i16 _n, .sl q 0 _L 1 false], .int .u8 m] => if q < H.length ∧ (0 ≤ w ∧ 0 ≤ a ∧ 0 ≤ b) ∧ 0 ≤ m ∧ m ≤ 255 then some (.str (nmD s m.toNat), H, []) else none
  | _ => none
theorem nameD_sound : Sound Tryz.prog 7 nameDS := by
  refine ⟨enter_of Tryz.func7 rfl (by decide), fun args H v H' W hs => ?_, fun args H v H' W hs => ?_⟩ <;> (unfold nameDS at hs; split at hs <;> try cases hs) <;> (split at hs <;> cases hs) <;> (rename_i w a b s n q L m hk)
  · obtain ⟨hq, ⟨h1, h2, h3⟩, h4, h5⟩ := hk
    have := name_ctD ⟨w.toNat, a.toNat, b.toNat, s, n, []⟩ L m.toNat (by omega)
    dsimp only at this
    rw [Int.toNat_of_nonneg h1, Int.toNat_of_nonneg h2, Int.toNat_of_nonneg h3, Int.toNat_of_nonneg h4] at this
    have := ct_frame (H := H) (args := [.agg [.int .u8 w, .int .u8 a, .int .u8 b, .str s, .int .i16 n, .sl q 0 L 1 false], .int .u8 m]) this [q] (by simp) (by simp [AW]) ⟨trivial, hq, trivial⟩ rfl
    simpa [setOwn, ABlk.own, reA] using this
  · exact ⟨Nat.le_refl _, fun _ _ _ => rfl⟩
end Go.Proofs.YtjolihoakdifoaaGreat
namespace Go.Proofs.YtjolihoakdifoaaGreat
open Go Go.Lib
set_option maxRecDepth 100000
attribute [-simp] drawOk_eq adraw qrun acode aops
set_option maxHeartbeats 8000000 in
theorem same_ctD (x : List (List UInt8 × List UInt8)) (hx : x.length ≤ 9223372036854775807) : Ct Tryz.prog 22 [.sl 0 0 x.length 2 false, .sl 1 0 x.length 2 false] [.cells false (flA x), .cells false (flA x)] (.bool true) [.cells false (flA x), .cells false (flA x)] := by
  refine ct_of_sim Tryz.func22 rfl ?_
  simp only [Tryz.ntmps22, List.length_cons, List.length_nil, Nat.reduceAdd, Nat.reduceSub, List.replicate, List.cons_append, List.nil_append]
  obtain ⟨m, hm⟩ : ∃ m, x.length = m := ⟨_, rfl⟩
  rw [hm] at hx ⊢
  refine Sim.step hmix goks_nil (n := 0) (by simp; exact ⟨rfl, rfl⟩) (by simp) ?_
  refine Sim.step hmix goks_nil (n := 0) (by simp; exact ⟨rfl, rfl⟩) (by simp) ?_
  refine Sim.seq (Sim.step hmix goks_nil (n := 0) (by simp; exact ⟨rfl, rfl⟩) (by simp) ?_)
  refine Sim.mono (Q := fun e F' H' => e = .normal ∧ Weak 2 F' H' (List.replicate 26 .top) [.cells false (flA x), .cells false (flA x)]) ?_ ?_
  · refine Sim.block (Sim.loopW (fun i : Nat => i ≤ m) (fun i => [.sl 0 0 m 2 false, .sl 1 0 m 2 false, .top, .top, .top, .int .i64 i] ++ List.replicate 20 .top) (fun _ => [.cells false (flA x), .cells false (flA x)]) (fun i => m - i) 0 (by simp) (by simp) ?_ fun i hi => ?_)
    · exact Weak.mk' [0, 1] (by decide) (by decide) (by simp) (by simp [AWb])
    · by_cases hlt : i < m
      · have hltI : (i : Int) < m := by omega
        have hilt : i < x.length := by omega
        obtain ⟨e, he⟩ : ∃ e, x[i] = e := ⟨_, rfl⟩
        have hg := flA_get x i hilt
        rw [he] at hg
        have k1 : i * 2 + 2 ≤ m * 2 := by omega
        have y1 : IntKind.i64.wrap ((i : Int) + 1) = i + 1 := wr_i64 (by omega) (by omega)
        refine Sim.step hmix goks_nil (n := 0) (by simp [hltI]; exact ⟨rfl, rfl⟩) (by simp) ?_
        refine Sim.seq (Sim.block ?_)
        refine Sim.exec hmix goks_nil (n := 0) (by simp (decide := true) [hlt, hm, hg, k1]; first | exact ⟨rfl, rfl, rfl⟩ | exact ⟨by kernel_rfl, rfl, rfl, rfl⟩) (by simp) ?_
        dsimp only
        refine Sim.exec hmix goks_nil (n := 0) (by simp [y1]; exact ⟨rfl, rfl, rfl⟩) (by simp) ?_
        dsimp only
        exact ⟨i + 1, by omega, Weak.mk' [0, 1] (by decide) (by decide) (by simp) (by simp [AWb]), by omega⟩
      · have hin : i = m := by omega
        subst hin
        refine Sim.exec hmix goks_nil (n := 0) (by simp; exact ⟨rfl, rfl, rfl⟩) (by simp) ?_
        dsimp only
        rw [if_pos rfl]
        exact ⟨by trivial, Weak.mk' [0, 1] (by decide) (by decide) (by simp) (by simp [AWb])⟩
  rintro e F' H' hlen1 ⟨rfl, hwk⟩
  dsimp only
  refine Sim.weak hwk hlen1 ?_
  clear hwk hlen1
  simp only [List.replicate]
  refine Sim.exec hmix goks_nil (n := 0) (by simp; exact ⟨rfl, rfl, rfl⟩) (by simp) ?_
  exact ⟨.inr rfl, _, by simp [Tryz.f22] <;> rfl, Weak.mk' [0, 1] (by decide) (by decide) (by simp) (by simp [AWb])⟩
noncomputable def flD (l : List AV) : Option (List (List UInt8 × List UInt8)) := open Classical in if h : ∃ x, l = flA x then some h.choose else none
theorem flD_eq {l : List AV} {x : List (List UInt8 × List UInt8)} (h : flD l = some x) : l = flA x := by
  unfold flD at h
  split at h
  · rename_i hx
    cases h
    exact hx.choose_spec
  · cases h
theorem flA_inj : ∀ {x y : List (List UInt8 × List UInt8)}, flA x = flA y → x = y
  | [], [], _ => rfl
  | [], _ :: _, h => by simp [flA] at h
  | _ :: _, [], h => by simp [flA] at h
  | (a, b) :: x, (c, d) :: y, h => by
    simp only [flA, List.cons.injEq, AV.str.injEq] at h
    rw [h.1, h.2.1, flA_inj h.2.2]
@[simp] theorem flD_flA (x : List (List UInt8 × List UInt8)) : flD (flA x) = some x := by
  unfold flD
  have h : ∃ y, flA x = flA y := ⟨x, rfl⟩
  rw [dif_pos h]
  exact congrArg some (flA_inj h.choose_spec).symm
noncomputable def sameDS : Summ := open Classical in fun args H => match args with
  | [.sl b 0 n 2 _c, .sl b2 0 m 2 _c2] => match H[b]?, H[b2]? with
    | some (.cells _ l), some (.cells _ l2) => match flD l with
      | some x => if n = x.length ∧ m = x.length ∧ l2 = l ∧ b ≠ b2 ∧ x.length ≤ 9223372036854775807 then some (.bool true, H, []) else none
      | none => none
    | _, _ => none
  | _ => none
theorem sameD_sound : Sound Tryz.prog 22 sameDS := by
  refine ⟨enter_of Tryz.func22 rfl (by decide), fun args H v H' W hs => ?_, fun args H v H' W hs => ?_⟩ <;> (unfold sameDS at hs; split at hs <;> try cases hs) <;> (rename_i b n c b2 m c2; split at hs <;> try cases hs) <;> (rename_i o l o2 l2 hb hb2; split at hs <;> try cases hs) <;> (rename_i x hx; split at hs <;> cases hs; rename_i hk)
  · obtain ⟨rfl, rfl, rfl, hne, hl⟩ := hk
    have e := flD_eq hx
    subst e
    have hbl : b < H.length := (List.getElem?_eq_some_iff.1 hb).1
    have hbl2 : b2 < H.length := (List.getElem?_eq_some_iff.1 hb2).1
    have := ct_frame (H := H) (args := [.sl b 0 x.length 2 c, .sl b2 0 x.length 2 c2]) (same_ctD x hl) [b, b2] (by simp [hne]) ⟨⟨rfl, rfl, rfl, by simp⟩, ⟨rfl, rfl, rfl, by simp⟩, trivial⟩ ⟨by rw [List.getD_eq_getElem?_getD, hb]; exact ⟨by simp, AWs_flat _ (flatsA_flA x)⟩, hbl, by rw [List.getD_eq_getElem?_getD, hb2]; exact ⟨by simp, AWs_flat _ (flatsA_flA x)⟩, hbl2, trivial⟩ rfl
    simpa [setOwn, ABlk.own, reA] using this
  · exact ⟨Nat.le_refl _, fun _ _ _ => rfl⟩
end Go.Proofs.YtjolihoakdifoaaGreat
namespace Go.Proofs.YtjolihoakdifoaaGreat
open Go Go.Lib
set_option maxRecDepth 100000
attribute [-simp] drawOk_eq adraw qrun acode aops
structure Ar (a : Int) (d f : DS) : Prop where
  fd : d.fd = f.fd
  fs : d.fs = f.fs
  q1 : d.quota = 200
  q2 : f.quota = 200
  fa : f.armed = 0
  fw : f.down = false
  da : d.armed = a
  dw : d.down = decide (a = 0)
structure StepG (g : DS → DS × Int) : Prop where
  same : ∀ d f, d.fd = f.fd → d.fs = f.fs → d.quota = f.quota → d.down = f.down → (g d).2 = (g f).2 ∧ (g d).1.fd = (g f).1.fd ∧ (g d).1.fs = (g f).1.fs
  rest : ∀ d, (g d).1.quota = d.quota ∧ (g d).1.armed = d.armed ∧ (g d).1.down = d.down
theorem Ar.zero {d f : DS} (h : Ar 0 d f) (g : DS → DS × Int) : d.step g = (d.count, 13) ∧ Ar 0 d.count f := by
  have hdw : d.down = true := by rw [h.dw]; rfl
  have hc : d.count = ⟨d.fd, d.fs, d.quota, d.steps + 1, d.armed, d.down⟩ := by unfold DS.count; rw [if_neg (by rw [hdw]; simp)]
  refine ⟨?_, ?_⟩
  · unfold DS.step
    rw [hc, if_pos (by exact hdw)]
  · rw [hc]
    exact ⟨h.fd, h.fs, h.q1, h.q2, h.fa, h.fw, h.da, h.dw⟩
theorem Ar.one {d f : DS} (h : Ar 1 d f) (g : DS → DS × Int) : d.step g = (d.count, 13) ∧ Ar 0 d.count f := by
  have hdw : d.down = false := by rw [h.dw]; rfl
  have hc : d.count = ⟨d.fd, d.fs, d.quota, d.steps + 1, d.armed - 1, decide (d.armed - 1 = 0)⟩ := by unfold DS.count; rw [if_pos ⟨by rw [h.da]; decide, hdw⟩]
  refine ⟨?_, ?_⟩
  · unfold DS.step
    rw [hc, if_pos (by simp [h.da])]
  · rw [hc]
    exact ⟨h.fd, h.fs, h.q1, h.q2, h.fa, h.fw, by simp [h.da], by simp [h.da]⟩
theorem Ar.more {a : Int} {d f : DS} (h : Ar a d f) (ha : 1 < a) {g : DS → DS × Int} (hg : StepG g) : (d.step g).2 = (f.step g).2 ∧ Ar (a - 1) (d.step g).1 (f.step g).1 := by
  have hdw : d.down = false := by rw [h.dw]; simp; omega
  have hc : d.count = ⟨d.fd, d.fs, d.quota, d.steps + 1, d.armed - 1, decide (d.armed - 1 = 0)⟩ := by unfold DS.count; rw [if_pos ⟨by rw [h.da]; omega, hdw⟩]
  have hcf : f.count = ⟨f.fd, f.fs, f.quota, f.steps + 1, f.armed, f.down⟩ := by unfold DS.count; rw [if_neg (by rw [h.fa]; simp)]
  have hcd : d.count.down = false := by rw [hc]; simp [h.da]; omega
  have hcd2 : f.count.down = false := by rw [hcf]; exact h.fw
  have e1 : d.step g = g d.count := by unfold DS.step; rw [if_neg (by rw [hcd]; decide)]
  have e2 : f.step g = g f.count := by unfold DS.step; rw [if_neg (by rw [hcd2]; decide)]
  rw [e1, e2]
  obtain ⟨h1, h2, h3⟩ := hg.same d.count f.count (by rw [DS.count_fd, DS.count_fd]; exact h.fd) (by rw [DS.count_fs, DS.count_fs]; exact h.fs) (by rw [DS.count_quota, DS.count_quota, h.q1, h.q2]) (by rw [hcd, hcd2])
  obtain ⟨r1, r2, r3⟩ := hg.rest d.count
  obtain ⟨s1, s2, s3⟩ := hg.rest f.count
  refine ⟨h1, h2, h3, by rw [r1, DS.count_quota]; exact h.q1, by rw [s1, DS.count_quota]; exact h.q2, by rw [s2, hcf]; exact h.fa, by rw [s3, hcd2], by rw [r2, hc]; show d.armed - 1 = _; rw [h.da], ?_⟩
  rw [r3, hcd]
  simp; omega
theorem list_eq {d f : DS} (h1 : d.fd = f.fd) (h4 : d.down = f.down) : d.list = f.list := by unfold DS.list; rw [h1, h4]
theorem text_eq {d f : DS} (h1 : d.fd = f.fd) (h2 : d.fs = f.fs) (k : List UInt8) : d.text k = f.text k := by unfold DS.text DS.file; rw [h1, h2]
theorem files_eq {d f : DS} (h1 : d.fd = f.fd) (h2 : d.fs = f.fs) (h4 : d.down = f.down) : d.files = f.files := by
  unfold DS.files
  rw [list_eq h1 h4]
  exact List.map_congr_left fun k _ => by rw [text_eq h1 h2]
theorem used_eq {d f : DS} (h1 : d.fd = f.fd) (h2 : d.fs = f.fs) (h4 : d.down = f.down) : d.used = f.used := by rw [DS.used_sum, DS.used_sum, files_eq h1 h2 h4]
theorem Ar.files {a : Int} {d f : DS} (h : Ar a d f) (ha : 0 < a) : d.files = f.files := files_eq h.fd h.fs (by rw [h.dw, h.fw]; simp; omega)
theorem stays_all {f : PF} {B : Nat} (h : f.ok B) (hB : B ≤ 60000) (p : Int) : f.stays 60000 p = f.now := by
  have ha := h.acts
  have hn : (inI 60000 0 f.acts.length).toNat = f.acts.length := by unfold inI; omega
  unfold PF.stays
  simp only [hn]
  rw [List.take_length, List.getElem?_eq_none (Nat.le_refl _)]
  simp [PF.now]
theorem stay_all {B : Nat} (hB : B ≤ 60000) (fd : FD) : ∀ (ks : List (List UInt8)) (s : List Int × FS × List Int) (m : Nat), s.1 = List.replicate m 60000 → 2 * ks.length ≤ m → (∀ e ∈ s.2.1, e.2.ok B) →
    ∀ n f, FS.get s.2.1 n = some f → ∃ f', FS.get (ks.foldl (stay1 fd) s).2.1 n = some f' ∧ f'.now = f.now
  | [], s, m, _, _, _, n, f, h => ⟨f, h, rfl⟩
  | k :: ks, s, m, h1, h2, h3, n, f, hf => by
    simp only [List.length_cons] at h2
    obtain ⟨m', rfl⟩ : ∃ m', m = m' + 2 := ⟨m - 2, by omega⟩
    rw [List.foldl_cons]
    have e1 : s.1.headD 0 = 60000 := by rw [h1]; rfl
    have e2 : s.1.tail.headD 0 = 60000 := by rw [h1]; rfl
    have e3 : s.1.tail.tail = List.replicate m' 60000 := by rw [h1]; rfl
    have hs : stay1 fd s k = (List.replicate m' 60000, FS.upd s.2.1 (fd.find k).1 (fun f => ⟨f.stays 60000 60000, []⟩), if (fd.find k).1 ∈ s.2.2 then s.2.2 else s.2.2 ++ [(fd.find k).1]) := by
      simp only [stay1]; rw [e1, e2, e3]
    rw [hs]
    have h4 : ∃ f', FS.get (FS.upd s.2.1 (fd.find k).1 (fun f => ⟨f.stays 60000 60000, []⟩)) n = some f' ∧ f'.now = f.now := by
      rw [FS.get_upd]
      split
      · rename_i e
        rw [← e, hf]
        refine ⟨_, rfl, ?_⟩
        have := stays_all (h3 _ (FS.get_mem hf)) hB 60000
        show runs (f.stays 60000 60000) [] = f.now
        rw [this]; rfl
      · exact ⟨f, hf, rfl⟩
    obtain ⟨f1, g1, g2⟩ := h4
    obtain ⟨f2, g3, g4⟩ := stay_all hB fd ks (List.replicate m' 60000, FS.upd s.2.1 (fd.find k).1 (fun f => ⟨f.stays 60000 60000, []⟩), if (fd.find k).1 ∈ s.2.2 then s.2.2 else s.2.2 ++ [(fd.find k).1]) m' rfl (by omega) (fun e he => by
      rcases FS.mem_upd he with he | ⟨x, hx, rfl⟩
      · exact h3 e he
      · exact PF.ok_new _ _ (PF.ok_stays (h3 _ hx) _ _)) n f1 g1
    exact ⟨f2, g3, by rw [g4, g2]⟩
theorem restart_all {d : DS} {A B : Nat} (hok : d.ok A B) (hA : A ≤ 60000) (hB : B ≤ 60000) (m : Nat) (hm : 2 * d.fd.names.length ≤ m) : (d.restart (List.replicate (m + 1) 60000)).files = (⟨d.fd, d.fs, d.quota, d.steps, d.armed, false⟩ : DS).files ∧ (d.restart (List.replicate (m + 1) 60000)).down = false := by
  have hcl : d.fd.clamp 60000 = d.fd.acts.length := by have := hok.fd.len; unfold FD.clamp; omega
  obtain ⟨fd, hfd⟩ : ∃ fd, d.fd.survive 60000 = fd := ⟨_, rfl⟩
  have hnow : fd.now = d.fd.now := by rw [← hfd]; unfold FD.survive FD.now; rw [hcl, List.take_length]; rfl
  have hnames : fd.names = d.fd.names := by unfold FD.names; rw [hnow]
  obtain ⟨s, hs⟩ : ∃ s, stayAll fd (List.replicate m 60000) d.fs fd.names = s := ⟨_, rfl⟩
  have hr : d.restart (List.replicate (m + 1) 60000) = ⟨fd, thereF s.2.1 s.2.2, d.quota, d.steps, 0, false⟩ := by
    unfold DS.restart
    rw [show (List.replicate (m + 1) (60000 : Int)).headD 0 = 60000 from rfl, show (List.replicate (m + 1) (60000 : Int)).tail = List.replicate m 60000 from rfl, hfd, hs]
  rw [hr]
  refine ⟨?_, rfl⟩
  have hl : (⟨fd, thereF s.2.1 s.2.2, d.quota, d.steps, 0, false⟩ : DS).list = (⟨d.fd, d.fs, d.quota, d.steps, d.armed, false⟩ : DS).list := by unfold DS.list; exact hnames
  unfold DS.files
  rw [hl]
  refine List.map_congr_left fun k hk => ?_
  have hk' : k ∈ d.fd.names := by unfold DS.list at hk; exact hk
  obtain ⟨n, hn⟩ := FD.names_get hk'
  obtain ⟨f, hf, hfo⟩ := DS.has_file hok hn
  have hmem : n ∈ s.2.2 := by
    rw [← hs]
    unfold stayAll
    rw [stayAll_mem]
    exact .inr ⟨k, by rw [hnames]; exact hk', by rw [FD.find_get (by rw [hnow]; exact hn)]⟩
  obtain ⟨f', h1, h2⟩ := stay_all hB fd fd.names (List.replicate m 60000, d.fs, []) m rfl (by rw [hnames]; exact hm) hok.fine n f hf
  have h3 : FS.get s.2.1 n = some f' := by rw [← hs]; exact h1
  have t1 : (⟨fd, thereF s.2.1 s.2.2, d.quota, d.steps, 0, false⟩ : DS).text k = f'.now := by
    unfold DS.text DS.file
    dsimp only
    rw [hnow, hn]
    dsimp only
    rw [get_there _ _ _ hmem, h3]
    rfl
  have t2 : (⟨d.fd, d.fs, d.quota, d.steps, d.armed, false⟩ : DS).text k = f.now := by
    unfold DS.text DS.file
    dsimp only
    rw [hn]
    dsimp only
    rw [hf]
  rw [t1, t2, h2]
end Go.Proofs.YtjolihoakdifoaaGreat
namespace Go.Proofs.YtjolihoakdifoaaGreat
open Go Go.Lib
set_option maxRecDepth 100000
attribute [-simp] drawOk_eq adraw qrun acode aops
abbrev KM := List (List UInt8 × List UInt8 × Bool)
def KM.get : KM → List UInt8 → Option (List UInt8 × Bool)
  | [], _ => none
  | e :: l, k => if e.1 = k then some e.2 else KM.get l k
def KM.put : KM → List UInt8 → List UInt8 × Bool → KM
  | [], k, v => [(k, v)]
  | e :: l, k, v => if e.1 = k then (k, v) :: l else e :: KM.put l k v
def KM.keys (l : KM) : List (List UInt8) := l.map (·.1)
theorem KM.get_put (l : KM) (k k' : List UInt8) (v : List UInt8 × Bool) : KM.get (KM.put l k v) k' = if k' = k then some v else KM.get l k' := by
  induction l with
  | nil => simp only [KM.put, KM.get, eq_comm]
  | cons e l ih =>
    unfold KM.put
    split
    · rename_i h
      subst h
      unfold KM.get
      by_cases hk : k' = e.1
      · simp [hk]
      · simp only [Ne.symm hk, hk, if_false]
    · rename_i h
      unfold KM.get
      rw [ih]
      by_cases hk : e.1 = k'
      · rw [if_pos hk, if_pos hk, if_neg (by rintro rfl; exact h hk)]
      · rw [if_neg hk, if_neg hk]
theorem KM.keys_put (l : KM) (k : List UInt8) (v : List UInt8 × Bool) : KM.keys (KM.put l k v) = if k ∈ KM.keys l then KM.keys l else KM.keys l ++ [k] := by
  induction l with
  | nil => simp [KM.put, KM.keys]
  | cons e l ih =>
    unfold KM.put
    simp only [KM.keys, List.map_cons, List.mem_cons] at ih ⊢
    split
    · rename_i h; simp [h]
    · rename_i h
      rw [List.map_cons, ih]
      by_cases hk : k ∈ l.map (·.1)
      · simp [hk]
      · simp [hk, Ne.symm h]
theorem KM.nd_put {l : KM} (h : (KM.keys l).Nodup) (k : List UInt8) (v : List UInt8 × Bool) : (KM.keys (KM.put l k v)).Nodup := by
  rw [KM.keys_put]
  split
  · exact h
  · rename_i hk
    rw [List.nodup_append]
    exact ⟨h, by simp, fun a ha b hb => by simp at hb; subst hb; rintro rfl; exact hk ha⟩
theorem KM.mem_get : ∀ {l : KM}, (KM.keys l).Nodup → ∀ {e : List UInt8 × List UInt8 × Bool}, e ∈ l → KM.get l e.1 = some e.2
  | x :: l, h, e, he => by
    simp only [KM.keys, List.map_cons, List.nodup_cons] at h
    unfold KM.get
    rcases List.mem_cons.1 he with rfl | he
    · rw [if_pos rfl]
    · rw [if_neg fun q => h.1 (by rw [q]; exact List.mem_map_of_mem (f := (·.1)) he)]
      exact KM.mem_get h.2 he
def keepsF (s : List UInt8) (f : PF) : Prop := ∀ i, s <+: (runs f.d (f.acts.take i)).take 10000
theorem keepsF_nil (f : PF) : keepsF [] f := fun _ => List.nil_prefix
theorem keepsF_new (s : List UInt8) : keepsF (s.take 10000) ⟨s, []⟩ := fun i => by simp [runs]
theorem pre_more {s a : List UInt8} (x : List UInt8) (h : s <+: a.take 10000) : s <+: (a ++ x).take 10000 := h.trans (by rw [List.take_append]; exact List.prefix_append _ _)
theorem keepsF_add {s : List UInt8} {f : PF} (h : keepsF s f) (m : List UInt8) : keepsF s (f.add m) := by
  unfold PF.add
  split
  · exact h
  · intro i
    dsimp only
    rcases Nat.lt_or_ge f.acts.length i with h1 | h1
    · have e : (f.acts ++ [FAct.add m]).take i = f.acts ++ [FAct.add m] := List.take_of_length_le (by simp; omega)
      rw [e, runs_append]
      have h2 := h f.acts.length
      rw [List.take_length] at h2
      exact pre_more m h2
    · rw [List.take_append_of_le_length h1]
      exact h i
theorem keepsF_stays {s : List UInt8} {f : PF} (h : keepsF s f) (a b : Int) : keepsF s ⟨f.stays a b, []⟩ := by
  intro i
  rw [List.take_nil]
  show s <+: (f.stays a b).take 10000
  unfold PF.stays
  exact pre_more _ (h _)
def Kept (fd : FD) (fs : FS) (k s : List UInt8) : Prop := ∃ n f, fd.each (fun l _ => NM.get l k = some n) ∧ FS.get fs n = some f ∧ keepsF s f
theorem each_num (k : List UInt8) (n : Int) : ∀ (l : NM) (a b : Int), a ≤ b → NM.get l k = some n → NM.get l k = some n := fun _ _ _ _ h => h
theorem Kept.create {fd : FD} {fs : FS} {k s : List UInt8} (h : Kept fd fs k s) (x : List UInt8) (g : PF) : Kept (fd.create x).1 (fs ++ [((fd.create x).2.1, g)]) k s := by
  obtain ⟨n, f, h1, h2, h3⟩ := h
  refine ⟨n, f, ?_, by rw [FS.get_app, h2], h3⟩
  unfold FD.create
  split
  · split
    · exact h1
    · rename_i hno
      refine FD.each_one h1 (each_num k n) _ rfl rfl (by dsimp only; omega) ?_
      have := FD.each_now h1
      simp only [DAct.run]
      rw [NM.get_put, if_neg (by rintro rfl; rw [hno] at this; cases this)]
      exact this
  · exact h1
theorem FD.create_err {fd : FD} {x : List UInt8} (h : (fd.create x).2.2 ≠ 0) : (fd.create x).1 = fd := by
  unfold FD.create at h ⊢
  split
  · split
    · rfl
    · rename_i h1 _ h2; rw [if_pos h1, h2] at h; exact absurd rfl h
  · rfl
theorem Kept.upd {fd : FD} {fs : FS} {k s s' x : List UInt8} {n : Int} {g : PF → PF} (h : Kept fd fs k s) (hnum : fd.numOk) (hx : fd.now.get x = some n)
    (hg : k = x → ∀ f, FS.get fs n = some f → keepsF s f → keepsF s' (g f)) (hs : k ≠ x → s' = s) : Kept fd (FS.upd fs n g) k s' := by
  obtain ⟨m, f, h1, h2, h3⟩ := h
  have hk := FD.each_now h1
  by_cases e : k = x
  · subst e
    rw [hx] at hk
    cases hk
    exact ⟨n, g f, h1, by rw [FS.get_upd, if_pos rfl, h2]; rfl, hg rfl f h2 h3⟩
  · have hne : m ≠ n := by
      rintro rfl
      exact e ((FD.each_now hnum.2).inj k x m hk hx)
    rw [hs e]
    exact ⟨m, f, h1, by rw [FS.get_upd, if_neg hne]; exact h2, h3⟩
theorem Kept.rename {fd : FD} {fs : FS} {k s x y : List UInt8} (h : Kept fd fs k s) (hnum : fd.numOk) (hxy : x ≠ y → k ≠ x ∧ k ≠ y) : Kept (fd.rename x y).1 fs k s := by
  obtain ⟨m, f, h1, h2, h3⟩ := h
  refine ⟨m, f, ?_, h2, h3⟩
  have hnow := FD.each_now h1
  have hnd := (FD.each_now hnum.2).nd
  unfold FD.rename
  split
  · split
    · rename_i n hn
      refine FD.each_one h1 (each_num k m) _ rfl rfl (Int.le_refl _) ?_
      simp only [DAct.run]
      rw [NM.get_put]
      by_cases e : x = y
      · subst e
        by_cases e2 : k = x
        · subst e2
          rw [if_pos rfl, ← hn, hnow]
        · rw [if_neg e2, NM.get_del hnd, if_neg e2]; exact hnow
      · obtain ⟨e1, e2⟩ := hxy e
        rw [if_neg e2, NM.get_del hnd, if_neg e1]; exact hnow
    · exact h1
  · exact h1
theorem Kept.remove {fd : FD} {fs : FS} {k s x : List UInt8} (h : Kept fd fs k s) (hnum : fd.numOk) (hx : k ≠ x) : Kept (fd.remove x).1 fs k s := by
  obtain ⟨m, f, h1, h2, h3⟩ := h
  refine ⟨m, f, ?_, h2, h3⟩
  unfold FD.remove
  split
  · refine FD.each_one h1 (each_num k m) _ rfl rfl (Int.le_refl _) ?_
    simp only [DAct.run]
    rw [NM.get_del (FD.each_now hnum.2).nd, if_neg hx]
    exact FD.each_now h1
  · exact h1
theorem Kept.sync {fd : FD} {fs : FS} {k s : List UInt8} (h : Kept fd fs k s) (i : Int) : Kept (fd.survive i) fs k s := by
  obtain ⟨m, f, h1, h2, h3⟩ := h
  exact ⟨m, f, FD.each_survive h1 i, h2, h3⟩
structure KInv (q A B : Nat) (d : DS) (m : KM) : Prop where
  ok : d.ok A B
  up : d.down = false
  arm : d.armed = 0
  quota : d.quota = q
  nd : (KM.keys m).Nodup
  kept : ∀ k s, KM.get m k = some (s, false) → Kept d.fd d.fs k s
theorem DS.count_up {d : DS} (h : d.armed = 0) : d.count = ⟨d.fd, d.fs, d.quota, d.steps + 1, d.armed, d.down⟩ := by unfold DS.count; rw [if_neg (by rw [h]; simp)]
theorem DS.step_up {d : DS} (h : d.armed = 0) (hd : d.down = false) (g : DS → DS × Int) : d.step g = g ⟨d.fd, d.fs, d.quota, d.steps + 1, d.armed, d.down⟩ := by
  unfold DS.step
  rw [DS.count_up h, if_neg (by dsimp only; rw [hd]; decide)]
theorem KInv.new (q : Nat) (hq : q ≤ 1000000) : KInv q 0 0 (DS.new q) [] := ⟨DS.ok_new _ (by omega) (by omega), rfl, rfl, rfl, List.nodup_nil, fun k s h => by cases h⟩
theorem KInv.mono {q A B A' B' : Nat} {d : DS} {m : KM} (h : KInv q A B d m) (ha : A ≤ A') (hb : B ≤ B') : KInv q A' B' d m := ⟨DS.ok_mono h.ok ha hb, h.up, h.arm, h.quota, h.nd, h.kept⟩
theorem KInv.create {q A B : Nat} {d : DS} {m : KM} (h : KInv q A B d m) (x : List UInt8) : KInv q (A + 2) B (d.create x).1 m := by
  have hok := DS.ok_create h.ok x
  unfold DS.create at hok ⊢
  rw [DS.step_up h.arm h.up] at hok ⊢
  dsimp only at hok ⊢
  split
  · rename_i he
    rw [if_pos he] at hok
    exact ⟨hok, h.up, h.arm, h.quota, h.nd, fun k s hk => (h.kept k s hk).create x _⟩
  · rename_i he
    rw [if_neg he] at hok
    exact ⟨hok, h.up, h.arm, h.quota, h.nd, fun k s hk => by dsimp only; rw [FD.create_err he]; exact h.kept k s hk⟩
theorem KInv.syncDir {q A B : Nat} {d : DS} {m : KM} (h : KInv q A B d m) : KInv q (A + 2) B d.syncDir.1 m := by
  have hok := DS.ok_syncDir h.ok
  unfold DS.syncDir at hok ⊢
  rw [DS.step_up h.arm h.up] at hok ⊢
  exact ⟨hok, h.up, h.arm, h.quota, h.nd, fun k s hk => (h.kept k s hk).sync _⟩
theorem KInv.rename {q A B : Nat} {d : DS} {m : KM} (h : KInv q A B d m) (x y : List UInt8) :
    KInv q (A + 2) B (d.rename x y).1 (if (d.rename x y).2 = 0 ∧ x ≠ y then KM.put (KM.put m x ([], true)) y ([], true) else m) := by
  have hok := DS.ok_rename h.ok x y
  unfold DS.rename at hok ⊢
  rw [DS.step_up h.arm h.up] at hok ⊢
  dsimp only at hok ⊢
  split
  · refine ⟨hok, h.up, h.arm, h.quota, KM.nd_put (KM.nd_put h.nd _ _) _ _, fun k s hk => ?_⟩
    rw [KM.get_put, KM.get_put] at hk
    split at hk
    · cases hk
    split at hk
    · cases hk
    · rename_i e1 e2
      exact (h.kept k s hk).rename h.ok.num fun _ => ⟨e2, e1⟩
  · rename_i hno
    refine ⟨hok, h.up, h.arm, h.quota, h.nd, fun k s hk => ?_⟩
    by_cases e : x = y
    · exact (h.kept k s hk).rename h.ok.num fun e' => absurd e e'
    · have he : (d.fd.rename x y).2 ≠ 0 := fun e' => hno ⟨e', e⟩
      have : (d.fd.rename x y).1 = d.fd := by
        unfold FD.rename at he ⊢
        split
        · split
          · rename_i h1 _ _ h2; rw [if_pos h1, h2] at he; exact absurd rfl he
          · rfl
        · rfl
      dsimp only
      rw [this]
      exact h.kept k s hk
theorem KInv.remove {q A B : Nat} {d : DS} {m : KM} (h : KInv q A B d m) (x : List UInt8) :
    KInv q (A + 2) B (d.remove x).1 (if (d.remove x).2 = 0 then KM.put m x ([], true) else m) := by
  have hok := DS.ok_remove h.ok x
  unfold DS.remove at hok ⊢
  rw [DS.step_up h.arm h.up] at hok ⊢
  dsimp only at hok ⊢
  split
  · refine ⟨hok, h.up, h.arm, h.quota, KM.nd_put h.nd _ _, fun k s hk => ?_⟩
    rw [KM.get_put] at hk
    split at hk
    · cases hk
    · rename_i e1
      exact (h.kept k s hk).remove h.ok.num e1
  · rename_i hno
    refine ⟨hok, h.up, h.arm, h.quota, h.nd, fun k s hk => ?_⟩
    have : (d.fd.remove x).1 = d.fd := by
      unfold FD.remove at hno ⊢
      split
      · rename_i _ h2; rw [h2] at hno; exact absurd rfl hno
      · rfl
    dsimp only
    rw [this]
    exact h.kept k s hk
theorem DS.of_up {d : DS} (h : d.armed = 0) (hd : d.down = false) (x : List UInt8) (g : DS → PF → PF × Int) : (d.of x g).1.down = false ∧ (d.of x g).1.armed = 0 ∧ (d.of x g).1.quota = d.quota ∧ (d.of x g).1.fd = d.fd ∧
    ((d.of x g).1.fs = d.fs ∧ ((d.of x g).2 ≠ 0 ∧ (d.of x g).2 ≠ 10) ∨ ∃ n f, d.fd.now.get x = some n ∧ FS.get d.fs n = some f ∧ (d.of x g).1.fs = FS.upd d.fs n (fun _ => (g ⟨d.fd, d.fs, d.quota, d.steps + 1, d.armed, d.down⟩ f).1) ∧ (d.of x g).2 = (g ⟨d.fd, d.fs, d.quota, d.steps + 1, d.armed, d.down⟩ f).2) := by
  unfold DS.of
  rw [DS.step_up h hd]
  dsimp only
  cases hn : d.fd.now.get x with
  | none => exact ⟨hd, h, rfl, rfl, .inl ⟨rfl, by simp, by simp⟩⟩
  | some n =>
    dsimp only
    cases hf : FS.get d.fs n with
    | none => exact ⟨hd, h, rfl, rfl, .inl ⟨rfl, by simp, by simp⟩⟩
    | some f => exact ⟨hd, h, rfl, rfl, .inr ⟨n, f, rfl, hf, rfl, rfl⟩⟩
theorem KInv.append {q A B : Nat} {d : DS} {m : KM} (h : KInv q A B d m) (x s : List UInt8) (K : Nat) (hK : 1 ≤ K) (hq : q ≤ K) : KInv q (A + 1) (B + K) (d.append x s).1 m := by
  have hok := DS.ok_append h.ok x s K hK (by rw [h.quota]; omega)
  unfold DS.append at hok ⊢
  obtain ⟨h1, h2, h3, h4, h5⟩ := DS.of_up h.arm h.up x fun d f => if d.room < s.length then (f.add (s.take d.room), 10) else (f.add s, 0)
  refine ⟨hok, h1, h2, h3.trans h.quota, h.nd, fun k s' hk => ?_⟩
  rw [h4]
  rcases h5 with ⟨e1, _⟩ | ⟨n, f, e1, e2, e3, _⟩
  · rw [e1]; exact h.kept k s' hk
  · rw [e3]
    refine (h.kept k s' hk).upd h.ok.num e1 (fun _ f' hf' hkf => ?_) fun _ => rfl
    rw [e2] at hf'
    cases hf'
    split <;> exact keepsF_add hkf _
theorem KInv.truncate {q A B : Nat} {d : DS} {m : KM} (h : KInv q A B d m) (x : List UInt8) (n : Int) :
    KInv q (A + 1) (B + 1) (d.truncate x n).1 (if (d.truncate x n).2 = 0 then (match KM.get m x with | some k => KM.put m x ([], k.2) | none => m) else m) := by
  have hok := DS.ok_truncate h.ok x n
  unfold DS.truncate at hok ⊢
  obtain ⟨h1, h2, h3, h4, h5⟩ := DS.of_up h.arm h.up x fun _ f => f.cut n
  have hcut : ∀ f : PF, (f.cut n).2 ≠ 0 → (f.cut n).1 = f := fun f hf => by
    unfold PF.cut at hf ⊢
    split
    · rfl
    split
    · rename_i e1 e2; rw [if_neg e1, if_pos e2] at hf; exact absurd rfl hf
    · rfl
  split
  · rename_i he
    refine ⟨hok, h1, h2, h3.trans h.quota, ?_, fun k s hk => ?_⟩
    · split
      · exact KM.nd_put h.nd _ _
      · exact h.nd
    · rw [h4]
      rcases h5 with ⟨_, e2⟩ | ⟨n', f, e1, e2, e3, _⟩
      · exact absurd he e2.1
      rw [e3]
      cases hx : KM.get m x with
      | none =>
        rw [hx] at hk
        dsimp only at hk
        refine (h.kept k s hk).upd h.ok.num e1 (fun e => ?_) fun _ => rfl
        subst e
        rw [hx] at hk
        cases hk
      | some v =>
        rw [hx] at hk
        dsimp only at hk
        rw [KM.get_put] at hk
        split at hk
        · rename_i e
          subst e
          obtain ⟨rfl, hv2⟩ := Prod.mk.inj (Option.some.inj hk)
          refine (h.kept k v.1 ?_).upd h.ok.num e1 (fun _ f' _ _ => keepsF_nil _) fun hne => absurd rfl hne
          rw [hx, ← hv2]
        · rename_i e
          exact (h.kept k s hk).upd h.ok.num e1 (fun e' => absurd e' e) fun _ => rfl
  · rename_i he
    refine ⟨hok, h1, h2, h3.trans h.quota, h.nd, fun k s hk => ?_⟩
    rw [h4]
    rcases h5 with ⟨e1, _⟩ | ⟨n', f, e1, e2, e3, e4⟩
    · rw [e1]; exact h.kept k s hk
    rw [e3]
    refine (h.kept k s hk).upd h.ok.num e1 (fun _ f' hf' hkf => ?_) fun _ => rfl
    rw [e2] at hf'
    cases hf'
    rw [hcut f (by rw [← e4]; exact he)]
    exact hkf
theorem DS.readAt_all {d : DS} (hd : d.down = false) {k : List UInt8} {n : Int} {f : PF} (h1 : d.fd.now.get k = some n) (h2 : FS.get d.fs n = some f) : d.readAt k 0 10000 = (f.now.take 10000, 0) := by
  unfold DS.readAt
  rw [hd, h1]
  simp only [Bool.false_eq_true, if_false]
  rw [h2]
  unfold PF.readAt
  dsimp only
  rw [if_neg (by omega)]
  simp
theorem KInv.sync {q A B : Nat} {d : DS} {m : KM} (h : KInv q A B d m) (x : List UInt8) :
    KInv q (A + 1) B (d.sync x).1 (if (d.sync x).2 = 0 then (match KM.get m x with | some k => KM.put m x (((d.sync x).1.readAt x 0 10000).1, k.2) | none => m) else m) := by
  have hok := DS.ok_sync h.ok x
  obtain ⟨h1, h2, h3, h4, h5⟩ : (d.sync x).1.down = false ∧ (d.sync x).1.armed = 0 ∧ (d.sync x).1.quota = d.quota ∧ (d.sync x).1.fd = d.fd ∧ _ := DS.of_up h.arm h.up x fun _ f => (⟨f.now, []⟩, 0)
  have h5' : (d.sync x).1.fs = d.fs ∧ ((d.sync x).2 ≠ 0 ∧ (d.sync x).2 ≠ 10) ∨ ∃ n f, d.fd.now.get x = some n ∧ FS.get d.fs n = some f ∧ (d.sync x).1.fs = FS.upd d.fs n (fun _ => ⟨f.now, []⟩) ∧ (d.sync x).2 = 0 := h5
  clear h5
  obtain ⟨d', hd'⟩ : ∃ d', (d.sync x).1 = d' := ⟨_, rfl⟩
  rw [hd'] at h1 h2 h3 h4 h5' hok ⊢
  split
  · rename_i he
    rcases h5' with ⟨_, e2⟩ | ⟨n, f, e1, e2, e3, _⟩
    · exact absurd he e2.1
    have hr : d'.readAt x 0 10000 = (f.now.take 10000, 0) := by
      rw [DS.readAt_all h1 (n := n) (f := ⟨f.now, []⟩) (by rw [h4]; exact e1) (by rw [e3, FS.get_upd, if_pos rfl, e2]; rfl)]
      rfl
    refine ⟨hok, h1, h2, h3.trans h.quota, ?_, fun k s hk => ?_⟩
    · split
      · exact KM.nd_put h.nd _ _
      · exact h.nd
    · rw [h4, e3]
      cases hx : KM.get m x with
      | none =>
        rw [hx] at hk
        dsimp only at hk
        refine (h.kept k s hk).upd h.ok.num e1 (fun e => ?_) fun _ => rfl
        subst e
        rw [hx] at hk
        cases hk
      | some v =>
        rw [hx] at hk
        dsimp only at hk
        rw [KM.get_put, hr] at hk
        split at hk
        · rename_i e
          subst e
          obtain ⟨rfl, hv2⟩ := Prod.mk.inj (Option.some.inj hk)
          refine (h.kept k v.1 ?_).upd h.ok.num e1 (fun _ f' _ _ => keepsF_new _) fun hne => absurd rfl hne
          rw [hx, ← hv2]
        · rename_i e
          exact (h.kept k s hk).upd h.ok.num e1 (fun e' => absurd e' e) fun _ => rfl
  · rename_i he
    rcases h5' with ⟨e1, _⟩ | ⟨n, f, e1, e2, e3, e4⟩
    · exact ⟨hok, h1, h2, h3.trans h.quota, h.nd, fun k s hk => by rw [h4, e1]; exact h.kept k s hk⟩
    · exact absurd e4 he
def againV (was : KM) (k : List UInt8) : List UInt8 × Bool := match KM.get was k with
  | some v => if v.2 then ([], false) else v
  | none => ([], false)
def againM (was : KM) (out : KM) (ks : List (List UInt8)) : KM := ks.foldl (fun out k => KM.put out k (againV was k)) out
theorem againM_nd (was : KM) : ∀ (ks : List (List UInt8)) (out : KM), (KM.keys out).Nodup → (KM.keys (againM was out ks)).Nodup
  | [], _, h => h
  | k :: ks, _out, h => againM_nd was ks _ (KM.nd_put h k _)
theorem againM_get (was : KM) (P : List UInt8 → List UInt8 × Bool → Prop) : ∀ (ks : List (List UInt8)) (out : KM), (∀ k v, KM.get out k = some v → P k v) → (∀ k ∈ ks, P k (againV was k)) → ∀ k v, KM.get (againM was out ks) k = some v → P k v
  | [], _, h, _ => h
  | x :: ks, out, h, hk => by
    refine againM_get was P ks _ (fun k v hv => ?_) fun k hk' => hk k (List.mem_cons_of_mem _ hk')
    rw [KM.get_put] at hv
    split at hv
    · rename_i e; subst e; cases hv; exact hk k (List.mem_cons_self ..)
    · exact h k v hv
theorem KInv.again {q A B : Nat} {d : DS} {m : KM} (h : KInv q A B d m) (hacts : d.fd.acts = []) : KInv q A B d (againM m [] d.list) := by
  refine ⟨h.ok, h.up, h.arm, h.quota, againM_nd m _ _ List.nodup_nil, ?_⟩
  have hl : d.list = d.fd.names := by unfold DS.list; rw [h.up]; rfl
  have key := againM_get m (fun k v => v.2 = false → Kept d.fd d.fs k v.1) d.list [] (fun k v hv => by cases hv) fun k hk => ?_
  · exact fun k s hk => key k (s, false) hk rfl
  · intro _
    rw [hl] at hk
    have hfresh : Kept d.fd d.fs k [] := by
      obtain ⟨n, hn⟩ := FD.names_get hk
      obtain ⟨f, hf, _⟩ := DS.has_file h.ok hn
      refine ⟨n, f, fun i hi => ?_, hf, keepsF_nil _⟩
      have : druns d.fd.d (d.fd.acts.take i) = d.fd.now := by unfold FD.now; rw [hacts, List.take_nil]
      rw [this]
      exact hn
    unfold againV
    cases hm : KM.get m k with
    | none => exact hfresh
    | some v =>
      dsimp only
      split
      · exact hfresh
      · rename_i hv
        refine h.kept k v.1 ?_
        rw [hm]
        simp only [Bool.not_eq_true] at hv
        rw [← hv]
theorem sum_one {k : List UInt8} (g g' : List UInt8 → Nat) (c : Nat) : ∀ (l : List (List UInt8)), l.Nodup → k ∈ l → g' k = g k + c → (∀ k' ∈ l, k' ≠ k → g' k' = g k') → (l.map g').sum = (l.map g).sum + c
  | x :: l, hn, hk, h1, h2 => by
    obtain ⟨n1, n2⟩ := List.nodup_cons.1 hn
    simp only [List.map_cons, List.sum_cons]
    by_cases e : k = x
    · subst e
      have : l.map g' = l.map g := List.map_congr_left fun a ha => h2 a (List.mem_cons_of_mem _ ha) (by rintro rfl; exact n1 ha)
      rw [this, h1]
      omega
    · have hkl : k ∈ l := by
        rcases List.mem_cons.1 hk with h | h
        · exact absurd h e
        · exact h
      have := sum_one g g' c l n2 hkl h1 fun a ha => h2 a (List.mem_cons_of_mem _ ha)
      rw [this, h2 x (List.mem_cons_self ..) fun q => e q.symm]
      omega
theorem PF.now_add (f : PF) (m : List UInt8) : (f.add m).now = f.now ++ m := by
  unfold PF.add
  split
  · rename_i h; simp [h]
  · simp [PF.now, runs_append, runs, FAct.run]
theorem FD.names_nd {fd : FD} (h : fd.numOk) : fd.names.Nodup := (sortU_perm _).symm.nodup (FD.each_now h.2).nd
theorem used_append {q A B : Nat} {d : DS} {m : KM} (h : KInv q A B d m) (x s : List UInt8) :
    ((d.append x s).2 = 0 ∧ s.length ≤ d.room ∧ (d.append x s).1.used = d.used + s.length) ∨ ((d.append x s).2 = 10 ∧ d.room < s.length ∧ (d.append x s).1.used = d.used + d.room) ∨ ((d.append x s).2 ≠ 0 ∧ (d.append x s).2 ≠ 10 ∧ (d.append x s).1.used = d.used) := by
  unfold DS.append
  obtain ⟨h1, h2, h3, h4, h5⟩ := DS.of_up h.arm h.up x fun d f => if d.room < s.length then (f.add (s.take d.room), 10) else (f.add s, 0)
  have hroom : (⟨d.fd, d.fs, d.quota, d.steps + 1, d.armed, d.down⟩ : DS).room = d.room := rfl
  rw [hroom] at h5
  obtain ⟨r, hr⟩ : ∃ r, d.room = r := ⟨_, rfl⟩
  obtain ⟨d', hd'⟩ : ∃ d', d.of x (fun d f => if d.room < s.length then (f.add (s.take d.room), 10) else (f.add s, 0)) = d' := ⟨_, rfl⟩
  rw [hd'] at h1 h2 h3 h4 h5 ⊢
  rw [hr] at h5 ⊢
  have hl : d.list = d.fd.names := by unfold DS.list; rw [h.up]; rfl
  have hl' : d'.1.list = d.fd.names := by unfold DS.list; rw [h1, h4]; rfl
  rcases h5 with ⟨e1, e2⟩ | ⟨n, f, e1, e2, e3, e4⟩
  · have hu : d'.1.used = d.used := used_eq h4 e1 (by rw [h1, h.up])
    exact .inr (.inr ⟨e2.1, e2.2, hu⟩)
  · have key : ∀ t, d'.1.fs = FS.upd d.fs n (fun _ => f.add t) → d'.1.used = d.used + t.length := by
      intro t ht
      unfold DS.used
      rw [hl, hl']
      refine sum_one (k := x) _ _ t.length _ (FD.names_nd h.ok.num) (FD.names_of e1) ?_ fun k hk hne => ?_
      · have t1 : d.text x = f.now := by unfold DS.text DS.file; rw [e1]; dsimp only; rw [e2]
        have t2 : d'.1.text x = f.now ++ t := by
          unfold DS.text DS.file
          rw [h4, e1]
          dsimp only
          rw [ht, FS.get_upd, if_pos rfl, e2]
          exact PF.now_add f t
        rw [t1, t2, List.length_append]
      · have : d'.1.text k = d.text k := by
          obtain ⟨m, hm⟩ := FD.names_get hk
          unfold DS.text DS.file
          rw [h4, hm]
          dsimp only
          rw [ht, FS.get_upd, if_neg]
          rintro rfl
          exact hne ((FD.each_now h.ok.num.2).inj k x m hm e1)
        rw [this]
    by_cases hc : r < s.length
    · simp only [if_pos hc] at e3 e4
      refine .inr (.inl ⟨e4, hc, ?_⟩)
      rw [key _ e3, List.length_take]
      omega
    · simp only [if_neg hc] at e3 e4
      exact .inl ⟨e4, by omega, key _ e3⟩
theorem stay_keeps (fd : FD) (s : List UInt8) : ∀ (ks : List (List UInt8)) (st : List Int × FS × List Int) (n : Int) (f : PF), FS.get st.2.1 n = some f → keepsF s f → ∃ f', FS.get (ks.foldl (stay1 fd) st).2.1 n = some f' ∧ keepsF s f'
  | [], st, n, f, h, hk => ⟨f, h, hk⟩
  | k :: ks, st, n, f, h, hk => by
    rw [List.foldl_cons]
    have h4 : ∃ f', FS.get (stay1 fd st k).2.1 n = some f' ∧ keepsF s f' := by
      simp only [stay1]
      rw [FS.get_upd]
      split
      · rename_i e
        rw [← e, h]
        exact ⟨_, rfl, keepsF_stays hk _ _⟩
      · exact ⟨f, h, hk⟩
    obtain ⟨f1, g1, g2⟩ := h4
    exact stay_keeps fd s ks _ n f1 g1 g2
theorem KInv.restart {q A B : Nat} {d : DS} {m : KM} (h : KInv q A B d m) (l : List Int) {k s : List UInt8} (hk : KM.get m k = some (s, false)) :
    ((d.restart l).readAt k 0 10000).2 = 0 ∧ s <+: ((d.restart l).readAt k 0 10000).1 := by
  obtain ⟨n, f, h1, h2, h3⟩ := h.kept k s hk
  obtain ⟨fd, hfd⟩ : ∃ fd, d.fd.survive (l.headD 0) = fd := ⟨_, rfl⟩
  have hnow : fd.now.get k = some n := by
    have := FD.each_now (FD.each_survive h1 (l.headD 0))
    rw [hfd] at this
    exact this
  obtain ⟨r, hr⟩ : ∃ r, stayAll fd l.tail d.fs fd.names = r := ⟨_, rfl⟩
  obtain ⟨f', g1, g2⟩ := stay_keeps fd s fd.names (l.tail, d.fs, []) n f h2 h3
  have g1' : FS.get r.2.1 n = some f' := by rw [← hr]; exact g1
  have hmem : n ∈ r.2.2 := by
    rw [← hr]
    unfold stayAll
    rw [stayAll_mem]
    exact .inr ⟨k, FD.names_of hnow, by rw [FD.find_get hnow]⟩
  have hd : d.restart l = ⟨fd, thereF r.2.1 r.2.2, d.quota, d.steps, 0, false⟩ := by
    unfold DS.restart
    rw [hfd, hr]
  have := DS.readAt_all (d := d.restart l) (by rw [hd]) (k := k) (n := n) (f := f') (by rw [hd]; exact hnow) (by rw [hd]; dsimp only; rw [get_there _ _ _ hmem, g1']; rfl)
  rw [this]
  have h5 := g2 f'.acts.length
  rw [List.take_length] at h5
  exact ⟨rfl, h5⟩
end Go.Proofs.YtjolihoakdifoaaGreat
