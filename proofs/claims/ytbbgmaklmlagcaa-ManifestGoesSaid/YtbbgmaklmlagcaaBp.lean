/- Laws of any arguments: from an abstract run to the call. -/
import Derived.Test.YtbbgmaklmlagcaaBo
namespace Go.Proofs.Ytbbgmaklmlagcaa
open Go.ChangeShapes Go.WideShapes Go.ChangeAt Go.RowKit

def PrimA : Prim → AV → Prop
  | .int k, x => ∃ n, x = .int k n ∧ (Lit.int k n).wf = true
  | .str, x => ∃ s, x = .str s ∧ s.length ≤ maxLen
  | .bool, x => ∃ b, x = .bool b

/-- Abstract cells, and a block for each slice; k: the first block's number. -/
def AbsOk : List CT → Nat → List AV → AHeap → Prop
  | [], _, [], [] => True
  | .one p :: ts, k, x :: xs, H => PrimA p x ∧ AbsOk ts k xs H
  | .row el :: ts, k, x :: xs, B :: H => (∃ l n, B = .cells false l ∧ (n = 0 ∧ x = .nils ∨ x = .slice k 0 n el.length false) ∧ n ≤ maxLen ∧ All2 PrimA (List.replicate n el).flatten l) ∧ AbsOk ts (k + 1) xs H
  | _, _, _, _ => False

/-- Abstract arguments: a struct or an array is one argument. -/
def AbsArgs : List (Bool × List CT) → Nat → List AV → AHeap → Prop
  | [], _, [], [] => True
  | (true, ts) :: ss, k, x :: xs, H => ∃ ys H1 H2, x = .agg ys ∧ AbsOk ts k ys H1 ∧ H = H1 ++ H2 ∧ AbsArgs ss (k + H1.length) xs H2
  | (false, ts) :: ss, k, x :: xs, H => ∃ H1 H2, AbsOk ts k [x] H1 ∧ H = H1 ++ H2 ∧ AbsArgs ss (k + H1.length) xs H2
  | _, _, _, _ => False

theorem prim_a {p : Prim} {v : Value} (h : PrimOk p v) : ∃ x, PrimA p x ∧ free x = true ∧ ∀ j, VR j x v := by
  cases p with
  | int k => obtain ⟨n, rfl, hw⟩ := h; exact ⟨.int k n, ⟨n, rfl, hw⟩, rfl, fun j => by simp [VR]⟩
  | str => obtain ⟨s, rfl, hw⟩ := h; exact ⟨.str s.data.toList, ⟨_, rfl, by rw [Array.length_toList]; exact hw⟩, rfl, fun j => by simp [VR]⟩
  | bool => obtain ⟨b, rfl⟩ := h; exact ⟨.bool b, ⟨b, rfl⟩, rfl, fun j => by simp [VR]⟩

theorem prims_a : ∀ {ps : List Prim} {vs : List Value}, All2 PrimOk ps vs → ∃ xs, All2 PrimA ps xs ∧ xs.length = vs.length ∧ ∀ (i : Nat) x, xs[i]? = some x → ∃ v, vs[i]? = some v ∧ ∀ j, VR j x v
  | [], [], _ => ⟨[], trivial, rfl, fun i x h => by simp at h⟩
  | p :: ps, v :: vs, h => by
    obtain ⟨x, h1, _, h2⟩ := prim_a h.1
    obtain ⟨xs, g1, g2, g3⟩ := prims_a h.2
    refine ⟨x :: xs, ⟨h1, g1⟩, by simp [g2], fun i y hy => ?_⟩
    cases i with
    | zero => simp at hy; subst hy; exact ⟨v, rfl, h2⟩
    | succ i => exact g3 i y (by simpa using hy)
  | [], _ :: _, h => h.elim
  | _ :: _, [], h => h.elim

theorem addr_plain_add (B O i : Nat) : (⟨B, O, none⟩ : Addr).add i = ⟨B, O + i, none⟩ := by
  unfold Addr.add
  split
  · rename_i h; subst h; rfl
  · rfl

/-- Some block of cells. -/
def SomeBlk (w : World) : Prop := ∃ (q : Nat) (cs : Array Value) (T : TypeId) (fz : Nat × Nat), w.heap[q]? = some (Obj.cells cs T fz)

theorem cells_abs {w : World} : ∀ (ts : List CT) (cs : List Value) (k : Nat), All2 (CellOk w) ts cs → (∀ v ∈ cs, ∀ a len cap, v = .slice (some a) len cap → SomeBlk w) →
    ∃ (xs : List AV) (H : AHeap) (js : List (Option JB)), AbsOk ts k xs H ∧ js.length = H.length ∧ (∀ (i : Nat) B p, H[i]? = some B → js[i]? = some p → p ≠ none → ∀ j q, p = some q → BRel j w B q) ∧
      (∀ j : Inj, (∀ i, i < js.length → j (k + i) = (js[i]?).join) → VRs j xs cs) ∧ (∀ (i : Nat) (B : ABlk), H[i]? = some B → ∃ l, B = .cells false l)
  | [], [], k, _, _ => ⟨[], [], [], trivial, rfl, fun i B p h => by simp at h, fun j _ => by simp [VRs], fun i B h => by simp at h⟩
  | .one p :: ts, v :: cs, k, h, hE => by
    obtain ⟨x, h1, _, h2⟩ := prim_a h.1
    obtain ⟨xs, H, js, g1, g2, g3, g4, g5⟩ := cells_abs ts cs k h.2 fun v hv => hE v (List.mem_cons_of_mem _ hv)
    exact ⟨x :: xs, H, js, ⟨h1, g1⟩, g2, g3, fun j hj => ⟨v, cs, rfl, h2 j, g4 j hj⟩, g5⟩
  | .row el :: ts, v :: cs, k, h, hE => by
    obtain ⟨xs, H, js, g1, g2, g3, g4, g5⟩ := cells_abs ts cs (k + 1) h.2 fun v hv => hE v (List.mem_cons_of_mem _ hv)
    have key : ∃ (x : AV) (l : List AV) (n : Nat) (p : Option JB), (n = 0 ∧ x = .nils ∨ x = .slice k 0 n el.length false) ∧ n ≤ maxLen ∧ All2 PrimA (List.replicate n el).flatten l ∧ (∀ j q, p = some q → BRel j w (.cells false l) q) ∧ ∀ j : Inj, j k = p → VR j x v := by
      rcases h.1 with rfl | ⟨a, len, cap, l, rfl, hle, hm, h0, hl, hc⟩
      · exact ⟨.nils, [], 0, none, .inl ⟨rfl, rfl⟩, by simp, by simp [All2], fun j q h => (by cases h), fun j _ => by simp [VR]⟩
      · by_cases hz : cap = 0
        · subst hz
          obtain rfl : len = 0 := by omega
          obtain ⟨q, c, T, fz, hq⟩ := hE _ (List.mem_cons_self ..) a 0 0 rfl
          refine ⟨.slice k 0 0 el.length false, [], 0, some ⟨q, 0, c.size⟩, .inr rfl, by simp, by simp [All2], fun j q' h => ?_, fun j hj => ?_⟩
          · cases h
            exact ⟨c, T, fz, hq, rfl, by simp, fun i x hx => by simp at hx, fun h => by cases h⟩
          · simp only [VR]
            exact ⟨_, a, 0, hj, rfl, by omega, fun h => (by cases h), by simp, .inl rfl⟩
        · have hll : l.length = cap * el.length := by rw [← hl.length, flatten_replicate_length]
          have hpos : 0 < l.length := by rw [hll]; exact Nat.mul_pos (by omega) h0
          obtain ⟨xs', p1, p2, p3⟩ := prims_a (hl.take (len * el.length))
          rw [take_flatten_replicate _ _ _ hle] at p1
          have hlast := hc (l.length - 1) l[l.length - 1] (by rw [List.getElem?_eq_getElem])
          have hfirst := hc 0 l[0] (by rw [List.getElem?_eq_getElem])
          have ha := addr_plain (w := w) (x := a) (v := l[0]) (by simpa [Addr.add] using hfirst)
          obtain ⟨B, O, S⟩ := a
          cases ha
          have hcell : ∀ (i : Nat) u, w.cell? ⟨B, O + i, none⟩ = some u → ∃ c T fz, w.heap[B]? = some (.cells c T fz) ∧ c[O + i]? = some u := by
            intro i u hu
            unfold World.cell? at hu
            dsimp only at hu
            split at hu
            · rename_i c T fz hh
              exact ⟨c, T, fz, hh, by simpa using hu⟩
            · cases hu
          obtain ⟨c, T, fz, hB, hcl⟩ := hcell (l.length - 1) _ (by rw [← addr_plain_add]; exact hlast)
          have hsz := (Array.getElem?_eq_some_iff.1 hcl).1
          have hxl : xs'.length = len * el.length := by rw [p2, List.length_take, hll]; exact Nat.min_eq_left (Nat.mul_le_mul_right _ hle)
          have hle2 : len * el.length ≤ cap * el.length := Nat.mul_le_mul_right _ hle
          refine ⟨.slice k 0 len el.length false, xs', len, some ⟨B, O, c.size⟩, .inr rfl, by omega, p1, fun j q' h => ?_, fun j hj => ?_⟩
          · cases h
            refine ⟨c, T, fz, hB, rfl, by dsimp only; omega, fun i x hx => ?_, fun h => by cases h⟩
            obtain ⟨u, hu, hv⟩ := p3 i x hx
            rw [List.getElem?_take] at hu
            split at hu
            · obtain ⟨c', T', fz', hB', hu'⟩ := hcell i u (by rw [← addr_plain_add]; exact hc i u hu)
              rw [hB] at hB'
              cases hB'
              exact ⟨u, hu', hv j⟩
            · cases hu
          · simp only [VR]
            exact ⟨_, _, cap, hj, rfl, hle, fun h => (by cases h), hm, .inr ⟨rfl, by dsimp only; omega⟩⟩
    obtain ⟨x, l, n, p, k1, k2, k3, k4, k5⟩ := key
    refine ⟨x :: xs, .cells false l :: H, p :: js, ⟨⟨l, n, rfl, k1, k2, k3⟩, g1⟩, by simp [g2], fun i B p' hB hp hne j q hq => ?_, fun j hj => ?_, fun i B hB => ?_⟩
    · cases i with
      | zero => simp at hB hp; subst hB; subst hp; exact k4 j q hq
      | succ i => exact g3 i B p' (by simpa using hB) (by simpa using hp) hne j q hq
    · refine ⟨v, cs, rfl, k5 j (by simpa using hj 0 (by simp)), g4 j fun i hi => ?_⟩
      have := hj (i + 1) (by simp; omega)
      rw [show k + 1 + i = k + (i + 1) by omega, this]
      simp
    · cases i with
      | zero => simp at hB; exact ⟨l, hB.symm⟩
      | succ i => exact g5 i B (by simpa using hB)
  | [], _ :: _, _, h, _ => h.elim
  | .one _ :: _, [], _, h, _ => h.elim
  | .row _ :: _, [], _, h, _ => h.elim

end Go.Proofs.Ytbbgmaklmlagcaa
