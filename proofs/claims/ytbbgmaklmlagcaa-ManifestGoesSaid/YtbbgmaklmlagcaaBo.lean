/- From the reading of any arguments (numbers, texts, structs, arrays, slices of those) to abstract ones. -/
import Derived.Test.YtbbgmaklmlagcaaOpen
import Derived.Test.YtbbgmaklmlagcaaBa
import Derived.Deep.Slices
namespace Go.Proofs.Ytbbgmaklmlagcaa
open Go.ChangeShapes Go.WideShapes Go.ChangeAt Go.RowKit

inductive Prim where
  | int (k : IntKind)
  | str
  | bool
  deriving DecidableEq

/-- A cell: a number, text, bool, or a slice of rows of such. -/
inductive CT where
  | one (p : Prim)
  | row (el : List Prim)
  deriving DecidableEq

def onesOf : List CT → Option (List Prim)
  | [] => some []
  | .one p :: ts => (onesOf ts).map (p :: ·)
  | _ => none

def fieldsOf (P : Program) (g : TypeId → Option (List CT)) : Nat → List Field → Option (List CT)
  | _, [] => some []
  | off, f :: fs => match g f.type with
    | some a => if f.offset = off ∧ P.cellsOf f.type = a.length then (fieldsOf P g (off + a.length) fs).map (a ++ ·) else none
    | none => none

/-- The cells of a type. -/
def flat (P : Program) : Nat → TypeId → Option (List CT)
  | 0, _ => none
  | n + 1, t => match P.underlying t with
    | some .bool => some [.one .bool]
    | some (.int k) => some [.one (.int k)]
    | some .string => some [.one .str]
    | some (.slice e) => match flat P n e with
      | some a => if P.cellsOf e = a.length ∧ 0 < a.length then (onesOf a).map fun el => [.row el] else none
      | none => none
    | some (.struct fs) => fieldsOf P (flat P n) 0 fs.toList
    | some (.array m e) => match flat P n e with
      | some a => if P.cellsOf e = a.length then some (List.replicate m a).flatten else none
      | none => none
    | _ => none

def PrimOk : Prim → Value → Prop
  | .int k, v => ∃ n, v = .int k n ∧ (Lit.int k n).wf = true
  | .str, v => ∃ s : ByteArray, v = .string s ∧ s.size ≤ maxLen
  | .bool, v => ∃ b, v = .bool b

def All2 {α β : Type} (R : α → β → Prop) : List α → List β → Prop
  | [], [] => True
  | x :: xs, y :: ys => R x y ∧ All2 R xs ys
  | _, _ => False

def CellOk (w : World) : CT → Value → Prop
  | .one p, v => PrimOk p v
  | .row el, v => v = .slice none 0 0 ∨ ∃ a len cap l, v = .slice (some a) len cap ∧ len ≤ cap ∧ cap ≤ maxLen ∧ 0 < el.length ∧ All2 PrimOk (List.replicate cap el).flatten l ∧ ∀ i u, l[i]? = some u → w.cell? (a.add i) = some u

section
variable {α β : Type} {R : α → β → Prop}
theorem All2.length : ∀ {xs : List α} {ys : List β}, All2 R xs ys → xs.length = ys.length
  | [], [], _ => rfl
  | x :: xs, y :: ys, h => by simp [All2.length h.2]
  | [], _ :: _, h => h.elim
  | _ :: _, [], h => h.elim
theorem All2.append : ∀ {xs xs' : List α} {ys ys' : List β}, All2 R xs ys → All2 R xs' ys' → All2 R (xs ++ xs') (ys ++ ys')
  | [], _, [], _, _, h => h
  | _x :: _xs, _, _y :: _ys, _, h, h' => ⟨h.1, h.2.append h'⟩
  | [], _, _ :: _, _, h, _ => h.elim
  | _ :: _, _, [], _, h, _ => h.elim
theorem All2.get : ∀ {xs : List α} {ys : List β}, All2 R xs ys → ∀ (i : Nat) x y, xs[i]? = some x → ys[i]? = some y → R x y
  | [], [], _, i, x, y, hx, _ => by simp at hx
  | a :: xs, b :: ys, h, 0, x, y, hx, hy => by simp at hx hy; subst hx; subst hy; exact h.1
  | a :: xs, b :: ys, h, i + 1, x, y, hx, hy => h.2.get i x y (by simpa using hx) (by simpa using hy)
  | [], _ :: _, h, _, _, _, _, _ => h.elim
  | _ :: _, [], h, _, _, _, _, _ => h.elim
theorem All2.of_get : ∀ {xs : List α} {ys : List β}, xs.length = ys.length → (∀ (i : Nat) x y, xs[i]? = some x → ys[i]? = some y → R x y) → All2 R xs ys
  | [], [], _, _ => trivial
  | x :: xs, y :: ys, hl, h => ⟨h 0 x y rfl rfl, All2.of_get (by simpa using hl) fun i a b ha hb => h (i + 1) a b (by simpa using ha) (by simpa using hb)⟩
  | [], _ :: _, hl, _ => by simp at hl
  | _ :: _, [], hl, _ => by simp at hl
theorem All2.take {xs : List α} {ys : List β} (h : All2 R xs ys) (n : Nat) : All2 R (xs.take n) (ys.take n) := by
  refine All2.of_get (by simp [h.length]) fun i x y hx hy => ?_
  rw [List.getElem?_take] at hx hy
  split at hx
  · rw [if_pos ‹_›] at hy
    exact h.get i x y hx hy
  · cases hx
end

theorem flatten_replicate_length {α : Type} (n : Nat) (el : List α) : (List.replicate n el).flatten.length = n * el.length := by
  simp

theorem take_flatten_replicate {α : Type} (n m : Nat) (el : List α) (h : n ≤ m) : (List.replicate m el).flatten.take (n * el.length) = (List.replicate n el).flatten := by
  obtain ⟨k, rfl⟩ := Nat.exists_eq_add_of_le h
  rw [← List.replicate_append_replicate, List.flatten_append, List.take_append_of_le_length (by simp), List.take_of_length_le (by simp)]

theorem onesOf_eq : ∀ {ts : List CT} {el : List Prim}, onesOf ts = some el → ts = el.map .one
  | [], el, h => by cases h; rfl
  | .row _ :: ts, el, h => by cases h
  | .one p :: ts, el, h => by
    obtain ⟨l, hl, rfl⟩ := Option.map_eq_some_iff.1 h
    rw [onesOf_eq hl]
    rfl

theorem ones_ok {w : World} : ∀ {el : List Prim} {cs : List Value}, All2 (CellOk w) (el.map .one) cs → All2 PrimOk el cs
  | [], [], _ => trivial
  | _p :: _el, _c :: _cs, h => ⟨h.1, ones_ok h.2⟩
  | [], _ :: _, h => h.elim
  | _ :: _, [], h => h.elim

variable {H : Type} {enc : TypeId × Value → H} {P : Program} {w : World} {base : Nat} {held : Bool}

theorem drop_take_append {α : Type} (l : List α) (a b : Nat) : (l.drop a).take b ++ (l.drop (a + b)) = l.drop a := by
  rw [← List.drop_drop, List.take_append_drop]

theorem addr_add_add (a : Addr) (x y : Nat) : (a.add x).add y = a.add (x + y) := by
  unfold Addr.add
  by_cases hx : x = 0
  · subst hx
    simp
  · by_cases hy : y = 0
    · subst hy
      simp
    · rw [if_neg hx, if_neg hy, if_neg (by omega)]
      simp [Nat.add_assoc]

theorem rows_join {el : List Prim} {a : Addr} : ∀ (m : Nat), (∀ i, i < m → ∃ cs : List Value, All2 PrimOk el cs ∧ ∀ k u, cs[k]? = some u → w.cell? (a.add (i * el.length + k)) = some u) →
    ∃ l, All2 PrimOk (List.replicate m el).flatten l ∧ ∀ i u, l[i]? = some u → w.cell? (a.add i) = some u
  | 0, _ => ⟨[], trivial, fun i u h => by simp at h⟩
  | m + 1, h => by
    obtain ⟨l, h1, h2⟩ := rows_join m fun i hi => h i (by omega)
    obtain ⟨cs, g1, g2⟩ := h m (by omega)
    have hl : l.length = m * el.length := by rw [← h1.length, flatten_replicate_length]
    refine ⟨l ++ cs, ?_, fun i u hi => ?_⟩
    · rw [List.replicate_succ', List.flatten_append]
      simp only [List.flatten_cons, List.flatten_nil, List.append_nil]
      exact h1.append g1
    · by_cases hlt : i < l.length
      · rw [List.getElem?_append_left hlt] at hi
        exact h2 i u hi
      · rw [List.getElem?_append_right (by omega)] at hi
        have := g2 _ u hi
        rw [show m * el.length + (i - l.length) = i by omega] at this
        exact this

theorem fields_ok {g : TypeId → Option (List CT)} {cs : List Value} : ∀ (fs : List Field) (off : Nat) (ts : List CT), fieldsOf P g off fs = some ts → cs.length = off + ts.length →
    (∀ f ∈ fs, ∀ a, g f.type = some a → All2 (CellOk w) a ((cs.drop f.offset).take (P.cellsOf f.type))) → All2 (CellOk w) ts (cs.drop off)
  | [], off, ts, h, hl, _ => by
    cases h
    rw [List.drop_of_length_le (by simp at hl; omega)]
    trivial
  | f :: fs, off, ts, h, hl, hg => by
    unfold fieldsOf at h
    split at h
    · rename_i a ha
      split at h
      · rename_i hc
        obtain ⟨r, hr, rfl⟩ := Option.map_eq_some_iff.1 h
        have h1 := hg f (List.mem_cons_self ..) a ha
        rw [hc.1, hc.2] at h1
        rw [← drop_take_append cs off a.length]
        exact h1.append (fields_ok fs _ r hr (by simp at hl; omega) fun f' hf' => hg f' (List.mem_cons_of_mem _ hf'))
      · cases h
    · cases h

theorem array_ok {a : List CT} {cs : List Value} : ∀ (m off : Nat), cs.length = off + m * a.length → (∀ i, i < m → All2 (CellOk w) a ((cs.drop (off + i * a.length)).take a.length)) → All2 (CellOk w) (List.replicate m a).flatten (cs.drop off)
  | 0, off, hl, _ => by
    rw [List.drop_of_length_le (by simp at hl; omega)]
    trivial
  | m + 1, off, hl, h => by
    rw [List.replicate_succ, List.flatten_cons, ← drop_take_append cs off a.length]
    have h0 := h 0 (by omega)
    rw [Nat.zero_mul, Nat.add_zero] at h0
    refine h0.append (array_ok m _ (by rw [hl, Nat.succ_mul]; omega) fun i hi => ?_)
    have := h (i + 1) (by omega)
    rw [Nat.succ_mul] at this
    rw [show off + a.length + i * a.length = off + (i * a.length + a.length) by omega]
    exact this

/-- What a reading says of the cells. -/
theorem trod_flat : ∀ (n : Nat) (t : TypeId) (ts : List CT) (fuel : Nat) (cs : List Value) (x : DataW H × List MemPlace), flat P n t = some ts → P.cellsOf t = ts.length → DataW.trod enc P w base (fun _ => true) held fuel t cs = some x → All2 (CellOk w) ts cs
  | 0, _, _, _, _, _, h, _, _ => by cases h
  | n + 1, t, ts, fuel, cs, x, h, hcl, hx => by
    unfold flat at h
    split at h
    · rename_i hu
      cases h
      obtain ⟨b, rfl, _⟩ := DataW.trod_bool hu hx
      exact ⟨⟨b, rfl⟩, trivial⟩
    · rename_i k hu
      cases h
      obtain ⟨m, rfl, _, hw⟩ := DataW.trod_int hu hx
      exact ⟨⟨m, rfl, hw⟩, trivial⟩
    · rename_i hu
      cases h
      obtain ⟨s, rfl, _, hw⟩ := DataW.trod_string hu hx
      exact ⟨⟨s, rfl, hw⟩, trivial⟩
    · rename_i e hu
      split at h
      · rename_i a ha
        split at h
        · rename_i hc
          obtain ⟨el, hel, rfl⟩ := Option.map_eq_some_iff.1 h
          have hae := onesOf_eq hel
          have hal : a.length = el.length := by rw [hae]; simp
          rcases Deep.open_slice hu hx with ⟨rfl, _⟩ | ⟨ad, len, cap, m, n', D, Pl, rfl, _, hle, hm, hmm, _, hel2⟩
          · exact ⟨.inl rfl, trivial⟩
          · simp at hmm
            subst hmm
            obtain ⟨l, h1, h2⟩ := rows_join (w := w) (el := el) (a := ad) m fun i hi => by
              obtain ⟨cs', hcs', ht⟩ := hel2 i hi
              have hk := trod_flat n e a n' cs' _ ha hc.1 ht
              rw [hae] at hk
              refine ⟨cs', ones_ok hk, fun k u hk => ?_⟩
              obtain ⟨_, hcl', hce⟩ := World.cells?_some hcs'
              have hkl : k < P.cellsOf e := by rw [← hcl']; exact (List.getElem?_eq_some_iff.1 hk).1
              have := hce k hkl
              rw [hk] at this
              rw [← hal, ← hc.1]
              rw [← this, addr_add_add]
            exact ⟨.inr ⟨ad, len, m, l, rfl, hle, hm, by omega, h1, h2⟩, trivial⟩
        · cases h
      · cases h
    · rename_i fs hu
      obtain ⟨xs, m, _, _, hl, hxl, hf⟩ := DataW.trod_struct hu hx
      have := fields_ok (w := w) (cs := cs) fs.toList 0 ts h (by omega) fun f hf' a ha => ?_
      · simpa using this
      · obtain ⟨i, hi⟩ := List.getElem?_of_mem hf'
        have hi' : fs[i]? = some f := by simpa using hi
        have h1 := hf i f hi'
        have hilt : i < xs.length := by rw [hxl]; exact (Array.getElem?_eq_some_iff.1 hi').1
        rw [List.getElem?_eq_getElem hilt] at h1
        refine trod_flat n f.type a m _ _ ha ?_ h1
        -- the count of cells
        have : ∀ (fs : List Field) (off : Nat) (ts : List CT), fieldsOf P (flat P n) off fs = some ts → ∀ f ∈ fs, ∀ a, flat P n f.type = some a → P.cellsOf f.type = a.length := by
          intro fs
          induction fs with
          | nil => intro off ts h f hf; cases hf
          | cons f0 fs ih =>
            intro off ts h f hf a ha
            unfold fieldsOf at h
            split at h
            · rename_i a0 ha0
              split at h
              · rename_i hc
                obtain ⟨r, hr, _⟩ := Option.map_eq_some_iff.1 h
                rcases List.mem_cons.1 hf with rfl | hf
                · rw [ha0] at ha; cases ha; exact hc.2
                · exact ih _ _ hr f hf a ha
              · cases h
            · cases h
        exact this _ _ _ h f hf' a ha
    · rename_i m e hu
      split at h
      · rename_i a ha
        split at h
        · rename_i hc
          cases h
          obtain ⟨xs, k, _, _, hl, hxl, hf⟩ := DataW.trod_array hu hx
          have := array_ok (w := w) (a := a) (cs := cs) m 0 (by rw [hl, hcl, flatten_replicate_length]; omega) fun i hi => ?_
          · simpa using this
          · have h1 := hf i hi
            rw [List.getElem?_eq_getElem (by omega)] at h1
            rw [hc] at h1
            rw [Nat.zero_add]
            exact trod_flat n e a k _ _ ha hc h1
        · cases h
      · cases h
    · cases h

end Go.Proofs.Ytbbgmaklmlagcaa
