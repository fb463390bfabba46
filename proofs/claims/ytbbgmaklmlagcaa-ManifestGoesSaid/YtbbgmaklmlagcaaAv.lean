/- Abstract values, abstract heaps, and how a world shows them. -/
import Derived.Test.YtbbgmaklmlagcaaBase
import Derived.OwnWalkIn
import Derived.Below
import Derived.TacticsInMore
namespace Go.Proofs.Ytbbgmaklmlagcaa

/-- Where a block of the abstract heap lies. -/
structure JB where
  blk : Nat
  base : Nat
  size : Nat

abbrev Inj := Nat → Option JB

inductive AV where
  | top
  | bool (b : Bool)
  | int (k : IntKind) (n : Int)
  | str (s : List UInt8)
  | ptr (b off : Nat)
  | nilp
  | slice (b off len sz : Nat) (clip : Bool)
  | sl (b off len sz : Nat) (clip : Bool)
  | nils
  | map (b : Nat)
  | nilm
  | func (f : Nat) (first cap : List AV)
  | yld (b : Nat)
  | nilf
  | agg (l : List AV)
  | tuple (l : List AV)
  deriving Inhabited

mutual
def VR (j : Inj) : AV → Value → Prop
  | .top, _ => True
  | .bool b, v => v = .bool b
  | .int k n, v => v = .int k n
  | .str s, v => v = .string ⟨s.toArray⟩
  | .ptr b off, v => ∃ p, j b = some p ∧ v = .pointer (some ⟨p.blk, p.base + off, none⟩)
  | .nilp, v => v = .pointer none
  | .slice b off len sz clip, v => ∃ p a cap, j b = some p ∧ v = .slice (some a) len cap ∧ len ≤ cap ∧ (clip = true → cap = len) ∧ cap ≤ maxLen ∧
      (cap = 0 ∨ (a = ⟨p.blk, p.base + off, none⟩ ∧ p.base + off + cap * sz ≤ p.size))
  | .sl b off len sz clip, v => (len = 0 ∧ v = .slice none 0 0) ∨ ∃ p a cap, j b = some p ∧ v = .slice (some a) len cap ∧ len ≤ cap ∧ (clip = true → cap = len) ∧ cap ≤ maxLen ∧
      (cap = 0 ∨ (a = ⟨p.blk, p.base + off, none⟩ ∧ p.base + off + cap * sz ≤ p.size))
  | .nils, v => v = .slice none 0 0
  | .map b, v => ∃ p, j b = some p ∧ v = .map (some p.blk)
  | .nilm, v => v = .map none
  | .func f xs ys, v => ∃ cx cy, v = .func (.func f) cx cy ∧ VRs j xs cx.toList ∧ VRs j ys cy.toList
  | .yld b, v => ∃ p, j b = some p ∧ v = .func (.yield p.blk) #[] #[]
  | .nilf, v => v = .nilFunc
  | .agg l, v => ∃ cs, v = .agg cs ∧ VRs j l cs.toList
  | .tuple l, v => ∃ cs, v = .tuple cs ∧ VRs j l cs.toList
def VRs (j : Inj) : List AV → List Value → Prop
  | [], vs => vs = []
  | x :: xs, vs => ∃ v ws, vs = v :: ws ∧ VR j x v ∧ VRs j xs ws
end

/-- One injection says all that another one says. -/
def JLe (j j' : Inj) : Prop := ∀ b p, j b = some p → j' b = some p

theorem JLe.refl (j : Inj) : JLe j j := fun _ _ h => h
theorem JLe.trans {a b c : Inj} (h : JLe a b) (k : JLe b c) : JLe a c := fun x p hx => k x p (h x p hx)

mutual
theorem VR.mono {j j' : Inj} (h : JLe j j') : ∀ (x : AV) (v : Value), VR j x v → VR j' x v
  | .top, _, _ => by simp [VR]
  | .bool b, v, hv => by simpa [VR] using hv
  | .int k n, v, hv => by simpa [VR] using hv
  | .str s, v, hv => by simpa [VR] using hv
  | .ptr b off, v, hv => by
    simp only [VR] at hv ⊢
    obtain ⟨p, hp, e⟩ := hv
    exact ⟨p, h b p hp, e⟩
  | .nilp, v, hv => by simpa [VR] using hv
  | .slice b off len sz clip, v, hv => by
    simp only [VR] at hv ⊢
    obtain ⟨p, a, cap, hp, r⟩ := hv
    exact ⟨p, a, cap, h b p hp, r⟩
  | .sl b off len sz clip, v, hv => by
    simp only [VR] at hv ⊢
    rcases hv with hv | ⟨p, a, cap, hp, r⟩
    · exact .inl hv
    · exact .inr ⟨p, a, cap, h b p hp, r⟩
  | .nils, v, hv => by simpa [VR] using hv
  | .map b, v, hv => by
    simp only [VR] at hv ⊢
    obtain ⟨p, hp, e⟩ := hv
    exact ⟨p, h b p hp, e⟩
  | .nilm, v, hv => by simpa [VR] using hv
  | .func f xs ys, v, hv => by
    simp only [VR] at hv ⊢
    obtain ⟨cx, cy, e, h1, h2⟩ := hv
    exact ⟨cx, cy, e, VRs.mono h xs _ h1, VRs.mono h ys _ h2⟩
  | .yld b, v, hv => by
    simp only [VR] at hv ⊢
    obtain ⟨p, hp, e⟩ := hv
    exact ⟨p, h b p hp, e⟩
  | .nilf, v, hv => by simpa [VR] using hv
  | .agg l, v, hv => by
    simp only [VR] at hv ⊢
    obtain ⟨cs, e, h1⟩ := hv
    exact ⟨cs, e, VRs.mono h l _ h1⟩
  | .tuple l, v, hv => by
    simp only [VR] at hv ⊢
    obtain ⟨cs, e, h1⟩ := hv
    exact ⟨cs, e, VRs.mono h l _ h1⟩
theorem VRs.mono {j j' : Inj} (h : JLe j j') : ∀ (xs : List AV) (vs : List Value), VRs j xs vs → VRs j' xs vs
  | [], vs, hv => by simpa [VRs] using hv
  | x :: xs, vs, hv => by
    simp only [VRs] at hv ⊢
    obtain ⟨v, ws, e, h1, h2⟩ := hv
    exact ⟨v, ws, e, VR.mono h x v h1, VRs.mono h xs ws h2⟩
end

/-- A slice that may be nil: it is, or it is not. -/
theorem VR_sl {j : Inj} {b off len sz : Nat} {clip : Bool} {v : Value} (h : VR j (.sl b off len sz clip) v) : (len = 0 ∧ v = .slice none 0 0) ∨ VR j (.slice b off len sz clip) v := by
  simp only [VR] at h ⊢
  exact h

theorem VR_sl_of {j : Inj} {b off len sz : Nat} {clip : Bool} {v : Value} (h : VR j (.slice b off len sz clip) v) : VR j (.sl b off len sz clip) v := by
  simp only [VR] at h ⊢
  exact .inr h

theorem VR_sl_pos {j : Inj} {b off len sz : Nat} {clip : Bool} {v : Value} (hn : 0 < len) (h : VR j (.sl b off len sz clip) v) : VR j (.slice b off len sz clip) v := by
  rcases VR_sl h with ⟨h0, _⟩ | h1
  · omega
  · exact h1

theorem VRs.length {j : Inj} : ∀ {xs : List AV} {vs : List Value}, VRs j xs vs → xs.length = vs.length
  | [], vs, h => by simp only [VRs] at h; subst h; rfl
  | x :: xs, vs, h => by
    simp only [VRs] at h
    obtain ⟨v, ws, rfl, _, h2⟩ := h
    simp [VRs.length h2]

theorem VRs_iff {j : Inj} : ∀ {xs : List AV} {vs : List Value}, VRs j xs vs ↔ xs.length = vs.length ∧ ∀ (i : Nat) x v, xs[i]? = some x → vs[i]? = some v → VR j x v
  | [], vs => by
    simp only [VRs]
    constructor
    · rintro rfl; simp
    · rintro ⟨h, _⟩; exact List.eq_nil_of_length_eq_zero (by simpa using h.symm)
  | x :: xs, vs => by
    simp only [VRs]
    constructor
    · rintro ⟨v, ws, rfl, h1, h2⟩
      have := (VRs_iff (xs := xs) (vs := ws)).1 h2
      refine ⟨by simp [this.1], fun i y u hy hu => ?_⟩
      cases i with
      | zero => simp at hy hu; subst hy; subst hu; exact h1
      | succ i => exact this.2 i y u (by simpa using hy) (by simpa using hu)
    · rintro ⟨hl, h⟩
      cases vs with
      | nil => simp at hl
      | cons v ws =>
        refine ⟨v, ws, rfl, h 0 x v rfl rfl, ?_⟩
        exact (VRs_iff (xs := xs) (vs := ws)).2 ⟨by simpa using hl, fun i y u hy hu => h (i + 1) y u (by simpa using hy) (by simpa using hu)⟩

theorem VRs.at {j : Inj} {xs : List AV} {vs : List Value} (h : VRs j xs vs) {i : Nat} {x : AV} (hx : xs[i]? = some x) : ∃ v, vs[i]? = some v ∧ VR j x v := by
  have := VRs_iff.1 h
  have hi : i < xs.length := by
    rcases Nat.lt_or_ge i xs.length with h1 | h1
    · exact h1
    · rw [List.getElem?_eq_none h1] at hx; cases hx
  exact ⟨vs[i]'(by omega), List.getElem?_eq_getElem _, this.2 i x _ hx (List.getElem?_eq_getElem _)⟩

theorem VRs.set {j : Inj} {xs : List AV} {vs : List Value} (h : VRs j xs vs) (i : Nat) {x : AV} {v : Value} (hx : VR j x v) : VRs j (xs.set i x) (vs.set i v) := by
  have := VRs_iff.1 h
  refine VRs_iff.2 ⟨by simp [this.1], fun k y u hy hu => ?_⟩
  rw [List.getElem?_set] at hy hu
  by_cases hk : i = k
  · subst hk
    simp only [↓reduceIte] at hy hu
    split at hy <;> split at hu <;> simp_all
  · simp only [hk, ↓reduceIte] at hy hu
    exact this.2 k y u hy hu

theorem VRs.append {j : Inj} {xs ys : List AV} {vs ws : List Value} (h : VRs j xs vs) (k : VRs j ys ws) : VRs j (xs ++ ys) (vs ++ ws) := by
  have h1 := VRs_iff.1 h
  have h2 := VRs_iff.1 k
  refine VRs_iff.2 ⟨by simp [h1.1, h2.1], fun i y u hy hu => ?_⟩
  rw [List.getElem?_append] at hy hu
  rw [h1.1] at hy
  split at hy <;> rename_i hlt
  · rw [if_pos hlt] at hu
    exact h1.2 i y u hy hu
  · rw [if_neg hlt] at hu
    exact h2.2 _ y u hy hu

theorem VRs.take {j : Inj} {xs : List AV} {vs : List Value} (h : VRs j xs vs) (n : Nat) : VRs j (xs.take n) (vs.take n) := by
  have h1 := VRs_iff.1 h
  refine VRs_iff.2 ⟨by simp [h1.1], fun i y u hy hu => ?_⟩
  rw [List.getElem?_take] at hy hu
  split at hy <;> rename_i hlt
  · rw [if_pos hlt] at hu
    exact h1.2 i y u hy hu
  · cases hy

theorem VRs.drop {j : Inj} {xs : List AV} {vs : List Value} (h : VRs j xs vs) (n : Nat) : VRs j (xs.drop n) (vs.drop n) := by
  have h1 := VRs_iff.1 h
  refine VRs_iff.2 ⟨by simp [h1.1], fun i y u hy hu => ?_⟩
  rw [List.getElem?_drop] at hy hu
  exact h1.2 _ y u hy hu

theorem VRs.replicate {j : Inj} {x : AV} {v : Value} (h : VR j x v) (n : Nat) : VRs j (List.replicate n x) (List.replicate n v) := by
  refine VRs_iff.2 ⟨by simp, fun i y u hy hu => ?_⟩
  rw [List.getElem?_replicate] at hy hu
  split at hy <;> simp_all

theorem VRs.map {α : Type} {j : Inj} (l : List α) (f : α → AV) (g : α → Value) (h : ∀ a ∈ l, VR j (f a) (g a)) : VRs j (l.map f) (l.map g) := by
  refine VRs_iff.2 ⟨by simp, fun i y u hy hu => ?_⟩
  rw [List.getElem?_map] at hy hu
  cases hg : l[i]? with
  | none => rw [hg] at hy; cases hy
  | some a =>
    rw [hg] at hy hu
    cases hy; cases hu
    exact h a (List.mem_of_getElem? hg)

/-- A block of the abstract heap: no more known, or a row of cells (own: nobody else has it, and behind its last cell nothing is known to anyone). -/
inductive ABlk where
  | dead
  | cells (own : Bool) (l : List AV)
  | loop (ps : Array Tmp) (assign body : Code) (st : LoopState) (pe : Option Code) (F : List AV)
  | map (es : List (AV × AV))
  deriving Inhabited

abbrev AHeap := List ABlk

/-- Who has this block may change it. -/
def ABlk.own : ABlk → Bool
  | .dead => false
  | .cells o _ => o
  | .loop .. => true
  | .map _ => true

theorem own_nd {y : ABlk} (h : y.own = true) : y ≠ .dead := by rintro rfl; cases h

/-- The record of a loop over a function. -/
def arec (fn : FuncId) (tmps : Array Value) (ps : Array Tmp) (assign body : Code) (D : Nat) (st : LoopState) (pe : Option Code) : Obj :=
  .loop { state := st, pending := pe, fn, tmps, params := ps, assign, body, defers := D }

/-- A map's entries. -/
def MRel (j : Inj) (es : List (AV × AV)) (ents : List MapEntry) : Prop := es.length = ents.length ∧ ∀ (i : Nat) x e, es[i]? = some x → ents[i]? = some e → VR j x.1 e.key ∧ VR j x.2 e.val

theorem MRel.mono {j j' : Inj} (h : JLe j j') {es : List (AV × AV)} {ents : List MapEntry} (hm : MRel j es ents) : MRel j' es ents :=
  ⟨hm.1, fun i x e hx he => ⟨VR.mono h _ _ (hm.2 i x e hx he).1, VR.mono h _ _ (hm.2 i x e hx he).2⟩⟩

def BRel (j : Inj) (w : World) : ABlk → JB → Prop
  | .map es, p => ∃ ents clock, w.heap[p.blk]? = some (.map ents clock) ∧ MRel j es ents.toList
  | .dead, _ => True
  | .cells own l, p => ∃ cs T fz, w.heap[p.blk]? = some (.cells cs T fz) ∧ cs.size = p.size ∧ p.base + l.length ≤ p.size ∧
      (∀ (i : Nat) x, l[i]? = some x → ∃ v, cs[p.base + i]? = some v ∧ VR j x v) ∧ (own = true → ∀ i, i < p.size → ¬ (fz.1 ≤ i ∧ i < fz.2))
  | .loop ps assign body st pe F, p => ∃ fn tmps D, w.heap[p.blk]? = some (arec fn tmps ps assign body D st pe) ∧ VRs j F tmps.toList

/-- A world shows an abstract heap. -/
structure R (j : Inj) (H : AHeap) (w : World) : Prop where
  dom : ∀ b, H.length ≤ b → j b = none
  blk : ∀ b x p, H[b]? = some x → j b = some p → BRel j w x p
  inj : ∀ b b' y x p p', H[b]? = some y → y.own = true → H[b']? = some x → x ≠ .dead → b ≠ b' → j b = some p → j b' = some p' → p.blk ≠ p'.blk

/-- Nothing is changed but what is owned, and what is new. -/
structure Keeps (j : Inj) (H : AHeap) (w w' : World) : Prop where
  os : w'.os = w.os
  tape : w'.tape = w.tape
  output : w'.output = w.output
  size : w.heap.size ≤ w'.heap.size
  block : ∀ c, c < w.heap.size → (∀ b y p, H[b]? = some y → y.own = true → j b = some p → p.blk ≠ c) → w'.heap[c]? = w.heap[c]?

/-- From one abstract heap to another one: the first n blocks stay where they are. -/
structure Step (n : Nat) (j : Inj) (H : AHeap) (w : World) (j' : Inj) (H' : AHeap) (w' : World) : Prop where
  rel : R j' H' w'
  ext : ∀ b, b < n → j' b = j b
  len : n ≤ H'.length
  keeps : Keeps j H w w'
  fresh : ∀ b y p, H'[b]? = some y → y.own = true → j' b = some p → w.heap.size ≤ p.blk ∨ ∃ b0 y0 p0, H[b0]? = some y0 ∧ y0.own = true ∧ j b0 = some p0 ∧ p0.blk = p.blk

theorem Keeps.refl (j : Inj) (H : AHeap) (w : World) : Keeps j H w w := ⟨rfl, rfl, rfl, Nat.le_refl _, fun _ _ _ => rfl⟩

theorem Step.refl {n : Nat} {j : Inj} {H : AHeap} {w : World} (h : R j H w) (hn : n ≤ H.length) : Step n j H w j H w :=
  ⟨h, fun _ _ => rfl, hn, Keeps.refl _ _ _, fun b y p hb hy hp => .inr ⟨b, y, p, hb, hy, hp, rfl⟩⟩

theorem Step.trans {n m : Nat} {j j1 j2 : Inj} {H H1 H2 : AHeap} {w w1 w2 : World} (h : Step n j H w j1 H1 w1) (k : Step m j1 H1 w1 j2 H2 w2) (hm : n ≤ m) : Step n j H w j2 H2 w2 := by
  refine ⟨k.rel, fun b hb => (k.ext b (by omega)).trans (h.ext b hb), Nat.le_trans hm k.len, ?_, ?_⟩
  · refine ⟨k.keeps.os.trans h.keeps.os, k.keeps.tape.trans h.keeps.tape, k.keeps.output.trans h.keeps.output, Nat.le_trans h.keeps.size k.keeps.size, fun c hc ho => ?_⟩
    rw [k.keeps.block c (Nat.lt_of_lt_of_le hc h.keeps.size), h.keeps.block c hc ho]
    intro b l p hb hy hp he
    rcases h.fresh b l p hb hy hp with h1 | ⟨b0, l0, p0, h0, hy0, hp0, e0⟩
    · omega
    · exact ho b0 l0 p0 h0 hy0 hp0 (by omega)
  · intro b l p hb hy hp
    rcases k.fresh b l p hb hy hp with h1 | ⟨b0, l0, p0, h0, hy0, hp0, e0⟩
    · exact .inl (Nat.le_trans h.keeps.size h1)
    · rcases h.fresh b0 l0 p0 h0 hy0 hp0 with h1 | ⟨b1, l1, p1, h2, hy1, hp1, e1⟩
      · exact .inl (by omega)
      · exact .inr ⟨b1, l1, p1, h2, hy1, hp1, by omega⟩

theorem Step.weaken {n m : Nat} {j j' : Inj} {H H' : AHeap} {w w' : World} (h : Step m j H w j' H' w') (hn : n ≤ m) : Step n j H w j' H' w' :=
  ⟨h.rel, fun b hb => h.ext b (by omega), Nat.le_trans hn h.len, h.keeps, h.fresh⟩

theorem Step.jle {n : Nat} {j j' : Inj} {H H' : AHeap} {w w' : World} (h : Step n j H w j' H' w') (hr : R j H w) (hn : H.length ≤ n) : JLe j j' := by
  intro b p hp
  rcases Nat.lt_or_ge b n with h1 | h1
  · rw [h.ext b h1]; exact hp
  · rw [hr.dom b (by omega)] at hp; cases hp

theorem R.lt {j : Inj} {H : AHeap} {w : World} (h : R j H w) {b : Nat} {own : Bool} {l : List AV} {p : JB} (hb : H[b]? = some (.cells own l)) (hp : j b = some p) : p.blk < w.heap.size := by
  obtain ⟨cs, T, fz, h1, _⟩ := h.blk b _ p hb hp
  exact (Array.getElem?_eq_some_iff.1 h1).1

theorem R.ltx {j : Inj} {H : AHeap} {w : World} (h : R j H w) {b : Nat} {x : ABlk} {p : JB} (hb : H[b]? = some x) (hx : x ≠ .dead) (hp : j b = some p) : p.blk < w.heap.size := by
  cases x with
  | dead => exact absurd rfl hx
  | cells o l => exact h.lt hb hp
  | loop ps asg body st pe F =>
    obtain ⟨fn, tmps, D, h1, _⟩ := h.blk b _ p hb hp
    exact (Array.getElem?_eq_some_iff.1 h1).1
  | map es =>
    obtain ⟨ents, cl, h1, _⟩ := h.blk b _ p hb hp
    exact (Array.getElem?_eq_some_iff.1 h1).1

theorem R.live {j : Inj} {H : AHeap} {w : World} (h : R j H w) {b : Nat} {p : JB} (hp : j b = some p) : ∃ x, H[b]? = some x := by
  rcases Nat.lt_or_ge b H.length with h1 | h1
  · exact ⟨_, List.getElem?_eq_getElem h1⟩
  · rw [h.dom b h1] at hp; cases hp

theorem BRel.mono {j j' : Inj} {w w' : World} {x : ABlk} {p : JB} (h : BRel j w x p) (hj : JLe j j') (hw : x ≠ .dead → w'.heap[p.blk]? = w.heap[p.blk]?) : BRel j' w' x p := by
  cases x with
  | dead => trivial
  | cells own l =>
    obtain ⟨cs, T, fz, h1, h2, h3, h4, h5⟩ := h
    refine ⟨cs, T, fz, by rw [hw (by simp)]; exact h1, h2, h3, fun i x hx => ?_, h5⟩
    obtain ⟨v, hv, hr⟩ := h4 i x hx
    exact ⟨v, hv, hr.mono hj⟩
  | loop ps asg body st pe F =>
    obtain ⟨fn, tmps, D, h1, h2⟩ := h
    exact ⟨fn, tmps, D, by rw [hw (by simp)]; exact h1, VRs.mono hj _ _ h2⟩
  | map es =>
    obtain ⟨ents, cl, h1, h2⟩ := h
    exact ⟨ents, cl, by rw [hw (by simp)]; exact h1, h2.mono hj⟩

/-- A new block. -/
def jput (j : Inj) (b : Nat) (p : JB) : Inj := fun x => if x = b then some p else j x

theorem jput_same (j : Inj) (b : Nat) (p : JB) : jput j b p b = some p := by simp [jput]

theorem jput_le {j : Inj} {b : Nat} {p : JB} (h : j b = none) : JLe j (jput j b p) := by
  intro x q hx
  unfold jput
  split
  · subst_vars; rw [h] at hx; cases hx
  · exact hx

theorem step_newG {j : Inj} {H : AHeap} {w w' : World} (h : R j H w) (own : Bool) (l : List AV) (cs : Array Value) (T : Nat) (fz : Nat × Nat) (hw : w'.heap = w.heap.push (.cells cs T fz))
    (hos : w'.os = w.os) (htape : w'.tape = w.tape) (hout : w'.output = w.output) (hle0 : l.length ≤ cs.size) (hl : VRs j l (cs.toList.take l.length)) (hfz : own = true → ∀ i, i < cs.size → ¬ (fz.1 ≤ i ∧ i < fz.2)) :
    Step H.length j H w (jput j H.length ⟨w.heap.size, 0, cs.size⟩) (H ++ [.cells own l]) w' := by
  have hnone : j H.length = none := h.dom _ (Nat.le_refl _)
  have hle : JLe j (jput j H.length ⟨w.heap.size, 0, cs.size⟩) := jput_le hnone
  have hold : ∀ c, c < w.heap.size → w'.heap[c]? = w.heap[c]? := fun c hc => by
    rw [hw, Array.getElem?_push]
    rw [if_neg (by omega)]
  have hnew : w'.heap[w.heap.size]? = some (.cells cs T fz) := by
    rw [hw]
    simp
  refine ⟨⟨?_, ?_, ?_⟩, ?_, by simp, ⟨hos, htape, hout, by rw [hw]; simp, fun c hc _ => hold c hc⟩, ?_⟩
  · intro b hb
    simp at hb
    unfold jput
    rw [if_neg (by omega)]
    exact h.dom b (by omega)
  · intro b x p hb hp
    rw [List.getElem?_append] at hb
    split at hb <;> rename_i hlt
    · have hp' : j b = some p := by unfold jput at hp; rw [if_neg (by omega)] at hp; exact hp
      exact (h.blk b x p hb hp').mono hle fun hx => hold _ (h.ltx hb hx hp')
    · have hb0 : b = H.length := by
        rcases Nat.lt_or_ge (b - H.length) 1 with h1 | h1
        · omega
        · rw [List.getElem?_eq_none (by simpa using h1)] at hb; cases hb
      subst hb0
      simp at hb
      subst hb
      rw [jput_same] at hp
      cases hp
      refine ⟨cs, T, fz, hnew, rfl, by simpa using hle0, fun i x hx => ?_, hfz⟩
      obtain ⟨v, hv, hr⟩ := hl.at hx
      have hil : i < l.length := (List.getElem?_eq_some_iff.1 hx).1
      refine ⟨v, ?_, hr.mono hle⟩
      rw [List.getElem?_take, if_pos hil] at hv
      simpa using hv
  · intro b b' l' x p p' hb hy hb' hx hne hp hp'
    have hcase : ∀ c y q, (H ++ [ABlk.cells own l])[c]? = some y → y ≠ .dead → jput j H.length ⟨w.heap.size, 0, cs.size⟩ c = some q → (c = H.length ∧ q.blk = w.heap.size) ∨ (H[c]? = some y ∧ j c = some q ∧ q.blk < w.heap.size) := by
      intro c y q hc hy hq
      rw [List.getElem?_append] at hc
      split at hc <;> rename_i hlt
      · have hq' : j c = some q := by unfold jput at hq; rw [if_neg (by omega)] at hq; exact hq
        exact .inr ⟨hc, hq', h.ltx hc hy hq'⟩
      · have hc0 : c = H.length := by
          rcases Nat.lt_or_ge (c - H.length) 1 with h1 | h1
          · omega
          · rw [List.getElem?_eq_none (by simpa using h1)] at hc; cases hc
        subst hc0
        rw [jput_same] at hq
        cases hq
        exact .inl ⟨rfl, rfl⟩
    rcases hcase b _ p hb (by rintro rfl; cases hy) hp with ⟨h1, h2⟩ | ⟨h1, h2, h3⟩ <;> rcases hcase b' _ p' hb' hx hp' with ⟨k1, k2⟩ | ⟨k1, k2, k3⟩
    · omega
    · omega
    · omega
    · exact h.inj b b' l' x p p' h1 hy k1 hx hne h2 k2
  · intro b hb
    unfold jput
    rw [if_neg (by omega)]
  · intro b l' p hb hy hp
    rw [List.getElem?_append] at hb
    split at hb <;> rename_i hlt
    · have hp' : j b = some p := by unfold jput at hp; rw [if_neg (by omega)] at hp; exact hp
      exact .inr ⟨b, l', p, hb, hy, hp', rfl⟩
    · have hb0 : b = H.length := by
        rcases Nat.lt_or_ge (b - H.length) 1 with h1 | h1
        · omega
        · rw [List.getElem?_eq_none (by simpa using h1)] at hb; cases hb
      subst hb0
      rw [jput_same] at hp
      cases hp
      exact .inl (Nat.le_refl _)

theorem step_new {j : Inj} {H : AHeap} {w : World} (h : R j H w) (own : Bool) (l : List AV) (cs : Array Value) (T : Nat) (hl : VRs j l cs.toList) :
    Step H.length j H w (jput j H.length ⟨w.heap.size, 0, cs.size⟩) (H ++ [.cells own l]) (w.alloc (.cells cs T)) := by
  have hlen : l.length = cs.size := by simpa using hl.length
  exact step_newG h own l cs T (0, 0) rfl rfl rfl rfl (by omega) (by rw [hlen, ← Array.length_toList, List.take_length]; exact hl) (fun _ i _ hh => by simp at hh)

end Go.Proofs.Ytbbgmaklmlagcaa
