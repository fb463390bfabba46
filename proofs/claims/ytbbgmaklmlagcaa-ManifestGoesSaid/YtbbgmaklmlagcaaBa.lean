/- The frame rule for callees that only make blocks: their contract beside whatever else there is. -/
import Derived.Test.YtbbgmaklmlagcaaAz
namespace Go.Proofs.Ytbbgmaklmlagcaa

mutual
/-- The same value, its blocks' names moved by k. -/
def shA (k : Nat) : AV → AV
  | .ptr b o => .ptr (k + b) o
  | .slice b o l sz c => .slice (k + b) o l sz c
  | .sl b o l sz c => .sl (k + b) o l sz c
  | .map b => .map (k + b)
  | .func f xs ys => .func f (shAs k xs) (shAs k ys)
  | .yld b => .yld (k + b)
  | .agg l => .agg (shAs k l)
  | .tuple l => .tuple (shAs k l)
  | x => x
def shAs (k : Nat) : List AV → List AV
  | [] => []
  | x :: xs => shA k x :: shAs k xs
end

def shB (k : Nat) : ABlk → ABlk
  | .dead => .dead
  | .cells o l => .cells o (shAs k l)
  | .loop ps a b st pe F => .loop ps a b st pe (shAs k F)
  | .map es => .map (es.map fun e => (shA k e.1, shA k e.2))

def jadd (k : Nat) (j j' : Inj) : Inj := fun b => if b < k then j b else j' (b - k)

@[simp] theorem jadd_ge (k b : Nat) (j j' : Inj) : jadd k j j' (k + b) = j' b := by
  unfold jadd
  rw [if_neg (by omega), Nat.add_sub_cancel_left]

mutual
theorem shA_ok {k : Nat} {j j' : Inj} : ∀ (x : AV) (v : Value), VR j' x v → VR (jadd k j j') (shA k x) v
  | .top, _, _ => by simp [shA, VR]
  | .bool b, v, h => by simpa [shA, VR] using h
  | .int _ n, v, h => by simpa [shA, VR] using h
  | .str s, v, h => by simpa [shA, VR] using h
  | .ptr b o, v, h => by simpa [shA, VR] using h
  | .nilp, v, h => by simpa [shA, VR] using h
  | .slice b o l sz c, v, h => by simpa [shA, VR] using h
  | .sl b o l sz c, v, h => by simpa [shA, VR] using h
  | .nils, v, h => by simpa [shA, VR] using h
  | .map b, v, h => by simpa [shA, VR] using h
  | .nilm, v, h => by simpa [shA, VR] using h
  | .func f xs ys, v, h => by
    simp only [shA, VR] at h ⊢
    obtain ⟨cx, cy, e, h1, h2⟩ := h
    exact ⟨cx, cy, e, shAs_ok xs _ h1, shAs_ok ys _ h2⟩
  | .yld b, v, h => by simpa [shA, VR] using h
  | .nilf, v, h => by simpa [shA, VR] using h
  | .agg l, v, h => by
    simp only [shA, VR] at h ⊢
    obtain ⟨cs, e, h1⟩ := h
    exact ⟨cs, e, shAs_ok l _ h1⟩
  | .tuple l, v, h => by
    simp only [shA, VR] at h ⊢
    obtain ⟨cs, e, h1⟩ := h
    exact ⟨cs, e, shAs_ok l _ h1⟩
theorem shAs_ok {k : Nat} {j j' : Inj} : ∀ (xs : List AV) (vs : List Value), VRs j' xs vs → VRs (jadd k j j') (shAs k xs) vs
  | [], vs, h => by simpa [shAs, VRs] using h
  | x :: xs, vs, h => by
    simp only [shAs, VRs] at h ⊢
    obtain ⟨v, ws, e, h1, h2⟩ := h
    exact ⟨v, ws, e, shA_ok x v h1, shAs_ok xs ws h2⟩
end

theorem shAs_length (k : Nat) : ∀ xs : List AV, (shAs k xs).length = xs.length
  | [] => rfl
  | x :: xs => by simp [shAs, shAs_length k xs]

theorem shAs_get (k : Nat) : ∀ (xs : List AV) (i : Nat), (shAs k xs)[i]? = (xs[i]?).map (shA k)
  | [], i => by simp [shAs]
  | x :: xs, 0 => by simp [shAs]
  | x :: xs, i + 1 => by simp [shAs, shAs_get k xs i]

theorem shB_own (k : Nat) (y : ABlk) : (shB k y).own = y.own := by cases y <;> rfl

theorem shB_ok {k : Nat} {j j' : Inj} {w : World} {y : ABlk} {p : JB} (h : BRel j' w y p) : BRel (jadd k j j') w (shB k y) p := by
  cases y with
  | dead => trivial
  | cells o l =>
    obtain ⟨cs, T, fz, g1, g2, g3, g4, g5⟩ := h
    refine ⟨cs, T, fz, g1, g2, by rw [shAs_length]; exact g3, fun i x hx => ?_, g5⟩
    rw [shAs_get] at hx
    obtain ⟨x', hx', rfl⟩ := Option.map_eq_some_iff.1 hx
    obtain ⟨v, hv, hr⟩ := g4 i x' hx'
    exact ⟨v, hv, shA_ok x' v hr⟩
  | loop ps a b st pe F =>
    obtain ⟨fn, tmps, D, g1, g2⟩ := h
    exact ⟨fn, tmps, D, g1, shAs_ok F _ g2⟩
  | map es =>
    obtain ⟨ents, cl, g1, g2, g3⟩ := h
    refine ⟨ents, cl, g1, by simpa using g2, fun i z e hz he => ?_⟩
    rw [List.getElem?_map] at hz
    obtain ⟨x, hx, rfl⟩ := Option.map_eq_some_iff.1 hz
    have := g3 i x e hx he
    exact ⟨shA_ok _ _ this.1, shA_ok _ _ this.2⟩

/-- Each block is the callee's own, or dead. -/
def allOwn (H : AHeap) : Bool := H.all fun x => match x with | .cells o _ => o | _ => true

theorem ct_new {P : Program} {f : FuncId} {args : List AV} {H H' : AHeap} {v : AV} (h : Ct P f args [] v H') (ha : frees args = true) (ho : allOwn H' = true) : Ct P f args H (shA H.length v) (H ++ H'.map (shB H.length)) := by
  intro j w cargs hR hargs
  have hR0 : R (fun _ => none) [] w := ⟨fun _ _ => rfl, fun b x p hb => by simp at hb, fun b b' l x p p' hb => by simp at hb⟩
  refine (h (fun _ => none) w cargs hR0 (VRs.free _ _ ha hargs)).mono ?_
  rintro e w' ⟨cv, j', rfl, h1, h2⟩
  have hk := keeps_all h2.keeps (by rfl)
  have hfr : ∀ b y p, H'[b]? = some y → y ≠ .dead → j' b = some p → y.own = true ∧ w.heap.size ≤ p.blk := by
    intro b y p hb hy hp
    have hyo : y.own = true := by
      have := List.all_eq_true.1 ho _ (List.mem_of_getElem? hb)
      cases y <;> simp_all [ABlk.own]
    refine ⟨hyo, ?_⟩
    rcases h2.fresh b y p hb hyo hp with h3 | ⟨b0, y0, p0, h3, _⟩
    · exact h3
    · simp at h3
  have hle : JLe j (jadd H.length j j') := by
    intro b p hp
    have hb : b < H.length := by
      rcases Nat.lt_or_ge b H.length with h3 | h3
      · exact h3
      · rw [hR.dom b h3] at hp; cases hp
    unfold jadd
    rw [if_pos hb]
    exact hp
  have hcase : ∀ c y q, (H ++ H'.map (shB H.length))[c]? = some y → jadd H.length j j' c = some q → (H[c]? = some y ∧ j c = some q) ∨ (∃ b y', c = H.length + b ∧ H'[b]? = some y' ∧ y = shB H.length y' ∧ j' b = some q) := by
    intro c y q hc hq
    rw [List.getElem?_append] at hc
    split at hc <;> rename_i hlt
    · unfold jadd at hq
      rw [if_pos hlt] at hq
      exact .inl ⟨hc, hq⟩
    · rw [List.getElem?_map] at hc
      obtain ⟨y', hy', rfl⟩ := Option.map_eq_some_iff.1 hc
      unfold jadd at hq
      rw [if_neg hlt] at hq
      exact .inr ⟨c - H.length, y', by omega, hy', rfl, hq⟩
  refine ⟨cv, jadd H.length j j', rfl, shA_ok v cv h1, ⟨?_, ?_, ?_⟩, ?_, by simp, ⟨h2.keeps.os, h2.keeps.tape, h2.keeps.output, h2.keeps.size, fun c hc _ => hk c hc⟩, ?_⟩
  · intro b hb
    simp at hb
    unfold jadd
    rw [if_neg (by omega)]
    exact h2.rel.dom _ (by omega)
  · intro b x p hb hp
    rcases hcase b x p hb hp with ⟨g1, g2⟩ | ⟨b', y', rfl, g1, rfl, g2⟩
    · exact (hR.blk b x p g1 g2).mono hle fun hx => hk _ (hR.ltx g1 hx g2)
    · exact shB_ok (h2.rel.blk b' y' p g1 g2)
  · intro b b' y x p p' hb hy hb' hx hne hp hp'
    have nd : ∀ y' : ABlk, shB H.length y' ≠ .dead → y' ≠ .dead := by rintro y' h rfl; exact h rfl
    rcases hcase b y p hb hp with ⟨g1, g2⟩ | ⟨c, y', rfl, g1, rfl, g2⟩ <;> rcases hcase b' x p' hb' hp' with ⟨k1, k2⟩ | ⟨c', x', rfl, k1, rfl, k2⟩
    · exact hR.inj b b' y x p p' g1 hy k1 hx hne g2 k2
    · have := hR.ltx g1 (own_nd hy) g2
      have := (hfr c' x' p' k1 (nd _ hx) k2).2
      omega
    · have := hR.ltx k1 hx k2
      have := (hfr c y' p g1 (nd _ (own_nd hy)) g2).2
      omega
    · exact h2.rel.inj c c' y' x' p p' g1 (by rw [← shB_own H.length]; exact hy) k1 (nd _ hx) (fun e => hne (by rw [e])) g2 k2
  · intro b hb
    unfold jadd
    rw [if_pos hb]
  · intro b y p hb hy hp
    rcases hcase b y p hb hp with ⟨g1, g2⟩ | ⟨c, y', rfl, g1, rfl, g2⟩
    · exact .inr ⟨b, y, p, g1, hy, g2, rfl⟩
    · exact .inl (hfr c y' p g1 (by rintro rfl; exact own_nd hy rfl) g2).2

/-- The summary of a function of values that hands over blocks of its own. -/
def newS (g : List AV → Option (AV × AHeap)) : Summ := fun args H => match g args with
  | some (v, H') => some (shA H.length v, H ++ H'.map (shB H.length), [])
  | none => none

theorem sound_new {P : Program} {f : FuncId} {g : List AV → Option (AV × AHeap)} (he : ∀ cargs w, (callFunc f cargs).run P w = .ok (.enter f cargs) w)
    (h : ∀ args v H', g args = some (v, H') → Ct P f args [] v H' ∧ frees args = true ∧ allOwn H' = true) : Sound P f (newS g) := by
  refine ⟨he, fun args H v H' W hs => ?_, fun args H v H' W hs => ?_⟩ <;> (unfold newS at hs; split at hs <;> cases hs)
  · rename_i v0 H0 hg
    obtain ⟨h1, h2, h3⟩ := h args _ _ hg
    exact ct_new h1 h2 h3
  · exact ⟨by simp, fun b hb _ => by rw [List.getElem?_append_left hb]⟩

attribute [simp] shA shAs shB newS

end Go.Proofs.Ytbbgmaklmlagcaa
