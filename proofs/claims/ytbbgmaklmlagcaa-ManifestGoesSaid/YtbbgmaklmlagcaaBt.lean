/- A contract that changes blocks of its own, beside whatever heap there is. -/
import Derived.Test.YtbbgmaklmlagcaaBa
namespace Go.Proofs.Ytbbgmaklmlagcaa

mutual
/-- Blocks by other names. -/
def reA (g : Nat → Nat) : AV → AV
  | .ptr b o => .ptr (g b) o
  | .slice b o l sz c => .slice (g b) o l sz c
  | .sl b o l sz c => .sl (g b) o l sz c
  | .map b => .map (g b)
  | .func f xs ys => .func f (reAs g xs) (reAs g ys)
  | .yld b => .yld (g b)
  | .agg l => .agg (reAs g l)
  | .tuple l => .tuple (reAs g l)
  | x => x
def reAs (g : Nat → Nat) : List AV → List AV
  | [] => []
  | x :: xs => reA g x :: reAs g xs
end

def reB (g : Nat → Nat) : ABlk → ABlk
  | .dead => .dead
  | .cells o l => .cells o (reAs g l)
  | .loop ps a b st pe F => .loop ps a b st pe (reAs g F)
  | .map es => .map (es.map fun e => (reA g e.1, reA g e.2))

mutual
theorem reA_ok {g : Nat → Nat} {j j' : Inj} (hg : ∀ b p, j b = some p → j' (g b) = some p) : ∀ (x : AV) (v : Value), VR j x v → VR j' (reA g x) v
  | .top, _, _ => by simp [reA, VR]
  | .bool b, v, h => by simpa [reA, VR] using h
  | .int _ n, v, h => by simpa [reA, VR] using h
  | .str s, v, h => by simpa [reA, VR] using h
  | .ptr b o, v, h => by
    simp only [reA, VR] at h ⊢
    obtain ⟨p, h1, h2⟩ := h
    exact ⟨p, hg b p h1, h2⟩
  | .nilp, v, h => by simpa [reA, VR] using h
  | .slice b o l sz c, v, h => by
    simp only [reA, VR] at h ⊢
    obtain ⟨p, a, cap, h1, h2⟩ := h
    exact ⟨p, a, cap, hg b p h1, h2⟩
  | .sl b o l sz c, v, h => by
    simp only [reA, VR] at h ⊢
    rcases h with h | ⟨p, a, cap, hp, r⟩
    · exact .inl h
    · exact .inr ⟨p, a, cap, hg b p hp, r⟩
  | .nils, v, h => by simpa [reA, VR] using h
  | .map b, v, h => by
    simp only [reA, VR] at h ⊢
    obtain ⟨p, h1, h2⟩ := h
    exact ⟨p, hg b p h1, h2⟩
  | .nilm, v, h => by simpa [reA, VR] using h
  | .func f xs ys, v, h => by
    simp only [reA, VR] at h ⊢
    obtain ⟨cx, cy, e, h1, h2⟩ := h
    exact ⟨cx, cy, e, reAs_ok hg xs _ h1, reAs_ok hg ys _ h2⟩
  | .yld b, v, h => by
    simp only [reA, VR] at h ⊢
    obtain ⟨p, h1, h2⟩ := h
    exact ⟨p, hg b p h1, h2⟩
  | .nilf, v, h => by simpa [reA, VR] using h
  | .agg l, v, h => by
    simp only [reA, VR] at h ⊢
    obtain ⟨cs, e, h1⟩ := h
    exact ⟨cs, e, reAs_ok hg l _ h1⟩
  | .tuple l, v, h => by
    simp only [reA, VR] at h ⊢
    obtain ⟨cs, e, h1⟩ := h
    exact ⟨cs, e, reAs_ok hg l _ h1⟩
theorem reAs_ok {g : Nat → Nat} {j j' : Inj} (hg : ∀ b p, j b = some p → j' (g b) = some p) : ∀ (xs : List AV) (vs : List Value), VRs j xs vs → VRs j' (reAs g xs) vs
  | [], vs, h => by simpa [reAs, VRs] using h
  | x :: xs, vs, h => by
    simp only [reAs, VRs] at h ⊢
    obtain ⟨v, ws, e, h1, h2⟩ := h
    exact ⟨v, ws, e, reA_ok hg x v h1, reAs_ok hg xs ws h2⟩
end

theorem reAs_length (g : Nat → Nat) : ∀ xs : List AV, (reAs g xs).length = xs.length
  | [] => rfl
  | x :: xs => by simp [reAs, reAs_length g xs]

theorem reAs_get (g : Nat → Nat) : ∀ (xs : List AV) (i : Nat), (reAs g xs)[i]? = (xs[i]?).map (reA g)
  | [], i => by simp [reAs]
  | x :: xs, 0 => by simp [reAs]
  | x :: xs, i + 1 => by simp [reAs, reAs_get g xs i]

theorem reB_own (g : Nat → Nat) (y : ABlk) : (reB g y).own = y.own := by cases y <;> rfl
theorem reB_nd {g : Nat → Nat} {y : ABlk} (h : reB g y ≠ .dead) : y ≠ .dead := by rintro rfl; exact h rfl

theorem reB_ok {g : Nat → Nat} {j j' : Inj} (hg : ∀ b p, j b = some p → j' (g b) = some p) {w : World} {y : ABlk} {p : JB} (h : BRel j w y p) : BRel j' w (reB g y) p := by
  cases y with
  | dead => trivial
  | cells o l =>
    obtain ⟨cs, T, fz, g1, g2, g3, g4, g5⟩ := h
    refine ⟨cs, T, fz, g1, g2, by rw [reAs_length]; exact g3, fun i x hx => ?_, g5⟩
    rw [reAs_get] at hx
    obtain ⟨x', hx', rfl⟩ := Option.map_eq_some_iff.1 hx
    obtain ⟨v, hv, hr⟩ := g4 i x' hx'
    exact ⟨v, hv, reA_ok hg x' v hr⟩
  | loop ps a b st pe F =>
    obtain ⟨fn, tmps, D, g1, g2⟩ := h
    exact ⟨fn, tmps, D, g1, reAs_ok hg F _ g2⟩
  | map es =>
    obtain ⟨ents, cl, g1, g2, g3⟩ := h
    refine ⟨ents, cl, g1, by simpa using g2, fun i z e hz he => ?_⟩
    rw [List.getElem?_map] at hz
    obtain ⟨x, hx, rfl⟩ := Option.map_eq_some_iff.1 hz
    have := g3 i x e hx he
    exact ⟨reA_ok hg _ _ this.1, reA_ok hg _ _ this.2⟩

/-- The names behind a call: its own old blocks' ones, and new ones. -/
def nameG (em : List Nat) (n : Nat) (i : Nat) : Nat := match em[i]? with
  | some e => e
  | none => n + (i - em.length)

/-- The changed blocks, put where they lie. -/
def setOwn (g : Nat → Nat) : AHeap → List Nat → AHeap → AHeap → AHeap
  | H, e :: em, B0 :: H0, B1 :: H1 => setOwn g (if B0.own then H.set e (reB g B1) else H) em H0 H1
  | H, _, _, _ => H

theorem setOwn_length (g : Nat → Nat) : ∀ (H : AHeap) (em : List Nat) (H0 H1 : AHeap), (setOwn g H em H0 H1).length = H.length
  | H, [], _, _ => by simp [setOwn]
  | H, _ :: _, [], _ => by simp [setOwn]
  | H, _ :: _, _ :: _, [] => by simp [setOwn]
  | H, e :: em, B0 :: H0, B1 :: H1 => by
    unfold setOwn
    rw [setOwn_length]
    split <;> simp

theorem setOwn_other (g : Nat → Nat) : ∀ (H : AHeap) (em : List Nat) (H0 H1 : AHeap) (c : Nat), (∀ (i : Nat) B, em[i]? = some c → H0[i]? = some B → ¬ B.own = true) → (setOwn g H em H0 H1)[c]? = H[c]?
  | H, [], _, _, c, _ => by simp [setOwn]
  | H, _ :: _, [], _, c, _ => by simp [setOwn]
  | H, _ :: _, _ :: _, [], c, _ => by simp [setOwn]
  | H, e :: em, B0 :: H0, B1 :: H1, c, h => by
    unfold setOwn
    rw [setOwn_other g _ em H0 H1 c fun i B h1 h2 => h (i + 1) B (by simpa using h1) (by simpa using h2)]
    split
    · rename_i ho
      have : e ≠ c := by
        rintro rfl
        exact h 0 B0 rfl rfl ho
      rw [List.getElem?_set_ne this]
    · rfl

theorem setOwn_at (g : Nat → Nat) : ∀ (H : AHeap) (em : List Nat) (H0 H1 : AHeap) (i e : Nat) (B0 B1 : ABlk), em.Nodup → (∀ x ∈ em, x < H.length) → em[i]? = some e → H0[i]? = some B0 → B0.own = true → H1[i]? = some B1 → (setOwn g H em H0 H1)[e]? = some (reB g B1)
  | H, [], _, _, i, e, B0, B1, _, _, h, _, _, _ => by simp at h
  | H, _ :: _, [], _, i, e, B0, B1, _, _, _, h, _, _ => by simp at h
  | H, _ :: _, _ :: _, [], i, e, B0, B1, _, _, _, _, _, h => by simp at h
  | H, e' :: em, B0' :: H0, B1' :: H1, 0, e, B0, B1, hn, hl, h1, h2, h3, h4 => by
    simp at h1 h2 h4
    subst h1; subst h2; subst h4
    unfold setOwn
    rw [if_pos h3, setOwn_other g _ em H0 H1 e' fun i B k1 _ => ?_]
    · rw [List.getElem?_set_self (hl e' (List.mem_cons_self ..))]
    · exact absurd (List.mem_of_getElem? k1) (List.nodup_cons.1 hn).1
  | H, e' :: em, B0' :: H0, B1' :: H1, i + 1, e, B0, B1, hn, hl, h1, h2, h3, h4 => by
    unfold setOwn
    refine setOwn_at g _ em H0 H1 i e B0 B1 (List.nodup_cons.1 hn).2 (fun x hx => ?_) (by simpa using h1) (by simpa using h2) h3 (by simpa using h4)
    have := hl x (List.mem_cons_of_mem _ hx)
    split <;> simpa using this

theorem ct_frame {P : Program} {f : FuncId} {args0 args : List AV} {H0 H1 H : AHeap} {v : AV} (h : Ct P f args0 H0 v H1) (em : List Nat) (hn : em.Nodup) (ha : AWs em args0 args) (hH : AWh em H H0 em) (ho : allOwn (H1.drop H0.length) = true) :
    Ct P f args H (reA (nameG em H.length) v) (setOwn (nameG em H.length) H em H0 H1 ++ (H1.drop H0.length).map (reB (nameG em H.length))) := by
  intro j w cargs hR hargs
  obtain ⟨hl, hat⟩ := hH.at
  have hlt : ∀ x ∈ em, x < H.length := by
    intro x hx
    obtain ⟨i, hi⟩ := List.getElem?_of_mem hx
    have hil : i < H0.length := by rw [hl]; exact (List.getElem?_eq_some_iff.1 hi).1
    obtain ⟨y, hy, _⟩ := hat i _ x (List.getElem?_eq_getElem hil) hi
    exact (List.getElem?_eq_some_iff.1 hy).1
  have hR0 : R (jren em j) H0 w := by
    refine ⟨fun b hb => by simp [jren, List.getElem?_eq_none (show em.length ≤ b by omega)], fun b x p hb hp => ?_, fun b b' y x p p' hb hy hb' hx hne hp hp' => ?_⟩
    · obtain ⟨b', h1, h2⟩ := Option.bind_eq_some_iff.1 hp
      obtain ⟨z, hz, hw⟩ := hat b x b' hb h1
      exact hw.ok (hR.blk b' z p hz h2)
    · obtain ⟨c, h1, h2⟩ := Option.bind_eq_some_iff.1 hp
      obtain ⟨c', h1', h2'⟩ := Option.bind_eq_some_iff.1 hp'
      obtain ⟨z, hz, hw⟩ := hat b y c hb h1
      obtain ⟨z', hz', hw'⟩ := hat b' x c' hb' h1'
      refine hR.inj c c' z z' p p' hz (hw.own hy) hz' (hw'.nd hx) ?_ h2 h2'
      rintro rfl
      exact hne ((List.getElem?_inj (List.getElem?_eq_some_iff.1 h1).1 hn).1 (h1.trans h1'.symm))
  refine (h (jren em j) w cargs hR0 (AWs.ok _ _ _ ha hargs)).mono ?_
  rintro e w' ⟨cv, j', rfl, h1, h2⟩
  let g := nameG em H.length
  let J : Inj := fun b => if b < H.length then j b else j' (H0.length + (b - H.length))
  have hgold : ∀ i e, em[i]? = some e → g i = e := fun i e hi => by simp only [g, nameG, hi]
  have hgnew : ∀ k, g (H0.length + k) = H.length + k := fun k => by
    simp only [g, nameG]
    rw [List.getElem?_eq_none (by omega)]
    dsimp only
    omega
  have hJ : ∀ b p, j' b = some p → J (g b) = some p := by
    intro b p hp
    rcases Nat.lt_or_ge b H0.length with hb | hb
    · have hbe : em[b]? = some (em[b]'(by omega)) := List.getElem?_eq_getElem (by omega)
      rw [hgold b _ hbe]
      rw [h2.ext b hb] at hp
      obtain ⟨c, k1, k2⟩ := Option.bind_eq_some_iff.1 hp
      rw [hbe] at k1
      cases k1
      show (if _ then _ else _) = _
      rw [if_pos (hlt _ (List.getElem_mem _))]
      exact k2
    · obtain ⟨k, rfl⟩ := Nat.exists_eq_add_of_le hb
      rw [hgnew k]
      show (if _ then _ else _) = _
      rw [if_neg (by omega), Nat.add_sub_cancel_left]
      exact hp
  have hle : JLe j J := by
    intro b p hp
    have hb : b < H.length := by
      rcases Nat.lt_or_ge b H.length with h3 | h3
      · exact h3
      · rw [hR.dom b h3] at hp; cases hp
    show (if _ then _ else _) = _
    rw [if_pos hb]
    exact hp
  have hlen := setOwn_length g H em H0 H1
  -- what stands at a place
  have hcase : ∀ c y q, (setOwn g H em H0 H1 ++ (H1.drop H0.length).map (reB g))[c]? = some y → J c = some q →
      (H[c]? = some y ∧ j c = some q ∧ ∀ (i : Nat) B, em[i]? = some c → H0[i]? = some B → ¬ B.own = true) ∨
      (∃ (i : Nat) (B0 B1 z : ABlk), em[i]? = some c ∧ H0[i]? = some B0 ∧ B0.own = true ∧ H1[i]? = some B1 ∧ y = reB g B1 ∧ j c = some q ∧ j' i = some q ∧ H[c]? = some z ∧ z.own = true) ∨
      (∃ (k : Nat) (B1 : ABlk), c = H.length + k ∧ H1[H0.length + k]? = some B1 ∧ y = reB g B1 ∧ j' (H0.length + k) = some q) := by
    intro c y q hc hq
    rw [List.getElem?_append, hlen] at hc
    split at hc <;> rename_i hcl
    · have hjc : j c = some q := by
        have : (if c < H.length then j c else j' (H0.length + (c - H.length))) = some q := hq
        rwa [if_pos hcl] at this
      by_cases hown : ∃ (i : Nat) (B : ABlk), em[i]? = some c ∧ H0[i]? = some B ∧ B.own = true
      · obtain ⟨i, B, k1, k2, k3⟩ := hown
        have hi0 : i < H0.length := (List.getElem?_eq_some_iff.1 k2).1
        have hi1 : i < H1.length := Nat.lt_of_lt_of_le hi0 h2.len
        have k4 : H1[i]? = some H1[i] := List.getElem?_eq_getElem hi1
        have k5 := setOwn_at g H em H0 H1 i c B _ hn hlt k1 k2 k3 k4
        rw [k5] at hc
        cases hc
        obtain ⟨z, hz, hw⟩ := hat i B c k2 k1
        refine .inr (.inl ⟨i, B, _, z, k1, k2, k3, k4, rfl, hjc, ?_, hz, hw.own k3⟩)
        rw [h2.ext i hi0]
        exact jren_some k1 hjc
      · rw [setOwn_other g H em H0 H1 c fun i B k1 k2 k3 => hown ⟨i, B, k1, k2, k3⟩] at hc
        exact .inl ⟨hc, hjc, fun i B k1 k2 k3 => hown ⟨i, B, k1, k2, k3⟩⟩
    · rw [List.getElem?_map, List.getElem?_drop] at hc
      obtain ⟨B1, hB, rfl⟩ := Option.map_eq_some_iff.1 hc
      have : (if c < H.length then j c else j' (H0.length + (c - H.length))) = some q := hq
      rw [if_neg hcl] at this
      exact .inr (.inr ⟨c - H.length, B1, by omega, hB, rfl, this⟩)
  -- own old blocks, seen from the greater heap
  have hold : ∀ b0 y0 p0, H0[b0]? = some y0 → y0.own = true → jren em j b0 = some p0 → ∃ c z, em[b0]? = some c ∧ H[c]? = some z ∧ z.own = true ∧ j c = some p0 := by
    intro b0 y0 p0 k1 k2 k3
    obtain ⟨c, m1, m2⟩ := Option.bind_eq_some_iff.1 k3
    obtain ⟨z, hz, hw⟩ := hat b0 y0 c k1 m1
    exact ⟨c, z, m1, hz, hw.own k2, m2⟩
  have hkeep : ∀ c y q, H[c]? = some y → y ≠ .dead → j c = some q → (∀ (i : Nat) B, em[i]? = some c → H0[i]? = some B → ¬ B.own = true) → w'.heap[q.blk]? = w.heap[q.blk]? := by
    intro c y q k1 k2 k3 k4
    refine h2.keeps.block q.blk (hR.ltx k1 k2 k3) fun b0 y0 p0 m1 m2 m3 => ?_
    obtain ⟨c0, z, n1, n2, n3, n4⟩ := hold b0 y0 p0 m1 m2 m3
    exact hR.inj c0 c z y p0 q n2 n3 k1 k2 (fun e => k4 b0 y0 (by rw [← e]; exact n1) m1 m2) n4 k3
  have hnew : ∀ k B1 q, H1[H0.length + k]? = some B1 → B1 ≠ .dead → j' (H0.length + k) = some q → B1.own = true ∧ (w.heap.size ≤ q.blk ∨ ∃ c z p0, H[c]? = some z ∧ z.own = true ∧ j c = some p0 ∧ p0.blk = q.blk ∧ ∃ (i : Nat) (B : ABlk), em[i]? = some c ∧ H0[i]? = some B ∧ B.own = true) := by
    intro k B1 q k1 k2 k3
    have hyo : B1.own = true := by
      have : B1 ∈ H1.drop H0.length := List.mem_of_getElem? (i := k) (by rw [List.getElem?_drop]; exact k1)
      have := List.all_eq_true.1 ho _ this
      cases B1 <;> simp_all [ABlk.own]
    refine ⟨hyo, ?_⟩
    rcases h2.fresh _ B1 q k1 hyo k3 with h3 | ⟨b0, y0, p0, m1, m2, m3, m4⟩
    · exact .inl h3
    · obtain ⟨c, z, n1, n2, n3, n4⟩ := hold b0 y0 p0 m1 m2 m3
      exact .inr ⟨c, z, p0, n2, n3, n4, m4, b0, y0, n1, m1, m2⟩
  refine ⟨cv, J, rfl, reA_ok hJ v cv h1, ⟨?_, ?_, ?_⟩, ?_, (by rw [List.length_append, hlen]; omega), ⟨h2.keeps.os, h2.keeps.tape, h2.keeps.output, h2.keeps.size, fun c hc hcc => h2.keeps.block c hc fun b0 y0 p0 m1 m2 m3 => ?_⟩, ?_⟩
  · intro b hb
    rw [List.length_append, hlen, List.length_map, List.length_drop] at hb
    show (if _ then _ else _) = _
    rw [if_neg (by omega)]
    exact h2.rel.dom _ (by have := h2.len; omega)
  · intro b x p hb hp
    rcases hcase b x p hb hp with ⟨g1, g2, g3⟩ | ⟨i, B0, B1, z, g1, g2, g3, g4, rfl, g6, g7, _, _⟩ | ⟨k, B1, rfl, g2, rfl, g4⟩
    · exact (hR.blk b x p g1 g2).mono hle fun hx => hkeep b x p g1 hx g2 g3
    · exact reB_ok hJ (h2.rel.blk i B1 p g4 g7)
    · exact reB_ok hJ (h2.rel.blk _ B1 p g2 g4)
  · intro b b' y x p p' hb hy hb' hx hne hp hp'
    rcases hcase b y p hb hp with ⟨g1, g2, g3⟩ | ⟨i, B0, B1, z, g1, g2, g3, g4, rfl, g6, g7, g8, g9⟩ | ⟨k, B1, rfl, g2, rfl, g4⟩ <;>
      rcases hcase b' x p' hb' hp' with ⟨k1, k2, k3⟩ | ⟨i', B0', B1', z', k1, k2, k3, k4, rfl, k6, k7, k8, k9⟩ | ⟨k', B1', rfl, k2, rfl, k4⟩
    · exact hR.inj b b' y x p p' g1 hy k1 hx hne g2 k2
    · exact hR.inj b b' y z' p p' g1 hy k8 (own_nd k9) hne g2 k6
    · rcases (hnew k' B1' p' k2 (reB_nd hx) k4).2 with h3 | ⟨c, z, p0, m1, m2, m3, m4, i, B, m5, m6, m7⟩
      · have := hR.ltx g1 (own_nd hy) g2
        omega
      · rw [← m4]
        exact hR.inj b c y z p p0 g1 hy m1 (own_nd m2) (fun e => g3 i B (by rw [e]; exact m5) m6 m7) g2 m3
    · exact hR.inj b b' z x p p' g8 g9 k1 hx hne g6 k2
    · refine h2.rel.inj i i' B1 B1' p p' g4 (by rw [← reB_own g]; exact hy) k4 (reB_nd hx) (fun e => hne ?_) g7 k7
      subst e
      rw [g1] at k1
      exact Option.some.inj k1
    · refine h2.rel.inj i _ B1 B1' p p' g4 (by rw [← reB_own g]; exact hy) k2 (reB_nd hx) (fun e => ?_) g7 k4
      have := (List.getElem?_eq_some_iff.1 g2).1
      omega
    · rcases (hnew k B1 p g2 (reB_nd (own_nd hy)) g4).2 with h3 | ⟨c, z, p0, m1, m2, m3, m4, i, B, m5, m6, m7⟩
      · have := hR.ltx k1 hx k2
        omega
      · rw [← m4]
        exact hR.inj c b' z x p0 p' m1 m2 k1 hx (fun e => k3 i B (by rw [← e]; exact m5) m6 m7) m3 k2
    · refine h2.rel.inj _ i' B1 B1' p p' g2 (by rw [← reB_own g]; exact hy) k4 (reB_nd hx) (fun e => ?_) g4 k7
      have := (List.getElem?_eq_some_iff.1 k2).1
      omega
    · refine h2.rel.inj _ _ B1 B1' p p' g2 (by rw [← reB_own g]; exact hy) k2 (reB_nd hx) (fun e => hne (by omega)) g4 k4
  · intro b hb
    show (if _ then _ else _) = _
    rw [if_pos hb]
  · obtain ⟨c', z, n1, n2, n3, n4⟩ := hold b0 y0 p0 m1 m2 m3
    exact hcc c' z p0 n2 n3 n4
  · intro b y p hb hy hp
    rcases hcase b y p hb hp with ⟨g1, g2, g3⟩ | ⟨i, B0, B1, z, g1, g2, g3, g4, rfl, g6, g7, g8, g9⟩ | ⟨k, B1, rfl, g2, rfl, g4⟩
    · exact .inr ⟨b, y, p, g1, hy, g2, rfl⟩
    · exact .inr ⟨b, z, p, g8, g9, g6, rfl⟩
    · rcases (hnew k B1 p g2 (reB_nd (own_nd hy)) g4).2 with h3 | ⟨c, z, p0, m1, m2, m3, m4, _⟩
      · exact .inl h3
      · exact .inr ⟨c, z, p0, m1, m2, m3, m4⟩

/-- The summary of a function that changes blocks: which blocks of the heap it sees (em), as which ones (H0), its value, and what they are behind it (H1). -/
def frameS (F : List AV → AHeap → Option (List Nat × AHeap × AV × AHeap)) : Summ := fun args H => match F args H with
  | some (em, H0, v, H1) => some (reA (nameG em H.length) v, setOwn (nameG em H.length) H em H0 H1 ++ (H1.drop H0.length).map (reB (nameG em H.length)), em)
  | none => none

theorem sound_frame {P : Program} {f : FuncId} {F : List AV → AHeap → Option (List Nat × AHeap × AV × AHeap)} (he : ∀ cargs w, (callFunc f cargs).run P w = .ok (.enter f cargs) w)
    (h : ∀ args H em H0 v H1, F args H = some (em, H0, v, H1) → ∃ args0, Ct P f args0 H0 v H1 ∧ em.Nodup ∧ AWs em args0 args ∧ AWh em H H0 em ∧ allOwn (H1.drop H0.length) = true) : Sound P f (frameS F) := by
  refine ⟨he, fun args H v H' W hs => ?_, fun args H v H' W hs => ?_⟩ <;> (unfold frameS at hs; split at hs <;> cases hs)
  · rename_i em H0 v0 H1 hg
    obtain ⟨args0, h1, h2, h3, h4, h5⟩ := h args H _ _ _ _ hg
    exact ct_frame h1 _ h2 h3 h4 h5
  · rename_i H0 v0 H1 hg
    have hl := setOwn_length (nameG W H.length) H W H0 H1
    refine ⟨by rw [List.length_append, hl]; omega, fun b hb hW => ?_⟩
    rw [List.getElem?_append_left (by omega), setOwn_other _ _ _ _ _ b fun i B k1 _ => absurd (List.mem_of_getElem? k1) hW]

attribute [simp] reA reAs reB nameG setOwn frameS ABlk.own allOwn

@[simp] theorem reAs_strs (g : Nat → Nat) : ∀ l : List (List UInt8), reAs g (l.map AV.str) = l.map AV.str
  | [] => rfl
  | x :: l => by simp [reAs_strs g l]

end Go.Proofs.Ytbbgmaklmlagcaa
