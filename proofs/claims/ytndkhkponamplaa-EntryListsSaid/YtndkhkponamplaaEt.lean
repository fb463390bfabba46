/- Plain law of With: what a list has behind an addition. -/
import Derived.Test.YtndkhkponamplaaEz
namespace Go.Proofs.Ytndkhkponamplaa
open Go

theorem bare_word (e : En) : (bareE e).1 = e.1 := by
  unfold bareE
  split <;> rfl

theorem ins_before (own : List En) (e : En) {k : Nat} (hk : k < posE own e.1) : (insE own e)[k]? = own[k]? := by
  have hp := posE_le own e.1
  unfold insE
  rw [List.getElem?_append_left (by rw [List.length_take]; omega), List.getElem?_take_of_lt hk]

theorem ins_at (own : List En) (e : En) : (insE own e)[posE own e.1]? = some (bareE e) := by
  have hp := posE_le own e.1
  unfold insE
  rw [List.getElem?_append_right (by rw [List.length_take]; omega)]
  simp [List.length_take, Nat.min_eq_left hp]

theorem pos_ins (own : List En) (e : En) : posE (insE own e) e.1 = posE own e.1 := by
  have hp := posE_le own e.1
  refine posE_of e.1 _ _ ?_ (fun k x hk hx => ?_) (fun x hx => ?_)
  · have h := ins_at own e
    have := (List.getElem?_eq_some_iff.1 h).1
    omega
  · rw [ins_before own e hk] at hx
    exact posE_before hk hx
  · rw [ins_at] at hx
    cases hx
    rw [bare_word, bl_eq]
    simp

theorem find_ins (own : List En) (e : En) : findE (insE own e) e.1 = (bareE e, true) := by
  unfold findE
  rw [pos_ins, ins_at]
  simp [bare_word]

theorem bare_bare (e : En) : bareE (bareE e) = bareE e := by
  obtain ⟨w, n, g⟩ := e
  cases g <;> simp [bareE]

theorem with_one (own : List En) (e : En) : withE own [e] = insE own e := rfl

/-- In a list in order the place of a word that is there is its own. -/
theorem find_mem {l : List En} (h : asc l) {k : Nat} {x : En} (hx : l[k]? = some x) : findE l x.1 = (x, true) := by
  have hk := (List.getElem?_eq_some_iff.1 hx).1
  have hp : posE l x.1 = k := posE_of x.1 l k (by omega) (fun i y hi hy => by
    have := asc_lt h hi hy hx
    rw [bl_eq, decide_eq_true_eq]; exact this) (fun y hy => by
    rw [hx] at hy
    cases hy
    rw [bl_eq]
    simp)
  unfold findE
  rw [hp, hx]
  simp

/-- Two lists in order with the same members are one. -/
theorem asc_ext : ∀ {l m : List En}, asc l → asc m → (∀ x, x ∈ l ↔ x ∈ m) → l = m
  | [], [], _, _, _ => rfl
  | [], y :: m, _, _, h => absurd ((h y).2 (List.mem_cons_self ..)) (by simp)
  | x :: l, [], _, _, h => absurd ((h x).1 (List.mem_cons_self ..)) (by simp)
  | x :: l, y :: m, hl, hm, h => by
    obtain ⟨h1, h2⟩ := List.pairwise_cons.1 hl
    obtain ⟨h3, h4⟩ := List.pairwise_cons.1 hm
    have hxy : x = y := by
      rcases List.mem_cons.1 ((h x).1 (List.mem_cons_self ..)) with e | e
      · exact e
      · rcases List.mem_cons.1 ((h y).2 (List.mem_cons_self ..)) with e' | e'
        · exact e'.symm
        · exact absurd (List.lt_trans (h3 x e) (h1 y e')) (List.lt_irrefl _)
    subst hxy
    refine congrArg _ (asc_ext h2 h4 fun z => ⟨fun hz => ?_, fun hz => ?_⟩)
    · rcases List.mem_cons.1 ((h z).1 (List.mem_cons_of_mem _ hz)) with e | e
      · exact absurd (h1 z hz) (by rw [e]; exact List.lt_irrefl _)
      · exact e
    · rcases List.mem_cons.1 ((h z).2 (List.mem_cons_of_mem _ hz)) with e | e
      · exact absurd (h3 z hz) (by rw [e]; exact List.lt_irrefl _)
      · exact e

theorem pos_mem {l : List En} (h : asc l) {k : Nat} {x : En} (hx : l[k]? = some x) : posE l x.1 = k := by
  have hk := (List.getElem?_eq_some_iff.1 hx).1
  refine posE_of x.1 l k (by omega) (fun i y hi hy => ?_) (fun y hy => ?_)
  · have := asc_lt h hi hy hx
    rw [bl_eq, decide_eq_true_eq]; exact this
  · rw [hx] at hy
    cases hy
    rw [bl_eq]
    simp

theorem mem_ins {own : List En} (h : asc own) (e x : En) : x ∈ insE own e ↔ x = bareE e ∨ (x ∈ own ∧ x.1 ≠ e.1) := by
  have hhas : ∀ y, own[posE own e.1]? = some y → y.1 = e.1 → hasE own e.1 = true := fun y hy he => by
    unfold hasE; rw [hy]; simp [he]
  have hhas' : hasE own e.1 = true → ∃ y, own[posE own e.1]? = some y ∧ y.1 = e.1 := fun hh => by
    unfold hasE at hh
    split at hh
    · rename_i y hy; exact ⟨y, hy, by simpa using hh⟩
    · cases hh
  unfold insE
  rw [List.mem_append, List.mem_cons]
  constructor
  · rintro (hx | hx | hx)
    · obtain ⟨k, hk⟩ := List.getElem?_of_mem hx
      rw [List.getElem?_take] at hk
      split at hk
      · rename_i hkp
        refine .inr ⟨List.mem_of_getElem? hk, fun he => ?_⟩
        have := pos_mem h hk
        rw [he] at this
        omega
      · cases hk
    · exact .inl hx
    · obtain ⟨k, hk⟩ := List.getElem?_of_mem hx
      rw [List.getElem?_drop] at hk
      refine .inr ⟨List.mem_of_getElem? hk, fun he => ?_⟩
      have hp := pos_mem h hk
      rw [he] at hp
      rw [← hp] at hk
      have := hhas x hk he
      rw [if_pos this] at hp
      omega
  · rintro (hx | ⟨hx, hne⟩)
    · exact .inr (.inl hx)
    · obtain ⟨k, hk⟩ := List.getElem?_of_mem hx
      by_cases hkp : k < posE own e.1
      · refine .inl (List.mem_of_getElem? (i := k) ?_)
        rw [List.getElem?_take_of_lt hkp, hk]
      · refine .inr (.inr ?_)
        by_cases hh : hasE own e.1 = true
        · obtain ⟨y, hy, hye⟩ := hhas' hh
          have hkn : k ≠ posE own e.1 := fun e' => by
            rw [e', hy] at hk
            cases hk
            exact hne hye
          refine List.mem_of_getElem? (i := k - (posE own e.1 + 1)) ?_
          rw [if_pos hh, List.getElem?_drop, show posE own e.1 + 1 + (k - (posE own e.1 + 1)) = k by omega, hk]
        · refine List.mem_of_getElem? (i := k - posE own e.1) ?_
          rw [if_neg hh, List.getElem?_drop, show posE own e.1 + 0 + (k - posE own e.1) = k by omega, hk]

theorem ins_comm {own : List En} (h : asc own) {x y : En} (hxy : x.1 ≠ y.1) : insE (insE own x) y = insE (insE own y) x := by
  refine asc_ext (asc_ins (asc_ins h x) y) (asc_ins (asc_ins h y) x) fun z => ?_
  rw [mem_ins (asc_ins h x), mem_ins (asc_ins h y), mem_ins h, mem_ins h]
  have bx := bare_word x
  have by' := bare_word y
  constructor
  · rintro (rfl | ⟨rfl | ⟨h1, h2⟩, h3⟩)
    · exact .inr ⟨.inl rfl, by rw [by']; exact fun e => hxy e.symm⟩
    · exact .inl rfl
    · exact .inr ⟨.inr ⟨h1, h3⟩, h2⟩
  · rintro (rfl | ⟨rfl | ⟨h1, h2⟩, h3⟩)
    · exact .inr ⟨.inl rfl, by rw [bx]; exact hxy⟩
    · exact .inl rfl
    · exact .inr ⟨.inr ⟨h1, h3⟩, h2⟩

theorem ins_twice {own : List En} (h : asc own) {x y : En} (hxy : x.1 = y.1) : insE (insE own x) y = insE own y := by
  refine asc_ext (asc_ins (asc_ins h x) y) (asc_ins h y) fun z => ?_
  rw [mem_ins (asc_ins h x), mem_ins h, mem_ins h]
  have bx := bare_word x
  constructor
  · rintro (rfl | ⟨rfl | ⟨h1, h2⟩, h3⟩)
    · exact .inl rfl
    · exact absurd (bx.trans hxy) h3
    · exact .inr ⟨h1, h3⟩
  · rintro (rfl | ⟨h1, h3⟩)
    · exact .inl rfl
    · exact .inr ⟨.inr ⟨h1, by rw [hxy]; exact h3⟩, h3⟩

theorem firstBad_none (c : Nat → Int) : ∀ (n i : Nat), (∀ j, i ≤ j → j < i + n → c j = 0) → firstBad c n i = (-1, 0)
  | 0, _, _ => rfl
  | n + 1, i, h => by
    unfold firstBad
    rw [if_pos (h i (by omega) (by omega))]
    exact firstBad_none c n (i + 1) fun j h1 h2 => h j (by omega) (by omega)

theorem chk_asc {l : List En} (h : asc l) (hw : ∀ e ∈ l, okW e.1 = true) : chkE l = (-1, 0) := by
  refine firstBad_none _ _ _ fun j _ hj => ?_
  rw [Nat.zero_add] at hj
  have hx : l[j]? = some l[j] := List.getElem?_eq_getElem hj
  unfold codeAt
  rw [hx]
  dsimp only
  rw [if_pos (hw _ (List.getElem_mem hj))]
  cases j with
  | zero => rfl
  | succ i =>
    have hi : l[i]? = some l[i] := List.getElem?_eq_getElem (by omega)
    dsimp only
    rw [hi]
    dsimp only
    rw [if_pos]
    rw [bl_eq, decide_eq_true_eq]
    exact asc_lt h (by omega) hi hx

theorem mem_with (x : En) : ∀ (es : List En) {own : List En}, asc own → x ∈ withE own es → x ∈ own ∨ ∃ e ∈ es, x = bareE e
  | [], own, _, h => .inl h
  | e :: es, own, ha, h => by
    rcases mem_with x es (own := insE own e) (asc_ins ha e) h with h1 | ⟨d, h1, h2⟩
    · rcases (mem_ins ha e x).1 h1 with h2 | ⟨h2, _⟩
      · exact .inr ⟨e, List.mem_cons_self .., h2⟩
      · exact .inl h2
    · exact .inr ⟨d, List.mem_cons_of_mem _ h1, h2⟩

theorem ins_len (own : List En) (e : En) : (insE own e).length = own.length + if hasE own e.1 then 0 else 1 := by
  have hp := posE_le own e.1
  unfold insE
  cases h : hasE own e.1 with
  | true =>
    have := hasE_lt h
    simp [List.length_take, List.length_drop]
    omega
  | false =>
    simp [List.length_take, List.length_drop]
    omega

theorem find_of_mem {l : List En} (h : asc l) {x : En} (hx : x ∈ l) : findE l x.1 = (x, true) := by
  obtain ⟨k, hk⟩ := List.getElem?_of_mem hx
  exact find_mem h hk

end Go.Proofs.Ytndkhkponamplaa
