/- Rows of numbers in order, each once: plain law. -/
import Derived.Test.YtkeffhaldeedpaaDoorQf
namespace Go.Proofs.YtkeffhaldeedpaaDoor
open Go Go.Lib

def ascI (l : List Int) : Prop := l.Pairwise (· < ·)

theorem ascI_ext : ∀ {l m : List Int}, ascI l → ascI m → (∀ x, x ∈ l ↔ x ∈ m) → l = m
  | [], [], _, _, _ => rfl
  | [], y :: m, _, _, h => absurd ((h y).2 (List.mem_cons_self ..)) (by simp)
  | x :: l, [], _, _, h => absurd ((h x).1 (List.mem_cons_self ..)) (by simp)
  | x :: l, y :: m, hl, hm, h => by
    obtain ⟨h1, h2⟩ := List.pairwise_cons.1 hl
    obtain ⟨h3, h4⟩ := List.pairwise_cons.1 hm
    have hxy : x = y := by
      rcases List.mem_cons.1 ((h x).1 (List.mem_cons_self ..)) with e | e
      · exact e
      · rcases List.mem_cons.1 ((h y).2 (List.mem_cons_self ..)) with e' | e'
        · exact e'.symm
        · have := h3 x e; have := h1 y e'; omega
    subst hxy
    refine congrArg _ (ascI_ext h2 h4 fun z => ⟨fun hz => ?_, fun hz => ?_⟩)
    · rcases List.mem_cons.1 ((h z).1 (List.mem_cons_of_mem _ hz)) with e | e
      · have := h1 z hz; omega
      · exact e
    · rcases List.mem_cons.1 ((h z).2 (List.mem_cons_of_mem _ hz)) with e | e
      · have := h3 z hz; omega
      · exact e

theorem srt_perm (zs : List Int) : (srt zs).Perm zs := List.mergeSort_perm _ _
theorem srt_sorted (zs : List Int) : (srt zs).Pairwise (· ≤ ·) := by
  have := List.pairwise_mergeSort (le := fun (x y : Int) => decide (x ≤ y)) (fun a b c h1 h2 => by simp at h1 h2 ⊢; omega) (fun a b => by simp; omega) zs
  exact this.imp fun h => by simpa using h

theorem compactUpTo_law (d : Array Int) (hd : ∀ i j, i < j → j < d.size → d[i]! ≤ d[j]!) : ∀ m, m ≤ d.size →
    ascI (compactUpTo d m) ∧ (∀ x, x ∈ compactUpTo d m ↔ ∃ i, i < m ∧ d[i]! = x) ∧ (∀ x ∈ compactUpTo d m, x ≤ d[m - 1]!)
  | 0, _ => ⟨List.Pairwise.nil, by simp [compactUpTo], by simp [compactUpTo]⟩
  | m + 1, hm => by
    obtain ⟨h1, h2, h3⟩ := compactUpTo_law d hd m (by omega)
    rw [compactUpTo_succ]
    have hprev : 0 < m → d[m - 1]! ≤ d[m]! := fun h => hd _ _ (by omega) (by omega)
    cases hk : keeps d m with
    | true =>
      have hk' : m = 0 ∨ d[m]! ≠ d[m - 1]! := by simpa [keeps] using hk
      simp only [if_true]
      have hlt : ∀ x ∈ compactUpTo d m, x < d[m]! := fun x hx => by
        rcases hk' with rfl | hne
        · simp [compactUpTo] at hx
        · have a1 := h3 x hx
          by_cases h0 : m = 0
          · subst h0; simp [compactUpTo] at hx
          · have := hprev (by omega); omega
      refine ⟨?_, fun x => ?_, fun x hx => ?_⟩
      · unfold ascI
        rw [List.pairwise_append]
        exact ⟨h1, List.pairwise_singleton _ _, fun x hx y hy => by rcases List.mem_singleton.1 hy with rfl; exact hlt x hx⟩
      · rw [List.mem_append, h2, List.mem_singleton]
        constructor
        · rintro (⟨i, hi, rfl⟩ | rfl)
          · exact ⟨i, by omega, rfl⟩
          · exact ⟨m, by omega, rfl⟩
        · rintro ⟨i, hi, rfl⟩
          rcases Nat.lt_or_ge i m with h | h
          · exact .inl ⟨i, h, rfl⟩
          · exact .inr (by rw [show i = m by omega])
      · rw [Nat.add_sub_cancel]
        rcases List.mem_append.1 hx with hx | hx
        · have := hlt x hx; omega
        · rcases List.mem_singleton.1 hx with rfl; omega
    | false =>
      have hk' : ¬ (m = 0 ∨ d[m]! ≠ d[m - 1]!) := by simpa [keeps] using hk
      have m0 : m ≠ 0 := fun h => hk' (.inl h)
      have meq : d[m]! = d[m - 1]! := Classical.byContradiction fun h => hk' (.inr h)
      simp only [Bool.false_eq_true, if_false, List.append_nil]
      refine ⟨h1, fun x => ?_, fun x hx => ?_⟩
      · rw [h2]
        constructor
        · rintro ⟨i, hi, rfl⟩; exact ⟨i, by omega, rfl⟩
        · rintro ⟨i, hi, rfl⟩
          rcases Nat.lt_or_ge i m with h | h
          · exact ⟨i, h, rfl⟩
          · exact ⟨m - 1, by omega, by rw [show i = m by omega, meq]⟩
      · rw [Nat.add_sub_cancel, meq]; exact h3 x hx

theorem compact_law (zs : List Int) (h : zs.Pairwise (· ≤ ·)) : ascI (compact zs) ∧ ∀ x, x ∈ compact zs ↔ x ∈ zs := by
  have hget : ∀ i, i < zs.length → zs.toArray[i]! = zs[i]! := fun i hi => by simp [hi]
  obtain ⟨h1, h2, -⟩ := compactUpTo_law zs.toArray (fun i j hij hj => by
    have hj' : j < zs.length := by simpa using hj
    rw [hget i (by omega), hget j hj', getElem!_pos zs i (by omega), getElem!_pos zs j hj']
    exact List.pairwise_iff_getElem.1 h i j (by omega) hj' hij) zs.length (by simp)
  refine ⟨h1, fun x => ?_⟩
  rw [show compact zs = compactUpTo zs.toArray zs.length from rfl, h2]
  constructor
  · rintro ⟨i, hi, rfl⟩
    rw [hget i hi, getElem!_pos zs i hi]
    exact List.getElem_mem hi
  · intro hx
    obtain ⟨i, hi, rfl⟩ := List.mem_iff_getElem.1 hx
    exact ⟨i, hi, by rw [hget i hi, getElem!_pos zs i hi]⟩

theorem numN_asc (k : Int) (l : List (List UInt8)) : ascI (numN k l) := (compact_law _ (srt_sorted _)).1
theorem mem_numN (k : Int) (l : List (List UInt8)) (x : Int) : x ∈ numN k l ↔ ∃ s ∈ l, numOf k s = some x := by
  unfold numN
  rw [(compact_law _ (srt_sorted _)).2, (srt_perm _).mem_iff]
  unfold numRaw
  rw [List.mem_filterMap]

/-- The document's way: put in at its place. -/
def insI (out : List Int) (n : Int) : List Int := out.takeWhile (fun x => decide (x < n)) ++ n :: out.filter (fun x => decide (n < x))
def rnumN (k : Int) (l : List (List UInt8)) : List Int := l.foldl (fun out s => match numOf k s with | some n => insI out n | none => out) []

theorem mem_takeWhile_ascI (n x : Int) : ∀ {l : List Int}, ascI l → x ∈ l → x < n → x ∈ l.takeWhile (fun x => decide (x < n))
  | [], _, h, _ => h
  | y :: l, ha, h, hx => by
    obtain ⟨h1, h2⟩ := List.pairwise_cons.1 ha
    have hy : y < n := by
      rcases List.mem_cons.1 h with rfl | h
      · exact hx
      · have := h1 x h; omega
    rw [List.takeWhile_cons, if_pos (by simpa using hy)]
    rcases List.mem_cons.1 h with rfl | h
    · exact List.mem_cons_self ..
    · exact List.mem_cons_of_mem _ (mem_takeWhile_ascI n x h2 h hx)

theorem takeWhileI_lt {n x : Int} : ∀ {l : List Int}, x ∈ l.takeWhile (fun x => decide (x < n)) → x < n
  | [], h => by cases h
  | y :: l, h => by
    rw [List.takeWhile_cons] at h
    split at h
    · rename_i hy
      rcases List.mem_cons.1 h with rfl | h
      · simpa using hy
      · exact takeWhileI_lt h
    · cases h

theorem insI_law {out : List Int} (h : ascI out) (n : Int) : ascI (insI out n) ∧ ∀ x, x ∈ insI out n ↔ x = n ∨ x ∈ out := by
  constructor
  · unfold insI ascI
    rw [List.pairwise_append]
    refine ⟨h.sublist (List.takeWhile_sublist _), List.pairwise_cons.2 ⟨fun y hy => by simpa using (List.mem_filter.1 hy).2, h.sublist List.filter_sublist⟩, fun x hx y hy => ?_⟩
    have h1 := takeWhileI_lt hx
    rcases List.mem_cons.1 hy with rfl | hy
    · exact h1
    · have : n < y := by simpa using (List.mem_filter.1 hy).2
      omega
  · intro x
    unfold insI
    rw [List.mem_append, List.mem_cons]
    constructor
    · rintro (hx | hx | hx)
      · exact .inr ((List.takeWhile_sublist _).subset hx)
      · exact .inl hx
      · exact .inr (List.mem_filter.1 hx).1
    · rintro (hx | hx)
      · exact .inr (.inl hx)
      · by_cases h1 : x < n
        · exact .inl (mem_takeWhile_ascI n x h hx h1)
        by_cases h2 : x = n
        · exact .inr (.inl h2)
        · exact .inr (.inr (List.mem_filter.2 ⟨hx, by simp; omega⟩))

theorem foldl_law (k : Int) : ∀ (l : List (List UInt8)) (out : List Int), ascI out →
    ascI (l.foldl (fun out s => match numOf k s with | some n => insI out n | none => out) out) ∧ ∀ x, x ∈ l.foldl (fun out s => match numOf k s with | some n => insI out n | none => out) out ↔ x ∈ out ∨ ∃ s ∈ l, numOf k s = some x
  | [], out, h => ⟨h, fun x => by simp⟩
  | s :: l, out, h => by
    simp only [List.foldl_cons]
    cases hq : numOf k s with
    | none =>
      obtain ⟨h1, h2⟩ := foldl_law k l out h
      refine ⟨h1, fun x => ?_⟩
      rw [h2]
      simp [hq]
    | some n =>
      obtain ⟨g1, g2⟩ := insI_law h n
      obtain ⟨h1, h2⟩ := foldl_law k l (insI out n) g1
      refine ⟨h1, fun x => ?_⟩
      rw [h2, g2]
      constructor
      · rintro ((rfl | hx) | ⟨t, ht, hx⟩)
        · exact .inr ⟨s, List.mem_cons_self .., hq⟩
        · exact .inl hx
        · exact .inr ⟨t, List.mem_cons_of_mem _ ht, hx⟩
      · rintro (hx | ⟨t, ht, hx⟩)
        · exact .inl (.inr hx)
        · rcases List.mem_cons.1 ht with rfl | ht
          · rw [hq] at hx; cases hx; exact .inl (.inl rfl)
          · exact .inr ⟨t, ht, hx⟩

theorem rnumN_eq (k : Int) (l : List (List UInt8)) : rnumN k l = numN k l := by
  obtain ⟨h1, h2⟩ := foldl_law k l [] List.Pairwise.nil
  refine ascI_ext h1 (numN_asc k l) fun x => ?_
  rw [mem_numN]
  have := h2 x
  simpa [rnumN] using this

end Go.Proofs.YtkeffhaldeedpaaDoor
