/- Names: the plain law of NameNumbers; numbers as keys of a map. -/
import Derived.Test.YtkeffhaldeedpaaDoorQq
namespace Go.Proofs.YtkeffhaldeedpaaDoor
open Go Go.Lib
set_option maxRecDepth 100000

theorem numN_same {k : Int} {l m : List (List UInt8)} (h : ∀ s, s ∈ l ↔ s ∈ m) : numN k l = numN k m := by
  refine ascI_ext (numN_asc _ _) (numN_asc _ _) fun x => ?_
  rw [mem_numN, mem_numN]
  simp only [h]

def addI (u : List Int) (x : Int) : List Int := if x ∈ u then u else u ++ [x]
theorem mem_addI {u : List Int} {x y : Int} : y ∈ addI u x ↔ y ∈ u ∨ y = x := by
  unfold addI
  split
  · rename_i h
    constructor
    · exact .inl
    · rintro (h1 | rfl)
      · exact h1
      · exact h
  · simp
theorem nodup_addI {u : List Int} {x : Int} (h : u.Nodup) : (addI u x).Nodup := by
  unfold addI
  split
  · exact h
  · rename_i hx
    rw [List.nodup_append]
    exact ⟨h, by simp, fun a ha b hb => by simp at hb; subst hb; rintro rfl; exact hx ha⟩

structure HasInv (u n : List Int) : Prop where
  nd : u.Nodup
  mem : ∀ x, x ∈ u ↔ x ∈ n
  len : u.length ≤ n.length

theorem HasInv.nil : HasInv [] [] := ⟨List.nodup_nil, fun _ => Iff.rfl, Nat.le_refl _⟩
theorem HasInv.add {u n : List Int} (h : HasInv u n) (x : Int) : HasInv (addI u x) (n ++ [x]) :=
  ⟨nodup_addI h.nd, fun y => by rw [mem_addI, h.mem]; simp, by
    have := h.len
    unfold addI; split <;> simp <;> omega⟩

theorem asc_nodup {l : List Int} (h : ascI l) : l.Nodup := List.Pairwise.imp (fun h => by omega) h

/-- Two rows without repetition of the same members are of one length. -/
theorem nodup_same : ∀ {u v : List Int}, u.Nodup → v.Nodup → (∀ x, x ∈ u ↔ x ∈ v) → u.length = v.length := by
  have le : ∀ (u v : List Int), u.Nodup → (∀ x, x ∈ u → x ∈ v) → u.length ≤ v.length := by
    intro u
    induction u with
    | nil => intro v _ _; exact Nat.zero_le _
    | cons a u ih =>
      intro v hu hs
      obtain ⟨h1, h2⟩ := List.nodup_cons.1 hu
      have ha := hs a (List.mem_cons_self ..)
      have h3 := ih (v.erase a) h2 fun x hx => by
        have hne : x ≠ a := by rintro rfl; exact h1 hx
        exact (List.mem_erase_of_ne hne).2 (hs x (List.mem_cons_of_mem _ hx))
      rw [List.length_erase_of_mem ha] at h3
      have := List.length_pos_of_mem ha
      rw [List.length_cons]; omega
  intro u v hu hv h
  exact Nat.le_antisymm (le u v hu fun x => (h x).1) (le v u hv fun x => (h x).2)

theorem has_all {k : Int} {x y : List (List UInt8)} {u : List Int} (h : HasInv u (numN k x ++ numN k y)) : (numN k (y ++ x)).length = u.length ∧ ∀ z ∈ numN k (y ++ x), z ∈ u := by
  have key : ∀ z, z ∈ numN k (y ++ x) ↔ z ∈ u := by
    intro z
    rw [h.mem, List.mem_append, mem_numN, mem_numN, mem_numN]
    constructor
    · rintro ⟨s, hs, h⟩
      rcases List.mem_append.1 hs with hs | hs
      · exact .inr ⟨s, hs, h⟩
      · exact .inl ⟨s, hs, h⟩
    · rintro (⟨s, hs, h⟩ | ⟨s, hs, h⟩)
      · exact ⟨s, List.mem_append.2 (.inr hs), h⟩
      · exact ⟨s, List.mem_append.2 (.inl hs), h⟩
  exact ⟨nodup_same (asc_nodup (numN_asc _ _)) h.nd key, fun z => (key z).1⟩

theorem asc_step {l : List Int} (h : ascI l) {i : Nat} {a b : Int} (h1 : l[i]? = some a) (h2 : l[i + 1]? = some b) : a < b := by
  obtain ⟨q1, rfl⟩ := List.getElem?_eq_some_iff.1 h1
  obtain ⟨q2, rfl⟩ := List.getElem?_eq_some_iff.1 h2
  exact (List.pairwise_iff_getElem.1 h) i (i + 1) q1 q2 (Nat.lt_succ_self i)

/-- Numbers, as keys of a map. -/
def hasA (u : List Int) : List (AV × AV) := u.map fun y => (.int .i64 y, .int .i64 1)
@[simp] theorem hasA_length (u : List Int) : (hasA u).length = u.length := by simp [hasA]

theorem find_has (x : Int) : ∀ (u : List Int) (i : Nat), findA (hasA u) (.int .i64 x) i = some (if x ∈ u then some (i + u.idxOf x, .int .i64 1) else none)
  | [], i => by simp [hasA, findA]
  | y :: u, i => by
    have ih := find_has x u (i + 1)
    simp only [hasA] at ih
    by_cases h : x = y
    · subst h; simp [hasA, findA, primEq]
    · have h2 : (x == y) = false := by simpa using h
      have h3 : (y == x) = false := by simpa using (fun e => h e.symm)
      simp only [hasA, List.map_cons, findA, primEq, if_true, h2, ih, List.mem_cons, h, false_or]
      split
      · rw [List.idxOf_cons, h3]
        simp; omega
      · rfl

theorem hasA_snoc (u : List Int) (x : Int) : hasA u ++ [(.int .i64 x, .int .i64 1)] = hasA (u ++ [x]) := by simp [hasA]
theorem hasA_set : ∀ {u : List Int} {x : Int}, x ∈ u → (hasA u).set (u.idxOf x) (.int .i64 x, .int .i64 1) = hasA u
  | y :: u, x, h => by
    by_cases e : y = x
    · subst e; simp [hasA]
    · have h' : x ∈ u := by
        rcases List.mem_cons.1 h with rfl | h
        · exact absurd rfl e
        · exact h
      have h3 : (y == x) = false := by simpa using e
      rw [List.idxOf_cons, h3]
      have := hasA_set h'
      simp only [hasA, List.map_cons, cond_false, List.set_cons_succ] at this ⊢
      rw [this]

@[simp] theorem frees_has1 : ∀ u : List Int, frees ((hasA u).map fun x => x.fst) = true
  | [] => rfl
  | y :: u => by have := frees_has1 u; simpa [hasA] using this
@[simp] theorem frees_has2 : ∀ u : List Int, frees ((hasA u).map fun x => x.snd) = true
  | [] => rfl
  | y :: u => by have := frees_has2 u; simpa [hasA] using this

theorem cpt_get {n : List Int} {z : List Int} (hn : compact z = n) {i : Nat} {a : Int} (h : n[i]? = some a) : (∀ q, (intsA (cpt z))[i]'q = .int .i64 a) ∧ i < (cpt z).length := by
  have hl : i < n.length := (List.getElem?_eq_some_iff.1 h).1
  have h1 : (cpt z)[i]? = some a := by
    unfold cpt
    rw [hn, List.getElem?_append_left hl]; exact h
  refine ⟨(ints_get h1).1, (List.getElem?_eq_some_iff.1 h1).1⟩

end Go.Proofs.YtkeffhaldeedpaaDoor
