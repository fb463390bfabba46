/- Manifests, in plain words: what is right. -/
import Derived.Test.YtbbgmaklmlagcaaMc
namespace Go.Proofs.Ytbbgmaklmlagcaa
open Go

def Sg.ok (n : Int) (s : Sg) : Bool := decide (1 ≤ s.1 ∧ s.1 < n ∧ 1 ≤ s.2.1 ∧ s.2.1 ≤ 100000 ∧ 1 ≤ s.2.2 ∧ s.2.2 ≤ 1000000000)

def numsS (l : List Sg) : List Int := l.map (·.1)

/-- Where the first segment stands that may not be; -1: none. -/
def badAt (n : Int) : List Int → List Sg → Nat → Int
  | _, [], _ => -1
  | u, s :: l, i => if s.1 ∈ u ∨ Sg.ok n s = false then i else badAt n (u ++ [s.1]) l (i + 1)

def Mf.counts (m : Mf) : Bool := decide (0 ≤ m.v ∧ m.v ≤ 900000000 ∧ 1 ≤ m.f ∧ m.f ≤ 900000000 ∧ 1 ≤ m.n ∧ m.n ≤ 900000000)

def Mf.right (m : Mf) : Bool := m.counts && (decide (m.segs.length ≤ 1000) && (m.segs.all (Sg.ok m.n) && decide (numsS m.segs).Nodup))

theorem badAt_iff (n : Int) : ∀ (l : List Sg) (u : List Int) (i : Nat), (0 ≤ badAt n u l i) ↔ ¬ (l.all (Sg.ok n) = true ∧ (numsS l).Nodup ∧ ∀ x ∈ numsS l, x ∉ u)
  | [], u, i => by simp [badAt, numsS]
  | s :: l, u, i => by
    unfold badAt
    by_cases h : s.1 ∈ u ∨ Sg.ok n s = false
    · rw [if_pos h]
      constructor
      · rintro _ ⟨h1, _, h3⟩
        rcases h with h | h
        · exact h3 s.1 (by simp [numsS]) h
        · simp [h] at h1
      · intro _; omega
    · rw [if_neg h, badAt_iff n l _ (i + 1)]
      simp only [not_or, Bool.not_eq_false] at h
      have e : (List.all (s :: l) (Sg.ok n) = true ∧ (numsS (s :: l)).Nodup ∧ ∀ x ∈ numsS (s :: l), x ∉ u) ↔ (l.all (Sg.ok n) = true ∧ (numsS l).Nodup ∧ ∀ x ∈ numsS l, x ∉ u ++ [s.1]) := by
        have e1 : numsS (s :: l) = s.1 :: numsS l := rfl
        rw [e1, List.nodup_cons]
        simp only [List.all_cons, h.2, Bool.true_and, List.mem_cons, List.mem_append, not_or]
        constructor
        · rintro ⟨a, ⟨b, c⟩, d⟩
          exact ⟨a, c, fun x hx => ⟨d x (.inr hx), fun hh => b (hh ▸ hx), by simp⟩⟩
        · rintro ⟨a, c, d⟩
          exact ⟨a, ⟨fun hx => (d _ hx).2.1 rfl, c⟩, fun x hx => by rcases hx with rfl | hx; exact h.1; exact (d x hx).1⟩
      rw [e]

theorem Mf.right_eq (m : Mf) : m.right = (m.counts && (decide (m.segs.length ≤ 1000) && !decide (0 ≤ badAt m.n [] m.segs 0))) := by
  have : (m.segs.all (Sg.ok m.n) && decide (numsS m.segs).Nodup) = !decide (0 ≤ badAt m.n [] m.segs 0) := by
    rw [Bool.eq_iff_iff]
    simp only [Bool.and_eq_true, decide_eq_true_eq, Bool.not_eq_true', decide_eq_false_iff_not, badAt_iff]
    simp
  unfold Mf.right
  rw [this]

theorem badAt_lt (n : Int) : ∀ (l : List Sg) (u : List Int) (i : Nat), badAt n u l i ≤ i + l.length ∧ -1 ≤ badAt n u l i
  | [], u, i => by simp [badAt] <;> omega
  | s :: l, u, i => by
    unfold badAt
    have := badAt_lt n l (u ++ [s.1]) (i + 1)
    split
    · simp; omega
    · simp at this ⊢; omega

/-- Numbers, as keys of a map. -/
def usedA (u : List Int) : List (AV × AV) := u.map fun y => (.int .i64 y, .int .i64 1)

theorem find_used (x : Int) : ∀ (u : List Int) (i : Nat), findA (usedA u) (.int .i64 x) i = some (if x ∈ u then some (i + u.idxOf x, .int .i64 1) else none)
  | [], i => by simp [usedA, findA]
  | y :: u, i => by
    have ih := find_used x u (i + 1)
    simp only [usedA] at ih
    by_cases h : x = y
    · subst h; simp [usedA, findA, primEq]
    · have h2 : (x == y) = false := by simpa using h
      have h3 : (y == x) = false := by simpa using (fun e => h e.symm)
      simp only [usedA, List.map_cons, findA, primEq, if_true, h2, ih, List.mem_cons, h, false_or]
      split
      · rw [List.idxOf_cons, h3]
        simp; omega
      · rfl

@[simp] theorem usedA_snoc (u : List Int) (x : Int) : usedA u ++ [(.int .i64 x, .int .i64 1)] = usedA (u ++ [x]) := by simp [usedA]

@[simp] theorem frees_used1 : ∀ u : List Int, frees ((usedA u).map fun x => x.fst) = true
  | [] => rfl
  | y :: u => by have := frees_used1 u; simpa [usedA] using this
@[simp] theorem frees_used2 : ∀ u : List Int, frees ((usedA u).map fun x => x.snd) = true
  | [] => rfl
  | y :: u => by have := frees_used2 u; simpa [usedA] using this

/-- A function that reads what there is: its run, what it made forgotten. -/
theorem ct_rd {P : Program} {Γ : Gam} (hm : P.follows .mixedOrders = true) (hΓ : GOk P Γ) {n : Nat} {f : FuncId} {fn : Func} (hf : P.funcs[f]? = some fn) {args : List AV} {H : AHeap} {v : AV} (h : ∃ X, runF P Γ n fn args H = some (v, H ++ X)) (hw : ∀ X, Weak H.length [v] (H ++ X) [v] H) : Ct P f args H v H := by
  obtain ⟨X, h⟩ := h
  exact ct_run hm hΓ hf h (hw X)

theorem minA_min (k k' : IntKind) (x y : Int) : minA false (.int k x) (.int k' y) = some (.int k (min x y)) := by
  unfold minA; simp only [Bool.false_eq_true, if_false]; congr 2; omega
theorem minA_max (k k' : IntKind) (x y : Int) : minA true (.int k x) (.int k' y) = some (.int k (max x y)) := by
  unfold minA; simp only [if_true]; congr 2; omega

end Go.Proofs.Ytbbgmaklmlagcaa
