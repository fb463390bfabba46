/- A drawn region's check where reads and stores stand at places that are no numbers. -/
import Derived.Test.YtndkhkponamplaaGe
namespace Go.Proofs.Ytndkhkponamplaa
open Go

mutual
theorem below_mono {n m : Nat} (h : n ≤ m) : ∀ x : AV, below n x = true → below m x = true
  | .top, _ => rfl
  | .bool _, _ => rfl
  | .int _ _, _ => rfl
  | .str _, _ => rfl
  | .ptr b _, k => by simp only [below, decide_eq_true_eq] at k ⊢; omega
  | .nilp, _ => rfl
  | .slice b _ _ _ _, k => by simp only [below, decide_eq_true_eq] at k ⊢; omega
  | .sl b _ _ _ _, k => by simp only [below, decide_eq_true_eq] at k ⊢; omega
  | .nils, _ => rfl
  | .map b, k => by simp only [below, decide_eq_true_eq] at k ⊢; omega
  | .nilm, _ => rfl
  | .func _ xs ys, k => by
    simp only [below, Bool.and_eq_true] at k ⊢
    exact ⟨belows_mono h xs k.1, belows_mono h ys k.2⟩
  | .yld b, k => by simp only [below, decide_eq_true_eq] at k ⊢; omega
  | .nilf, _ => rfl
  | .agg l, k => by simp only [below] at k ⊢; exact belows_mono h l k
  | .tuple l, k => by simp only [below] at k ⊢; exact belows_mono h l k
theorem belows_mono {n m : Nat} (h : n ≤ m) : ∀ l : List AV, belows n l = true → belows m l = true
  | [], _ => rfl
  | x :: xs, k => by
    simp only [belows, Bool.and_eq_true] at k ⊢
    exact ⟨below_mono h x k.1, belows_mono h xs k.2⟩
end

def pairOkU (before : Bool) (si sk : List Nat) (di dk : Option Nat) (qi qk : QF) : Bool :=
  (match di with
   | some d => !sk.contains d || before
   | none => true) &&
  (match dk with
   | some d => (!si.contains d || before) && dk != di
   | none => true) &&
  (match qi.st with
   | some _ => !qk.call
   | none => true) &&
  (match qk.st with
   | some _ => !qi.call || before
   | none => true) &&
  (!qi.call || !qk.grows || before || qi.sc)

def drawOkU (ops : List Oper) (slots : List (List Nat)) (qs : List QF) (pr : List Nat) : Bool :=
  (List.range ops.length).all fun k =>
    ((ops.getD k default).after.toList.all fun e => !Region.binds .any e || e.on < k) &&
    (List.range k).all fun i =>
      pairOkU ((pr.getD k 0).testBit i) (slots.getD i []) (slots.getD k []) (ops.getD i default).dst (ops.getD k default).dst (qs.getD i ⟨none, none, false, false, false⟩) (qs.getD k ⟨none, none, false, false, false⟩)

def drawOkGU (ops : List Oper) (slots : List (List Nat)) (qs : List QF) : Bool := presGoF (drawOkU ops slots qs) ops []

theorem pairOkU_T {b : Bool} {si sk : List Nat} {di dk : Option Nat} {qi qk : QF} (h : pairOkU b si sk di dk qi qk = true) (h1 : ∀ s, qi.st = some s → (qk.rd != some s.1) = true) (h2 : ∀ s, qk.st = some s → (qi.rd != some s.1) = true) : pairOkT b si sk di dk qi qk = true := by
  unfold pairOkU at h
  unfold pairOkT
  simp only [Bool.and_eq_true] at h ⊢
  refine ⟨⟨⟨h.1.1.1, ?_⟩, ?_⟩, h.2⟩
  · have h3 := h.1.1.2
    cases hs : qi.st with
    | none => rfl
    | some s =>
      rw [hs] at h3
      simp only [Bool.and_eq_true]
      exact ⟨h1 s hs, h3⟩
  · have h3 := h.1.2
    cases hs : qk.st with
    | none => rfl
    | some s =>
      rw [hs] at h3
      simp only [Bool.and_eq_true, Bool.or_eq_true] at h3 ⊢
      exact ⟨.inl (h2 s hs), h3⟩

/-- Stores apart from each other, and from what is read: both told beside the check. -/
theorem drawOkG_splitU {ops : List Oper} {slots : List (List Nat)} {qs : List QF} (h : drawOkGU ops slots qs = true) (hp : (qs.filterMap (·.st)).Pairwise fun a b => apartF a b = true)
    (hr : ∀ r ∈ qs.filterMap (·.rd), ∀ s ∈ qs.filterMap (·.st), r ≠ s.1) : drawOkG ops slots qs = true := by
  refine drawOkG_split ?_ hp
  unfold drawOkGU at h
  unfold drawOkGT
  rw [presGoF_eq] at h ⊢
  unfold drawOkU at h
  unfold drawOkT
  rw [List.all_eq_true] at h ⊢
  intro k hk
  have := h k hk
  rw [Bool.and_eq_true] at this ⊢
  refine ⟨this.1, ?_⟩
  rw [List.all_eq_true]
  intro i hi
  have key : ∀ a b s, (qs.getD a ⟨none, none, false, false, false⟩).st = some s → ((qs.getD b ⟨none, none, false, false, false⟩).rd != some s.1) = true := by
    intro a b s hs
    have ha : s ∈ qs.filterMap (·.st) := by
      rcases Nat.lt_or_ge a qs.length with h3 | h3
      · rw [List.getD_eq_getElem?_getD, List.getElem?_eq_getElem h3] at hs
        exact List.mem_filterMap.2 ⟨_, List.getElem_mem h3, hs⟩
      · rw [List.getD_eq_getElem?_getD, List.getElem?_eq_none h3] at hs; cases hs
    rw [bne_iff_ne]
    intro hb
    have hb' : s.1 ∈ qs.filterMap (·.rd) := by
      rcases Nat.lt_or_ge b qs.length with h3 | h3
      · rw [List.getD_eq_getElem?_getD, List.getElem?_eq_getElem h3] at hb
        exact List.mem_filterMap.2 ⟨_, List.getElem_mem h3, hb⟩
      · rw [List.getD_eq_getElem?_getD, List.getElem?_eq_none h3] at hb; cases hb
    exact hr _ hb' _ ha rfl
  exact pairOkU_T (List.all_eq_true.1 this.2 i hi) (fun s hs => key i k s hs) (fun s hs => key k i s hs)

end Go.Proofs.Ytndkhkponamplaa
