/- Summaries of functions that change one object. -/
import Derived.Test.YtjolihoakdifoaaCa
namespace Go.Proofs.Ytjolihoakdifoaa
open Go

theorem AW_free {rn : List Nat} : ∀ (x : AV), flatA x = true → AW rn x x
  | .bool _, _ | .int _ _, _ | .str _, _ | .nilp, _ | .nils, _ | .nilm, _ | .nilf, _ => by simp [AW]

def flatsA (l : List AV) : Bool := l.all flatA
theorem AWs_flat {rn : List Nat} : ∀ (l : List AV), flatsA l = true → AWs rn l l
  | [], _ => trivial
  | x :: l, h => by
    simp only [flatsA, List.all_cons, Bool.and_eq_true] at h
    exact ⟨AW_free x h.1, AWs_flat l h.2⟩
theorem reA_flat (g : Nat → Nat) {x : AV} (h : flatA x = true) : reA g x = x := by cases x <;> simp_all [flatA, reA]

/-- A value that names nothing, or a row of such. -/
def flatT : AV → Bool
  | .tuple l => flatsA l
  | .agg l => flatsA l
  | x => flatA x
theorem reAs_flat (g : Nat → Nat) : ∀ (l : List AV), flatsA l = true → reAs g l = l
  | [], _ => rfl
  | x :: l, h => by
    simp only [flatsA, List.all_cons, Bool.and_eq_true] at h
    simp only [reAs, reA_flat g h.1, reAs_flat g l h.2]
theorem reA_flatT (g : Nat → Nat) {x : AV} (h : flatT x = true) : reA g x = x := by
  cases x <;> first | exact reA_flat g h | (simp only [reA]; rw [reAs_flat g _ h])

def flatsT (l : List AV) : Bool := l.all flatT
theorem AW_flatT {rn : List Nat} (x : AV) (h : flatT x = true) : AW rn x x := by
  cases x <;> first | exact AW_free _ h | exact AWs_flat _ h
theorem AWs_flatT {rn : List Nat} : ∀ (l : List AV), flatsT l = true → AWs rn l l
  | [], _ => trivial
  | x :: l, h => by
    simp only [flatsT, List.all_cons, Bool.and_eq_true] at h
    exact ⟨AW_flatT x h.1, AWs_flatT l h.2⟩

/-- A contract of one object, beside whatever there is. -/
theorem ct_obj1 {P : Program} {f : FuncId} {xs : List AV} {s s' : AHeap} {v : AV} (h : Ct P f (.ptr 0 0 :: xs) [.obj true s] v [.obj true s']) (hx : flatsT xs = true) (hv : flatT v = true) {H : AHeap} {b : Nat} (hb : H[b]? = some (.obj true s)) :
    Ct P f (.ptr b 0 :: xs) H v (H.set b (.obj true s')) := by
  have hbl : b < H.length := (List.getElem?_eq_some_iff.1 hb).1
  have := ct_frame (H := H) (args := .ptr b 0 :: xs) h [b] (by simp) ⟨⟨rfl, rfl⟩, AWs_flatT xs hx⟩ ⟨by rw [List.getD_eq_getElem?_getD, hb]; exact ⟨rfl, rfl⟩, hbl, trivial⟩ rfl
  rw [reA_flatT _ hv] at this
  simpa [setOwn, ABlk.own, reB] using this

/-- The same, with a row beside it that is only read. -/
theorem ct_obj2 {P : Program} {f : FuncId} {x : AV} {y : AV} {xs : List AV} {s s' : AHeap} {l : List AV} {v : AV} (h : Ct P f (.ptr 0 0 :: x :: xs) [.obj true s, .cells false l] v [.obj true s', .cells false l]) (hx : flatsA xs = true) (hv : flatT v = true) (hl : flatsA l = true) {H : AHeap} {b b2 : Nat} {o : Bool} (hb : H[b]? = some (.obj true s)) (hb2 : H[b2]? = some (.cells o l)) (hy : AW [b, b2] x y) :
    Ct P f (.ptr b 0 :: y :: xs) H v (H.set b (.obj true s')) := by
  have hbl : b < H.length := (List.getElem?_eq_some_iff.1 hb).1
  have hbl2 : b2 < H.length := (List.getElem?_eq_some_iff.1 hb2).1
  have hne : b ≠ b2 := by rintro rfl; rw [hb] at hb2; cases hb2
  have := ct_frame (H := H) (args := .ptr b 0 :: y :: xs) h [b, b2] (by simp [hne]) ⟨⟨rfl, rfl⟩, hy, AWs_flat xs hx⟩ ⟨by rw [List.getD_eq_getElem?_getD, hb]; exact ⟨rfl, rfl⟩, hbl, by rw [List.getD_eq_getElem?_getD, hb2]; exact ⟨by simp, AWs_flat l hl⟩, hbl2, trivial⟩ rfl
  rw [reA_flatT _ hv] at this
  simpa [setOwn, ABlk.own, reB] using this

/-- The summary of a function that changes one object, its first argument. -/
def objS {σ : Type} (dec : AHeap → Option σ) (enc : σ → AHeap) (g : σ → List AV → AHeap → Option (σ × AV)) : Summ := fun args H => match args with
  | .ptr b 0 :: xs => match H[b]? with
    | some (.obj true sub) => match dec sub with
      | some s => match g s xs H with
        | some (s', v) => some (v, H.set b (.obj true (enc s')), [b])
        | none => none
      | none => none
    | _ => none
  | _ => none

theorem sound_obj {P : Program} {f : FuncId} {σ : Type} {dec : AHeap → Option σ} {enc : σ → AHeap} {g : σ → List AV → AHeap → Option (σ × AV)} (he : ∀ cargs w, (callFunc f cargs).run P w = .ok (.enter f cargs) w) (hd : ∀ sub s, dec sub = some s → sub = enc s)
    (h : ∀ s xs H s' v b, g s xs H = some (s', v) → H[b]? = some (.obj true (enc s)) → Ct P f (.ptr b 0 :: xs) H v (H.set b (.obj true (enc s')))) : Sound P f (objS dec enc g) := by
  have key : ∀ args H v H' W, objS dec enc g args H = some (v, H', W) → ∃ b xs s s', args = .ptr b 0 :: xs ∧ H[b]? = some (.obj true (enc s)) ∧ g s xs H = some (s', v) ∧ H' = H.set b (.obj true (enc s')) ∧ W = [b] := by
    intro args H v H' W hs
    unfold objS at hs
    split at hs
    rotate_left
    · cases hs
    rename_i b xs
    split at hs
    rotate_left
    · cases hs
    rename_i sub hb
    split at hs
    rotate_left
    · cases hs
    rename_i s hds
    split at hs
    rotate_left
    · cases hs
    rename_i s' v' hg
    cases hs
    have := hd sub s hds
    subst this
    exact ⟨b, xs, s, s', rfl, hb, hg, rfl, rfl⟩
  refine ⟨he, fun args H v H' W hs => ?_, fun args H v H' W hs => ?_⟩
  · obtain ⟨b, xs, s, s', rfl, h1, h2, rfl, rfl⟩ := key args H v H' W hs
    exact h s xs H s' v b h2 h1
  · obtain ⟨b, xs, s, s', rfl, h1, h2, rfl, rfl⟩ := key args H v H' W hs
    refine ⟨by simp, fun c hc hn => ?_⟩
    rw [List.getElem?_set_ne (fun e => hn (by simp [e]))]

attribute [simp] objS

end Go.Proofs.Ytjolihoakdifoaa
