/- Drawn regions by stages, in walks over symbolic states. -/
import Derived.Test.YtbbgmaklmlagcaaLe
namespace Go.Proofs.Ytbbgmaklmlagcaa

/-- What is shown of a drawn region from its operation c on. -/
def SimR (P : Program) (r : Option Nat) (n0 : Nat) (ops : Array Oper) (c : Nat) (F : List AV) (H : AHeap) (Q : AX → List AV → AHeap → Prop) : Prop :=
  ∀ B jb Hb wb j w a m, B ≤ wb.heap.size → Step n0 jb Hb wb j H w → VRs j F a.tmps.toList → DefOk B w a.defers →
    wpAnyIn (FW r) m P .any ops (fun e a' w' => ∃ x F' H' j', e = AX.toExit x ∧ Q x F' H' ∧ VRs j' F' a'.tmps.toList ∧ DefOk B w' a'.defers ∧ Step n0 jb Hb wb j' H' w') (ops.size - c) (lst ops.size c) a w

/-- A region's start. -/
theorem Sim.draw {P : Program} (hm : P.follows .mixedOrders = true) {r : Option Nat} {n0 k : Nat} {ops : Array Oper} {F : List AV} {H : AHeap} {Q : AX → List AV → AHeap → Prop} (hn : n0 ≤ H.length) (h : SimR P r n0 ops 0 F H Q) : Sim P r n0 (.region k ops true) F H Q := by
  intro B j w a m hB hR hF hd
  refine wpIn_region_any hm ?_
  have := h B j H w j { w with drawn := w.drawn + 1 } a m hB (step_drew (Step.refl (hR.heapEq rfl) hn)) hF hd
  have e : lst ops.size 0 = Array.replicate ops.size false := by simp [lst]
  rw [e] at this
  exact this

/-- Its end. -/
theorem SimR.done {P : Program} {r : Option Nat} {n0 c : Nat} {ops : Array Oper} {F : List AV} {H : AHeap} {Q : AX → List AV → AHeap → Prop} (hc : c = ops.size) (h : Q .normal F H) : SimR P r n0 ops c F H Q := by
  intro B jb Hb wb j w a m hB hs hF hd
  subst hc
  rw [Nat.sub_self]
  refine ⟨?_, .normal, F, H, j, rfl, h, hF, hd, hs⟩
  rw [List.eq_nil_iff_forall_not_mem]
  intro i hi
  obtain ⟨h1, h2, _⟩ := ready_iff.1 hi
  have := lst_get ops.size ops.size i
  rw [Array.getD_eq_getD_getElem?, Array.getElem?_eq_getElem (show i < (lst ops.size ops.size).size by rw [lst_size (Nat.le_refl _)]; exact h1)] at h2 this
  simp at h2 this
  rw [this] at h2
  simp at h2
  omega

/-- One operation of any kind, all ahead of it done, and all behind it waiting. -/
theorem SimR.one {P : Program} {Γ : Gam} (hΓ : GOk P Γ) {r : Option Nat} {n0 c : Nat} {ops : Array Oper} {F F' : List AV} {H H' : AHeap} {Q : AX → List AV → AHeap → Prop} (o : Oper) (ho : ops[c]? = some o) (hb : (edgesB ops.toList && cutB ops.toList (pres ops.toList) (c + 1)) = true)
    (hrun : (match wantA ops o F with | none => none | some false => some (putA F o.dst undefA, H) | some true => match opA P Γ F H o.op with | none => none | some (v, H1) => some (putA F o.dst v, H1)) = some (F', H')) (k : SimR P r n0 ops (c + 1) F' H' Q) : SimR P r n0 ops c F H Q := by
  intro B jb Hb wb j w a m hB hs hF hd
  rw [Bool.and_eq_true] at hb
  have hrun' : (wantA ops o F = some false ∧ F' = putA F o.dst undefA ∧ H' = H) ∨ (wantA ops o F = some true ∧ ∃ v, opA P Γ F H o.op = some (v, H') ∧ F' = putA F o.dst v) := by
    split at hrun
    · cases hrun
    · rename_i hw; cases hrun; exact .inl ⟨hw, rfl, rfl⟩
    · rename_i hw
      split at hrun
      · cases hrun
      · rename_i v H1 hv; cases hrun; exact .inr ⟨hw, v, hv, rfl⟩
  exact seq1_wp hΓ ho (cutB_ok hb.2) hs.rel hF rfl (edgesB_ok hb.1) r m hrun' fun j1 a1 w1 h1 h2 h3 =>
    k B jb Hb wb j1 w1 a1 m hB (hs.trans h3 hs.len) h1 (by rw [h2]; exact hd.step hs.rel h3)

/-- Several ones, in whatever order. -/
theorem SimR.many {P : Program} {Γ : Gam} (hΓ : GOk P Γ) {r : Option Nat} {n0 c : Nat} (c' : Nat) {ops : Array Oper} {F F' : List AV} {H H' : AHeap} {Q : AX → List AV → AHeap → Prop} {A : Array Oper} (hA : stageOps ops c c' = A) (hcc : c ≤ c') (hb : (edgesB ops.toList && cutB ops.toList (pres ops.toList) c') = true)
    (hrun : qrunO P Γ A A.toList F H [] [] = some (F', H')) (k : SimR P r n0 ops c' F' H' Q) : SimR P r n0 ops c F H Q := by
  intro B jb Hb wb j w a m hB hs hF hd
  rw [Bool.and_eq_true] at hb
  subst hA
  rw [qrunO_eq, ← adraw_eqT] at hrun
  exact stage_wp hΓ hcc (cutB_ok hb.2) hrun hs.rel hF rfl r m (fun j1 a1 w1 h1 h2 h3 =>
    k B jb Hb wb j1 w1 a1 m hB (hs.trans h3 hs.len) h1 (by rw [h2]; exact hd.step hs.rel h3)) (fun k o e hk ho hee hbe => by have := edgesB_ok hb.1 k o e ho hee hbe; omega)

/-- What stands behind the first pieces of a text. -/
def restC : Nat → Code → Code
  | 0, c => c
  | n + 1, .seq _ y => restC n y
  | _ + 1, _ => .skip

def bodyOf (f : Func) : Code := f.body.getD .skip

/-- A function's end. -/
def Ends (P : Program) (fn : Func) (n0 : Nat) (v : AV) (H' : AHeap) : AX → List AV → AHeap → Prop := fun x F1 H1 => (x = .normal ∨ x = .ret) ∧ ∃ v1, resA P fn.results.toList F1 H1 = some v1 ∧ Weak n0 [v1] H1 [v] H'

end Go.Proofs.Ytbbgmaklmlagcaa
