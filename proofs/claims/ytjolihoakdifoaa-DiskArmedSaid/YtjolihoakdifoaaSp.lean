/- A region whose operations go in their order, taken in pieces. -/
import Derived.Test.YtjolihoakdifoaaGd
namespace Go.Proofs.Ytjolihoakdifoaa
open Go Go.Lib
set_option maxRecDepth 100000

theorem aops_cut {P : Program} {Γ : Gam} (hΓ : GOk P Γ) {ops : Array Oper} (r : Option Nat) (m : Nat) {Q : Exit → Act → World → Prop} (l2 : List Oper) : ∀ (l : List Oper) (F F' : List AV) (H H' : AHeap) (j : Inj) (w : World) (a : Act),
    aops P Γ ops l F H = some (F', H') → R j H w → VRs j F a.tmps.toList → ∀ ds, a.defers = ds →
    (∀ j' w' a', VRs j' F' a'.tmps.toList → a'.defers = ds → Step H.length j H w j' H' w' → wpListIn (FW r) m P ops Q l2 a' w') → wpListIn (FW r) m P ops Q (l ++ l2) a w
  | [], F, F', H, H', j, w, a, h, hR, hF, ds, hd, hq => by
    cases h
    exact hq j w a hF hd (Step.refl hR (Nat.le_refl _))
  | o :: rest, F, F', H, H', j, w, a, h, hR, hF, ds, hd, hq => by
    unfold aops at h
    rw [List.cons_append]
    unfold wpListIn
    split at h
    · cases h
    · rename_i hw
      rw [wantA_ok hw hF]
      refine ⟨fun _ _ => trivial, ?_⟩
      exact aops_cut hΓ r m l2 rest _ F' H H' j w _ h hR (putA_ok hF o.dst ⟨#[], rfl, rfl⟩) ds (by rw [put_defers]; exact hd) hq
    · rename_i hw
      rw [wantA_ok hw hF]
      simp only [if_true]
      split at h
      · cases h
      · rename_i v H1 ho
        refine opA_ok hΓ ho hF hR r m fun cv j' w' hv hst => ?_
        have hle := hst.jle hR (Nat.le_refl _)
        refine aops_cut hΓ r m l2 rest _ F' H1 H' j' w' _ h hst.rel (putA_ok (VRs.mono hle _ _ hF) o.dst hv) ds (by rw [put_defers]; exact hd) fun j2 w2 a2 h1 h2 h3 => ?_
        exact hq j2 w2 a2 h1 h2 (hst.trans h3 hst.len)

/-- What is shown of a region's last operations. -/
def SimP (P : Program) (r : Option Nat) (n0 : Nat) (ops : Array Oper) (l : List Oper) (F : List AV) (H : AHeap) (Q : AX → List AV → AHeap → Prop) : Prop :=
  ∀ B jb Hb wb j w a m, B ≤ wb.heap.size → Step n0 jb Hb wb j H w → VRs j F a.tmps.toList → DefOk B w a.defers →
    wpListIn (FW r) m P ops (fun e a' w' => ∃ x F' H' j', e = AX.toExit x ∧ Q x F' H' ∧ VRs j' F' a'.tmps.toList ∧ DefOk B w' a'.defers ∧ Step n0 jb Hb wb j' H' w') l a w

theorem Sim.plain {P : Program} {r : Option Nat} {n0 k : Nat} {ops : Array Oper} {F : List AV} {H : AHeap} {Q : AX → List AV → AHeap → Prop} (hn : n0 ≤ H.length) (h : SimP P r n0 ops ops.toList F H Q) : Sim P r n0 (.region k ops false) F H Q := by
  intro B j w a m hB hR hF hd
  exact wpIn_region_list (h B j H w j w a m hB (Step.refl hR hn) hF hd)

theorem SimP.done {P : Program} {r : Option Nat} {n0 : Nat} {ops : Array Oper} {F : List AV} {H : AHeap} {Q : AX → List AV → AHeap → Prop} (h : Q .normal F H) : SimP P r n0 ops [] F H Q :=
  fun _ _ _ _ j _ _ _ _ hs hF hd => ⟨.normal, F, H, j, rfl, h, hF, hd, hs⟩

theorem SimP.many {P : Program} {Γ : Gam} (hΓ : GOk P Γ) {r : Option Nat} {n0 : Nat} (c : Nat) {ops : Array Oper} {l l1 l2 : List Oper} {F F' : List AV} {H H' : AHeap} {Q : AX → List AV → AHeap → Prop} (h1 : l.take c = l1) (h2 : l.drop c = l2)
    (hrun : aopsO P Γ ops l1 F H = some (F', H')) (k : SimP P r n0 ops l2 F' H' Q) : SimP P r n0 ops l F H Q := by
  intro B jb Hb wb j w a m hB hs hF hd
  rw [aopsO_eq] at hrun
  rw [← List.take_append_drop c l, h1, h2]
  exact aops_cut hΓ r m l2 l1 F F' H H' j w a hrun hs.rel hF _ rfl fun j1 w1 a1 g1 g2 g3 =>
    k B jb Hb wb j1 w1 a1 m hB (hs.trans g3 hs.len) g1 (by rw [g2]; exact hd.step hs.rel g3)

end Go.Proofs.Ytjolihoakdifoaa
