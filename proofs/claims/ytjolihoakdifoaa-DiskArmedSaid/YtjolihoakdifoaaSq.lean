/- A drawn region: a stage whose last operation is of any kind, in a walk. -/
import Derived.Test.YtjolihoakdifoaaGd
namespace Go.Proofs.Ytjolihoakdifoaa
open Go Go.Lib
set_option maxRecDepth 100000
attribute [-simp] drawOk_eq adraw qrun acode aops

def hqT (P : Program) (Γ : Gam) (V : Array Oper) : List Oper → List AV → AHeap → List QF → Option (List QF × List AV × AHeap)
  | [], F, H, fs => some (fs, F, H)
  | o :: rest, F, H, fs =>
    match qstepU P Γ V F H o with
    | none => none
    | some q => hqT P Γ V rest (putA F o.dst q.v) q.H (fs ++ [q.fl])

theorem hrun_hq (P : Program) (Γ : Gam) (V : Array Oper) (k : List AV → AHeap → List QF → Option (List AV × AHeap)) : ∀ (l : List Oper) (F : List AV) (H : AHeap) (fs fs' : List QF) (F1 : List AV) (H1 : AHeap), hqT P Γ V l F H fs = some (fs', F1, H1) → hrun P Γ V k l F H fs = k F1 H1 fs'
  | [], F, H, fs, fs', F1, H1, h => by cases h; rfl
  | o :: rest, F, H, fs, fs', F1, H1, h => by
    unfold hqT at h
    unfold hrun
    cases hq : qstepU P Γ V F H o with
    | none => rw [hq] at h; cases h
    | some q => rw [hq] at h; exact hrun_hq P Γ V k rest _ _ _ _ _ _ h

noncomputable def hqO : Program → Gam → Array Oper → List Oper → List AV → AHeap → List QF → Option (List QF × List AV × AHeap) := Classical.choose (⟨hqT, rfl⟩ : ∃ f, f = hqT)
theorem hqO_eq : hqO = hqT := Classical.choose_spec (⟨hqT, rfl⟩ : ∃ f, f = hqT)
@[simp] theorem hqO_nil (P : Program) (Γ : Gam) (V : Array Oper) (F : List AV) (H : AHeap) (fs : List QF) : hqO P Γ V [] F H fs = some (fs, F, H) := by rw [hqO_eq]; rfl
@[simp] theorem hqO_cons (P : Program) (Γ : Gam) (V : Array Oper) (o : Oper) (rest : List Oper) (F : List AV) (H : AHeap) (fs : List QF) : hqO P Γ V (o :: rest) F H fs =
    match qstepU P Γ V F H o with
    | none => none
    | some q => hqO P Γ V rest (putA F o.dst q.v) q.H (fs ++ [q.fl]) := by
  rw [hqO_eq]; rfl

/-- The operations up to h, of which not all need be ahead of it: those that are not only look at what it leaves alone. -/
theorem SimR.hard {P : Program} {Γ : Gam} (hΓ : GOk P Γ) {r : Option Nat} {n0 c : Nat} (h p : Nat) {ops : Array Oper} {F F1 F2 : List AV} {H H1 H' : AHeap} {fs : List QF} {v : AV} {Q : AX → List AV → AHeap → Prop} (o : Oper) (ho : ops[h]? = some o) {A : Array Oper} (hA : stageOps ops c h = A) (hch : c ≤ h)
    (hb : (edgesB ops.toList && cutB ops.toList (pres ops.toList) (h + 1)) = true) (hp : (pres ops.toList).getD h 0 = p) (hq : hqO P Γ A A.toList F H [] = some (fs, F1, H1))
    (hchk : ((ops.toList.take h).all (fun o => match o.guard with | some (j, _) => Nat.blt j h | none => true) && (fs.all (fun q => q.st.isNone) && drawOkH A fs)) = true)
    (hF2 : topsA A p (List.range h) F1 = F2) (hrun : wantA ops o F2 = some true ∧ opA P Γ F2 H1 o.op = some (v, H')) (hok : hardOk A p o.dst fs H1 H' h = true) (k : SimR P r n0 ops (h + 1) (putA F1 o.dst v) H' Q) : SimR P r n0 ops c F H Q := by
  intro B jb Hb wb j w a m hB hs hF hd
  rw [Bool.and_eq_true] at hb
  subst hA
  rw [hqO_eq] at hq
  have hrn : hardRun P Γ ops c h F H = some (putA F1 o.dst v, H') := by
    unfold hardRun
    rw [ho]
    dsimp only
    rw [forceN_eq, hp, hrun_hq _ _ _ _ _ _ _ _ _ _ _ hq]
    refine (if_pos hchk).trans ?_
    rw [hF2, hrun.1]
    dsimp only
    rw [hrun.2]
    dsimp only
    rw [if_pos hok]
  exact hard_wp hΓ hch (cutB_ok hb.2) hrn hs.rel hF rfl r m (fun j1 a1 w1 h1 h2 h3 =>
    k B jb Hb wb j1 w1 a1 m hB (hs.trans h3 hs.len) h1 (by rw [h2]; exact hd.step hs.rel h3)) (fun k o e hk ho hee hbe => by have := edgesB_ok hb.1 k o e ho hee hbe; omega) (fun k o e ho hee hbe => edgesB_ok hb.1 k o e ho hee hbe)

end Go.Proofs.Ytjolihoakdifoaa
