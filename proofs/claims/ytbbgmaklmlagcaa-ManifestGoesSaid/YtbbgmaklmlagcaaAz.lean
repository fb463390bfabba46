/- A loop over a function, its iterator's contract given for just this call. -/
import Derived.Test.YtbbgmaklmlagcaaAy
namespace Go.Proofs.Ytbbgmaklmlagcaa

open Classical in
theorem gok_once {P : Program} {f : FuncId} {args : List AV} {H : AHeap} {v : AV} {H' : AHeap} (he : ∀ cargs w, (callFunc f cargs).run P w = .ok (.enter f cargs) w) (hf : f ≠ yl) (h : Ct P f args H v H') (hl : H.length ≤ H'.length) :
    GOk P (fun g a h => if g = f ∧ a = args ∧ h = H then some (v, H', List.range H.length) else none) := by
  refine ⟨fun g hg ⟨a, h0, r, hr⟩ => ?_, fun b a h0 v0 h1 W0 hr => ?_⟩
  · dsimp only at hr
    split at hr
    rotate_left
    · cases hr
    rename_i e
    obtain ⟨rfl, rfl, rfl⟩ := e
    refine ⟨he, fun a2 h2 v2 h3 W hs => ?_, fun a2 h2 v2 h3 W hs => ?_⟩
    · dsimp only at hs
      split at hs
      rotate_left
      · cases hs
      rename_i e
      obtain ⟨_, rfl, rfl⟩ := e
      cases hs
      exact h
    · dsimp only at hs
      split at hs
      rotate_left
      · cases hs
      rename_i e
      obtain ⟨_, rfl, rfl⟩ := e
      cases hs
      exact ⟨hl, fun b hb hn => absurd (List.mem_range.2 hb) hn⟩
  · dsimp only at hr
    split at hr
    · rename_i e
      exact absurd e.1.symm hf
    · cases hr

/-- How a loop over a function goes on behind it. -/
def afterA (pe : Option Code) : Option AX :=
  match pe with
  | none => some .normal
  | some .ret => some .ret
  | some (.exit id) => some (.exit id)
  | _ => none

theorem Sim.rangeFunc {P : Program} (hm : P.follows .mixedOrders = true) {n0 : Nat} {g : Operand} {ps : Array Tmp} {asg body : Code} {F : List AV} {H H1 : AHeap} {Q : AX → List AV → AHeap → Prop} {gf : FuncId} {cap : List AV} {v : AV} {x : AX}
    {ps' : Array Tmp} {asg' body' : Code} {st : LoopState} {pe : Option Code} {F' : List AV}
    (hg : ev F g = .func gf [] cap) (he : ∀ cargs w, (callFunc gf cargs).run P w = .ok (.enter gf cargs) w) (hne : gf ≠ yl)
    (h : Ct P gf (.yld H.length :: cap) (H ++ [.loop ps asg body .ready none F]) v H1) (hl : H.length < H1.length) (hk : H1[H.length]? = some (.loop ps' asg' body' st pe F')) (hst : st ≠ .busy) (hx : afterA pe = some x) (hn : n0 ≤ H.length)
    (hq : Q x F (H1.set H.length .dead)) : Sim P none n0 (.rangeFunc g ps asg body) F H Q := by
  refine Sim.exec hm (gok_once he hne h (by simp; omega)) (n := 0) (x := x) (F' := F) (H' := H1.set H.length .dead) ?_ hn hq
  unfold acode
  rw [hg]
  simp only [Option.isNone, if_true, hne, if_false, and_self, hk]
  unfold afterA at hx
  cases st with
  | busy => exact absurd rfl hst
  | ready => split at hx <;> cases hx <;> rfl
  | done => split at hx <;> cases hx <;> rfl
  | exhausted => split at hx <;> cases hx <;> rfl

/-- The same, the heap behind it told around the record. -/
theorem Sim.rangeFuncN {P : Program} (hm : P.follows .mixedOrders = true) (mk : ABlk → AHeap) (st : LoopState) (pe : Option Code) (v : AV) {n0 : Nat} {g : Operand} {ps : Array Tmp} {asg body : Code} {F : List AV} {H : AHeap} {Q : AX → List AV → AHeap → Prop} {gf : FuncId} {cap : List AV} {x : AX}
    (hg : ev F g = .func gf [] cap) (he : ∀ cargs w, (callFunc gf cargs).run P w = .ok (.enter gf cargs) w) (hne : gf ≠ yl)
    (hl : H.length < (mk (.loop ps asg body st pe F)).length) (hk : (mk (.loop ps asg body st pe F))[H.length]? = some (.loop ps asg body st pe F)) (hst : st ≠ .busy) (hx : afterA pe = some x) (hn : n0 ≤ H.length)
    (h : Ct P gf (.yld H.length :: cap) (H ++ [.loop ps asg body .ready none F]) v (mk (.loop ps asg body st pe F)))
    (hq : Q x F ((mk (.loop ps asg body st pe F)).set H.length .dead)) : Sim P none n0 (.rangeFunc g ps asg body) F H Q :=
  Sim.rangeFunc hm hg he hne h hl hk hst hx hn hq

end Go.Proofs.Ytbbgmaklmlagcaa
