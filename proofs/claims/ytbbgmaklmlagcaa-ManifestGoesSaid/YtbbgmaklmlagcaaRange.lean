/- A range over a function: the statement, and a round, at the wide fence, with nothing asked of what the iterator keeps in cells of its own. -/
import Derived.Test.YtbbgmaklmlagcaaBase
import Derived.RangeFuncNested
import Derived.RangeFuncLeaves
import Derived.RangeFuncRecord
import Derived.Shelf.Abstract
import Derived.Shelf.RegionOpen
import Derived.OwnWalkIn
import Derived.TacticsInMore
import Derived.LoopNIn
import Derived.LoopIn
namespace Go.Proofs.Ytbbgmaklmlagcaa
open Go.RowKit Go.Shelf

/-- The record of a loop. -/
def lrec (fn : FuncId) (tmps : Array Value) (ps : Array Tmp) (assign body : Code) (D : Nat) (st : LoopState) (pe : Option Code) : Obj :=
  .loop { state := st, pending := pe, fn, tmps, params := ps, assign, body, defers := D }

/-- What is asked when the iterator has returned. -/
def rfPost (n : Nat) (P : Program) (l D : Nat) (R : LoopState → Option Code → Obj) (Q : Exit → Act → World → Prop) (a' : Act) : Ending → World → Prop
  | .returned _, W2 => ∃ st pe, st ≠ .busy ∧ W2.heap[l]? = some (R st pe) ∧ W2.heap[D]? = some (.deferred (some [])) ∧
      (match pe with
       | none => Q .normal a' (W2.putObj l (R .exhausted none))
       | some c => c.wpIn Fence.wide n P Q a' (W2.putObj l (R .exhausted (some c))))
  | _, _ => False

theorem rf_stmt {n : Nat} {P : Program} {g : Operand} {ps : Array Tmp} {assign body : Code} {Q : Exit → Act → World → Prop} {a : Act} {w : World} {gf : Nat} {lb : Array Value}
    (hg : a.eval g = .func (.func gf) #[] lb) (eg : ∀ args w, (callFunc gf args).run P w = .ok (.enter gf args) w)
    (h : ∀ fn R W1, R = lrec fn a.tmps ps assign body w.heap.size → W1 = (w.alloc (.deferred (some []))).alloc (R .ready none) →
      Calls P gf (#[.func (.yield (w.heap.size + 1)) #[] #[]] ++ lb) W1
        (rfPost n P (w.heap.size + 1) w.heap.size R Q { a with defers := { target := .collected w.heap.size, args := #[] } :: a.defers })) :
    (Code.rangeFunc g ps assign body).wpIn Fence.wide n P Q a w := by
  refine wpIn_rangeFunc ?_
  intro fn _
  obtain ⟨W1, hW1⟩ : ∃ W1, W1 = (w.alloc (.deferred (some []))).alloc (lrec fn a.tmps ps assign body w.heap.size .ready none) := ⟨_, rfl⟩
  refine ⟨w.heap.size + 1, [{ target := .collected w.heap.size, args := #[] }], W1, { target := .fn (.func gf) lb, args := #[.func (.yield (w.heap.size + 1)) #[] #[]] }, W1, gf,
    #[.func (.yield (w.heap.size + 1)) #[] #[]] ++ lb, W1, ?_, ?_, ?_, ?_, ?_, ?_⟩
  · rw [hW1]; exact run_enterLoop_outer _ _ _ _ _
  · simp only [resolve, hg]
    simp [go_sem]
  · intro f' _; trivial
  · simp [invoke, go_sem, eg]
  · intro hd; cases hd
  · refine callsIn_wide.2 ((h fn _ W1 rfl hW1).mono ?_)
    rintro e W2 hp
    cases e with
    | returned v =>
      obtain ⟨st, pe, hst, hl, _, hq⟩ := hp
      refine ⟨pe, _, run_endLoop hl hst, ?_⟩
      cases pe with
      | none => exact hq
      | some c => exact hq
    | panicked _ => exact hp.elim
    | outgrown => exact hp.elim

/-- How the body of a round may be left. -/
def rPost (l : Nat) (R : LoopState → Option Code → Obj) (K : Ending → World → Prop) : Exit → Act → World → Prop
  | .normal, _, w => w.heap[l]? = some (R .busy none) ∧ K (.returned (.bool true)) (w.putObj l (R .ready none))
  | .ret, _, w => w.heap[l]? = some (R .busy none) ∧ K (.returned (.bool false)) (w.putObj l (R .done (some .ret)))
  | .exit id, _, w => w.heap[l]? = some (R .busy none) ∧ K (.returned (.bool false)) (w.putObj l (R .done (some (.exit id))))
  | .goto t, _, w => w.heap[l]? = some (R .busy none) ∧ K (.returned (.bool false)) (w.putObj l (R .done (some (.goto t))))
  | _, _, _ => False

theorem rf_round {m : Nat} {P : Program} {l D fn : Nat} {tmps : Array Value} {ps : Array Tmp} {assign body : Code} {args : Array Value} {W : World} {K : Ending → World → Prop}
    (hl : W.heap[l]? = some (lrec fn tmps ps assign body D .ready none)) (hs : args.size = ps.size)
    (h : assign.wpIn (Fence.wide.inRound l) m P (Exit.then (fun a₁ w₁ => w₁.heap[l]? = some (lrec fn tmps ps assign body D .ready none) ∧
        body.wpIn (Fence.wide.inRound l) m P (rPost l (lrec fn tmps ps assign body D) K) a₁ (w₁.putObj l (lrec fn tmps ps assign body D .busy none))) (fun _ _ _ => False))
      { tmps := (ps.zip args).foldl (fun t (p, v) => t.setIfInBounds p v) tmps, defers := [] } W) :
    YieldAt Fence.wide m P l args W K := by
  refine ⟨fn, _, assign, body, run_yield (P := P) hl hs, roundIn_of_wpIn trivial (wpIn_mono h ?_)⟩
  rintro e a1 w1 hq
  cases e with
  | normal =>
    obtain ⟨hl1, hb⟩ := hq
    refine ⟨_, run_beginRound hl1 rfl, wpIn_mono hb ?_⟩
    rintro e a2 w2 hp
    cases e with
    | normal => exact ⟨_, _, run_endRound none hp.1, hp.2⟩
    | ret => exact ⟨_, _, run_endRound (some .ret) hp.1, hp.2⟩
    | exit id => exact ⟨_, _, run_endRound (some (.exit id)) hp.1, hp.2⟩
    | goto t => exact ⟨_, _, run_endRound (some (.goto t)) hp.1, hp.2⟩
    | panic ch => exact hp.elim
    | outgrown => exact hp.elim
  | exit id => exact hq.elim
  | goto t => exact hq.elim
  | ret => exact hq.elim
  | panic chain => exact hq.elim
  | outgrown => exact hq.elim

/-- What a record's turn leaves. -/
theorem blk_putObj {w : World} {b l T : Nat} {cs : Array Value} (h : Blk w b cs T) {o : Obj} (hne : b ≠ l) : Blk (w.putObj l o) b cs T := by
  unfold Blk at *
  rw [World.putObj_heap_other hne]; exact h

theorem below_putObj {B l : Nat} {w W : World} (h : Below B w W) (hl : B ≤ l) (o : Obj) : Below B w (W.putObj l o) :=
  h.trans ⟨rfl, rfl, rfl, by simp, fun k hk => World.putObj_heap_other (by omega)⟩

theorem own_putObj {w : World} {base e size n l : Nat} {v : Value} {xs : List Value} (h : w.ownsRow base e size v n xs) (hl : l < base) (o : Obj) : (w.putObj l o).ownsRow base e size v n xs := by
  refine ⟨h.1, ?_⟩
  rcases h.2 with hn | ⟨g, cap, cur, hv, hg, hh, r⟩
  · exact .inl hn
  · refine .inr ⟨g, cap, cur, hv, hg, ?_, r⟩
    rw [World.putObj_heap_other (by omega)]
    exact hh

end Go.Proofs.Ytbbgmaklmlagcaa
