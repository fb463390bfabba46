/- Contracts in use: whole functions, lists of summaries, and contracts beside other blocks. -/
import Derived.Test.YtbbgmaklmlagcaaAw
namespace Go.Proofs.Ytbbgmaklmlagcaa

/-- A function's abstract run. -/
def runF (P : Program) (Γ : Gam) (n : Nat) (fn : Func) (args : List AV) (H : AHeap) : Option (AV × AHeap) :=
  match fn.body with
  | none => none
  | some c =>
    match acode P Γ n true c (args ++ List.replicate (fn.ntmps - args.length) undefA) H with
    | some (.ret, F', H') => (resA P fn.results.toList F' H').map (·, H')
    | some (.normal, F', H') => (resA P fn.results.toList F' H').map (·, H')
    | _ => none

theorem ct_run {P : Program} {Γ : Gam} (hm : P.follows .mixedOrders = true) (hΓ : GOk P Γ) {n : Nat} {f : FuncId} {fn : Func} (hf : P.funcs[f]? = some fn) {args : List AV} {H H1 H' : AHeap} {v1 v : AV} (h : runF P Γ n fn args H = some (v1, H1)) (hw : Weak H.length [v1] H1 [v] H') :
    Ct P f args H v H' := by
  unfold runF at h
  split at h
  · cases h
  rename_i c hc
  refine ct_of_sim hf hc ?_
  split at h
  · rename_i F' H2 hr
    obtain ⟨v2, hv, e⟩ := Option.map_eq_some_iff.1 h
    cases e
    exact Sim.exec hm hΓ hr (Nat.le_refl _) ⟨.inr rfl, _, hv, hw⟩
  · rename_i F' H2 hr
    obtain ⟨v2, hv, e⟩ := Option.map_eq_some_iff.1 h
    cases e
    exact Sim.exec hm hΓ hr (Nat.le_refl _) ⟨.inl rfl, _, hv, hw⟩
  · cases h

/-- A contract that reads some blocks, and whose value names none, beside whatever else there is. -/
theorem ct_read {P : Program} {f : FuncId} {args0 args : List AV} {H0 H : AHeap} {v : AV} (h : Ct P f args0 H0 v H0) (hro : H0.all isRo = true) (hv : free v = true) (em : List Nat) (ha : AWs em args0 args) (hH : AWh em H H0 em) : Ct P f args H v H := by
  intro j w cargs hR hargs
  obtain ⟨hl, hat⟩ := hH.at
  have hR0 : R (jren em j) H0 w := by
    refine ⟨fun b hb => by simp [jren, List.getElem?_eq_none (show em.length ≤ b by omega)], fun b x p hb hp => ?_, fun b b' yb x p p' hb hyb => ?_⟩
    · obtain ⟨b', h1, h2⟩ := Option.bind_eq_some_iff.1 hp
      obtain ⟨y, hy, hw⟩ := hat b x b' hb h1
      exact hw.ok (hR.blk b' y p hy h2)
    · exact absurd hyb (ro_own (List.all_eq_true.1 hro _ (List.mem_of_getElem? hb)))
  refine (h (jren em j) w cargs hR0 (AWs.ok _ _ _ ha hargs)).mono ?_
  rintro e w' ⟨cv, j', rfl, h1, h2⟩
  have hk := keeps_all h2.keeps hro
  exact ⟨cv, j, rfl, VR.free v cv hv h1, hR.same hk, fun _ _ => rfl, Nat.le_refl _, ⟨h2.keeps.os, h2.keeps.tape, h2.keeps.output, h2.keeps.size, fun c hc _ => hk c hc⟩, fun b l p hb hy hp => .inr ⟨b, l, p, hb, hy, hp, rfl⟩⟩

/-! Lists of summaries -/

abbrev Summ := List AV → AHeap → Option (AV × AHeap × List Nat)

def gam : List (FuncId × Summ) → Gam
  | [], _, _, _ => none
  | (g, s) :: l, f, args, H => if f = g then s args H else gam l f args H

/-- The summary of a function of values. -/
def pureS (g : List AV → Option AV) : Summ := fun args H => match g args with
  | some v => some (v, H, [])
  | none => none

theorem sound_pure {P : Program} {f : FuncId} {g : List AV → Option AV} (he : ∀ cargs w, (callFunc f cargs).run P w = .ok (.enter f cargs) w)
    (h : ∀ args v, g args = some v → Ct P f args [] v [] ∧ frees args = true ∧ free v = true) : Sound P f (pureS g) := by
  refine ⟨he, fun args H v H' W hs => ?_, fun args H v H' W hs => ?_⟩ <;> (unfold pureS at hs; split at hs <;> cases hs)
  · rename_i v hg
    obtain ⟨h1, h2, h3⟩ := h args _ hg
    exact ct_pure h1 h2 h3
  · exact ⟨Nat.le_refl _, fun _ _ _ => rfl⟩

/-- The summary of a function that reads memory, and leaves it. -/
def readS (g : List AV → AHeap → Option AV) : Summ := fun args H => match g args H with
  | some v => some (v, H, [])
  | none => none

theorem sound_read {P : Program} {f : FuncId} {g : List AV → AHeap → Option AV} (he : ∀ cargs w, (callFunc f cargs).run P w = .ok (.enter f cargs) w)
    (h : ∀ args H v, g args H = some v → Ct P f args H v H) : Sound P f (readS g) := by
  refine ⟨he, fun args H v H' W hs => ?_, fun args H v H' W hs => ?_⟩ <;> (unfold readS at hs; split at hs <;> cases hs)
  · rename_i v hg
    exact h args _ _ hg
  · exact ⟨Nat.le_refl _, fun _ _ _ => rfl⟩

mutual
theorem AW.refl (rn : List Nat) : ∀ x, free x = true → AW rn x x
  | .top, _ => by simp [AW]
  | .bool b, _ => by simp [AW]
  | .int k n, _ => by simp [AW]
  | .str s, _ => by simp [AW]
  | .ptr b o, hf => by simp [Go.Proofs.Ytbbgmaklmlagcaa.free] at hf
  | .nilp, _ => by simp [AW]
  | .slice .., hf => by simp [Go.Proofs.Ytbbgmaklmlagcaa.free] at hf
  | .sl .., hf => by simp [Go.Proofs.Ytbbgmaklmlagcaa.free] at hf
  | .nils, _ => by simp [AW]
  | .map _, hf => by simp [Go.Proofs.Ytbbgmaklmlagcaa.free] at hf
  | .nilm, _ => by simp [AW]
  | .func f xs ys, hf => by
    simp [Go.Proofs.Ytbbgmaklmlagcaa.free] at hf
    simp only [AW]
    exact ⟨trivial, AWs.refl rn xs hf.1, AWs.refl rn ys hf.2⟩
  | .yld _, hf => by simp [Go.Proofs.Ytbbgmaklmlagcaa.free] at hf
  | .nilf, _ => by simp [AW]
  | .agg l, hf => by
    simp [Go.Proofs.Ytbbgmaklmlagcaa.free] at hf
    simp only [AW]
    exact AWs.refl rn l hf
  | .tuple l, hf => by
    simp [Go.Proofs.Ytbbgmaklmlagcaa.free] at hf
    simp only [AW]
    exact AWs.refl rn l hf
theorem AWs.refl (rn : List Nat) : ∀ xs, frees xs = true → AWs rn xs xs
  | [], _ => by simp [AWs]
  | x :: xs, hf => by
    simp [frees] at hf
    exact ⟨AW.refl rn x hf.1, AWs.refl rn xs hf.2⟩
end

theorem weak_pure {v : AV} {H : AHeap} (h : free v = true) : Weak 0 [v] H [v] [] :=
  ⟨[], by simp, Nat.le_refl _, fun b hb => by omega, ⟨AW.refl [] v h, trivial⟩, trivial⟩

/-- A loop, its states told by a row of frames and heaps. -/
theorem Sim.loopW {P : Program} {r : Option Nat} {n0 : Nat} {x : Code} {Q : AX → List AV → AHeap → Prop} {σ : Type} (I : σ → Prop) (Fs : σ → List AV) (Hs : σ → AHeap) (μ : σ → Nat) (s0 : σ) {F : List AV} {H : AHeap} (hn : n0 ≤ H.length) (hI : I s0) (h0 : Weak n0 F H (Fs s0) (Hs s0))
    (round : ∀ s, I s → Sim P r n0 x (Fs s) (Hs s) fun e F' H' => match e with | .normal => ∃ s', I s' ∧ Weak n0 F' H' (Fs s') (Hs s') ∧ μ s' < μ s | e => Q e F' H') : Sim P r n0 (.loop x) F H Q := by
  refine Sim.loop (fun s F H => I s ∧ Weak n0 F H (Fs s) (Hs s)) μ s0 hn ⟨hI, h0⟩ fun s F H hn ⟨hi, hw⟩ => ?_
  refine Sim.weak hw hn ((round s hi).mono fun e F' H' _ hq => ?_)
  cases e with
  | normal =>
    obtain ⟨s', h1, h2, h3⟩ := hq
    exact ⟨s', ⟨h1, h2⟩, h3⟩
  | exit id => exact hq
  | ret => exact hq

/-- Code that is run, and what stands behind it. -/
theorem Sim.step {P : Program} {Γ : Gam} (hm : P.follows .mixedOrders = true) (hΓ : GOk P Γ) {r : Option Nat} {n0 n : Nat} {x y : Code} {F F' : List AV} {H H' : AHeap} {Q : AX → List AV → AHeap → Prop} (h : acode P Γ n r.isNone x F H = some (.normal, F', H')) (hn : n0 ≤ H.length) (k : Sim P r n0 y F' H' Q) : Sim P r n0 (.seq x y) F H Q :=
  Sim.seq (Sim.exec hm hΓ h hn k)

@[simp] theorem AWs_free {rn : List Nat} {xs : List AV} (h : frees xs = true) : AWs rn xs xs ↔ True := ⟨fun _ => trivial, fun _ => AWs.refl rn xs h⟩

theorem frees_iff : ∀ {xs : List AV}, frees xs = true ↔ ∀ x ∈ xs, free x = true
  | [] => by simp [frees]
  | x :: xs => by simp [frees, frees_iff (xs := xs)]

theorem frees_map {α : Type} (l : List α) (f : α → AV) (h : ∀ x, free (f x) = true) : frees (l.map f) = true := by
  rw [frees_iff]
  intro x hx
  obtain ⟨a, _, rfl⟩ := List.mem_map.1 hx
  exact h a

@[simp] theorem free_top : free .top = true := rfl
@[simp] theorem free_bool (b : Bool) : free (.bool b) = true := rfl
@[simp] theorem free_int (k : IntKind) (n : Int) : free (.int k n) = true := rfl
@[simp] theorem free_str (s : List UInt8) : free (.str s) = true := rfl
@[simp] theorem free_nilp : free .nilp = true := rfl
@[simp] theorem free_nils : free .nils = true := rfl
@[simp] theorem free_nilm : free .nilm = true := rfl
@[simp] theorem free_nilf : free .nilf = true := rfl
@[simp] theorem free_agg (l : List AV) : free (.agg l) = frees l := rfl
@[simp] theorem free_tuple (l : List AV) : free (.tuple l) = frees l := rfl
@[simp] theorem free_func (f : Nat) (xs ys : List AV) : free (.func f xs ys) = (frees xs && frees ys) := rfl
@[simp] theorem frees_nil : frees [] = true := rfl
@[simp] theorem frees_cons (x : AV) (xs : List AV) : frees (x :: xs) = (free x && frees xs) := rfl

def aW (n : Nat) : AV := .int .u32 n
def aB (n : Nat) : AV := .int .u8 n
def aU (n : Nat) : AV := .int .u64 n
@[simp] theorem free_aW (n : Nat) : free (aW n) = true := rfl
@[simp] theorem free_aB (n : Nat) : free (aB n) = true := rfl
@[simp] theorem free_aU (n : Nat) : free (aU n) = true := rfl
@[simp] theorem frees_bytes (s : List UInt8) : frees (bytesA s) = true := frees_map s _ fun _ => rfl

theorem tdiv_nn {a b : Int} (h : 0 ≤ a) : a.tdiv b = a / b := Int.tdiv_eq_ediv_of_nonneg h
theorem tmod_nn {a b : Int} (h : 0 ≤ a) : a.tmod b = a % b := Int.tmod_eq_emod_of_nonneg h
theorem wr_u32 {n : Int} (h0 : 0 ≤ n) (h : n ≤ 4294967295) : IntKind.u32.wrap n = n := by rw [IntKind.wrap_u32]; omega
theorem wr_u64 {n : Int} (h0 : 0 ≤ n) (h : n ≤ 18446744073709551615) : IntKind.u64.wrap n = n := by rw [IntKind.wrap_u64]; omega
theorem wr_u8 {n : Int} (h0 : 0 ≤ n) (h : n ≤ 255) : IntKind.u8.wrap n = n := by rw [IntKind.wrap_u8]; omega
theorem wr_i64 {n : Int} (h0 : -9223372036854775808 ≤ n) (h : n ≤ 9223372036854775807) : IntKind.i64.wrap n = n := IntWalk.i64_in n (by omega)

attribute [simp] acode aops opA apure ev ofV ofV1 wantA putA abin intA cmpA strA undefA unA pickA convA lenA idxA elemA partA isAggA loadA storeA cellsA isCell newA rowA textA readA bytesOf buildA fillA zerosA sliceA lowHigh boundA minsA minA fieldAddrA fieldA appendA srcA resA resList resOne callA isU8 nilA eqA gam pureS readS runF aloop adraw qrun qstep qop slotsOf readsOf putS isRo IntKind.bits AW AWs AWb AWh AWg sliceA0 appendA0 appendB appendS appendM appendN appendU appendZ pureA lookupA findA mapSetA keyOk abin0 capA cellsEq primEq kindsOk kindOk scC

end Go.Proofs.Ytbbgmaklmlagcaa
