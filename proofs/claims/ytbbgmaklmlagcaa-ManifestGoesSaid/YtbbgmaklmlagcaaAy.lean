/- Callees that are run, not told. -/
import Derived.Test.YtbbgmaklmlagcaaAx
namespace Go.Proofs.Ytbbgmaklmlagcaa

def changed (H H' : AHeap) : List Nat := (List.range H.length).filter fun b => !(blkEq (H.getD b .dead) (H'.getD b .dead))

def fnOf (P : Program) (f : FuncId) : Option Func := P.funcs[f]?

def setTmps (F : List AV) (ps : List Tmp) (args : List AV) : List AV := (ps.zip args).foldl (fun t pv => t.set pv.1 pv.2) F

def endA (ps : Array Tmp) (asg body : Code) (F : List AV) : AX → ABlk
  | .normal => .loop ps asg body .ready none F
  | .ret => .loop ps asg body .done (some .ret) F
  | .exit id => .loop ps asg body .done (some (.exit id)) F

def endV : AX → Bool
  | .normal => true
  | _ => false

/-- A round of a loop over a function, run. -/
def yieldG (P : Program) (Γ : Gam) (n : Nat) : List AV → AHeap → Option (AV × AHeap × List Nat)
  | .yld b :: args, H =>
    match H[b]? with
    | some (.loop ps asg body .ready _ F) =>
      if args.length = ps.size then
        match acode P Γ n false asg (setTmps F ps.toList args) H with
        | some (.normal, F1, H1) =>
          match H1[b]? with
          | some (.loop ps1 asg1 body1 .ready pe1 F') =>
            match acode P Γ n false body F1 (H1.set b (.loop ps1 asg1 body1 .busy pe1 F')) with
            | some (x, _, H2) =>
              match H2[b]? with
              | some (.loop ps2 asg2 body2 _ _ F'') => some (.bool (endV x), H2.set b (endA ps2 asg2 body2 F'' x), [])
              | _ => none
            | none => none
          | _ => none
        | _ => none
      else none
    | _ => none
  | _, _ => none

theorem setTmps_ok {j : Inj} : ∀ (ps : List Tmp) (args : List AV) (cargs : List Value) (F : List AV) (tmps : Array Value), VRs j F tmps.toList → VRs j args cargs →
    VRs j (setTmps F ps args) ((ps.zip cargs).foldl (fun t pv => t.setIfInBounds pv.1 pv.2) tmps).toList
  | [], _, _, F, tmps, hF, _ => by simpa [setTmps] using hF
  | p :: ps, [], cargs, F, tmps, hF, ha => by
    simp only [VRs] at ha
    subst ha
    simpa [setTmps] using hF
  | p :: ps, x :: args, cargs, F, tmps, hF, ha => by
    simp only [VRs] at ha
    obtain ⟨v, ws, rfl, h1, h2⟩ := ha
    have := setTmps_ok ps args ws (F.set p x) (tmps.setIfInBounds p v) (by rw [Array.toList_setIfInBounds]; exact hF.set p h1) h2
    simpa [setTmps] using this

theorem yieldG_ok {P : Program} (hm : P.follows .mixedOrders = true) {Γ : Gam} (hΓ : GOk P Γ) (n : Nat) : YSound P (yieldG P Γ n) := by
  intro b args H v H' W h j w cargs p m hR hargs hp
  simp only [yieldG] at h
  split at h
  rotate_left
  · cases h
  rename_i ps asg body pe F hb
  split at h
  rotate_left
  · cases h
  rename_i hlen
  split at h
  rotate_left
  · cases h
  rename_i F1 H1 ha
  split at h
  rotate_left
  · cases h
  rename_i ps1 asg1 body1 pe1 F' hb1
  split at h
  rotate_left
  · cases h
  rename_i x F2 H2 hbody
  split at h
  rotate_left
  · cases h
  rename_i ps2 asg2 body2 st2 pe2 F'' hb2
  cases h
  obtain ⟨fn, tmps, D, hl, hF⟩ := hR.blk _ _ p hb hp
  have hblt : b < H.length := (List.getElem?_eq_some_iff.1 hb).1
  have hsz : cargs.size = ps.size := by
    have := hargs.length
    simp at this
    omega
  refine ⟨fn, _, asg, body, run_yield hl hsz, roundIn_of_wpIn trivial ?_⟩
  have hF1 := setTmps_ok (j := j) ps.toList args cargs.toList F tmps hF hargs
  have etm : ((ps.zip cargs).foldl (fun t (x : Tmp × Value) => t.setIfInBounds x.1 x.2) tmps) = ((ps.toList.zip cargs.toList).foldl (fun t pv => t.setIfInBounds pv.1 pv.2) tmps) := by
    rw [← Array.foldl_toList, Array.toList_zip]
  refine wpIn_mono (acode_ok hm hΓ (some p.blk) n false (by simp) asg _ F1 H H1 .normal ha 0 j w _ m (Nat.zero_le _) hR (by rw [etm]; exact hF1) (DefOk.nil _ _)) ?_
  rintro e a1 w1 ⟨x1, F1', H1', j1, rfl, ⟨rfl, rfl, rfl⟩, g3, g4, s1⟩
  have hp1 : j1 b = some p := by rw [s1.ext b hblt]; exact hp
  obtain ⟨fn1, tmps1, D1, hl1, hF1'⟩ := s1.rel.blk _ _ p hb1 hp1
  have s2 := step_put (o := .loop { ({ state := .ready, pending := pe1, fn := fn1, tmps := tmps1, params := ps1, assign := asg1, body := body1, defers := D1 } : Loop) with state := .busy }) (y := .loop ps1 asg1 body1 .busy pe1 F') s1.rel hb1 rfl hp1 (.inr rfl) ⟨fn1, tmps1, D1, World.putObj_heap_same (Array.getElem?_eq_some_iff.1 hl1).1, hF1'⟩
  refine ⟨_, run_beginRound hl1 rfl, ?_⟩
  have s12 := s1.trans s2 s1.len
  refine wpIn_mono (acode_ok hm hΓ (some p.blk) n false (by simp) body _ F2 _ H2 x hbody 0 j1 _ a1 m (Nat.zero_le _) s2.rel g3 (g4.step s1.rel s2)) ?_
  rintro e a2 w2 ⟨x2, F2', H2', j2, rfl, ⟨rfl, rfl, rfl⟩, k3, k4, s3⟩
  have hblt1 : b < H1'.length := (List.getElem?_eq_some_iff.1 hb1).1
  have hp2 : j2 b = some p := by rw [s3.ext b (by simpa using hblt1)]; exact hp1
  obtain ⟨fn2, tmps2, D2, hl2, hF2⟩ := s3.rel.blk _ _ p hb2 hp2
  have s123 := s12.trans s3 (by simpa using s1.len)
  have fin : ∀ st pe, Step H.length j H w j2 (H2'.set b (.loop ps2 asg2 body2 st pe F'')) (w2.putObj p.blk (.loop { ({ state := st2, pending := pe2, fn := fn2, tmps := tmps2, params := ps2, assign := asg2, body := body2, defers := D2 } : Loop) with state := st, pending := pe })) := fun st pe =>
    s123.trans (step_put (y := .loop ps2 asg2 body2 st pe F'') s3.rel hb2 rfl hp2 (.inr rfl) ⟨fn2, tmps2, D2, World.putObj_heap_same (Array.getElem?_eq_some_iff.1 hl2).1, hF2⟩) s123.len
  cases x2 with
  | normal => exact ⟨_, _, run_endRound none hl2, _, j2, rfl, rfl, fin .ready none⟩
  | ret => exact ⟨_, _, run_endRound (some .ret) hl2, _, j2, rfl, rfl, fin .done (some .ret)⟩
  | exit id => exact ⟨_, _, run_endRound (some (.exit id)) hl2, _, j2, rfl, rfl, fin .done (some (.exit id))⟩

/-- The functions inl are run (k deep), all others are told by Γ. -/
def runG (P : Program) (Γ : Gam) (n : Nat) (inl : List FuncId) : Nat → FuncId → List AV → AHeap → Option (AV × AHeap × List Nat)
  | 0, f, args, H => Γ f args H
  | k + 1, f, args, H =>
    if f = yl then (match yieldG P (runG P Γ n inl k) n args H with | some r => some r | none => Γ f args H)
    else if inl.contains f then
      match fnOf P f with
      | none => none
      | some fn =>
        if fn.name == "runtime.NumGoroutine" then none else
        match runF P (runG P Γ n inl k) n fn args H with
        | some (v, H') => if H.length ≤ H'.length then some (v, H', changed H H') else none
        | none => none
    else Γ f args H

theorem weak_refl {v : AV} {H : AHeap} {P : Program} {f : FuncId} {args : List AV} {fn : Func} {Γ : Gam} {n : Nat} (hm : P.follows .mixedOrders = true) (hΓ : GOk P Γ) (hf : P.funcs[f]? = some fn) {H1 : AHeap} (h : runF P Γ n fn args H = some (v, H1)) : Ct P f args H v H1 := by
  unfold runF at h
  split at h
  · cases h
  rename_i c hc
  intro j w cargs hR hargs
  refine (callsIn_wide (n := 0)).1 ?_
  refine callsIn_of_wp_marks hf hc trivial ?_ rfl
  have hl := hargs.length
  have hF : VRs j (args ++ List.replicate (fn.ntmps - args.length) undefA) (cargs ++ Array.replicate (fn.ntmps - cargs.size) undef).toList := by
    rw [Array.toList_append, Array.toList_replicate, hl, Array.length_toList]
    exact hargs.append (VRs.replicate (v := undef) (show VR j undefA undef from ⟨#[], rfl, rfl⟩) _)
  have key : ∀ (x : AX) (hx : x = .ret ∨ x = .normal) F' H', acode P Γ n true c (args ++ List.replicate (fn.ntmps - args.length) undefA) H = some (x, F', H') → resA P fn.results.toList F' H' = some v → H' = H1 →
      c.wpIn (FW none) 0 P (bodyPostM (FW none) 0 P fn fun e w' => ∃ cv j', e = .returned cv ∧ VR j' v cv ∧ Step H.length j H w j' H1 w') { tmps := cargs ++ Array.replicate (fn.ntmps - cargs.size) undef, defers := [] } w := by
    intro x hx F' H' hr hv e
    subst e
    refine wpIn_mono (acode_ok hm hΓ none n true (fun _ => rfl) c _ F' H H' x hr w.heap.size j w { tmps := cargs ++ Array.replicate (fn.ntmps - cargs.size) undef, defers := [] } 0 (Nat.le_refl _) hR hF (DefOk.nil _ _)) ?_
    rintro e a' w' ⟨x', F2, H2, j', rfl, ⟨rfl, rfl, rfl⟩, h3, h4, h5⟩
    exact body_end hx.symm hv h3 h4 h5 fun cv w2 g2 hs => ⟨cv, j', rfl, g2, hs⟩
  split at h
  · rename_i F' H2 hr
    obtain ⟨v2, hv, e⟩ := Option.map_eq_some_iff.1 h
    cases e
    exact key _ (.inl rfl) _ _ hr hv rfl
  · rename_i F' H2 hr
    obtain ⟨v2, hv, e⟩ := Option.map_eq_some_iff.1 h
    cases e
    exact key _ (.inr rfl) _ _ hr hv rfl
  · cases h

theorem gok_run {P : Program} (hm : P.follows .mixedOrders = true) {Γ : Gam} (hΓ : GOk P Γ) (n : Nat) (inl : List FuncId) : ∀ k, GOk P (runG P Γ n inl k)
  | 0 => by
    have : runG P Γ n inl 0 = Γ := by funext f args H; simp [runG]
    rw [this]; exact hΓ
  | k + 1 => by
    have ih := gok_run hm hΓ n inl k
    refine ⟨?_, ?_⟩
    rotate_left
    · intro b args H v H' W h
      unfold runG at h
      rw [if_pos rfl] at h
      split at h
      · rename_i r hr
        cases h
        exact yieldG_ok hm ih n b args H v H' W hr
      · exact hΓ.2 b args H v H' W h
    intro f hfy ⟨args0, H0, r0, h0⟩
    by_cases hi : inl.contains f = true
    · have one : ∀ args H v H' W, runG P Γ n inl (k + 1) f args H = some (v, H', W) → ∃ fn, P.funcs[f]? = some fn ∧ (fn.name == "runtime.NumGoroutine") = false ∧ runF P (runG P Γ n inl k) n fn args H = some (v, H') ∧ H.length ≤ H'.length ∧ W = changed H H' := by
        intro args H v H' W h
        unfold runG at h
        rw [if_neg hfy, if_pos hi] at h
        split at h
        · cases h
        rename_i fn hfn
        split at h
        · cases h
        rename_i hn
        split at h
        · rename_i v1 H1 hr
          split at h <;> cases h
          exact ⟨fn, hfn, by simpa using hn, hr, ‹_›, rfl⟩
        · cases h
      obtain ⟨v0, H0', W0⟩ := r0
      obtain ⟨fn, hfn, hn, hr, _, _⟩ := one _ _ _ _ _ h0
      have hbody : fn.body.isSome = true := by
        unfold runF at hr
        split at hr
        · cases hr
        · rename_i c hc; rw [hc]; rfl
      refine ⟨enter_of hfn hbody hn, fun args H v H' W h => ?_, fun args H v H' W h => ?_⟩
      · obtain ⟨fn', hfn', _, hr', _, _⟩ := one _ _ _ _ _ h
        rw [hfn] at hfn'
        cases hfn'
        exact weak_refl hm ih hfn hr'
      · obtain ⟨fn', hfn', _, hr', hl, rfl⟩ := one _ _ _ _ _ h
        refine ⟨hl, fun b hb hnb => ?_⟩
        have : blkEq (H.getD b .dead) (H'.getD b .dead) = true := by
          cases hx : blkEq (H.getD b .dead) (H'.getD b .dead) with
          | true => rfl
          | false => exact absurd (List.mem_filter.2 ⟨List.mem_range.2 hb, by rw [hx]; rfl⟩) hnb
        have e := blkEq_eq this
        rw [List.getD_eq_getElem?_getD, List.getD_eq_getElem?_getD, List.getElem?_eq_getElem hb, List.getElem?_eq_getElem (show b < H'.length by omega)] at e
        rw [List.getElem?_eq_getElem hb, List.getElem?_eq_getElem (show b < H'.length by omega)]
        simpa using e.symm
    · have e : runG P Γ n inl (k + 1) f = Γ f := by
        funext args H
        simp only [runG]
        rw [if_neg hfy, if_neg hi]
      rw [e] at h0 ⊢
      exact hΓ.1 f hfy ⟨args0, H0, r0, h0⟩

/-- Which old blocks are other ones. -/
def chg : Nat → AHeap → AHeap → List Nat
  | _, [], _ => []
  | n, x :: xs, [] => if blkEq x .dead then chg (n + 1) xs [] else n :: chg (n + 1) xs []
  | n, x :: xs, y :: ys => if blkEq x y then chg (n + 1) xs ys else n :: chg (n + 1) xs ys

theorem chg_eq : ∀ (H H' : AHeap) (n : Nat), ((List.range H.length).filter fun b => !(blkEq (H.getD b .dead) (H'.getD b .dead))).map (n + ·) = chg n H H'
  | [], H', n => by simp [chg]
  | x :: xs, [], n => by
    have ih := chg_eq xs [] (n + 1)
    simp only [List.getD_nil] at ih
    rw [List.length_cons, List.range_succ_eq_map, List.filter_cons, List.filter_map]
    have e : ((fun b => !(blkEq ((x :: xs).getD b .dead) (([] : AHeap).getD b .dead))) ∘ Nat.succ) = fun b => !(blkEq (xs.getD b .dead) (([] : AHeap).getD b .dead)) := by funext b; simp
    rw [e]
    have e2 : ∀ l : List Nat, (l.map Nat.succ).map (n + ·) = l.map (n + 1 + ·) := fun l => by
      rw [List.map_map]; apply List.map_congr_left; intro a _; simp; omega
    unfold chg
    by_cases h : blkEq x .dead = true
    · simp only [h, List.getD_cons_zero, List.getD_nil, Bool.not_true, Bool.false_eq_true, if_false, if_true, e2, ih]
    · simp only [h, List.getD_cons_zero, List.getD_nil, Bool.not_false, if_true, if_false, List.map_cons, e2, ih, Nat.add_zero, Bool.false_eq_true]
  | x :: xs, y :: ys, n => by
    have ih := chg_eq xs ys (n + 1)
    rw [List.length_cons, List.range_succ_eq_map, List.filter_cons, List.filter_map]
    have e : ((fun b => !(blkEq ((x :: xs).getD b .dead) ((y :: ys).getD b .dead))) ∘ Nat.succ) = fun b => !(blkEq (xs.getD b .dead) (ys.getD b .dead)) := by funext b; simp
    rw [e]
    have e2 : ∀ l : List Nat, (l.map Nat.succ).map (n + ·) = l.map (n + 1 + ·) := fun l => by
      rw [List.map_map]; apply List.map_congr_left; intro a _; simp; omega
    unfold chg
    by_cases h : blkEq x y = true
    · simp only [h, List.getD_cons_zero, Bool.not_true, Bool.false_eq_true, if_false, if_true, e2, ih]
    · simp only [h, List.getD_cons_zero, Bool.not_false, if_true, if_false, List.map_cons, e2, ih, Nat.add_zero, Bool.false_eq_true]

@[simp] theorem changed_eq (H H' : AHeap) : changed H H' = chg 0 H H' := by
  have := chg_eq H H' 0
  simp only [Nat.zero_add] at this
  rw [← this]
  simp [changed]

attribute [simp] runG chg blkEq yl yieldG setTmps endA endV

end Go.Proofs.Ytbbgmaklmlagcaa
