/- The abstract run, in a form that the kernel evaluates; closed functions by evaluation. -/
import Derived.Test.YtbbgmaklmlagcaaLe
namespace Go.Proofs.Ytbbgmaklmlagcaa

/-- acode, its drawn regions without masks. -/
def acodeK (P : Program) (Γ : Gam) (n : Nat) (q : Bool) : Code → List AV → AHeap → ARes
  | .skip, F, H => some (.normal, F, H)
  | .label _, F, H => some (.normal, F, H)
  | .region _ ops false, F, H => (aops P Γ ops ops.toList F H).map fun r => (.normal, r)
  | .region _ ops true, F, H => (adrawK P Γ ops F H).map fun r => (.normal, r)
  | .seq x y, F, H =>
    match acodeK P Γ n q x F H with
    | some (.normal, F', H') => acodeK P Γ n q y F' H'
    | r => r
  | .cond c x y, F, H =>
    match ev F c with
    | .bool t => if t then acodeK P Γ n q x F H else acodeK P Γ n q y F H
    | _ => none
  | .block id x, F, H =>
    match acodeK P Γ n q x F H with
    | some (.exit id', F', H') => if id' = id then some (.normal, F', H') else some (.exit id', F', H')
    | r => r
  | .loop x, F, H => aloop (fun F H => acodeK P Γ n q x F H) n F H
  | .scope x, F, H => acodeK P Γ n q x F H
  | .exit id, F, H => some (.exit id, F, H)
  | .ret, F, H => some (.ret, F, H)
  | .rangeFunc g ps asg body, F, H => acode P Γ n q (.rangeFunc g ps asg body) F H
  | _, _, _ => none

/-- What the run says is so. -/
theorem acodeK_ok {P : Program} {Γ : Gam} (hm : P.follows .mixedOrders = true) (hΓ : GOk P Γ) (r : Option Nat) (n : Nat) (q : Bool) (hqr : q = true → r = none) : ∀ (c : Code) (F F' : List AV) (H H' : AHeap) (x : AX), acodeK P Γ n q c F H = some (x, F', H') →
    Sim P r H.length c F H fun x1 F1 H1 => x1 = x ∧ F1 = F' ∧ H1 = H'
  | .skip, F, F', H, H', x, h => fun B j w a m hB hR hF hd => by
    simp only [acodeK] at h
    cases h
    exact wpIn_skip ⟨.normal, F, H, j, rfl, ⟨rfl, rfl, rfl⟩, hF, hd, Step.refl hR (Nat.le_refl _)⟩
  | .label l, F, F', H, H', x, h => fun B j w a m hB hR hF hd => by
    simp only [acodeK] at h
    cases h
    exact wpIn_label ⟨.normal, F, H, j, rfl, ⟨rfl, rfl, rfl⟩, hF, hd, Step.refl hR (Nat.le_refl _)⟩
  | .region id ops false, F, F', H, H', x, h => fun B j w a m hB hR hF hd => by
    simp only [acodeK] at h
    obtain ⟨⟨F1, H1⟩, h1, e⟩ := Option.map_eq_some_iff.1 h
    cases e
    refine wpIn_region_list (aops_ok hΓ r m ops.toList F F' H H' j w a h1 hR hF _ rfl fun j' w' a' g1 g2 g3 => ?_)
    exact ⟨.normal, F', H', j', rfl, ⟨rfl, rfl, rfl⟩, g1, by rw [g2]; exact hd.step hR g3, g3⟩
  | .region id ops true, F, F', H, H', x, h => fun B j w a m hB hR hF hd => by
    simp only [acodeK] at h
    obtain ⟨⟨F1, H1⟩, h1, e⟩ := Option.map_eq_some_iff.1 h
    cases e
    refine wpIn_region_any hm (adrawK_wp (w0 := { w with drawn := w.drawn + 1 }) hΓ h1 (hR.heapEq rfl) hF rfl r m fun j' a' w' g1 g2 g3 => ?_)
    exact ⟨.normal, F', H', j', rfl, ⟨rfl, rfl, rfl⟩, g1, by rw [g2]; exact hd.step hR (step_drew g3), step_drew g3⟩
  | .seq c d, F, F', H, H', x, h => by
    simp only [acodeK] at h
    refine Sim.seq ?_
    cases hc : acodeK P Γ n q c F H with
    | none => rw [hc] at h; cases h
    | some r1 =>
      obtain ⟨x1, F1, H1⟩ := r1
      rw [hc] at h
      refine (acodeK_ok hm hΓ r n q hqr c F F1 H H1 x1 hc).mono ?_
      rintro x2 F2 H2 hl ⟨rfl, rfl, rfl⟩
      cases x2 with
      | normal => exact (acodeK_ok hm hΓ r n q hqr d _ _ _ _ _ h).len hl
      | exit id => cases h; exact ⟨rfl, rfl, rfl⟩
      | ret => cases h; exact ⟨rfl, rfl, rfl⟩
  | .cond c t e, F, F', H, H', x, h => by
    simp only [acodeK] at h
    split at h
    · rename_i b hb
      refine Sim.cond hb ?_
      cases b with
      | true => exact acodeK_ok hm hΓ r n q hqr t _ _ _ _ _ h
      | false => exact acodeK_ok hm hΓ r n q hqr e _ _ _ _ _ h
    · cases h
  | .block id c, F, F', H, H', x, h => by
    simp only [acodeK] at h
    refine Sim.block ?_
    cases hc : acodeK P Γ n q c F H with
    | none => rw [hc] at h; cases h
    | some r1 =>
      obtain ⟨x1, F1, H1⟩ := r1
      rw [hc] at h
      refine (acodeK_ok hm hΓ r n q hqr c F F1 H H1 x1 hc).mono ?_
      rintro x2 F2 H2 _ ⟨rfl, rfl, rfl⟩
      cases x2 with
      | normal => cases h; exact ⟨rfl, rfl, rfl⟩
      | exit id' =>
        dsimp only at h ⊢
        split at h
        · rename_i e; rw [if_pos e]; cases h; exact ⟨rfl, rfl, rfl⟩
        · rename_i e; rw [if_neg e]; cases h; exact ⟨rfl, rfl, rfl⟩
      | ret => cases h; exact ⟨rfl, rfl, rfl⟩
  | .loop c, F, F', H, H', x, h => by
    simp only [acodeK] at h
    exact Sim.aloop _ (fun F1 H1 x1 F2 H2 h1 => acodeK_ok hm hΓ r n q hqr c F1 F2 H1 H2 x1 h1) n F H x F' H' h
  | .exit id, F, F', H, H', x, h => fun B j w a m hB hR hF hd => by
    simp only [acodeK] at h
    cases h
    exact wpIn_exit ⟨.exit id, F, H, j, rfl, ⟨rfl, rfl, rfl⟩, hF, hd, Step.refl hR (Nat.le_refl _)⟩
  | .ret, F, F', H, H', x, h => fun B j w a m hB hR hF hd => by
    simp only [acodeK] at h
    cases h
    exact wpIn_ret ⟨.ret, F, H, j, rfl, ⟨rfl, rfl, rfl⟩, hF, hd, Step.refl hR (Nat.le_refl _)⟩
  | .rangeFunc g ps asg body, F, F', H, H', x, h => rangeFunc_ok hm hΓ r n q hqr h
  | .scope c, F, F', H, H', x, h => by
    simp only [acodeK] at h
    exact Sim.scope (acodeK_ok hm hΓ r n q hqr c F F' H H' x h)
  | .goto _, _, _, _, _, _, h => by simp [acodeK] at h
  | .refuse _, _, _, _, _, _, h => by simp [acodeK] at h

def runFK (P : Program) (Γ : Gam) (n : Nat) (fn : Func) (args : List AV) (H : AHeap) : Option (AV × AHeap) :=
  match fn.body with
  | none => none
  | some c =>
    match acodeK P Γ n true c (args ++ List.replicate (fn.ntmps - args.length) undefA) H with
    | some (.ret, F', H') => (resA P fn.results.toList F' H').map (·, H')
    | some (.normal, F', H') => (resA P fn.results.toList F' H').map (·, H')
    | _ => none

def yieldGK (P : Program) (Γ : Gam) (n : Nat) : List AV → AHeap → Option (AV × AHeap × List Nat)
  | .yld b :: args, H =>
    match H[b]? with
    | some (.loop ps asg body .ready _ F) =>
      if args.length = ps.size then
        match acodeK P Γ n false asg (setTmps F ps.toList args) H with
        | some (.normal, F1, H1) =>
          match H1[b]? with
          | some (.loop ps1 asg1 body1 .ready pe1 F') =>
            match acodeK P Γ n false body F1 (H1.set b (.loop ps1 asg1 body1 .busy pe1 F')) with
            | some (x, _, H2) =>
              match H2[b]? with
              | some (.loop ps2 asg2 body2 _ _ F'') => some (.bool (endV x), H2.set b (endA ps2 asg2 body2 F'' x), [])
              | _ => none
            | none => none
          | _ => none
        | _ => none
      else none
    | _ => none
  | _, _ => none

theorem yieldGK_ok {P : Program} (hm : P.follows .mixedOrders = true) {Γ : Gam} (hΓ : GOk P Γ) (n : Nat) : YSound P (yieldGK P Γ n) := by
  intro b args H v H' W h j w cargs p m hR hargs hp
  simp only [yieldGK] at h
  split at h
  rotate_left
  · cases h
  rename_i ps asg body pe F hb
  split at h
  rotate_left
  · cases h
  rename_i hlen
  split at h
  rotate_left
  · cases h
  rename_i F1 H1 ha
  split at h
  rotate_left
  · cases h
  rename_i ps1 asg1 body1 pe1 F' hb1
  split at h
  rotate_left
  · cases h
  rename_i x F2 H2 hbody
  split at h
  rotate_left
  · cases h
  rename_i ps2 asg2 body2 st2 pe2 F'' hb2
  cases h
  obtain ⟨fn, tmps, D, hl, hF⟩ := hR.blk _ _ p hb hp
  have hblt : b < H.length := (List.getElem?_eq_some_iff.1 hb).1
  have hsz : cargs.size = ps.size := by
    have := hargs.length
    simp at this
    omega
  refine ⟨fn, _, asg, body, run_yield hl hsz, roundIn_of_wpIn trivial ?_⟩
  have hF1 := setTmps_ok (j := j) ps.toList args cargs.toList F tmps hF hargs
  have etm : ((ps.zip cargs).foldl (fun t (x : Tmp × Value) => t.setIfInBounds x.1 x.2) tmps) = ((ps.toList.zip cargs.toList).foldl (fun t pv => t.setIfInBounds pv.1 pv.2) tmps) := by
    rw [← Array.foldl_toList, Array.toList_zip]
  refine wpIn_mono (acodeK_ok hm hΓ (some p.blk) n false (by simp) asg _ F1 H H1 .normal ha 0 j w _ m (Nat.zero_le _) hR (by rw [etm]; exact hF1) (DefOk.nil _ _)) ?_
  rintro e a1 w1 ⟨x1, F1', H1', j1, rfl, ⟨rfl, rfl, rfl⟩, g3, g4, s1⟩
  have hp1 : j1 b = some p := by rw [s1.ext b hblt]; exact hp
  obtain ⟨fn1, tmps1, D1, hl1, hF1'⟩ := s1.rel.blk _ _ p hb1 hp1
  have s2 := step_put (o := .loop { ({ state := .ready, pending := pe1, fn := fn1, tmps := tmps1, params := ps1, assign := asg1, body := body1, defers := D1 } : Loop) with state := .busy }) (y := .loop ps1 asg1 body1 .busy pe1 F') s1.rel hb1 rfl hp1 (.inr rfl) ⟨fn1, tmps1, D1, World.putObj_heap_same (Array.getElem?_eq_some_iff.1 hl1).1, hF1'⟩
  refine ⟨_, run_beginRound hl1 rfl, ?_⟩
  have s12 := s1.trans s2 s1.len
  refine wpIn_mono (acodeK_ok hm hΓ (some p.blk) n false (by simp) body _ F2 _ H2 x hbody 0 j1 _ a1 m (Nat.zero_le _) s2.rel g3 (g4.step s1.rel s2)) ?_
  rintro e a2 w2 ⟨x2, F2', H2', j2, rfl, ⟨rfl, rfl, rfl⟩, k3, k4, s3⟩
  have hblt1 : b < H1'.length := (List.getElem?_eq_some_iff.1 hb1).1
  have hp2 : j2 b = some p := by rw [s3.ext b (by simpa using hblt1)]; exact hp1
  obtain ⟨fn2, tmps2, D2, hl2, hF2⟩ := s3.rel.blk _ _ p hb2 hp2
  have s123 := s12.trans s3 (by simpa using s1.len)
  have fin : ∀ st pe, Step H.length j H w j2 (H2'.set b (.loop ps2 asg2 body2 st pe F'')) (w2.putObj p.blk (.loop { ({ state := st2, pending := pe2, fn := fn2, tmps := tmps2, params := ps2, assign := asg2, body := body2, defers := D2 } : Loop) with state := st, pending := pe })) := fun st pe =>
    s123.trans (step_put (y := .loop ps2 asg2 body2 st pe F'') s3.rel hb2 rfl hp2 (.inr rfl) ⟨fn2, tmps2, D2, World.putObj_heap_same (Array.getElem?_eq_some_iff.1 hl2).1, hF2⟩) s123.len
  cases x2 with
  | normal => exact ⟨_, _, run_endRound none hl2, _, j2, rfl, rfl, fin .ready none⟩
  | ret => exact ⟨_, _, run_endRound (some .ret) hl2, _, j2, rfl, rfl, fin .done (some .ret)⟩
  | exit id => exact ⟨_, _, run_endRound (some (.exit id)) hl2, _, j2, rfl, rfl, fin .done (some (.exit id))⟩

/-- runG for the kernel. -/
def runGK (P : Program) (Γ : Gam) (n : Nat) (inl : List FuncId) : Nat → FuncId → List AV → AHeap → Option (AV × AHeap × List Nat)
  | 0, f, args, H => Γ f args H
  | k + 1, f, args, H =>
    if f = yl then (match yieldGK P (runGK P Γ n inl k) n args H with | some r => some r | none => Γ f args H)
    else if inl.contains f then
      match fnOf P f with
      | none => none
      | some fn =>
        if fn.name == "runtime.NumGoroutine" then none else
        match runFK P (runGK P Γ n inl k) n fn args H with
        | some (v, H') => if H.length ≤ H'.length then some (v, H', changed H H') else none
        | none => none
    else Γ f args H

theorem weak_reflK {v : AV} {H : AHeap} {P : Program} {f : FuncId} {args : List AV} {fn : Func} {Γ : Gam} {n : Nat} (hm : P.follows .mixedOrders = true) (hΓ : GOk P Γ) (hf : P.funcs[f]? = some fn) {H1 : AHeap} (h : runFK P Γ n fn args H = some (v, H1)) : Ct P f args H v H1 := by
  unfold runFK at h
  split at h
  · cases h
  rename_i c hc
  intro j w cargs hR hargs
  refine (callsIn_wide (n := 0)).1 ?_
  refine callsIn_of_wp_marks hf hc trivial ?_ rfl
  have hl := hargs.length
  have hF : VRs j (args ++ List.replicate (fn.ntmps - args.length) undefA) (cargs ++ Array.replicate (fn.ntmps - cargs.size) undef).toList := by
    rw [Array.toList_append, Array.toList_replicate, hl, Array.length_toList]
    exact hargs.append (VRs.replicate (v := undef) (show VR j undefA undef from ⟨#[], rfl, rfl⟩) _)
  have key : ∀ (x : AX) (hx : x = .ret ∨ x = .normal) F' H', acodeK P Γ n true c (args ++ List.replicate (fn.ntmps - args.length) undefA) H = some (x, F', H') → resA P fn.results.toList F' H' = some v → H' = H1 →
      c.wpIn (FW none) 0 P (bodyPostM (FW none) 0 P fn fun e w' => ∃ cv j', e = .returned cv ∧ VR j' v cv ∧ Step H.length j H w j' H1 w') { tmps := cargs ++ Array.replicate (fn.ntmps - cargs.size) undef, defers := [] } w := by
    intro x hx F' H' hr hv e
    subst e
    refine wpIn_mono (acodeK_ok hm hΓ none n true (fun _ => rfl) c _ F' H H' x hr w.heap.size j w { tmps := cargs ++ Array.replicate (fn.ntmps - cargs.size) undef, defers := [] } 0 (Nat.le_refl _) hR hF (DefOk.nil _ _)) ?_
    rintro e a' w' ⟨x', F2, H2, j', rfl, ⟨rfl, rfl, rfl⟩, h3, h4, h5⟩
    exact body_end hx.symm hv h3 h4 h5 fun cv w2 g2 hs => ⟨cv, j', rfl, g2, hs⟩
  split at h
  · rename_i F' H2 hr
    obtain ⟨v2, hv, e⟩ := Option.map_eq_some_iff.1 h
    cases e
    exact key _ (.inl rfl) _ _ hr hv rfl
  · rename_i F' H2 hr
    obtain ⟨v2, hv, e⟩ := Option.map_eq_some_iff.1 h
    cases e
    exact key _ (.inr rfl) _ _ hr hv rfl
  · cases h

theorem gok_runK {P : Program} (hm : P.follows .mixedOrders = true) {Γ : Gam} (hΓ : GOk P Γ) (n : Nat) (inl : List FuncId) : ∀ k, GOk P (runGK P Γ n inl k)
  | 0 => by
    have : runGK P Γ n inl 0 = Γ := by funext f args H; simp [runGK]
    rw [this]; exact hΓ
  | k + 1 => by
    have ih := gok_runK hm hΓ n inl k
    refine ⟨?_, ?_⟩
    rotate_left
    · intro b args H v H' W h
      unfold runGK at h
      rw [if_pos rfl] at h
      split at h
      · rename_i r hr
        cases h
        exact yieldGK_ok hm ih n b args H v H' W hr
      · exact hΓ.2 b args H v H' W h
    intro f hfy ⟨args0, H0, r0, h0⟩
    by_cases hi : inl.contains f = true
    · have one : ∀ args H v H' W, runGK P Γ n inl (k + 1) f args H = some (v, H', W) → ∃ fn, P.funcs[f]? = some fn ∧ (fn.name == "runtime.NumGoroutine") = false ∧ runFK P (runGK P Γ n inl k) n fn args H = some (v, H') ∧ H.length ≤ H'.length ∧ W = changed H H' := by
        intro args H v H' W h
        unfold runGK at h
        rw [if_neg hfy, if_pos hi] at h
        split at h
        · cases h
        rename_i fn hfn
        split at h
        · cases h
        rename_i hn
        split at h
        · rename_i v1 H1 hr
          split at h <;> cases h
          exact ⟨fn, hfn, by simpa using hn, hr, ‹_›, rfl⟩
        · cases h
      obtain ⟨v0, H0', W0⟩ := r0
      obtain ⟨fn, hfn, hn, hr, _, _⟩ := one _ _ _ _ _ h0
      have hbody : fn.body.isSome = true := by
        unfold runFK at hr
        split at hr
        · cases hr
        · rename_i c hc; rw [hc]; rfl
      refine ⟨enter_of hfn hbody hn, fun args H v H' W h => ?_, fun args H v H' W h => ?_⟩
      · obtain ⟨fn', hfn', _, hr', _, _⟩ := one _ _ _ _ _ h
        rw [hfn] at hfn'
        cases hfn'
        exact weak_reflK hm ih hfn hr'
      · obtain ⟨fn', hfn', _, hr', hl, rfl⟩ := one _ _ _ _ _ h
        refine ⟨hl, fun b hb hnb => ?_⟩
        have : blkEq (H.getD b .dead) (H'.getD b .dead) = true := by
          cases hx : blkEq (H.getD b .dead) (H'.getD b .dead) with
          | true => rfl
          | false => exact absurd (List.mem_filter.2 ⟨List.mem_range.2 hb, by rw [hx]; rfl⟩) hnb
        have e := blkEq_eq this
        rw [List.getD_eq_getElem?_getD, List.getD_eq_getElem?_getD, List.getElem?_eq_getElem hb, List.getElem?_eq_getElem (show b < H'.length by omega)] at e
        rw [List.getElem?_eq_getElem hb, List.getElem?_eq_getElem (show b < H'.length by omega)]
        simpa using e.symm
    · have e : runGK P Γ n inl (k + 1) f = Γ f := by
        funext args H
        simp only [runGK]
        rw [if_neg hfy, if_neg hi]
      rw [e] at h0 ⊢
      exact hΓ.1 f hfy ⟨args0, H0, r0, h0⟩

def isTrue : Option (AV × AHeap) → Bool
  | some (.bool true, _) => true
  | _ => false

/-- A closed function, run by the kernel. -/
theorem ct_true {P : Program} {Γ : Gam} (hm : P.follows .mixedOrders = true) (hΓ : GOk P Γ) (n : Nat) (inl : List FuncId) (k : Nat) {f : FuncId} {fn : Func} (hf : P.funcs[f]? = some fn) (h : isTrue (runFK P (runGK P Γ n inl k) n fn [] []) = true) : Ct P f [] [] (.bool true) [] := by
  have hg := gok_runK hm hΓ n inl k
  cases hr : runFK P (runGK P Γ n inl k) n fn [] [] with
  | none => rw [hr] at h; cases h
  | some r =>
    obtain ⟨v, H'⟩ := r
    rw [hr] at h
    have hv : v = .bool true := by
      unfold isTrue at h
      split at h
      · rename_i e; cases e; rfl
      · cases h
    subst hv
    intro j w cargs hR hargs
    refine (weak_reflK hm hg hf hr j w cargs hR hargs).mono ?_
    rintro e w' ⟨cv, j', rfl, h1, h2⟩
    obtain ⟨j2, k1, k2⟩ := (weak_pure (H := H') (v := .bool true) rfl).step (Nat.le_refl _) h2 (vs := [cv]) ⟨cv, [], rfl, h1, rfl⟩
    simp only [VRs] at k2
    obtain ⟨_, _, e, k3, _⟩ := k2
    cases e
    exact ⟨cv, j2, rfl, k3, k1⟩

end Go.Proofs.Ytbbgmaklmlagcaa
