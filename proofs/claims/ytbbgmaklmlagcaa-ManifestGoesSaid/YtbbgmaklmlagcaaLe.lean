/- Drawn regions by stages: the run. -/
import Derived.Test.YtbbgmaklmlagcaaLd
namespace Go.Proofs.Ytbbgmaklmlagcaa

theorem seq1_wp {P : Program} {Γ : Gam} (hΓ : GOk P Γ) {ops : Array Oper} {c : Nat} {o : Oper} (ho : ops[c]? = some o) (hcut : Cut ops (c + 1)) {F0 : List AV} {H0 : AHeap} {j0 : Inj} {w0 : World} {a0 : Act} (hR : R j0 H0 w0) (hF : VRs j0 F0 a0.tmps.toList) {ds : List Deferred} (hdf : a0.defers = ds)
    (hedge : ∀ (k : Nat) o e, ops[k]? = some o → e ∈ o.after.toList → Region.binds .any e = true → e.on < k)
    (r : Option Nat) (n : Nat) {Q : Exit → Act → World → Prop} {F' : List AV} {H' : AHeap}
    (hrun : (wantA ops o F0 = some false ∧ F' = putA F0 o.dst undefA ∧ H' = H0) ∨ (wantA ops o F0 = some true ∧ ∃ v, opA P Γ F0 H0 o.op = some (v, H') ∧ F' = putA F0 o.dst v))
    (hq : ∀ j a w, VRs j F' a.tmps.toList → a.defers = ds → Step H0.length j0 H0 w0 j H' w → wpAnyIn (FW r) n P .any ops Q (ops.size - (c + 1)) (lst ops.size (c + 1)) a w) :
    wpAnyIn (FW r) n P .any ops Q (ops.size - c) (lst ops.size c) a0 w0 := by
  have hc : c < ops.size := (Array.getElem?_eq_some_iff.1 ho).1
  have hls : (lst ops.size c).size = ops.size := lst_size (by omega)
  have hcl : ∀ (k : Nat) o e, (lst ops.size c).getD k false = true → ops[k]? = some o → e ∈ o.after.toList → Region.binds .any e = true → (lst ops.size c).getD e.on false = true := by
    intro k o e hk hok he hb
    rw [lst_get] at hk ⊢
    have := hedge k o e hok he hb
    simp at hk ⊢
    omega
  have hset : (lst ops.size c).setIfInBounds c true = lst ops.size (c + 1) := by
    refine ext_getD (by rw [Array.size_setIfInBounds, hls, lst_size (by omega)]) fun k => ?_
    rw [lst_get, Array.getD_eq_getD_getElem?, Array.getElem?_setIfInBounds]
    by_cases e : c = k
    · subst e
      rw [if_pos rfl, if_pos (by omega)]
      simp
    · rw [if_neg e, ← Array.getD_eq_getD_getElem?, lst_get]
      simp only [decide_eq_decide]
      omega
  rw [show ops.size - c = (ops.size - (c + 1)) + 1 by omega]
  refine ⟨fun hnil => ?_, fun i hi => ?_⟩
  · exfalso
    have : c ∈ Region.ready .any ops (lst ops.size c) := by
      refine ready_iff.2 ⟨hc, ?_, o, ho, fun e he hbe => ?_⟩
      · have := lst_get ops.size c c
        rw [Array.getD_eq_getD_getElem?, Array.getElem?_eq_getElem (show c < (lst ops.size c).size by omega)] at this ⊢
        simpa using this
      · rw [lst_get]
        simpa using hedge c o e ho he hbe
    rw [hnil] at this
    cases this
  · obtain ⟨h1, h2, o', ho', he⟩ := ready_iff.1 hi
    have hlow : c ≤ i := by
      rcases Nat.lt_or_ge i c with h3 | h3
      · exfalso
        have := lst_get ops.size c i
        rw [Array.getD_eq_getD_getElem?, Array.getElem?_eq_getElem (show i < (lst ops.size c).size by omega)] at h2 this
        simp at h2 this
        rw [this] at h2
        simp at h2
        omega
      · exact h3
    have hic : i = c := by
      rcases Nat.lt_or_ge c i with h3 | h3
      · exfalso
        have := ready_pre hcl hi c (hcut.2.1 i (by omega) h1 c (by omega))
        rw [lst_get] at this
        simp at this
      · omega
    subst hic
    rw [hset]
    unfold wpOpIn
    rw [ho]
    dsimp only
    rcases hrun with ⟨hw, rfl, rfl⟩ | ⟨hw, v, hv, rfl⟩
    · rw [wantA_ok hw hF]
      refine ⟨fun _ _ => trivial, ?_⟩
      exact hq j0 _ w0 (putA_ok hF o.dst ⟨#[], rfl, rfl⟩) (by rw [put_defers]; exact hdf) (Step.refl hR (Nat.le_refl _))
    · rw [wantA_ok hw hF]
      simp only [if_true]
      refine opA_ok hΓ hv hF hR r n fun cv j' w' hcv hst => ?_
      exact hq j' _ w' (putA_ok (VRs.mono (hst.jle hR (Nat.le_refl _)) _ _ hF) o.dst hcv) (by rw [put_defers]; exact hdf) hst

def cutB (ops : List Oper) (prs : List Nat) (c' : Nat) : Bool :=
  Nat.ble c' ops.length && (List.range ops.length).all (fun k => Nat.blt k c' || (prs.getD k 0) &&& (2 ^ c' - 1) == 2 ^ c' - 1) && (ops.take c').all (fun o => match o.guard with | some (j, _) => Nat.blt j c' | none => true)

def edgesB (ops : List Oper) : Bool := (List.range ops.length).all fun k => (ops.getD k default).after.toList.all fun e => !Region.binds .any e || Nat.blt e.on k

theorem cutB_ok {ops : Array Oper} {c' : Nat} (h : cutB ops.toList (pres ops.toList) c' = true) : Cut ops c' := by
  unfold cutB at h
  simp only [Bool.and_eq_true, List.all_eq_true, List.mem_range, Bool.or_eq_true, Nat.blt_eq, Nat.ble_eq] at h
  obtain ⟨⟨h1, h2⟩, h3⟩ := h
  refine ⟨by simpa using h1, fun k hk hks m hm => ?_, fun i o j want hi ho hg => ?_⟩
  · rcases h2 k (by simpa using hks) with h4 | h4
    · omega
    · have h5 : (pres ops.toList).getD k 0 &&& (2 ^ c' - 1) = 2 ^ c' - 1 := by simpa using h4
      have := congrArg (fun x => x.testBit m) h5
      simp only [Nat.testBit_and, Nat.testBit_two_pow_sub_one] at this
      simpa [hm] using this
  · have := h3 o (List.mem_of_getElem? (i := i) (by rw [List.getElem?_take, if_pos hi, Array.getElem?_toList]; exact ho))
    rw [hg] at this
    simpa using this

theorem edgesB_ok {ops : Array Oper} (h : edgesB ops.toList = true) : ∀ (k : Nat) o e, ops[k]? = some o → e ∈ o.after.toList → Region.binds .any e = true → e.on < k := by
  intro k o e ho he hb
  unfold edgesB at h
  simp only [List.all_eq_true, List.mem_range, Bool.or_eq_true, Bool.not_eq_true', Nat.blt_eq] at h
  have hk : k < ops.size := (Array.getElem?_eq_some_iff.1 ho).1
  rcases h k (by simpa using hk) e (by rw [List.getD_eq_getElem?_getD, Array.getElem?_toList, ho]; exact he) with h1 | h1
  · rw [hb] at h1; cases h1
  · exact h1

/-- The stages' run, from cut to cut. -/
def stagesRun (P : Program) (Γ : Gam) (ops : Array Oper) : List Nat → Nat → List AV → AHeap → Option (List AV × AHeap)
  | [], c, F, H => if c = ops.size then some (F, H) else none
  | c' :: cs, c, F, H =>
    if cutB ops.toList (pres ops.toList) c' then
      if c' = c + 1 then
        match ops[c]? with
        | none => none
        | some o =>
          match wantA ops o F with
          | none => none
          | some false => stagesRun P Γ ops cs c' (putA F o.dst undefA) H
          | some true =>
            match opA P Γ F H o.op with
            | none => none
            | some (v, H') => stagesRun P Γ ops cs c' (putA F o.dst v) H'
      else if c ≤ c' then
        match qrunT P Γ (stageOps ops c c') (stageOps ops c c').toList F H [] [] with
        | none => none
        | some (F', H') => stagesRun P Γ ops cs c' F' H'
      else none
    else none

theorem stagesRun_wp {P : Program} {Γ : Gam} (hΓ : GOk P Γ) {ops : Array Oper} (hedge : ∀ (k : Nat) o e, ops[k]? = some o → e ∈ o.after.toList → Region.binds .any e = true → e.on < k) {ds : List Deferred} (r : Option Nat) (n : Nat) {Q : Exit → Act → World → Prop} {F' : List AV} {H' : AHeap} :
    ∀ (cs : List Nat) (c : Nat) (F0 : List AV) (H0 : AHeap) (j0 : Inj) (w0 : World) (a0 : Act), stagesRun P Γ ops cs c F0 H0 = some (F', H') → R j0 H0 w0 → VRs j0 F0 a0.tmps.toList → a0.defers = ds →
      (∀ j a w, VRs j F' a.tmps.toList → a.defers = ds → Step H0.length j0 H0 w0 j H' w → Q .normal a w) → wpAnyIn (FW r) n P .any ops Q (ops.size - c) (lst ops.size c) a0 w0
  | [], c, F0, H0, j0, w0, a0, h, hR, hF, hdf, hq => by
    unfold stagesRun at h
    split at h <;> cases h
    rename_i hc
    subst hc
    rw [Nat.sub_self]
    refine ⟨?_, hq j0 a0 w0 hF hdf (Step.refl hR (Nat.le_refl _))⟩
    rw [List.eq_nil_iff_forall_not_mem]
    intro i hi
    obtain ⟨h1, h2, _⟩ := ready_iff.1 hi
    have := lst_get ops.size ops.size i
    rw [Array.getD_eq_getD_getElem?, Array.getElem?_eq_getElem (show i < (lst ops.size ops.size).size by rw [lst_size (Nat.le_refl _)]; exact h1)] at h2 this
    simp at h2 this
    rw [this] at h2
    simp at h2
    omega
  | c' :: cs, c, F0, H0, j0, w0, a0, h, hR, hF, hdf, hq => by
    unfold stagesRun at h
    split at h
    rotate_left
    · cases h
    rename_i hcut
    have hcut := cutB_ok hcut
    split at h
    · rename_i hc'
      subst hc'
      split at h
      · cases h
      rename_i o ho
      split at h
      · cases h
      · rename_i hw
        exact seq1_wp hΓ ho hcut hR hF hdf hedge r n (.inl ⟨hw, rfl, rfl⟩) fun j a w h1 h2 h3 =>
          stagesRun_wp hΓ hedge r n cs (c + 1) _ H0 j w a h h3.rel h1 h2 fun j2 a2 w2 g1 g2 g3 => hq j2 a2 w2 g1 g2 (h3.trans g3 h3.len)
      · rename_i hw
        split at h
        · cases h
        rename_i v H1 hv
        exact seq1_wp hΓ ho hcut hR hF hdf hedge r n (.inr ⟨hw, v, hv, rfl⟩) fun j a w h1 h2 h3 =>
          stagesRun_wp hΓ hedge r n cs (c + 1) _ H1 j w a h h3.rel h1 h2 fun j2 a2 w2 g1 g2 g3 => hq j2 a2 w2 g1 g2 (h3.trans g3 h3.len)
    · split at h
      rotate_left
      · cases h
      rename_i hle
      split at h
      · cases h
      rename_i F1 H1 hst
      rw [← adraw_eqT] at hst
      exact stage_wp hΓ hle hcut hst hR hF hdf r n (fun j a w h1 h2 h3 =>
        stagesRun_wp hΓ hedge r n cs c' _ H1 j w a h h3.rel h1 h2 fun j2 a2 w2 g1 g2 g3 => hq j2 a2 w2 g1 g2 (h3.trans g3 h3.len)) (fun k o e hk ho hee hbe => by have := hedge k o e ho hee hbe; omega)

def cutsOf (ops : List Oper) : List Nat := (List.range ops.length).filterMap fun c => if cutB ops (pres ops) (c + 1) then some (c + 1) else none

/-- A drawn region, in the text's order where no order makes a difference, or else by stages. -/
def adrawK (P : Program) (Γ : Gam) (ops : Array Oper) (F : List AV) (H : AHeap) : Option (List AV × AHeap) :=
  match qrunT P Γ ops ops.toList F H [] [] with
  | some r => some r
  | none => if edgesB ops.toList then stagesRun P Γ ops (cutsOf ops.toList) 0 F H else none

theorem adrawK_wp {P : Program} {Γ : Gam} (hΓ : GOk P Γ) {ops : Array Oper} {F0 F' : List AV} {H0 H' : AHeap} (hd : adrawK P Γ ops F0 H0 = some (F', H')) {j0 : Inj} {w0 : World} {a0 : Act} (hR : R j0 H0 w0) (hF : VRs j0 F0 a0.tmps.toList) {ds : List Deferred} (hdf : a0.defers = ds)
    (r : Option Nat) (n : Nat) {Q : Exit → Act → World → Prop} (hq : ∀ j a w, VRs j F' a.tmps.toList → a.defers = ds → Step H0.length j0 H0 w0 j H' w → Q .normal a w) :
    wpAnyIn (FW r) n P .any ops Q ops.size (Array.replicate ops.size false) a0 w0 := by
  unfold adrawK at hd
  split at hd
  · rename_i r' hr
    cases hd
    rw [← adraw_eqT] at hr
    exact draw_wp hΓ hr hR hF hdf r n hq
  · split at hd
    rotate_left
    · cases hd
    rename_i he
    have := stagesRun_wp hΓ (edgesB_ok he) r n (Q := Q) (ds := ds) _ 0 F0 H0 j0 w0 a0 hd hR hF hdf hq
    have e : lst ops.size 0 = Array.replicate ops.size false := by simp [lst]
    rw [e] at this
    exact this

end Go.Proofs.Ytbbgmaklmlagcaa
