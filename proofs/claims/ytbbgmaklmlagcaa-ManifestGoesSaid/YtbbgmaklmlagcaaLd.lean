/- A drawn region by stages: where all that stands behind a place must wait for all ahead of it, the two parts are run one behind the other; a stage of one operation may be of any kind. -/
import Derived.Test.YtbbgmaklmlagcaaBs
import Derived.Test.YtbbgmaklmlagcaaBa
namespace Go.Proofs.Ytbbgmaklmlagcaa

/-- An operation that was done: it leaves its slot. -/
def blankOp (o : Oper) : Oper := { o with op := (match o.dst with | some d => .move (.tmp d) | none => .move (.const (.bool false))), after := #[], guard := none }

def stageOps (ops : Array Oper) (c c' : Nat) : Array Oper := ((ops.toList.take c).map blankOp ++ (ops.toList.drop c).take (c' - c)).toArray

theorem stage_size {ops : Array Oper} {c c' : Nat} (h : c ≤ c') (h' : c' ≤ ops.size) : (stageOps ops c c').size = c' := by
  unfold stageOps
  simp
  omega

theorem stage_lo {ops : Array Oper} {c c' i : Nat} (h : c ≤ c') (h' : c' ≤ ops.size) (hi : i < c) : (stageOps ops c c')[i]? = (ops[i]?).map blankOp := by
  unfold stageOps
  simp only [List.getElem?_toArray]
  rw [List.getElem?_append_left (by simp; omega), List.getElem?_map, List.getElem?_take, if_pos hi, Array.getElem?_toList]

theorem stage_hi {ops : Array Oper} {c c' i : Nat} (h : c ≤ c') (h' : c' ≤ ops.size) (hi : c ≤ i) (hi' : i < c') : (stageOps ops c c')[i]? = ops[i]? := by
  unfold stageOps
  simp only [List.getElem?_toArray]
  rw [List.getElem?_append_right (by simp; omega), List.getElem?_take, if_pos (by simp; omega), List.getElem?_drop, Array.getElem?_toList]
  congr 1
  simp
  omega

theorem stage_dst {ops : Array Oper} {c c' i : Nat} (h : c ≤ c') (h' : c' ≤ ops.size) (hi : i < c') : ((stageOps ops c c')[i]?).bind (·.dst) = (ops[i]?).bind (·.dst) := by
  rcases Nat.lt_or_ge i c with h1 | h1
  · rw [stage_lo h h' h1]
    cases ops[i]? <;> rfl
  · rw [stage_hi h h' h1 hi]

theorem set_getD (F : List AV) (d : Nat) : F.set d (F.getD d undefA) = F := by
  rcases Nat.lt_or_ge d F.length with h | h
  · rw [List.getD_eq_getElem?_getD, List.getElem?_eq_getElem h]
    simp
  · exact List.set_eq_of_length_le h

theorem qstep_blank (P : Program) (Γ : Gam) (ops : Array Oper) (F : List AV) (H : AHeap) (o : Oper) : ∃ v, qstep P Γ ops F H (blankOp o) = some ⟨v, H, none, none, false, false, false⟩ ∧ putA F (blankOp o).dst v = F ∧ ∀ d, o.dst = some d → v = F.getD d undefA := by
  rw [qstep_eq]
  unfold qstepU
  have hw : wantA ops (blankOp o) F = some true := rfl
  rw [hw]
  dsimp only
  cases hd : o.dst with
  | none =>
    have e : (blankOp o).op = .move (.const (.bool false)) := by simp [blankOp, hd]
    rw [e]
    refine ⟨_, rfl, ?_, fun d h => by cases h⟩
    simp [blankOp, hd, putA]
  | some d =>
    have e : (blankOp o).op = .move (.tmp d) := by simp [blankOp, hd]
    rw [e]
    refine ⟨F.getD d undefA, rfl, ?_, fun d' h => by cases h; rfl⟩
    simp only [blankOp, hd, putA]
    exact set_getD F d

/-- The first c are done. -/
def lst (n c : Nat) : Array Bool := Array.replicate c true ++ Array.replicate (n - c) false

theorem lst_get (n c k : Nat) : (lst n c).getD k false = decide (k < c) := by
  unfold lst
  rw [Array.getD_eq_getD_getElem?, Array.getElem?_append]
  simp only [Array.size_replicate]
  split
  · rename_i h
    rw [Array.getElem?_replicate, if_pos h]
    simp [h]
  · rename_i h
    rw [Array.getElem?_replicate]
    split <;> simp [h]

theorem lst_size {n c : Nat} (h : c ≤ n) : (lst n c).size = n := by simp [lst]; omega

/-- From c' on all wait for all ahead of c'. -/
def Cut (ops : Array Oper) (c' : Nat) : Prop := c' ≤ ops.size ∧ (∀ k, c' ≤ k → k < ops.size → ∀ m, m < c' → ((pres ops.toList).getD k 0).testBit m = true) ∧ ∀ (i : Nat) o j want, i < c' → ops[i]? = some o → o.guard = some (j, want) → j < c'

theorem ext_getD {a b : Array Bool} (hs : a.size = b.size) (h : ∀ k, a.getD k false = b.getD k false) : a = b := by
  apply Array.ext hs
  intro i h1 h2
  have := h i
  rw [Array.getD_eq_getD_getElem?, Array.getD_eq_getD_getElem?, Array.getElem?_eq_getElem h1, Array.getElem?_eq_getElem h2] at this
  simpa using this

theorem ready_pre {ops : Array Oper} {listed : Array Bool} (hc : ∀ (k : Nat) o e, listed.getD k false = true → ops[k]? = some o → e ∈ o.after.toList → Region.binds .any e = true → listed.getD e.on false = true) {i : Nat} (hi : i ∈ Region.ready .any ops listed) :
    ∀ m, ((pres ops.toList).getD i 0).testBit m = true → listed.getD m false = true := by
  obtain ⟨h1, h2, o, ho, he⟩ := ready_iff.1 hi
  exact pres_done (D := fun k => listed.getD k false = true) (fun k o e hk hok => hc k o e hk (by simpa using hok)) i o (by simpa using ho) he

theorem stage_wp {P : Program} {Γ : Gam} (hΓ : GOk P Γ) {ops : Array Oper} {c c' : Nat} (hcc : c ≤ c') (hcut : Cut ops c') {F0 F' : List AV} {H0 H' : AHeap} (hd : adraw P Γ (stageOps ops c c') F0 H0 = some (F', H')) {j0 : Inj} {w0 : World} {a0 : Act} (hR : R j0 H0 w0) (hF : VRs j0 F0 a0.tmps.toList) {ds : List Deferred} (hdf : a0.defers = ds)
    (r : Option Nat) (n : Nat) {Q : Exit → Act → World → Prop} (hq : ∀ j a w, VRs j F' a.tmps.toList → a.defers = ds → Step H0.length j0 H0 w0 j H' w → wpAnyIn (FW r) n P .any ops Q (ops.size - c') (lst ops.size c') a w)
    (hclosed : ∀ (k : Nat) o e, k < c → ops[k]? = some o → e ∈ o.after.toList → Region.binds .any e = true → e.on < c) :
    wpAnyIn (FW r) n P .any ops Q (ops.size - c) (lst ops.size c) a0 w0 := by
  obtain ⟨hsz, hbits, hguard⟩ := hcut
  obtain ⟨qs, Fs, Hs, T, rfl, rfl⟩ := txt_of hd
  have hvs := stage_size hcc hsz
  have hFl : F0.length = a0.tmps.size := by simpa using hF.length
  -- the done ones leave all as it was
  have low : ∀ k, k ≤ c → Fs k = F0 ∧ Hs k = H0 := by
    intro k
    induction k with
    | zero => exact fun _ => ⟨T.f0, T.h0⟩
    | succ k ih =>
      intro hk
      obtain ⟨e1, e2⟩ := ih (by omega)
      have ho : (stageOps ops c c')[k]? = some (blankOp ops[k]) := by rw [stage_lo hcc hsz (by omega), Array.getElem?_eq_getElem (by omega)]; rfl
      obtain ⟨q, hq1⟩ := T.q ho
      obtain ⟨s1, s2, s3⟩ := T.each k _ q ho hq1
      obtain ⟨v, g1, g2, _⟩ := qstep_blank P Γ (stageOps ops c c') (Fs k) (Hs k) ops[k]
      rw [g1] at s1
      cases s1
      exact ⟨by rw [s2, g2, e1], by rw [s3, e2]⟩
  have lowq : ∀ k o q, k < c → (stageOps ops c c')[k]? = some o → qs[k]? = some q → q.st = none ∧ ∀ d, o.dst = some d → q.v = F0.getD d undefA := by
    intro k o q hk ho hqk
    have ho' := ho
    rw [stage_lo hcc hsz hk, Array.getElem?_eq_getElem (by omega)] at ho
    cases ho
    obtain ⟨s1, s2, s3⟩ := T.each k _ q ho' hqk
    obtain ⟨v, g1, g2, g3⟩ := qstep_blank P Γ (stageOps ops c c') (Fs k) (Hs k) ops[k]
    rw [g1] at s1
    cases s1
    refine ⟨rfl, fun d hd => ?_⟩
    rw [← (low k (by omega)).1]
    exact g3 d hd
  -- all is done
  have done : ∀ (D : Nat → Prop) σ a j w, DI ds j0 F0 H0 w0 (stageOps ops c c') qs Hs D σ a j w → (∀ i, i < c' → D i) → VRs j (Fs (stageOps ops c c').size) a.tmps.toList ∧ a.defers = ds ∧ Step H0.length j0 H0 w0 j ((qs.filterMap (·.st)).foldl putS (Hs (stageOps ops c c').size)) w := by
    intro D σ a j w h hall
    rw [← hvs] at hall
    refine ⟨?_, h.defers, ?_⟩
    · refine VRs_iff.2 ⟨by rw [T.flen _ (Nat.le_refl _)]; simpa using h.size, fun t x v hx hv => ?_⟩
      have hv' : a.tmps[t]? = some v := by simpa using hv
      rcases T.slot t x _ (Nat.le_refl _) hx with ⟨i, o, q, h1, h2, h3, h4, rfl⟩ | ⟨h1, h2⟩
      · exact h.set i o q t v (hall i h1) h2 h3 h4 hv'
      · exact h.old t x v (fun k o _ hok => h1 k o (Array.getElem?_eq_some_iff.1 hok).1 hok) h2 hv'
    · have hperm : σ.Perm ((List.range qs.length).filter fun k => ((qs[k]?).bind (·.st)).isSome) := by
        refine (List.perm_ext_iff_of_nodup h.nodup (List.nodup_range.sublist List.filter_sublist)).2 fun k => ?_
        rw [h.sig k, List.mem_filter, List.mem_range, T.len]
        constructor
        · rintro ⟨h1, _, q, h2, h3⟩
          exact ⟨h1, by rw [h2]; exact h3⟩
        · rintro ⟨h1, h2⟩
          obtain ⟨q, hq'⟩ : ∃ q, qs[k]? = some q := ⟨_, List.getElem?_eq_getElem (by rw [T.len]; exact h1)⟩
          rw [hq'] at h2
          exact ⟨h1, hall k h1, q, hq', h2⟩
      have hp2 := hperm.filterMap (fun k => (qs[k]?).bind (·.st))
      have e1 : ((List.range qs.length).filter fun k => ((qs[k]?).bind (·.st)).isSome).filterMap (fun k => (qs[k]?).bind (·.st)) = qs.filterMap (·.st) := by
        rw [← filterMap_range (·.st) qs, List.filterMap_filter]
        congr 1
        funext k
        cases hk : (qs[k]?).bind (·.st) <;> simp
      rw [e1] at hp2
      have hcomm := hp2.foldl_eq' (f := putS) (fun x hx y hy z => by
        obtain ⟨i, hi, ei⟩ := List.mem_filterMap.1 hx
        obtain ⟨k, hk, ek⟩ := List.mem_filterMap.1 hy
        obtain ⟨qi, hqi, si⟩ := Option.bind_eq_some_iff.1 ei
        obtain ⟨qk, hqk, sk⟩ := Option.bind_eq_some_iff.1 ek
        have hil := (h.sig i).1 hi
        have hkl := (h.sig k).1 hk
        obtain ⟨oi, hoi⟩ : ∃ oi, (stageOps ops c c')[i]? = some oi := ⟨_, Array.getElem?_eq_getElem hil.1⟩
        obtain ⟨ok, hok⟩ : ∃ ok, (stageOps ops c c')[k]? = some ok := ⟨_, Array.getElem?_eq_getElem hkl.1⟩
        rcases Nat.lt_trichotomy i k with h1 | h1 | h1
        · have := T.pairs i k oi ok qi qk h1 hoi hok hqi hqk
          unfold pairOk at this
          rw [si, sk] at this
          simp only [Bool.and_eq_true] at this
          exact putS_comm z this.1.1.2.2
        · subst h1
          rw [hqi] at hqk
          cases hqk
          rw [si] at sk
          cases sk
          rfl
        · have := T.pairs k i ok oi qk qi h1 hok hoi hqk hqi
          unfold pairOk at this
          rw [si, sk] at this
          simp only [Bool.and_eq_true] at this
          exact (putS_comm z this.1.1.2.2).symm) (Hs (stageOps ops c c').size)
      rw [← hcomm]
      exact h.step
  -- the way there
  have way : ∀ u (listed : Array Bool) σ a j w, listed.size = ops.size → nf (listed.toList.take c') = u → (∀ k, c' ≤ k → listed.getD k false = false) → (∀ k, k < c → listed.getD k false = true) → DI ds j0 F0 H0 w0 (stageOps ops c c') qs Hs (fun i => listed.getD i false = true) σ a j w →
      (∀ (k : Nat) o e, listed.getD k false = true → ops[k]? = some o → e ∈ o.after.toList → Region.binds .any e = true → listed.getD e.on false = true) → wpAnyIn (FW r) n P .any ops Q (ops.size - c' + u) listed a w := by
    intro u
    induction u with
    | zero =>
      intro listed σ a j w hs hnf hhi hlo h _
      have hall : ∀ i, i < c' → listed.getD i false = true := by
        intro i hi
        have := nf_zero (listed.toList.take c') hnf i
        rw [List.getElem?_take, if_pos hi, Array.getElem?_toList] at this
        rw [Array.getD_eq_getD_getElem?]
        have hli : listed[i]? = some listed[i] := Array.getElem?_eq_getElem (by omega)
        rw [hli] at this ⊢
        cases hb : listed[i] with
        | true => rfl
        | false => exact absurd (by rw [hb]) this
      have e : listed = lst ops.size c' := by
        refine ext_getD (by rw [hs, lst_size hsz]) fun k => ?_
        rw [lst_get]
        rcases Nat.lt_or_ge k c' with h1 | h1
        · rw [hall k h1]; simp [h1]
        · rw [hhi k h1]; simp; exact h1
      rw [e]
      obtain ⟨d1, d2, d3⟩ := done _ σ a j w h hall
      exact hq j a w d1 d2 d3
    | succ u ih =>
      intro listed σ a j w hs hnf hhi hlo h hc
      have hun : ∃ i, i < c' ∧ listed.getD i false = false := by
        refine Classical.byContradiction fun hno => ?_
        have hall : ∀ b ∈ listed.toList.take c', b = true := by
          intro b hb
          obtain ⟨i, hi⟩ := List.getElem?_of_mem hb
          rw [List.getElem?_take] at hi
          split at hi
          · rename_i hlt
            cases hbb : b with
            | true => rfl
            | false =>
              exfalso
              refine hno ⟨i, hlt, ?_⟩
              rw [Array.getD_eq_getD_getElem?]
              rw [Array.getElem?_toList] at hi
              rw [hi, hbb]; rfl
          · cases hi
        have : ∀ l : List Bool, (∀ b ∈ l, b = true) → nf l = 0 := by
          intro l
          induction l with
          | nil => intro _; rfl
          | cons b l ihl =>
            intro hl
            have h1 := hl b (List.mem_cons_self ..)
            subst h1
            have h2 := ihl fun b hb => hl b (List.mem_cons_of_mem _ hb)
            simpa [nf] using h2
        rw [this _ hall] at hnf
        cases hnf
      obtain ⟨i0, hi0, hli0⟩ := hun
      have hready : Region.ready .any ops listed ≠ [] := by
        intro hnil
        have : ∀ i, i < c' → listed.getD i false = true := by
          intro i
          induction i using Nat.strongRecOn with
          | _ i ihi =>
            intro hi
            cases hb : listed.getD i false with
            | true => rfl
            | false =>
              exfalso
              have hic : c ≤ i := by
                rcases Nat.lt_or_ge i c with h1 | h1
                · rw [hlo i h1] at hb; cases hb
                · exact h1
              have : i ∈ Region.ready .any ops listed := by
                refine ready_iff.2 ⟨by omega, ?_, ops[i], Array.getElem?_eq_getElem (by omega), fun e he hbe => ?_⟩
                · rw [Array.getD_eq_getD_getElem?, Array.getElem?_eq_getElem (show i < listed.size by omega)] at hb ⊢
                  exact hb
                · have ho : (stageOps ops c c')[i]? = some ops[i] := by rw [stage_hi hcc hsz hic hi]; exact Array.getElem?_eq_getElem (by omega)
                  have hlt := T.edges i _ e ho he hbe
                  exact ihi e.on hlt (by omega)
              rw [hnil] at this
              cases this
        rw [this i0 hi0] at hli0
        cases hli0
      rw [show ops.size - c' + (u + 1) = (ops.size - c' + u) + 1 by omega]
      refine ⟨fun hnil => absurd hnil hready, fun i hi => ?_⟩
      obtain ⟨h1, h2, o, ho, he⟩ := ready_iff.1 hi
      have hi' : i < c' := by
        rcases Nat.lt_or_ge i c' with h3 | h3
        · exact h3
        · exfalso
          have := ready_pre hc hi i0 (hbits i h3 h1 i0 hi0)
          rw [this] at hli0
          cases hli0
      have hli : listed[i]? = some false := by
        rw [Array.getD_eq_getD_getElem?, Array.getElem?_eq_getElem (show i < listed.size by omega)] at h2
        rw [Array.getElem?_eq_getElem (show i < listed.size by omega)]
        simpa using h2
      have hic : c ≤ i := by
        rcases Nat.lt_or_ge i c with h3 | h3
        · have := hlo i h3
          rw [Array.getD_eq_getD_getElem?, hli] at this
          cases this
        · exact h3
      have hoV : (stageOps ops c c')[i]? = some o := by rw [stage_hi hcc hsz hic hi']; exact ho
      have hset : ∀ k, (listed.setIfInBounds i true).getD k false = true ↔ (listed.getD k false = true ∨ k = i) := by
        intro k
        rw [Array.getD_eq_getD_getElem?, Array.getD_eq_getD_getElem?, Array.getElem?_setIfInBounds]
        by_cases e : i = k
        · subst e
          rw [if_pos rfl, if_pos (by omega)]
          simp
        · rw [if_neg e]
          constructor
          · exact fun h => .inl h
          · rintro (h | h)
            · exact h
            · exact absurd h.symm e
      have hcV : ∀ (k : Nat) o e, listed.getD k false = true → (stageOps ops c c')[k]? = some o → e ∈ o.after.toList → Region.binds .any e = true → listed.getD e.on false = true := by
        intro k o' e hk hok hee hbe
        rcases Nat.lt_or_ge k c with h3 | h3
        · rw [stage_lo hcc hsz h3] at hok
          obtain ⟨o2, _, rfl⟩ := Option.map_eq_some_iff.1 hok
          simp [blankOp] at hee
        · have hk' : k < c' := by rw [← hvs]; exact (Array.getElem?_eq_some_iff.1 hok).1
          rw [stage_hi hcc hsz h3 hk'] at hok
          exact hc k o' e hk hok hee hbe
      have key := h.go hΓ T hoV (by rw [Array.getD_eq_getD_getElem?, hli]; simp) hcV he r n (Q := Q) (K := wpAnyIn (FW r) n P .any ops Q (ops.size - c' + u) (listed.setIfInBounds i true)) fun σ' a' j' w' h' => ?_
      · unfold wpOpIn at key ⊢
        rw [hoV] at key
        rw [ho]
        dsimp only at key ⊢
        have ew : Region.wanted o (yielded ops a.tmps) = Region.wanted o (yielded (stageOps ops c c') a.tmps) := by
          unfold Region.wanted
          split
          · rfl
          · rename_i j' want hg
            have hj := hguard i o j' want hi' ho hg
            have ed := stage_dst hcc hsz hj
            unfold yielded
            rw [ed]
        rw [ew]
        exact key
      · refine ih _ σ' a' j' w' (by simpa using hs) ?_ ?_ ?_ ?_ ?_
        · have := nf_set (listed.toList.take c') i (by rw [List.getElem?_take, if_pos hi']; simpa using hli)
          rw [Array.toList_setIfInBounds, List.take_set]
          omega
        · intro k hk
          have h3 : ¬ ((listed.setIfInBounds i true).getD k false = true) := by
            rw [hset, hhi k hk]
            simp
            omega
          simpa using h3
        · intro k hk
          rw [hset]
          exact .inl (hlo k hk)
        · have e : (fun k => listed.getD k false = true ∨ k = i) = fun k => (listed.setIfInBounds i true).getD k false = true := by
            funext k; exact propext (hset k).symm
          rw [← e]
          exact h'
        · intro k o' e hk hok hee hbe
          rw [hset] at hk ⊢
          rcases hk with hk | rfl
          · exact .inl (hc k o' e hk hok hee hbe)
          · rw [ho] at hok
            cases hok
            exact .inl (he e hee hbe)
  have hl0 := T.heap hΓ (stageOps ops c c').size (Nat.le_refl _) 0 (by omega)
  rw [T.h0] at hl0
  have hnf : nf ((lst ops.size c).toList.take c') = c' - c := by
    unfold lst
    rw [Array.toList_append, Array.toList_replicate, Array.toList_replicate, List.take_append, List.take_of_length_le (by simp; omega), List.take_replicate, List.length_replicate]
    have : ∀ (m k : Nat), nf (List.replicate m true ++ List.replicate k false) = k := by
      intro m k
      induction m with
      | zero => simpa using nf_replicate k
      | succ m ih => rw [List.replicate_succ, List.cons_append]; simpa [nf] using ih
    rw [this]
    omega
  have e0 : ops.size - c = ops.size - c' + (c' - c) := by omega
  rw [e0]
  refine way (c' - c) _ [] a0 j0 w0 (lst_size (by omega)) hnf (fun k hk => by rw [lst_get]; simp; omega) (fun k hk => by rw [lst_get]; simpa using hk) ⟨?_, fun b p hp => .inl ?_, hFl, fun k o q t v hk ho hqk hdt hv => ?_, fun t x v _ hx hv => ?_, fun k => ?_, by simp, fun k hk => by simp at hk, hdf⟩ (fun k o e hk ho hee hbe => ?_)
  · refine ⟨hR.more hl0.1 hl0.2, fun _ _ => rfl, hl0.1, Keeps.refl _ _ _, fun b l p hb hy hp => .inr ⟨b, l, p, ?_, hy, hp, rfl⟩⟩
    have hbl : b < H0.length := by
      rcases Nat.lt_or_ge b H0.length with h1 | h1
      · exact h1
      · rw [hR.dom b h1] at hp; cases hp
    simp only [List.filterMap_nil, List.foldl_nil] at hb
    rw [hl0.2 b hbl] at hb
    exact hb
  · rcases Nat.lt_or_ge b H0.length with h1 | h1
    · exact h1
    · rw [hR.dom b h1] at hp; cases hp
  · rw [lst_get] at hk
    have hkc : k < c := by simpa using hk
    rw [(lowq k o q hkc ho hqk).2 t hdt]
    have htl : t < F0.length := by rw [hFl]; exact (Array.getElem?_eq_some_iff.1 hv).1
    refine (VRs_iff.1 hF).2 t _ v ?_ (by simpa using hv)
    rw [List.getD_eq_getElem?_getD, List.getElem?_eq_getElem htl]
    rfl
  · exact (VRs_iff.1 hF).2 t x v hx (by simpa using hv)
  · constructor
    · intro hk; simp at hk
    · rintro ⟨hk1, hk, q, hqk, hst⟩
      rw [lst_get] at hk
      have hkc : k < c := by simpa using hk
      rw [(lowq k _ q hkc (Array.getElem?_eq_getElem hk1) hqk).1] at hst
      cases hst
  · rw [lst_get] at hk ⊢
    have hkc : k < c := by simpa using hk
    simpa using hclosed k o e hkc ho hee hbe

end Go.Proofs.Ytbbgmaklmlagcaa
