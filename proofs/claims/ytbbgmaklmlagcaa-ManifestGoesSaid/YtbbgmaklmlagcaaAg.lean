/- A region whose order is drawn: all of it. Code, and functions. -/
import Derived.Test.YtbbgmaklmlagcaaAf
namespace Go.Proofs.Ytbbgmaklmlagcaa

theorem filterMap_range {α β : Type} (f : α → Option β) : ∀ (l : List α), (List.range l.length).filterMap (fun k => (l[k]?).bind f) = l.filterMap f
  | [] => rfl
  | x :: l => by
    rw [List.length_cons, List.range_succ_eq_map, List.filterMap_cons, List.filterMap_map]
    have e : ((fun k => ((x :: l)[k]?).bind f) ∘ Nat.succ) = fun k => (l[k]?).bind f := by funext k; simp
    rw [e, filterMap_range f l, List.filterMap_cons]
    simp

theorem R.heapEq {j : Inj} {H : AHeap} {w w' : World} (h : R j H w) (hw : w'.heap = w.heap) : R j H w' := by
  refine ⟨h.dom, fun b x p hb hp => ?_, h.inj⟩
  have := h.blk b x p hb hp
  cases x with
  | dead => trivial
  | cells o l => obtain ⟨cs, T, fz, h1, r⟩ := this; exact ⟨cs, T, fz, by rw [hw]; exact h1, r⟩
  | loop _ _ _ _ _ _ => obtain ⟨fn, tmps, D, h1, r⟩ := this; exact ⟨fn, tmps, D, by rw [hw]; exact h1, r⟩
  | map _ => obtain ⟨ents, cl, h1, r⟩ := this; exact ⟨ents, cl, by rw [hw]; exact h1, r⟩

theorem step_drew {n : Nat} {j j' : Inj} {H H' : AHeap} {w w' : World} (h : Step n j H { w with drawn := w.drawn + 1 } j' H' w') : Step n j H w j' H' w' :=
  ⟨h.rel, h.ext, h.len, ⟨h.keeps.os, h.keeps.tape, h.keeps.output, h.keeps.size, h.keeps.block⟩, h.fresh⟩

theorem ready_iff {ops : Array Oper} {listed : Array Bool} {i : Nat} : i ∈ Region.ready .any ops listed ↔ i < ops.size ∧ listed.getD i true = false ∧ ∃ o, ops[i]? = some o ∧ ∀ e ∈ o.after.toList, Region.binds .any e = true → listed.getD e.on false = true := by
  unfold Region.ready
  rw [List.mem_filter, List.mem_range]
  refine and_congr_right fun hi => ?_
  rw [Bool.and_eq_true]
  refine and_congr (by simp) ?_
  rw [Array.getElem?_eq_getElem hi]
  simp only [Option.map_some, Option.getD_some, ← Array.all_toList, List.all_eq_true, Option.some.injEq, exists_eq_left', Bool.or_eq_true, Bool.not_eq_true']
  constructor
  · intro h e he hb
    rcases h e he with h1 | h1
    · rw [hb] at h1; cases h1
    · exact h1
  · intro h e he
    cases hb : Region.binds .any e with
    | false => exact .inl rfl
    | true => exact .inr (h e he hb)

theorem draw_wp {P : Program} {Γ : Gam} (hΓ : GOk P Γ) {ops : Array Oper} {F0 F' : List AV} {H0 H' : AHeap} (hd : adraw P Γ ops F0 H0 = some (F', H')) {j0 : Inj} {w0 : World} {a0 : Act} (hR : R j0 H0 w0) (hF : VRs j0 F0 a0.tmps.toList) {ds : List Deferred} (hdf : a0.defers = ds)
    (r : Option Nat) (n : Nat) {Q : Exit → Act → World → Prop} (hq : ∀ j a w, VRs j F' a.tmps.toList → a.defers = ds → Step H0.length j0 H0 w0 j H' w → Q .normal a w) :
    wpAnyIn (FW r) n P .any ops Q ops.size (Array.replicate ops.size false) a0 w0 := by
  obtain ⟨qs, Fs, Hs, T, rfl, rfl⟩ := txt_of hd
  have hFl : F0.length = a0.tmps.size := by simpa using hF.length
  -- all is done
  have done : ∀ (D : Nat → Prop) σ a j w, DI ds j0 F0 H0 w0 ops qs Hs D σ a j w → (∀ i, i < ops.size → D i) → Q .normal a w := by
    intro D σ a j w h hall
    refine hq j a w ?_ h.defers ?_
    · refine VRs_iff.2 ⟨by rw [T.flen ops.size (Nat.le_refl _)]; simpa using h.size, fun t x v hx hv => ?_⟩
      have hv' : a.tmps[t]? = some v := by simpa using hv
      rcases T.slot t x ops.size (Nat.le_refl _) hx with ⟨i, o, q, h1, h2, h3, h4, rfl⟩ | ⟨h1, h2⟩
      · exact h.set i o q t v (hall i h1) h2 h3 h4 hv'
      · exact h.old t x v (fun k o _ hok => h1 k o (Array.getElem?_eq_some_iff.1 hok).1 hok) h2 hv'
    · have hperm : σ.Perm ((List.range qs.length).filter fun k => ((qs[k]?).bind (·.st)).isSome) := by
        refine (List.perm_ext_iff_of_nodup h.nodup (List.nodup_range.sublist List.filter_sublist)).2 fun k => ?_
        rw [h.sig k, List.mem_filter, List.mem_range, T.len]
        constructor
        · rintro ⟨h1, _, q, h2, h3⟩
          exact ⟨h1, by rw [h2]; exact h3⟩
        · rintro ⟨h1, h2⟩
          obtain ⟨q, hq'⟩ : ∃ q, qs[k]? = some q := ⟨_, List.getElem?_eq_getElem (by rw [T.len]; exact h1)⟩
          rw [hq'] at h2
          exact ⟨h1, hall k h1, q, hq', h2⟩
      have hp2 := hperm.filterMap (fun k => (qs[k]?).bind (·.st))
      have e1 : ((List.range qs.length).filter fun k => ((qs[k]?).bind (·.st)).isSome).filterMap (fun k => (qs[k]?).bind (·.st)) = qs.filterMap (·.st) := by
        rw [← filterMap_range (·.st) qs, List.filterMap_filter]
        congr 1
        funext k
        cases hk : (qs[k]?).bind (·.st) <;> simp
      rw [e1] at hp2
      have hcomm := hp2.foldl_eq' (f := putS) (fun x hx y hy z => by
        obtain ⟨i, hi, ei⟩ := List.mem_filterMap.1 hx
        obtain ⟨k, hk, ek⟩ := List.mem_filterMap.1 hy
        obtain ⟨qi, hqi, si⟩ := Option.bind_eq_some_iff.1 ei
        obtain ⟨qk, hqk, sk⟩ := Option.bind_eq_some_iff.1 ek
        have hil := (h.sig i).1 hi
        have hkl := (h.sig k).1 hk
        obtain ⟨oi, hoi⟩ : ∃ oi, ops[i]? = some oi := ⟨_, Array.getElem?_eq_getElem hil.1⟩
        obtain ⟨ok, hok⟩ : ∃ ok, ops[k]? = some ok := ⟨_, Array.getElem?_eq_getElem hkl.1⟩
        rcases Nat.lt_trichotomy i k with h1 | h1 | h1
        · have := T.pairs i k oi ok qi qk h1 hoi hok hqi hqk
          unfold pairOk at this
          rw [si, sk] at this
          simp only [Bool.and_eq_true] at this
          exact putS_comm z this.1.1.2.2
        · subst h1
          rw [hqi] at hqk
          cases hqk
          rw [si] at sk
          cases sk
          rfl
        · have := T.pairs k i ok oi qk qi h1 hok hoi hqk hqi
          unfold pairOk at this
          rw [si, sk] at this
          simp only [Bool.and_eq_true] at this
          exact (putS_comm z this.1.1.2.2).symm) (Hs ops.size)
      rw [← hcomm]
      exact h.step
  -- the way there
  have way : ∀ fuel (listed : Array Bool) σ a j w, listed.size = ops.size → nf listed.toList ≤ fuel → DI ds j0 F0 H0 w0 ops qs Hs (fun i => listed.getD i false = true) σ a j w →
      (∀ (k : Nat) o e, listed.getD k false = true → ops[k]? = some o → e ∈ o.after.toList → Region.binds .any e = true → listed.getD e.on false = true) → wpAnyIn (FW r) n P .any ops Q fuel listed a w := by
    intro fuel
    induction fuel with
    | zero =>
      intro listed σ a j w hs hnf h _
      have hall : ∀ i, i < ops.size → listed.getD i false = true := by
        intro i hi
        have := nf_zero listed.toList (by omega) i
        rw [Array.getD_eq_getD_getElem?]
        have hli : listed[i]? = some listed[i] := Array.getElem?_eq_getElem (by omega)
        rw [hli]
        cases hb : listed[i] with
        | true => rfl
        | false => rw [hb] at hli; exact absurd (by simpa using hli) this
      refine ⟨?_, done _ σ a j w h hall⟩
      rw [List.eq_nil_iff_forall_not_mem]
      intro i hi
      obtain ⟨h1, h2, _⟩ := ready_iff.1 hi
      have := hall i h1
      rw [Array.getD_eq_getD_getElem?, Array.getElem?_eq_getElem (show i < listed.size by omega)] at this h2
      simp at this h2
      rw [this] at h2
      cases h2
    | succ fuel ih =>
      intro listed σ a j w hs hnf h hc
      refine ⟨fun hnil => done _ σ a j w h ?_, fun i hi => ?_⟩
      · intro i
        induction i using Nat.strongRecOn with
        | _ i ihi =>
          intro hi
          cases hb : listed.getD i false with
          | true => rfl
          | false =>
            exfalso
            have : i ∈ Region.ready .any ops listed := by
              refine ready_iff.2 ⟨hi, ?_, ops[i], Array.getElem?_eq_getElem hi, fun e he hbe => ?_⟩
              · rw [Array.getD_eq_getD_getElem?, Array.getElem?_eq_getElem (show i < listed.size by omega)] at hb ⊢
                exact hb
              · have hlt := T.edges i _ e (Array.getElem?_eq_getElem hi) he hbe
                exact ihi e.on hlt (by omega)
            rw [hnil] at this
            cases this
      · obtain ⟨h1, h2, o, ho, he⟩ := ready_iff.1 hi
        have hli : listed[i]? = some false := by
          rw [Array.getD_eq_getD_getElem?, Array.getElem?_eq_getElem (show i < listed.size by omega)] at h2
          rw [Array.getElem?_eq_getElem (show i < listed.size by omega)]
          simpa using h2
        have hset : ∀ k, (listed.setIfInBounds i true).getD k false = true ↔ (listed.getD k false = true ∨ k = i) := by
          intro k
          rw [Array.getD_eq_getD_getElem?, Array.getD_eq_getD_getElem?, Array.getElem?_setIfInBounds]
          by_cases e : i = k
          · subst e
            rw [if_pos rfl, if_pos (by omega)]
            simp
          · rw [if_neg e]
            constructor
            · exact fun h => .inl h
            · rintro (h | h)
              · exact h
              · exact absurd h.symm e
        refine h.go hΓ T ho (by rw [Array.getD_eq_getD_getElem?, hli]; simp) hc he r n fun σ' a' j' w' h' => ?_
        refine ih _ σ' a' j' w' (by simpa using hs) ?_ ?_ ?_
        · have := nf_set listed.toList i (by simpa using hli)
          rw [Array.toList_setIfInBounds]
          omega
        · have e : (fun k => listed.getD k false = true ∨ k = i) = fun k => (listed.setIfInBounds i true).getD k false = true := by
            funext k; exact propext (hset k).symm
          rw [← e]
          exact h'
        · intro k o' e hk hok hee hbe
          rw [hset] at hk ⊢
          rcases hk with hk | rfl
          · exact .inl (hc k o' e hk hok hee hbe)
          · rw [ho] at hok
            cases hok
            exact .inl (he e hee hbe)
  have hl0 := T.heap hΓ ops.size (Nat.le_refl _) 0 (by omega)
  rw [T.h0] at hl0
  have hfalse : ∀ i, ¬ ((Array.replicate ops.size false).getD i false = true) := by
    intro i
    rw [Array.getD_eq_getD_getElem?, Array.getElem?_replicate]
    split <;> simp
  refine way ops.size _ [] a0 j0 w0 (by simp) (by rw [Array.toList_replicate, nf_replicate]; exact Nat.le_refl _) ⟨?_, fun b p hp => .inl ?_, hFl, fun k o q t v hk => absurd hk (hfalse k), fun t x v _ hx hv => ?_, fun k => ?_, by simp, fun k hk => by simp at hk, hdf⟩ (fun k o e hk => absurd hk (hfalse k))
  · refine ⟨hR.more hl0.1 hl0.2, fun _ _ => rfl, hl0.1, Keeps.refl _ _ _, fun b l p hb hy hp => .inr ⟨b, l, p, ?_, hy, hp, rfl⟩⟩
    have hbl : b < H0.length := by
      rcases Nat.lt_or_ge b H0.length with h1 | h1
      · exact h1
      · rw [hR.dom b h1] at hp; cases hp
    simp only [List.filterMap_nil, List.foldl_nil] at hb
    rw [hl0.2 b hbl] at hb
    exact hb
  · rcases Nat.lt_or_ge b H0.length with h1 | h1
    · exact h1
    · rw [hR.dom b h1] at hp; cases hp
  · exact (VRs_iff.1 hF).2 t x v hx (by simpa using hv)
  · constructor
    · intro hk; simp at hk
    · rintro ⟨_, hk, _⟩; exact absurd hk (hfalse k)

end Go.Proofs.Ytbbgmaklmlagcaa
