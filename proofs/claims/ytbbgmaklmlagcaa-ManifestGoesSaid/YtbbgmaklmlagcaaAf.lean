/- A region whose order is drawn: one operation more; all of them. -/
import Derived.Test.YtbbgmaklmlagcaaAe
namespace Go.Proofs.Ytbbgmaklmlagcaa

theorem readA_congr {P : Program} {F : List AV} {H H' : AHeap} {op : Op} {v : AV} (h : readA P F H op = some v) (he : ∀ b x, readsOf F op = some b → H[b]? = some x → H'[b]? = some x) : readA P F H' op = some v := by
  unfold readA at h ⊢
  unfold readsOf at he
  split at h
  · rename_i t x i ok
    dsimp only at he ⊢
    unfold lookupA at h ⊢
    cases hx : ev F x <;> rw [hx] at h he <;> try exact h
    rename_i b
    dsimp only at he h ⊢
    cases hb : H[b]? with
    | none => rw [hb] at h; split at h <;> (try split at h) <;> (try split at h) <;> simp_all
    | some y => rw [he b y rfl hb]; rw [hb] at h; exact h
  · rename_i t x
    dsimp only at he ⊢
    unfold loadA at h ⊢
    cases hx : ev F x <;> rw [hx] at h he <;> dsimp only at h he ⊢ <;> try cases h
    rename_i b off
    cases hb : H[b]? with
    | none => rw [hb] at h; cases h
    | some y => rw [hb] at h; rw [he b y rfl hb]; exact h
  · rename_i s d x
    dsimp only at he ⊢
    split at h
    · rename_i e b off n c h1 h2 h3
      rw [h3] at he
      dsimp only at he
      split at h
      rotate_left
      · cases h
      rename_i hu
      cases hb : H[b]? with
      | none => rw [hb] at h; cases h
      | some y =>
        rw [hb] at h
        simp only [hu, he b y rfl hb, if_true]
        exact h
    · exact h
    · rename_i e b off n c h1 h2 h3
      rw [h3] at he
      dsimp only at he
      split at h
      rotate_left
      · cases h
      rename_i hu
      rw [if_pos hu]
      split at h
      · rename_i hn
        rw [if_pos hn]
        exact h
      · rename_i hn
        rw [if_neg hn]
        cases hb : H[b]? with
        | none => rw [hb] at h; cases h
        | some y =>
          rw [hb] at h
          rw [he b y rfl hb]
          exact h
    · cases h
  · rename_i t x lo hi mx
    dsimp only at he ⊢
    split at h
    · rename_i n e b off h1 h2
      rw [h2] at he
      dsimp only at he
      cases hb : H[b]? with
      | none => rw [hb] at h; split at h <;> simp_all
      | some y =>
        rw [hb] at h
        simp only [he b y rfl hb]
        exact h
    · cases h
  · cases h

section
variable {ds : List Deferred} {P : Program} {Γ : Gam} {ops : Array Oper} {F0 : List AV} {H0 : AHeap} {w0 : World} {j0 : Inj} {qs : List QR} {Fs : Nat → List AV} {Hs : Nat → AHeap} {D : Nat → Prop} {σ : List Nat} {a : Act} {j : Inj} {w : World}

theorem DI.put (h : DI ds j0 F0 H0 w0 ops qs Hs D σ a j w) (T : Txt P Γ ops F0 H0 qs Fs Hs) {i : Nat} {o : Oper} {q : QR} (ho : ops[i]? = some o) (hq : qs[i]? = some q) {j' : Inj} {w' : World} {σ' : List Nat} {cv : Value} (hle : JLe j j') (hv : VR j' q.v cv)
    (hstep : Step H0.length j0 H0 w0 j' ((σ'.filterMap fun k => (qs[k]?).bind (·.st)).foldl putS (Hs ops.size)) w')
    (hdom : ∀ b p, j' b = some p → j b = some p ∨ ((Hs i).length ≤ b ∧ b < (Hs (i + 1)).length))
    (hsig : ∀ k, k ∈ σ' ↔ (k < ops.size ∧ (D k ∨ k = i) ∧ ∃ q, qs[k]? = some q ∧ q.st.isSome)) (hnd : σ'.Nodup) (hsd : ∀ k, k ∈ σ' → ∀ q s, qs[k]? = some q → q.st = some s → ∃ p, j' s.1 = some p) (hD : ¬ D i) : DI ds j0 F0 H0 w0 ops qs Hs (fun k => D k ∨ k = i) σ' (a.put o.dst cv) j' w' := by
  have hi : i < ops.size := (Array.getElem?_eq_some_iff.1 ho).1
  have hget : ∀ t, o.dst ≠ some t → (a.put o.dst cv).tmps[t]? = a.tmps[t]? := by
    intro t ht
    unfold Act.put
    split
    · rename_i d hd
      rw [Array.getElem?_setIfInBounds, if_neg (by intro e; subst e; exact ht hd)]
    · rfl
  refine ⟨hstep, ?_, ?_, ?_, ?_, hsig, hnd, hsd, ?_⟩
  · intro b p hp
    rcases hdom b p hp with h1 | ⟨h1, h2⟩
    · rcases h.dom b p h1 with h2 | ⟨k, k1, k2, k3⟩
      · exact .inl h2
      · exact .inr ⟨k, k1, .inl k2, k3⟩
    · exact .inr ⟨i, hi, .inr rfl, h1, h2⟩
  · rw [h.size]
    unfold Act.put
    split <;> simp
  · intro k o' q' t v hk ho' hq' hd hv'
    rcases hk with hk | rfl
    · have hki : k ≠ i := fun e => hD (e ▸ hk)
      have hne : o.dst ≠ some t := by
        intro e
        rcases Nat.lt_or_gt_of_ne hki with h1 | h1
        · have := T.pairs k i o' o q' q h1 ho' ho hq' hq
          unfold pairOk at this
          rw [e, hd] at this
          simp at this
        · have := T.pairs i k o o' q q' h1 ho ho' hq hq'
          unfold pairOk at this
          rw [e, hd] at this
          simp at this
      rw [hget t hne] at hv'
      exact (h.set k o' q' t v hk ho' hq' hd hv').mono hle
    · rw [ho] at ho'
      cases ho'
      rw [hq] at hq'
      cases hq'
      have hlt : t < a.tmps.size := by
        rcases Nat.lt_or_ge t a.tmps.size with h1 | h1
        · exact h1
        · have hsz : (a.put o.dst cv).tmps.size = a.tmps.size := by unfold Act.put; split <;> simp
          rw [Array.getElem?_eq_none (by omega)] at hv'
          cases hv'
      have : (a.put o.dst cv).tmps[t]? = some cv := by
        unfold Act.put
        rw [hd]
        dsimp only
        rw [Array.getElem?_setIfInBounds, if_pos rfl, if_pos hlt]
      rw [this] at hv'
      cases hv'
      exact hv
  · intro t x v hn hx hv'
    have hne : o.dst ≠ some t := hn i o (.inr rfl) ho
    rw [hget t hne] at hv'
    exact (h.old t x v (fun k o' hk => hn k o' (.inl hk)) hx hv').mono hle
  · have : (a.put o.dst cv).defers = a.defers := by unfold Act.put; split <;> rfl
    rw [this]; exact h.defers

/-- What stands between an operation that comes now and those that are done. -/
theorem DI.now (h : DI ds j0 F0 H0 w0 ops qs Hs D σ a j w) (T : Txt P Γ ops F0 H0 qs Fs Hs) {i : Nat} {o : Oper} {q : QR} (ho : ops[i]? = some o) (hq : qs[i]? = some q) (hD : ¬ D i)
    (hc : ∀ (k : Nat) o e, D k → ops[k]? = some o → e ∈ o.after.toList → Region.binds .any e = true → D e.on) (he : ∀ e ∈ o.after.toList, Region.binds .any e = true → D e.on) :
    (∀ m, ((pres ops.toList).getD i 0).testBit m = true → D m) ∧ (∀ (k : Nat) ok qk, i < k → D k → ops[k]? = some ok → qs[k]? = some qk → pairOk false (slotsOf ops o) (slotsOf ops ok) o.dst ok.dst q qk = true) ∧
      VRs j (maskF (slotsOf ops o) (Fs i)) a.tmps.toList := by
  have hi : i < ops.size := (Array.getElem?_eq_some_iff.1 ho).1
  have hc' : ∀ (k : Nat) o e, D k → ops.toList[k]? = some o → e ∈ o.after.toList → Region.binds .any e = true → D e.on := fun k o e hk hok => hc k o e hk (by simpa using hok)
  have h1 : ∀ m, ((pres ops.toList).getD i 0).testBit m = true → D m := pres_done hc' i o (by simpa using ho) he
  have h2 : ∀ (k : Nat) ok qk, i < k → D k → ops[k]? = some ok → qs[k]? = some qk → pairOk false (slotsOf ops o) (slotsOf ops ok) o.dst ok.dst q qk = true := by
    intro k ok qk hik hk hok hqk
    have := T.pairs i k o ok q qk hik ho hok hq hqk
    have hb : ((pres ops.toList).getD k 0).testBit i = false := by
      cases hb : ((pres ops.toList).getD k 0).testBit i with
      | false => rfl
      | true => exact absurd (pres_done hc' k ok (by simpa using hok) (fun e he hbe => hc k ok e hk hok he hbe) i hb) hD
    rw [hb] at this
    exact this
  refine ⟨h1, h2, mask_ok (by rw [T.flen i (by omega)]; exact h.size) fun t ht x v hx hv => ?_⟩
  have htc : (slotsOf ops o).contains t = true := by simpa using ht
  rcases T.slot t x i (by omega) hx with ⟨k, ok, qk, k1, k2, k3, k4, rfl⟩ | ⟨k1, k2⟩
  · have := T.pairs k i ok o qk q k1 k2 ho k3 hq
    unfold pairOk at this
    rw [k4] at this
    simp only [htc, Bool.not_true, Bool.false_or, Bool.and_eq_true] at this
    exact h.set k ok qk t v (h1 k this.1.1.1.1) k2 k3 k4 hv
  · refine h.old t x v (fun k ok hk hok e => ?_) k2 hv
    rcases Nat.lt_trichotomy k i with h3 | h3 | h3
    · exact k1 k ok h3 hok e
    · subst h3; exact hD hk
    · obtain ⟨qk, hqk⟩ := T.q hok
      have := h2 k ok qk h3 hk hok hqk
      unfold pairOk at this
      rw [e] at this
      simp at this
      exact absurd ht this.1.1.1.2.1

theorem DI.dom_now (hΓ : GOk P Γ) (h : DI ds j0 F0 H0 w0 ops qs Hs D σ a j w) (T : Txt P Γ ops F0 H0 qs Fs Hs) {i : Nat} (hi : i < ops.size) (hD : ¬ D i) : ∀ b, (Hs i).length ≤ b → b < (Hs (i + 1)).length → j b = none := by
  intro b h1 h2
  cases hb : j b with
  | none => rfl
  | some p =>
    have h00 := (T.heap hΓ i (by omega) 0 (by omega)).1
    rw [T.h0] at h00
    rcases h.dom b p hb with h3 | ⟨k, k1, k2, k3, k4⟩
    · omega
    · rcases Nat.lt_trichotomy k i with h5 | h5 | h5
      · have := (T.heap hΓ i (by omega) (k + 1) (by omega)).1
        omega
      · subst h5; exact absurd k2 hD
      · have := (T.heap hΓ k (by omega) (i + 1) (by omega)).1
        omega

theorem DI.nost (h : DI ds j0 F0 H0 w0 ops qs Hs D σ a j w) {i : Nat} {q : QR} (hq : qs[i]? = some q) (hst : q.st = none) :
    (∀ k, k ∈ σ ↔ (k < ops.size ∧ (D k ∨ k = i) ∧ ∃ q, qs[k]? = some q ∧ q.st.isSome)) ∧ (∀ (j' : Inj), JLe j j' → ∀ k, k ∈ σ → ∀ q s, qs[k]? = some q → q.st = some s → ∃ p, j' s.1 = some p) := by
  refine ⟨fun k => ?_, fun j' hle k hk q' s hq' hs => ?_⟩
  · rw [h.sig k]
    constructor
    · rintro ⟨h1, h2, h3⟩; exact ⟨h1, .inl h2, h3⟩
    · rintro ⟨h1, h2 | rfl, q', h3, h4⟩
      · exact ⟨h1, h2, q', h3, h4⟩
      · rw [hq] at h3; cases h3; rw [hst] at h4; cases h4
  · obtain ⟨p, hp⟩ := h.sdom k hk q' s hq' hs
    exact ⟨p, hle _ _ hp⟩

/-- The stores that are done do not touch a block. -/
theorem untouched (hΓ : GOk P Γ) (T : Txt P Γ ops F0 H0 qs Fs Hs) {i : Nat} (hi : i ≤ ops.size) {b : Nat} {x : ABlk} (hx : (Hs i)[b]? = some x)
    (hn : ∀ k, k ∈ σ → ∀ q s, qs[k]? = some q → q.st = some s → s.1 ≠ b) : ((σ.filterMap fun k => (qs[k]?).bind (·.st)).foldl putS (Hs ops.size))[b]? = some x := by
  have hb := (List.getElem?_eq_some_iff.1 hx).1
  rw [(puts_get _ b _).2.1 (fun s hs => ?_), (T.heap hΓ ops.size (Nat.le_refl _) i hi).2 b hb, hx]
  obtain ⟨k, hk, e⟩ := List.mem_filterMap.1 hs
  obtain ⟨q, hq, e⟩ := Option.bind_eq_some_iff.1 e
  exact hn k hk q s hq e

/-- One operation more. -/
theorem DI.go (hΓ : GOk P Γ) (h : DI ds j0 F0 H0 w0 ops qs Hs D σ a j w) (T : Txt P Γ ops F0 H0 qs Fs Hs) {i : Nat} {o : Oper} (ho : ops[i]? = some o) (hD : ¬ D i)
    (hc : ∀ (k : Nat) o e, D k → ops[k]? = some o → e ∈ o.after.toList → Region.binds .any e = true → D e.on) (he : ∀ e ∈ o.after.toList, Region.binds .any e = true → D e.on)
    (r : Option Nat) (n : Nat) {K : Act → World → Prop} {Q : Exit → Act → World → Prop} (hk : ∀ σ' a' j' w', DI ds j0 F0 H0 w0 ops qs Hs (fun k => D k ∨ k = i) σ' a' j' w' → K a' w') : wpOpIn (FW r) n P ops Q i K a w := by
  have hi : i < ops.size := (Array.getElem?_eq_some_iff.1 ho).1
  obtain ⟨q, hq⟩ := T.q ho
  obtain ⟨s1, s2, s3⟩ := T.each i o q ho hq
  obtain ⟨n1, n2, hM⟩ := h.now T ho hq hD hc he
  have hR := h.step.rel
  obtain ⟨Hσ, hHσ⟩ : ∃ Hσ, (σ.filterMap fun k => (qs[k]?).bind (·.st)).foldl putS (Hs ops.size) = Hσ := ⟨_, rfl⟩
  have hHl : Hσ.length = (Hs ops.size).length := by rw [← hHσ, puts_length]
  -- nothing of memory is done
  have quiet : q.st = none → ∀ cv, VR j q.v cv → K (a.put o.dst cv) w := by
    intro hst cv hv
    obtain ⟨g1, g2⟩ := h.nost hq hst
    exact hk _ _ _ _ (h.put T ho hq (JLe.refl j) hv h.step (fun b p hp => .inl hp) g1 h.nodup (g2 j (JLe.refl j)) hD)
  unfold wpOpIn
  rw [ho]
  dsimp only
  unfold qstep at s1
  split at s1
  · cases s1
  · rename_i hw
    cases s1
    rw [wantA_ok hw hM]
    refine ⟨fun _ _ => trivial, quiet rfl undef ?_⟩
    exact ⟨#[], rfl, rfl⟩
  · rename_i hw
    rw [wantA_ok hw hM]
    simp only [if_true]
    have value : q.st = none → (∃ cv, (execOp a.eval o).run P w = .ok (.value cv) w ∧ VR j q.v cv) → (∀ c, o.op ≠ .defer c) → o.wpIn (FW r) n P a w K Q := by
      intro hst hv hdf
      obtain ⟨cv, h1, h2⟩ := hv
      refine ⟨fun _ _ => trivial, ?_⟩
      rw [Oper.semAt_eq _ _ _ hdf, h1]
      exact quiet hst cv h2
    have fresh : ∀ mk l, NewRun P o a j w mk l → q.v = mk (Hs i).length → q.H = Hs i ++ [.cells true l] → q.st = none → (∀ c, o.op ≠ .defer c) → o.wpIn (FW r) n P a w K Q := by
      intro mk l hnr hv hH hst hdf
      obtain ⟨cv, cs, T', fz, w', h1, h2, h3, h4, h5, h6, h7, h8, h9⟩ := hnr
      have hlen1 : (Hs (i + 1)).length = (Hs i).length + 1 := by rw [s3, hH]; simp
      have hjn : j (Hs i).length = none := h.dom_now hΓ T hi hD _ (Nat.le_refl _) (by omega)
      have hx1 : (Hs (i + 1))[(Hs i).length]? = some (.cells true l) := by rw [s3, hH]; simp
      have hx : Hσ[(Hs i).length]? = some (.cells true l) := by
        rw [← hHσ]
        refine untouched hΓ T (i := i + 1) (by omega) hx1 fun k hks q' s hq' hs e => ?_
        obtain ⟨p, hp⟩ := h.sdom k hks q' s hq' hs
        rw [e, hjn] at hp
        cases hp
      have h00 := (T.heap hΓ i (by omega) 0 (by omega)).1
      rw [T.h0] at h00
      rw [hHσ] at hR
      have hst1 := step_virtual hR hx hjn h00 h2 h3 h4 h5 h6 h7 h8
      refine ⟨fun _ _ => trivial, ?_⟩
      rw [Oper.semAt_eq _ _ _ hdf, h1]
      obtain ⟨g1, g2⟩ := h.nost hq hst
      have hle : JLe j (jput j (Hs i).length ⟨w.heap.size, 0, cs.size⟩) := jput_le hjn
      have hs0 := h.step
      rw [hHσ] at hs0
      refine hk _ _ _ _ (h.put T ho hq hle ?_ (by rw [hHσ]; exact hs0.trans hst1 (Nat.le_refl _)) (fun b p hp => ?_) g1 h.nodup (g2 _ hle) hD)
      · rw [hv]; exact h9 _ _ (jput_same _ _ _)
      · unfold jput at hp
        split at hp
        · subst_vars; exact .inr ⟨Nat.le_refl _, by omega⟩
        · exact .inl hp
    have still : q.H = Hs i → Hs (i + 1) = Hs i := fun e => by rw [s3, e]
    unfold qop at s1
    split at s1
    · -- a store
      rename_i t x v hop
      split at s1
      rotate_left
      · cases s1
      rename_i b off xs hx hv
      split at s1
      rotate_left
      · cases s1
      rename_i l hb
      split at s1 <;> cases s1
      rename_i hcond
      obtain ⟨c1, c2, c3⟩ := hcond
      have hxv := ev_ok hM x
      have hvv := ev_ok hM v
      have hbi := (T.heap hΓ ops.size (Nat.le_refl _) i (by omega)).2 b (List.getElem?_eq_some_iff.1 hb).1
      rw [hb] at hbi
      obtain ⟨l', hl', hll⟩ := (puts_get (σ.filterMap fun k => (qs[k]?).bind (·.st)) b (Hs ops.size)).1 _ _ hbi
      rw [hHσ] at hl'
      have hsA : storeA P Hσ t (ev (maskF (slotsOf ops o) (Fs i)) x) (ev (maskF (slotsOf ops o) (Fs i)) v) = some (putS Hσ (b, off, xs)) := by
        unfold storeA putS
        rw [hx, hv]
        dsimp only
        rw [hl']
        dsimp only
        rw [if_pos ⟨c1, by omega, c3⟩, if_pos (by omega)]
      rw [hHσ] at hR
      obtain ⟨w', h1, h2⟩ := storeA_ok hR hsA hxv hvv
      have hs0 := h.step
      rw [hHσ] at hs0
      refine ⟨fun _ _ => trivial, ?_⟩
      have e1 : (execOp a.eval o).run P w = .ok .skip w' := by
        unfold execOp
        rw [hop]
        dsimp only
        rw [rb h1]
        rfl
      rw [Oper.semAt_eq _ _ _ (by rw [hop]; simp), e1]
      have hnot : i ∉ σ := fun hm => hD ((h.sig i).1 hm).2.1
      rw [hx] at hxv
      simp only [VR] at hxv
      obtain ⟨pb, hpb, _⟩ := hxv
      refine hk _ _ _ _ (h.put T ho hq (σ' := σ ++ [i]) (JLe.refl j) (cv := undef) ⟨#[], rfl, rfl⟩ ?_ (fun b p hp => .inl hp) (fun k => ?_) ?_ (fun k hkm q' s hq' hs => ?_) hD)
      · rw [List.filterMap_append, List.foldl_append, hHσ]
        have : List.filterMap (fun k => (qs[k]?).bind (·.st)) [i] = [(b, off, xs)] := by
          simp [hq]
        rw [this]
        exact hs0.trans h2 (by rw [hHl]; have := (T.heap hΓ ops.size (Nat.le_refl _) 0 (by omega)).1; rw [T.h0] at this; exact this)
      · rw [List.mem_append, h.sig k]
        constructor
        · rintro (⟨k1, k2, k3⟩ | hk')
          · exact ⟨k1, .inl k2, k3⟩
          · obtain rfl : k = i := by simpa using hk'
            exact ⟨hi, .inr rfl, _, hq, rfl⟩
        · rintro ⟨k1, k2 | rfl, k3⟩
          · exact .inl ⟨k1, k2, k3⟩
          · exact .inr (by simp)
      · rw [List.nodup_append]
        exact ⟨h.nodup, by simp, fun a ha b hb => by simp at hb; subst hb; intro e; subst e; exact hnot ha⟩
      · rcases List.mem_append.1 hkm with hk' | hk'
        · exact h.sdom k hk' q' s hq' hs
        · obtain rfl : k = i := by simpa using hk'
          rw [hq] at hq'
          cases hq'
          cases hs
          exact ⟨pb, hpb⟩
    · cases s1
    · -- a call
      rename_i g args ts hop
      split at s1
      · -- of values alone
        rename_i v hpure
        cases s1
        dsimp only at s3
        obtain ⟨g1, g2⟩ := h.nost hq rfl
        have hs0 := h.step
        rw [hHσ] at hs0 hR
        refine pure_wpIn hΓ hop hpure hM hR r n fun cv w' hv hst => ?_
        exact hk _ _ _ _ (h.put T ho hq (JLe.refl j) hv (by rw [hHσ]; exact hs0.trans hst hs0.len) (fun b p hp => .inl hp) g1 h.nodup (g2 j (JLe.refl j)) hD)
      split at s1
      rotate_left
      · cases s1
      rename_i v H' hcall
      cases s1
      dsimp only at s3
      have hnos : σ = [] := by
        cases hσ : σ with
        | nil => rfl
        | cons k rest =>
          have hkm : k ∈ σ := by rw [hσ]; simp
          obtain ⟨k1, k2, qk, k3, k4⟩ := (h.sig k).1 hkm
          obtain ⟨ok, hok⟩ : ∃ ok, ops[k]? = some ok := ⟨_, Array.getElem?_eq_getElem k1⟩
          obtain ⟨s, hs⟩ := Option.isSome_iff_exists.1 k4
          rcases Nat.lt_trichotomy k i with h3 | h3 | h3
          · have := T.pairs k i ok o qk _ h3 hok ho k3 hq
            unfold pairOk at this
            rw [hs] at this
            simp at this
          · subst h3; exact absurd k2 hD
          · have := n2 k ok qk h3 k2 hok k3
            unfold pairOk at this
            rw [hs] at this
            simp at this
      subst hnos
      obtain ⟨hpl, hpe⟩ := T.heap hΓ ops.size (Nat.le_refl _) i (by omega)
      obtain ⟨hpl', hpe'⟩ := T.heap hΓ ops.size (Nat.le_refl _) (i + 1) (by omega)
      have h00 := (T.heap hΓ i (by omega) 0 (by omega)).1
      rw [T.h0] at h00
      have hmid : ∀ b, (Hs i).length ≤ b → b < (Hs (i + 1)).length → j b = none := by
        intro b hb hb2
        cases hj : j b with
        | none => rfl
        | some p =>
          rcases h.dom b p hj with h3 | ⟨k, k1, k2, k3, k4⟩
          · omega
          · rcases Nat.lt_trichotomy k i with h5 | h5 | h5
            · have := (T.heap hΓ i (by omega) (k + 1) (by omega)).1
              omega
            · subst h5; exact absurd k2 hD
            · have := (T.heap hΓ k (by omega) (i + 1) (by omega)).1
              omega
      have hdom : scC (maskF (slotsOf ops o) (Fs i)) (Hs i) H' g args = true ∨ ∀ b, (Hs i).length ≤ b → j b = none := by
        by_cases hsc : scC (maskF (slotsOf ops o) (Fs i)) (Hs i) H' g args = true
        · exact .inl hsc
        refine .inr fun b hb => ?_
        cases hj : j b with
        | none => rfl
        | some p =>
          rcases h.dom b p hj with h3 | ⟨k, k1, k2, k3, k4⟩
          · omega
          · rcases Nat.lt_trichotomy k i with h5 | h5 | h5
            · have := (T.heap hΓ i (by omega) (k + 1) (by omega)).1
              omega
            · subst h5; exact absurd k2 hD
            · obtain ⟨ok, hok⟩ : ∃ ok, ops[k]? = some ok := ⟨_, Array.getElem?_eq_getElem k1⟩
              obtain ⟨qk, hqk⟩ := T.q hok
              have := n2 k ok qk h5 k2 hok hqk
              unfold pairOk at this
              simp [hsc] at this
              have hg := this.2
              obtain ⟨t1, _, t3⟩ := T.each k ok qk hok hqk
              have := (qstep_heap hΓ t1).2.2.1 hg
              rw [t3] at k4
              omega
      have hsc2 : (∀ b, (Hs i).length ≤ b → j b = none) ∨ (Hs i).all (belowB (Hs i).length) = true := by
        rcases hdom with h1 | h1
        · unfold scC at h1
          split at h1
          · unfold scA at h1
            simp only [Bool.and_eq_true] at h1
            exact .inr h1.1.2
          · cases h1
        · exact .inl h1
      have hsc3 : (∀ b, (Hs i).length ≤ b → j b = none) ∨ (H'.drop (Hs i).length).all ownDead = true := by
        rcases hdom with h1 | h1
        · unfold scC at h1
          split at h1
          · unfold scA at h1
            simp only [Bool.and_eq_true] at h1
            exact .inr h1.2
          · cases h1
        · exact .inl h1
      have hR' : R (jcut (Hs i).length j) (Hs i) w := R.cut hR hpe hsc2
      refine call_wpIn2 hΓ hop hcall hM hR' (fun f first cap vs hf hvs => ?_) r n fun cv j' w' hv hst => ?_
      · rcases hdom with h1 | h1
        · unfold scC at h1
          rw [hf] at h1
          unfold scA at h1
          simp only [Bool.and_eq_true] at h1
          exact VRs.cut _ _ h1.1.1 hvs
        · rw [jcut_eq h1]; exact hvs
      obtain ⟨g1, g2⟩ := h.nost hq rfl
      rw [← s3] at hst hsc3
      obtain ⟨hle, hle1, hst2⟩ := step_call (n := H0.length) hR hpl hpe hpl' hpe' hmid hst (by omega) hsc3
      refine hk _ _ _ _ (h.put T ho hq hle (VR.mono hle1 _ _ hv) (h.step.trans hst2 (Nat.le_refl _)) (fun b p hp => ?_) g1 h.nodup (g2 _ hle) hD)
      split at hp
      · rename_i hb
        rcases Nat.lt_or_ge b (Hs i).length with h1 | h1
        · rw [hst.ext b h1] at hp
          unfold jcut at hp
          rw [if_pos h1] at hp
          exact .inl hp
        · exact .inr ⟨h1, hb⟩
      · exact .inl hp
    · rename_i t hop
      obtain ⟨l, hl, e⟩ := Option.map_eq_some_iff.1 s1
      subst e
      exact fresh _ l (newA_ok hM w (by rw [hop]; exact hl)) rfl rfl rfl (by rw [hop]; simp)
    · rename_i t x hop
      obtain ⟨l, hl, e⟩ := Option.map_eq_some_iff.1 s1
      subst e
      exact fresh _ l (newA_ok hM w (by rw [hop]; exact hl)) rfl rfl rfl (by rw [hop]; simp)
    · rename_i t m ps hop
      obtain ⟨⟨n', sz, l⟩, hl, e⟩ := Option.map_eq_some_iff.1 s1
      subst e
      exact fresh _ l (rowA_ok hM w (by rw [hop]; exact hl)) rfl rfl rfl (by rw [hop]; simp)
    · rename_i t l c hop
      obtain ⟨⟨n', sz, l⟩, hl, e⟩ := Option.map_eq_some_iff.1 s1
      subst e
      exact fresh _ l (rowA_ok hM w (by rw [hop]; exact hl)) rfl rfl rfl (by rw [hop]; simp)
    · rename_i g1 g2 g3 g4 g5 g6 g7
      split at s1
      · rename_i v hv
        cases s1
        refine value rfl (apure_ok hM hv w) ?_
        intro c hc'
        rw [hc'] at hv
        simp [apure] at hv
      · split at s1
        · rename_i v hv
          cases s1
          refine value rfl ?_ ?_
          · rw [hHσ] at hR
            refine readA_ok hM hR (readA_congr hv fun b x hrb hbx => ?_)
            rw [← hHσ]
            refine untouched hΓ T (i := i) (by omega) hbx fun k hkm q' s hq' hs e => ?_
            obtain ⟨k1, k2, _⟩ := (h.sig k).1 hkm
            obtain ⟨ok, hok⟩ : ∃ ok, ops[k]? = some ok := ⟨_, Array.getElem?_eq_getElem k1⟩
            rcases Nat.lt_trichotomy k i with h3 | h3 | h3
            · have := T.pairs k i ok o q' _ h3 hok ho hq' hq
              unfold pairOk at this
              rw [hs] at this
              simp [hrb, e] at this
            · subst h3; exact absurd k2 hD
            · have := n2 k ok q' h3 k2 hok hq'
              unfold pairOk at this
              rw [hs] at this
              simp [hrb, e] at this
          · intro c hc'
            rw [hc'] at hv
            simp [readA] at hv
        · obtain ⟨s, hs, e⟩ := Option.map_eq_some_iff.1 s1
          subst e
          refine fresh _ _ (textA_ok hM w hs) rfl rfl rfl ?_
          intro c hc'
          rw [hc'] at hs
          simp [textA] at hs

end

end Go.Proofs.Ytbbgmaklmlagcaa
