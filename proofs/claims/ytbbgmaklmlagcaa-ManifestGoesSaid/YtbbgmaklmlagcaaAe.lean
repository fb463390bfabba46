/- A region whose order is drawn: whatever order, what the text's run says. -/
import Derived.Test.YtbbgmaklmlagcaaAd
namespace Go.Proofs.Ytbbgmaklmlagcaa

def nf : List Bool → Nat
  | [] => 0
  | b :: l => (if b then 0 else 1) + nf l

theorem nf_set : ∀ (l : List Bool) (i : Nat), l[i]? = some false → nf (l.set i true) + 1 = nf l
  | b :: l, 0, h => by
    simp at h
    subst h
    simp [nf]
    omega
  | b :: l, i + 1, h => by
    have := nf_set l i (by simpa using h)
    simp only [List.set_cons_succ, nf]
    omega

theorem nf_zero : ∀ (l : List Bool), nf l = 0 → ∀ (i : Nat), l[i]? ≠ some false
  | [], _, i, h => by simp at h
  | b :: l, hz, i, h => by
    simp only [nf] at hz
    cases i with
    | zero => simp at h; subst h; simp at hz
    | succ i => exact nf_zero l (by omega) i (by simpa using h)

theorem nf_replicate (n : Nat) : nf (List.replicate n false) = n := by
  induction n with
  | zero => rfl
  | succ n ih => rw [List.replicate_succ]; simp only [nf, ih]; simp; omega

/-- Of a row that shows more blocks, those that lie. -/
theorem R.less {j : Inj} {H H' : AHeap} {w : World} (h : R j H' w) (hd : ∀ b, H.length ≤ b → j b = none) (he : ∀ b, b < H.length → H'[b]? = H[b]?) : R j H w := by
  have hlt : ∀ (b : Nat) (x : ABlk), H[b]? = some x → H'[b]? = some x := fun b x hb => by rw [he b (List.getElem?_eq_some_iff.1 hb).1]; exact hb
  exact ⟨hd, fun b x p hb hp => h.blk b x p (hlt _ _ hb) hp, fun b b' y x p p' hb hy hb' => h.inj b b' y x p p' (hlt _ _ hb) hy (hlt _ _ hb')⟩

theorem R.more {j : Inj} {H H' : AHeap} {w : World} (h : R j H w) (hl : H.length ≤ H'.length) (he : ∀ b, b < H.length → H'[b]? = H[b]?) : R j H' w := by
  have hlt : ∀ (b : Nat) (p : JB) (x : ABlk), j b = some p → H'[b]? = some x → H[b]? = some x := fun b p x hp hb => by
    rcases Nat.lt_or_ge b H.length with h1 | h1
    · rw [← he b h1]; exact hb
    · rw [h.dom b h1] at hp; cases hp
  exact ⟨fun b hb => h.dom b (by omega), fun b x p hb hp => h.blk b x p (hlt _ _ _ hp hb) hp, fun b b' y x p p' hb hy hb' hd hne hp hp' => h.inj b b' y x p p' (hlt _ _ _ hp hb) hy (hlt _ _ _ hp' hb') hd hne hp hp'⟩

/-- A new block, put where the heap foresees it. -/
theorem step_virtual {n id : Nat} {j : Inj} {H : AHeap} {w w' : World} {l : List AV} {cs : Array Value} {T : Nat} {fz : Nat × Nat} (h : R j H w) (hx : H[id]? = some (.cells true l)) (hj : j id = none) (hn : n ≤ id) (hw : w'.heap = w.heap.push (.cells cs T fz))
    (hos : w'.os = w.os) (htape : w'.tape = w.tape) (hout : w'.output = w.output) (hle0 : l.length ≤ cs.size) (hl : VRs j l (cs.toList.take l.length)) (hfz : ∀ i, i < cs.size → ¬ (fz.1 ≤ i ∧ i < fz.2)) :
    Step n j H w (jput j id ⟨w.heap.size, 0, cs.size⟩) H w' := by
  have hid : id < H.length := (List.getElem?_eq_some_iff.1 hx).1
  have hle : JLe j (jput j id ⟨w.heap.size, 0, cs.size⟩) := jput_le hj
  have hold : ∀ c, c < w.heap.size → w'.heap[c]? = w.heap[c]? := fun c hc => by
    rw [hw, Array.getElem?_push, if_neg (by omega)]
  have hnew : w'.heap[w.heap.size]? = some (.cells cs T fz) := by rw [hw]; simp
  have hcase : ∀ c q, jput j id ⟨w.heap.size, 0, cs.size⟩ c = some q → (c = id ∧ q = ⟨w.heap.size, 0, cs.size⟩) ∨ (c ≠ id ∧ j c = some q) := by
    intro c q hq
    unfold jput at hq
    split at hq
    · cases hq; exact .inl ⟨‹_›, rfl⟩
    · exact .inr ⟨‹_›, hq⟩
  refine ⟨⟨?_, ?_, ?_⟩, ?_, by omega, ⟨hos, htape, hout, by rw [hw]; simp, fun c hc _ => hold c hc⟩, ?_⟩
  · intro b hb
    unfold jput
    rw [if_neg (by omega)]
    exact h.dom b hb
  · intro b x p hb hp
    rcases hcase b p hp with ⟨rfl, rfl⟩ | ⟨hne, hp'⟩
    · rw [hx] at hb
      cases hb
      refine ⟨cs, T, fz, hnew, rfl, by simpa using hle0, fun i x hxi => ?_, fun _ => hfz⟩
      obtain ⟨v, hv, hr⟩ := hl.at hxi
      have hil : i < l.length := (List.getElem?_eq_some_iff.1 hxi).1
      refine ⟨v, ?_, hr.mono hle⟩
      rw [List.getElem?_take, if_pos hil] at hv
      simpa using hv
    · exact (h.blk b x p hb hp').mono hle fun hd => hold _ (h.ltx hb hd hp')
  · intro b b' l' x p p' hb hy hb' hd hne hp hp'
    rcases hcase b p hp with ⟨rfl, rfl⟩ | ⟨h1, h2⟩ <;> rcases hcase b' p' hp' with ⟨rfl, rfl⟩ | ⟨k1, k2⟩
    · exact absurd rfl hne
    · have := h.ltx hb' hd k2; dsimp only; omega
    · have := h.ltx hb (own_nd hy) h2; dsimp only; omega
    · exact h.inj b b' l' x p p' hb hy hb' hd hne h2 k2
  · intro b hb
    unfold jput
    rw [if_neg (by omega)]
  · intro b l' p hb hy hp
    rcases hcase b p hp with ⟨rfl, rfl⟩ | ⟨h1, h2⟩
    · exact .inl (Nat.le_refl _)
    · exact .inr ⟨b, l', p, hb, hy, h2, rfl⟩

theorem mask_get (rs : List Nat) (F : List AV) (t : Nat) : (maskF rs F)[t]? = (F[t]?).map fun x => if rs.contains t then x else .top := by
  unfold maskF
  rw [List.getElem?_mapIdx]

theorem mask_ok {rs : List Nat} {F : List AV} {j : Inj} {tmps : Array Value} (hl : F.length = tmps.size) (h : ∀ t ∈ rs, ∀ x v, F[t]? = some x → tmps[t]? = some v → VR j x v) : VRs j (maskF rs F) tmps.toList := by
  refine VRs_iff.2 ⟨by simp [maskF, hl], fun i x v hx hv => ?_⟩
  rw [mask_get] at hx
  obtain ⟨y, hy, rfl⟩ := Option.map_eq_some_iff.1 hx
  split
  · rename_i hc
    exact h i (by simpa using hc) y v hy (by simpa using hv)
  · trivial

/-- What the text's run, and the check, say. -/
structure Txt (P : Program) (Γ : Gam) (ops : Array Oper) (F0 : List AV) (H0 : AHeap) (qs : List QR) (Fs : Nat → List AV) (Hs : Nat → AHeap) : Prop where
  f0 : Fs 0 = F0
  h0 : Hs 0 = H0
  len : qs.length = ops.size
  each : ∀ (i : Nat) o q, ops[i]? = some o → qs[i]? = some q → qstep P Γ ops (Fs i) (Hs i) o = some q ∧ Fs (i + 1) = putA (Fs i) o.dst q.v ∧ Hs (i + 1) = q.H
  edges : ∀ (k : Nat) o e, ops[k]? = some o → e ∈ o.after.toList → Region.binds .any e = true → e.on < k
  pairs : ∀ (i k : Nat) oi ok qi qk, i < k → ops[i]? = some oi → ops[k]? = some ok → qs[i]? = some qi → qs[k]? = some qk →
    pairOk (((pres ops.toList).getD k 0).testBit i) (slotsOf ops oi) (slotsOf ops ok) oi.dst ok.dst qi qk = true

theorem txt_of {P : Program} {Γ : Gam} {ops : Array Oper} {F0 F' : List AV} {H0 H' : AHeap} (h : adraw P Γ ops F0 H0 = some (F', H')) :
    ∃ qs Fs Hs, Txt P Γ ops F0 H0 qs Fs Hs ∧ F' = Fs ops.size ∧ H' = (qs.filterMap (·.st)).foldl putS (Hs ops.size) := by
  unfold adraw at h
  split at h
  · cases h
  rename_i qs Fn Hn hq
  split at h <;> cases h
  rename_i hd
  obtain ⟨hl, Fs, Hs, f0, h0, fn, hn, hall⟩ := qrun_spec _ _ _ _ _ _ hq
  unfold drawOk at hd
  rw [List.all_eq_true] at hd
  refine ⟨qs, Fs, Hs, ⟨f0, h0, by simpa using hl, fun i o q ho hqi => hall i o q (by simpa using ho) hqi, ?_, ?_⟩, by simpa using fn.symm, by rw [← hn]; simp⟩
  · intro k o e ho he hb
    have hk : k < ops.size := (Array.getElem?_eq_some_iff.1 ho).1
    have h1 := hd k (by simpa using hk)
    rw [Bool.and_eq_true] at h1
    have h2 := h1.1
    rw [List.all_eq_true] at h2
    have := h2 e (by rw [List.getD_eq_getElem?_getD, Array.getElem?_toList, ho]; exact he)
    rw [hb] at this
    simpa using this
  · intro i k oi ok qi qk hik hoi hok hqi hqk
    have hk : k < ops.size := (Array.getElem?_eq_some_iff.1 hok).1
    have h1 := hd k (by simpa using hk)
    rw [Bool.and_eq_true] at h1
    have h2 := h1.2
    rw [List.all_eq_true] at h2
    have := h2 i (by simpa using hik)
    simp only [List.getD_eq_getElem?_getD, List.getElem?_map, Array.getElem?_toList, hoi, hok, hqi, hqk, Option.map_some, Option.getD_some] at this
    rw [List.getD_eq_getElem?_getD]
    exact this

section
variable {P : Program} {Γ : Gam} {ops : Array Oper} {F0 : List AV} {H0 : AHeap} {qs : List QR} {Fs : Nat → List AV} {Hs : Nat → AHeap}

theorem Txt.q (T : Txt P Γ ops F0 H0 qs Fs Hs) {i : Nat} {o : Oper} (ho : ops[i]? = some o) : ∃ q, qs[i]? = some q := by
  have hi : i < ops.size := (Array.getElem?_eq_some_iff.1 ho).1
  exact ⟨_, List.getElem?_eq_getElem (by rw [T.len]; exact hi)⟩

theorem Txt.heap (hΓ : GOk P Γ) (T : Txt P Γ ops F0 H0 qs Fs Hs) : ∀ k, k ≤ ops.size → ∀ i, i ≤ k → (Hs i).length ≤ (Hs k).length ∧ ∀ b, b < (Hs i).length → (Hs k)[b]? = (Hs i)[b]? := by
  intro k
  induction k with
  | zero =>
    intro _ i hi
    obtain rfl : i = 0 := by omega
    exact ⟨Nat.le_refl _, fun _ _ => rfl⟩
  | succ k ih =>
    intro hk i hi
    by_cases e : i = k + 1
    · subst e; exact ⟨Nat.le_refl _, fun _ _ => rfl⟩
    · obtain ⟨h1, h2⟩ := ih (by omega) i (by omega)
      have ho : ops[k]? = some ops[k] := Array.getElem?_eq_getElem _
      obtain ⟨q, hq⟩ := T.q ho
      obtain ⟨s1, _, s3⟩ := T.each k _ q ho hq
      obtain ⟨g1, g2, _⟩ := qstep_heap hΓ s1
      rw [s3]
      exact ⟨by omega, fun b hb => by rw [g2 b (by omega)]; exact h2 b hb⟩

theorem Txt.flen (T : Txt P Γ ops F0 H0 qs Fs Hs) : ∀ k, k ≤ ops.size → (Fs k).length = F0.length := by
  intro k
  induction k with
  | zero => intro _; rw [T.f0]
  | succ k ih =>
    intro hk
    have ho : ops[k]? = some ops[k] := Array.getElem?_eq_getElem _
    obtain ⟨q, hq⟩ := T.q ho
    obtain ⟨_, s2, _⟩ := T.each k _ q ho hq
    rw [s2]
    unfold putA
    split
    · rw [List.length_set, ih (by omega)]
    · exact ih (by omega)

/-- A slot holds what the last operation ahead put there, or what it held. -/
theorem Txt.slot (T : Txt P Γ ops F0 H0 qs Fs Hs) (t : Nat) (x : AV) : ∀ k, k ≤ ops.size → (Fs k)[t]? = some x →
    (∃ i o q, i < k ∧ ops[i]? = some o ∧ qs[i]? = some q ∧ o.dst = some t ∧ x = q.v) ∨ ((∀ i o, i < k → ops[i]? = some o → o.dst ≠ some t) ∧ F0[t]? = some x) := by
  intro k
  induction k with
  | zero =>
    intro _ hx
    rw [T.f0] at hx
    exact .inr ⟨fun i o hi => by omega, hx⟩
  | succ k ih =>
    intro hk hx
    have ho : ops[k]? = some ops[k] := Array.getElem?_eq_getElem _
    obtain ⟨q, hq⟩ := T.q ho
    obtain ⟨_, s2, _⟩ := T.each k _ q ho hq
    rw [s2] at hx
    by_cases hd : ops[k].dst = some t
    · rw [hd] at hx
      simp only [putA] at hx
      rw [List.getElem?_set, if_pos rfl] at hx
      split at hx
      · cases hx
        exact .inl ⟨k, _, q, by omega, ho, hq, hd, rfl⟩
      · cases hx
    · have hx' : (Fs k)[t]? = some x := by
        unfold putA at hx
        split at hx
        · rename_i d e
          rw [List.getElem?_set] at hx
          rw [if_neg (by intro e1; subst e1; exact hd e)] at hx
          exact hx
        · exact hx
      rcases ih (by omega) hx' with ⟨i, o, q', h1, h2⟩ | ⟨h1, h2⟩
      · exact .inl ⟨i, o, q', by omega, h2⟩
      · refine .inr ⟨fun i o hi hoi => ?_, h2⟩
        by_cases e : i = k
        · subst e
          rw [ho] at hoi
          cases hoi
          exact hd
        · exact h1 i o (by omega) hoi

/-- Where the region stands, once the operations of D are done, in whatever order. -/
structure DI (ds : List Deferred) (j0 : Inj) (F0 : List AV) (H0 : AHeap) (w0 : World) (ops : Array Oper) (qs : List QR) (Hs : Nat → AHeap) (D : Nat → Prop) (σ : List Nat) (a : Act) (j : Inj) (w : World) : Prop where
  step : Step H0.length j0 H0 w0 j ((σ.filterMap fun k => (qs[k]?).bind (·.st)).foldl putS (Hs ops.size)) w
  dom : ∀ b p, j b = some p → b < H0.length ∨ ∃ k, k < ops.size ∧ D k ∧ (Hs k).length ≤ b ∧ b < (Hs (k + 1)).length
  size : F0.length = a.tmps.size
  set : ∀ (k : Nat) o q t v, D k → ops[k]? = some o → qs[k]? = some q → o.dst = some t → a.tmps[t]? = some v → VR j q.v v
  old : ∀ t x v, (∀ (k : Nat) o, D k → ops[k]? = some o → o.dst ≠ some t) → F0[t]? = some x → a.tmps[t]? = some v → VR j x v
  sig : ∀ k, k ∈ σ ↔ (k < ops.size ∧ D k ∧ ∃ q, qs[k]? = some q ∧ q.st.isSome)
  nodup : σ.Nodup
  sdom : ∀ k, k ∈ σ → ∀ q s, qs[k]? = some q → q.st = some s → ∃ p, j s.1 = some p
  defers : a.defers = ds

end

/-! Calls that see a part of the heap -/

def jcut (n : Nat) (j : Inj) : Inj := fun b => if b < n then j b else none

mutual
theorem VR.cut {n : Nat} {j : Inj} : ∀ (x : AV) (v : Value), below n x = true → VR j x v → VR (jcut n j) x v
  | .top, _, _, _ => by simp [VR]
  | .bool b, v, _, h => by simpa [VR] using h
  | .int _ n, v, _, h => by simpa [VR] using h
  | .str s, v, _, h => by simpa [VR] using h
  | .ptr b o, v, hb, h => by
    simp only [below, decide_eq_true_eq] at hb
    simp only [VR, jcut, hb, if_true] at h ⊢
    exact h
  | .nilp, v, _, h => by simpa [VR] using h
  | .slice b o l sz c, v, hb, h => by
    simp only [below, decide_eq_true_eq] at hb
    simp only [VR, jcut, hb, if_true] at h ⊢
    exact h
  | .sl b o l sz c, v, hb, h => by
    simp only [below, decide_eq_true_eq] at hb
    simp only [VR, jcut, hb, if_true] at h ⊢
    exact h
  | .nils, v, _, h => by simpa [VR] using h
  | .map b, v, hb, h => by
    simp only [below, decide_eq_true_eq] at hb
    simp only [VR, jcut, hb, if_true] at h ⊢
    exact h
  | .nilm, v, _, h => by simpa [VR] using h
  | .func f xs ys, v, hb, h => by
    simp only [below, Bool.and_eq_true] at hb
    simp only [VR] at h ⊢
    obtain ⟨cx, cy, e, h1, h2⟩ := h
    exact ⟨cx, cy, e, VRs.cut xs _ hb.1 h1, VRs.cut ys _ hb.2 h2⟩
  | .yld b, v, hb, h => by
    simp only [below, decide_eq_true_eq] at hb
    simp only [VR, jcut, hb, if_true] at h ⊢
    exact h
  | .nilf, v, _, h => by simpa [VR] using h
  | .agg l, v, hb, h => by
    simp only [below] at hb
    simp only [VR] at h ⊢
    obtain ⟨cs, e, h1⟩ := h
    exact ⟨cs, e, VRs.cut l _ hb h1⟩
  | .tuple l, v, hb, h => by
    simp only [below] at hb
    simp only [VR] at h ⊢
    obtain ⟨cs, e, h1⟩ := h
    exact ⟨cs, e, VRs.cut l _ hb h1⟩
theorem VRs.cut {n : Nat} {j : Inj} : ∀ (xs : List AV) (vs : List Value), belows n xs = true → VRs j xs vs → VRs (jcut n j) xs vs
  | [], vs, _, h => by simpa [VRs] using h
  | x :: xs, vs, hb, h => by
    simp only [belows, Bool.and_eq_true] at hb
    simp only [VRs] at h ⊢
    obtain ⟨v, ws, e, h1, h2⟩ := h
    exact ⟨v, ws, e, VR.cut x v hb.1 h1, VRs.cut xs ws hb.2 h2⟩
end

theorem belows_get {n : Nat} : ∀ {xs : List AV}, belows n xs = true → ∀ (i : Nat) x, xs[i]? = some x → below n x = true
  | [], _, i, x, h => by simp at h
  | y :: ys, hb, i, x, h => by
    simp only [belows, Bool.and_eq_true] at hb
    cases i with
    | zero => simp at h; subst h; exact hb.1
    | succ i => exact belows_get hb.2 i x (by simpa using h)

theorem BRel.cut {n : Nat} {j : Inj} {w : World} {x : ABlk} {p : JB} (hb : belowB n x = true) (h : BRel j w x p) : BRel (jcut n j) w x p := by
  cases x with
  | dead => trivial
  | cells o l =>
    obtain ⟨cs, T, fz, g1, g2, g3, g4, g5⟩ := h
    refine ⟨cs, T, fz, g1, g2, g3, fun i x hx => ?_, g5⟩
    obtain ⟨v, hv, hr⟩ := g4 i x hx
    exact ⟨v, hv, VR.cut x v (belows_get hb i x hx) hr⟩
  | loop ps a b st pe F =>
    obtain ⟨fn, tmps, D, g1, g2⟩ := h
    exact ⟨fn, tmps, D, g1, VRs.cut F _ hb g2⟩
  | map es =>
    obtain ⟨ents, cl, g1, g2, g3⟩ := h
    refine ⟨ents, cl, g1, g2, fun i x e hx he => ?_⟩
    have h1 := g3 i x e hx he
    have h2 := List.all_eq_true.1 hb x (List.mem_of_getElem? hx)
    rw [Bool.and_eq_true] at h2
    exact ⟨VR.cut _ _ h2.1 h1.1, VR.cut _ _ h2.2 h1.2⟩

theorem jcut_eq {n : Nat} {j : Inj} (h : ∀ b, n ≤ b → j b = none) : jcut n j = j := by
  funext b
  unfold jcut
  split
  · rfl
  · exact (h b (by omega)).symm

theorem R.cut {j : Inj} {H H' : AHeap} {w : World} (h : R j H' w) (he : ∀ b, b < H.length → H'[b]? = H[b]?) (hb : (∀ b, H.length ≤ b → j b = none) ∨ H.all (belowB H.length) = true) : R (jcut H.length j) H w := by
  have hlt : ∀ (b : Nat) (x : ABlk), H[b]? = some x → H'[b]? = some x := fun b x hb => by rw [he b (List.getElem?_eq_some_iff.1 hb).1]; exact hb
  have hj : ∀ b p, jcut H.length j b = some p → j b = some p := by
    intro b p hp
    unfold jcut at hp
    split at hp
    · exact hp
    · cases hp
  refine ⟨fun b hb => by unfold jcut; rw [if_neg (by omega)], fun b x p hx hp => ?_, fun b b' y x p p' hb hy hb' hx hne hp hp' => h.inj b b' y x p p' (hlt _ _ hb) hy (hlt _ _ hb') hx hne (hj _ _ hp) (hj _ _ hp')⟩
  have h1 := h.blk b x p (hlt _ _ hx) (hj _ _ hp)
  rcases hb with hb | hb
  · rw [jcut_eq hb]; exact h1
  · exact h1.cut (List.all_eq_true.1 hb x (List.mem_of_getElem? hx))

/-- Behind a call that saw the heap's beginning. -/
theorem step_call {n : Nat} {j j1 : Inj} {H H1 B : AHeap} {w w' : World} (hR : R j B w) (hpl : H.length ≤ B.length) (hpe : ∀ b, b < H.length → B[b]? = H[b]?) (hpl1 : H1.length ≤ B.length) (hpe1 : ∀ b, b < H1.length → B[b]? = H1[b]?)
    (hnone : ∀ b, H.length ≤ b → b < H1.length → j b = none) (hst : Step H.length (jcut H.length j) H w j1 H1 w') (hn : n ≤ H.length) (hown : (∀ b, H.length ≤ b → j b = none) ∨ (H1.drop H.length).all ownDead = true) :
    JLe j (fun b => if b < H1.length then j1 b else j b) ∧ JLe j1 (fun b => if b < H1.length then j1 b else j b) ∧ Step n j B w (fun b => if b < H1.length then j1 b else j b) B w' := by
  have hl := hst.len
  have hext : ∀ b, b < H.length → j1 b = j b := fun b hb => by rw [hst.ext b hb]; unfold jcut; rw [if_pos hb]
  have hJ1 : JLe j1 (fun b => if b < H1.length then j1 b else j b) := by
    intro b p hp
    have : b < H1.length := by
      rcases Nat.lt_or_ge b H1.length with h1 | h1
      · exact h1
      · rw [hst.rel.dom b h1] at hp; cases hp
    dsimp only
    rw [if_pos this]; exact hp
  have hJ : JLe j (fun b => if b < H1.length then j1 b else j b) := by
    intro b p hp
    dsimp only
    split
    · rename_i hb
      rcases Nat.lt_or_ge b H.length with h1 | h1
      · rw [hext b h1]; exact hp
      · rw [hnone b h1 hb] at hp; cases hp
    · exact hp
  have hcutp : ∀ b p, jcut H.length j b = some p → j b = some p := by
    intro b p hp
    unfold jcut at hp
    split at hp
    · exact hp
    · cases hp
  -- old blocks behind the seen ones stay
  have hstay : ∀ b x p, H.length ≤ b → B[b]? = some x → x ≠ .dead → j b = some p → w'.heap[p.blk]? = w.heap[p.blk]? := by
    intro b x p hb hx hd hp
    refine hst.keeps.block _ (hR.ltx hx hd hp) fun b0 y0 p0 h0 hy0 hp0 => ?_
    have hb0 : b0 < H.length := (List.getElem?_eq_some_iff.1 h0).1
    exact hR.inj b0 b y0 x p0 p (by rw [hpe b0 hb0]; exact h0) hy0 hx hd (by omega) (hcutp _ _ hp0) hp
  have hcase : ∀ b x p, B[b]? = some x → (if b < H1.length then j1 b else j b) = some p → (b < H1.length ∧ H1[b]? = some x ∧ j1 b = some p) ∨ (H1.length ≤ b ∧ j b = some p) := by
    intro b x p hx hp
    split at hp
    · rename_i hb
      exact .inl ⟨hb, by rw [← hpe1 b hb]; exact hx, hp⟩
    · exact .inr ⟨by omega, hp⟩
  -- what is owned of the callee's heap lies where it was, or anew
  have hfrom : ∀ b y p, H1[b]? = some y → y.own = true → j1 b = some p → w.heap.size ≤ p.blk ∨ ∃ b0 y0 p0, B[b0]? = some y0 ∧ y0.own = true ∧ b0 < H.length ∧ j b0 = some p0 ∧ p0.blk = p.blk := by
    intro b y p hb hy hp
    rcases hst.fresh b y p hb hy hp with h1 | ⟨b0, y0, p0, h1, h2, h3, h4⟩
    · exact .inl h1
    · have hb0 : b0 < H.length := (List.getElem?_eq_some_iff.1 h1).1
      exact .inr ⟨b0, y0, p0, by rw [hpe b0 hb0]; exact h1, h2, hb0, hcutp _ _ h3, h4⟩
  have hnewown : ∀ b x, H.length ≤ b → H1[b]? = some x → x ≠ .dead → (∃ c q, H1.length ≤ c ∧ j c = some q) → x.own = true := by
    intro b x hb hx hd ⟨c, q, hc, hq⟩
    rcases hown with h1 | h1
    · rw [h1 c (by omega)] at hq; cases hq
    · have : x ∈ H1.drop H.length := List.mem_of_getElem? (i := b - H.length) (by rw [List.getElem?_drop, Nat.add_sub_cancel' hb]; exact hx)
      have := List.all_eq_true.1 h1 x this
      cases x <;> simp_all [ownDead]
  refine ⟨hJ, hJ1, ⟨fun b hb => ?_, fun b x p hx hp => ?_, fun b b' y x p p' hb hy hb' hx hne hp hp' => ?_⟩, fun b hb => ?_, by omega, ⟨hst.keeps.os, hst.keeps.tape, hst.keeps.output, hst.keeps.size, fun c hc ho => hst.keeps.block c hc fun b y p hb hy hp => ?_⟩, fun b y p hb hy hp => ?_⟩
  · show (if b < H1.length then j1 b else j b) = none
    rw [if_neg (by omega)]
    exact hR.dom b hb
  · rcases hcase b x p hx hp with ⟨h1, h2, h3⟩ | ⟨h1, h2⟩
    · exact (hst.rel.blk b x p h2 h3).mono hJ1 fun _ => rfl
    · exact (hR.blk b x p hx h2).mono hJ fun hd => hstay b x p (by omega) hx hd h2
  · rcases hcase b y p hb hp with ⟨h1, h2, h3⟩ | ⟨h1, h2⟩ <;> rcases hcase b' x p' hb' hp' with ⟨k1, k2, k3⟩ | ⟨k1, k2⟩
    · exact hst.rel.inj b b' y x p p' h2 hy k2 hx hne h3 k3
    · rcases hfrom b y p h2 hy h3 with h4 | ⟨b0, y0, p0, h4, h5, h6, h7, h8⟩
      · have := hR.ltx hb' hx k2
        omega
      · rw [← h8]
        exact hR.inj b0 b' y0 x p0 p' h4 h5 hb' hx (by omega) h7 k2
    · rcases Nat.lt_or_ge b' H.length with h4 | h4
      · rw [hext b' h4] at k3
        exact hR.inj b b' y x p p' hb hy hb' hx hne h2 k3
      · have hox := hnewown b' x h4 k2 hx ⟨b, p, h1, h2⟩
        rcases hfrom b' x p' k2 hox k3 with h5 | ⟨b0, y0, p0, h5, h6, h7, h8, h9⟩
        · have := hR.ltx hb (own_nd hy) h2
          omega
        · rw [← h9]
          exact hR.inj b b0 y y0 p p0 hb hy h5 (own_nd h6) (by omega) h2 h8
    · exact hR.inj b b' y x p p' hb hy hb' hx hne h2 k2
  · show (if b < H1.length then j1 b else j b) = j b
    rw [if_pos (by omega)]
    exact hext b (by omega)
  · have hb0 : b < H.length := (List.getElem?_eq_some_iff.1 hb).1
    exact ho b y p (by rw [hpe b hb0]; exact hb) hy (hcutp _ _ hp)
  · rcases hcase b y p hb hp with ⟨h1, h2, h3⟩ | ⟨h1, h2⟩
    · rcases hfrom b y p h2 hy h3 with h4 | ⟨b0, y0, p0, h4, h5, _, h7, h8⟩
      · exact .inl h4
      · exact .inr ⟨b0, y0, p0, h4, h5, h7, h8⟩
    · exact .inr ⟨b, y, p, hb, hy, h2, rfl⟩

theorem call_wpIn2 {P : Program} {Γ : Gam} (hΓ : GOk P Γ) {o : Oper} {a : Act} {j jr : Inj} {F : List AV} {H H' : AHeap} {W : List Nat} {w : World} {v : AV} {g : Operand} {args : Array Operand} {ts : Array TypeId}
    (ho : o.op = .call ⟨.value g, args, ts⟩) (h : callA Γ F H g args = some (v, H', W)) (hF : VRs j F a.tmps.toList) (hR : R jr H w)
    (hargs : ∀ f first cap vs, ev F g = .func f first cap → VRs j (first ++ args.toList.map (ev F) ++ cap) vs → VRs jr (first ++ args.toList.map (ev F) ++ cap) vs) (r : Option Nat) (n : Nat) {K : Act → World → Prop} {Q : Exit → Act → World → Prop}
    (hk : ∀ cv j' w', VR j' v cv → Step H.length jr H w j' H' w' → K (a.put o.dst cv) w') : o.wpIn (FW r) n P a w K Q := by
  unfold callA at h
  split at h
  rotate_left
  · cases h
  rename_i f first cap hg
  split at h
  · cases h
  rename_i hne
  have hgv := ev_ok hF g
  rw [hg] at hgv
  simp only [VR] at hgv
  obtain ⟨cx, cy, hv, h1, h2⟩ := hgv
  have hs := hΓ.1 f hne ⟨_, _, _, h⟩
  have hev := evs_ok hF args
  refine ⟨fun _ _ => trivial, ?_⟩
  rw [Oper.semAt_eq _ _ _ (by rw [ho]; simp)]
  have e : (execOp a.eval o).run P w = .ok (.enter f (cx ++ args.map a.eval ++ cy)) w := by
    unfold execOp
    rw [ho]
    dsimp only
    have e1 : Sem.run P (resolve a.eval ⟨.value g, args, ts⟩ o.type) w = .ok { target := .fn (.func f) cy, args := cx ++ args.map a.eval } w := by
      unfold resolve
      dsimp only
      rw [hv]
      rfl
    rw [rb e1]
    exact hs.enter _ w
  rw [e]
  refine ⟨(fun hh => by simp [FW, Fence.wide] at hh), callsIn_FW ?_⟩
  refine (hs.ct _ _ _ _ _ h jr w (cx ++ args.map a.eval ++ cy) hR (by
    rw [Array.toList_append, Array.toList_append]
    exact hargs f first cap _ hg ((h1.append hev).append h2))).mono ?_
  rintro e w' ⟨cv, j', rfl, h3, h4⟩
  exact hk cv j' w' h3 h4

end Go.Proofs.Ytbbgmaklmlagcaa
