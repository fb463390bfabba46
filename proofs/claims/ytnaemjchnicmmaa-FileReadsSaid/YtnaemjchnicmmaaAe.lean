/- A region whose order is drawn: whatever order, what the text's run says. -/
import Derived.Test.YtnaemjchnicmmaaAd
namespace Go.Proofs.Ytnaemjchnicmmaa

def nf : List Bool → Nat
  | [] => 0
  | b :: l => (if b then 0 else 1) + nf l

theorem nf_set : ∀ (l : List Bool) (i : Nat), l[i]? = some false → nf (l.set i true) + 1 = nf l
  | b :: l, 0, h => by
    simp at h
    subst h
    simp [nf]
    omega
  | b :: l, i + 1, h => by
    have := nf_set l i (by simpa using h)
    simp only [List.set_cons_succ, nf]
    omega

theorem nf_zero : ∀ (l : List Bool), nf l = 0 → ∀ (i : Nat), l[i]? ≠ some false
  | [], _, i, h => by simp at h
  | b :: l, hz, i, h => by
    simp only [nf] at hz
    cases i with
    | zero => simp at h; subst h; simp at hz
    | succ i => exact nf_zero l (by omega) i (by simpa using h)

theorem nf_replicate (n : Nat) : nf (List.replicate n false) = n := by
  induction n with
  | zero => rfl
  | succ n ih => rw [List.replicate_succ]; simp only [nf, ih]; simp; omega

/-- Of a row that shows more blocks, those that lie. -/
theorem R.less {j : Inj} {H H' : AHeap} {w : World} (h : R j H' w) (hd : ∀ b, H.length ≤ b → j b = none) (he : ∀ b, b < H.length → H'[b]? = H[b]?) : R j H w := by
  have hlt : ∀ (b : Nat) (x : ABlk), H[b]? = some x → H'[b]? = some x := fun b x hb => by rw [he b (List.getElem?_eq_some_iff.1 hb).1]; exact hb
  exact ⟨hd, fun b x p hb hp => h.blk b x p (hlt _ _ hb) hp, fun b b' y x p p' hb hy hb' => h.inj b b' y x p p' (hlt _ _ hb) hy (hlt _ _ hb')⟩

theorem R.more {j : Inj} {H H' : AHeap} {w : World} (h : R j H w) (hl : H.length ≤ H'.length) (he : ∀ b, b < H.length → H'[b]? = H[b]?) : R j H' w := by
  have hlt : ∀ (b : Nat) (p : JB) (x : ABlk), j b = some p → H'[b]? = some x → H[b]? = some x := fun b p x hp hb => by
    rcases Nat.lt_or_ge b H.length with h1 | h1
    · rw [← he b h1]; exact hb
    · rw [h.dom b h1] at hp; cases hp
  exact ⟨fun b hb => h.dom b (by omega), fun b x p hb hp => h.blk b x p (hlt _ _ _ hp hb) hp, fun b b' y x p p' hb hy hb' hd hne hp hp' => h.inj b b' y x p p' (hlt _ _ _ hp hb) hy (hlt _ _ _ hp' hb') hd hne hp hp'⟩

/-- A new block, put where the heap foresees it. -/
theorem step_virtual {n id : Nat} {j : Inj} {H : AHeap} {w w' : World} {l : List AV} {cs : Array Value} {T : Nat} {fz : Nat × Nat} (h : R j H w) (hx : H[id]? = some (.cells true l)) (hj : j id = none) (hn : n ≤ id) (hw : w'.heap = w.heap.push (.cells cs T fz))
    (hos : w'.os = w.os) (htape : w'.tape = w.tape) (hout : w'.output = w.output) (hle0 : l.length ≤ cs.size) (hl : VRs j l (cs.toList.take l.length)) (hfz : ∀ i, i < cs.size → ¬ (fz.1 ≤ i ∧ i < fz.2)) :
    Step n j H w (jput j id ⟨w.heap.size, 0, cs.size⟩) H w' := by
  have hid : id < H.length := (List.getElem?_eq_some_iff.1 hx).1
  have hle : JLe j (jput j id ⟨w.heap.size, 0, cs.size⟩) := jput_le hj
  have hold : ∀ c, c < w.heap.size → w'.heap[c]? = w.heap[c]? := fun c hc => by
    rw [hw, Array.getElem?_push, if_neg (by omega)]
  have hnew : w'.heap[w.heap.size]? = some (.cells cs T fz) := by rw [hw]; simp
  have hcase : ∀ c q, jput j id ⟨w.heap.size, 0, cs.size⟩ c = some q → (c = id ∧ q = ⟨w.heap.size, 0, cs.size⟩) ∨ (c ≠ id ∧ j c = some q) := by
    intro c q hq
    unfold jput at hq
    split at hq
    · cases hq; exact .inl ⟨‹_›, rfl⟩
    · exact .inr ⟨‹_›, hq⟩
  refine ⟨⟨?_, ?_, ?_⟩, ?_, by omega, ⟨hos, htape, hout, by rw [hw]; simp, fun c hc _ => hold c hc⟩, ?_⟩
  · intro b hb
    unfold jput
    rw [if_neg (by omega)]
    exact h.dom b hb
  · intro b x p hb hp
    rcases hcase b p hp with ⟨rfl, rfl⟩ | ⟨hne, hp'⟩
    · rw [hx] at hb
      cases hb
      refine ⟨cs, T, fz, hnew, rfl, by simpa using hle0, fun i x hxi => ?_, fun _ => hfz⟩
      obtain ⟨v, hv, hr⟩ := hl.at hxi
      have hil : i < l.length := (List.getElem?_eq_some_iff.1 hxi).1
      refine ⟨v, ?_, hr.mono hle⟩
      rw [List.getElem?_take, if_pos hil] at hv
      simpa using hv
    · exact (h.blk b x p hb hp').mono hle fun hd => hold _ (h.ltx hb hd hp')
  · intro b b' l' x p p' hb hy hb' hd hne hp hp'
    rcases hcase b p hp with ⟨rfl, rfl⟩ | ⟨h1, h2⟩ <;> rcases hcase b' p' hp' with ⟨rfl, rfl⟩ | ⟨k1, k2⟩
    · exact absurd rfl hne
    · have := h.ltx hb' hd k2; dsimp only; omega
    · have := h.ltx hb (own_nd hy) h2; dsimp only; omega
    · exact h.inj b b' l' x p p' hb hy hb' hd hne h2 k2
  · intro b hb
    unfold jput
    rw [if_neg (by omega)]
  · intro b l' p hb hy hp
    rcases hcase b p hp with ⟨rfl, rfl⟩ | ⟨h1, h2⟩
    · exact .inl (Nat.le_refl _)
    · exact .inr ⟨b, l', p, hb, hy, h2, rfl⟩

theorem mask_get (rs : List Nat) (F : List AV) (t : Nat) : (maskF rs F)[t]? = (F[t]?).map fun x => if rs.contains t then x else .top := by
  unfold maskF
  rw [List.getElem?_mapIdx]

theorem mask_ok {rs : List Nat} {F : List AV} {j : Inj} {tmps : Array Value} (hl : F.length = tmps.size) (h : ∀ t ∈ rs, ∀ x v, F[t]? = some x → tmps[t]? = some v → VR j x v) : VRs j (maskF rs F) tmps.toList := by
  refine VRs_iff.2 ⟨by simp [maskF, hl], fun i x v hx hv => ?_⟩
  rw [mask_get] at hx
  obtain ⟨y, hy, rfl⟩ := Option.map_eq_some_iff.1 hx
  split
  · rename_i hc
    exact h i (by simpa using hc) y v hy (by simpa using hv)
  · trivial

/-- What the text's run, and the check, say. -/
structure Txt (P : Program) (Γ : Gam) (ops : Array Oper) (F0 : List AV) (H0 : AHeap) (qs : List QR) (Fs : Nat → List AV) (Hs : Nat → AHeap) : Prop where
  f0 : Fs 0 = F0
  h0 : Hs 0 = H0
  len : qs.length = ops.size
  each : ∀ (i : Nat) o q, ops[i]? = some o → qs[i]? = some q → qstep P Γ ops (Fs i) (Hs i) o = some q ∧ Fs (i + 1) = putA (Fs i) o.dst q.v ∧ Hs (i + 1) = q.H
  edges : ∀ (k : Nat) o e, ops[k]? = some o → e ∈ o.after.toList → Region.binds .any e = true → e.on < k
  pairs : ∀ (i k : Nat) oi ok qi qk, i < k → ops[i]? = some oi → ops[k]? = some ok → qs[i]? = some qi → qs[k]? = some qk →
    pairOk (((pres ops.toList).getD k 0).testBit i) (slotsOf ops oi) (slotsOf ops ok) oi.dst ok.dst qi qk = true

theorem txt_of {P : Program} {Γ : Gam} {ops : Array Oper} {F0 F' : List AV} {H0 H' : AHeap} (h : adraw P Γ ops F0 H0 = some (F', H')) :
    ∃ qs Fs Hs, Txt P Γ ops F0 H0 qs Fs Hs ∧ F' = Fs ops.size ∧ H' = (qs.filterMap (·.st)).foldl putS (Hs ops.size) := by
  unfold adraw at h
  split at h
  · cases h
  rename_i qs Fn Hn hq
  split at h <;> cases h
  rename_i hd
  obtain ⟨hl, Fs, Hs, f0, h0, fn, hn, hall⟩ := qrun_spec _ _ _ _ _ _ hq
  unfold drawOk at hd
  rw [List.all_eq_true] at hd
  refine ⟨qs, Fs, Hs, ⟨f0, h0, by simpa using hl, fun i o q ho hqi => hall i o q (by simpa using ho) hqi, ?_, ?_⟩, by simpa using fn.symm, by rw [← hn]; simp⟩
  · intro k o e ho he hb
    have hk : k < ops.size := (Array.getElem?_eq_some_iff.1 ho).1
    have h1 := hd k (by simpa using hk)
    rw [Bool.and_eq_true] at h1
    have h2 := h1.1
    rw [List.all_eq_true] at h2
    have := h2 e (by rw [List.getD_eq_getElem?_getD, Array.getElem?_toList, ho]; exact he)
    rw [hb] at this
    simpa using this
  · intro i k oi ok qi qk hik hoi hok hqi hqk
    have hk : k < ops.size := (Array.getElem?_eq_some_iff.1 hok).1
    have h1 := hd k (by simpa using hk)
    rw [Bool.and_eq_true] at h1
    have h2 := h1.2
    rw [List.all_eq_true] at h2
    have := h2 i (by simpa using hik)
    simp only [List.getD_eq_getElem?_getD, List.getElem?_map, Array.getElem?_toList, hoi, hok, hqi, hqk, Option.map_some, Option.getD_some] at this
    rw [List.getD_eq_getElem?_getD]
    exact this

section
variable {P : Program} {Γ : Gam} {ops : Array Oper} {F0 : List AV} {H0 : AHeap} {qs : List QR} {Fs : Nat → List AV} {Hs : Nat → AHeap}

theorem Txt.q (T : Txt P Γ ops F0 H0 qs Fs Hs) {i : Nat} {o : Oper} (ho : ops[i]? = some o) : ∃ q, qs[i]? = some q := by
  have hi : i < ops.size := (Array.getElem?_eq_some_iff.1 ho).1
  exact ⟨_, List.getElem?_eq_getElem (by rw [T.len]; exact hi)⟩

theorem Txt.heap (hΓ : GOk P Γ) (T : Txt P Γ ops F0 H0 qs Fs Hs) : ∀ k, k ≤ ops.size → ∀ i, i ≤ k → (Hs i).length ≤ (Hs k).length ∧ ∀ b, b < (Hs i).length → (Hs k)[b]? = (Hs i)[b]? := by
  intro k
  induction k with
  | zero =>
    intro _ i hi
    obtain rfl : i = 0 := by omega
    exact ⟨Nat.le_refl _, fun _ _ => rfl⟩
  | succ k ih =>
    intro hk i hi
    by_cases e : i = k + 1
    · subst e; exact ⟨Nat.le_refl _, fun _ _ => rfl⟩
    · obtain ⟨h1, h2⟩ := ih (by omega) i (by omega)
      have ho : ops[k]? = some ops[k] := Array.getElem?_eq_getElem _
      obtain ⟨q, hq⟩ := T.q ho
      obtain ⟨s1, _, s3⟩ := T.each k _ q ho hq
      obtain ⟨g1, g2, _⟩ := qstep_heap hΓ s1
      rw [s3]
      exact ⟨by omega, fun b hb => by rw [g2 b (by omega)]; exact h2 b hb⟩

theorem Txt.flen (T : Txt P Γ ops F0 H0 qs Fs Hs) : ∀ k, k ≤ ops.size → (Fs k).length = F0.length := by
  intro k
  induction k with
  | zero => intro _; rw [T.f0]
  | succ k ih =>
    intro hk
    have ho : ops[k]? = some ops[k] := Array.getElem?_eq_getElem _
    obtain ⟨q, hq⟩ := T.q ho
    obtain ⟨_, s2, _⟩ := T.each k _ q ho hq
    rw [s2]
    unfold putA
    split
    · rw [List.length_set, ih (by omega)]
    · exact ih (by omega)

/-- A slot holds what the last operation ahead put there, or what it held. -/
theorem Txt.slot (T : Txt P Γ ops F0 H0 qs Fs Hs) (t : Nat) (x : AV) : ∀ k, k ≤ ops.size → (Fs k)[t]? = some x →
    (∃ i o q, i < k ∧ ops[i]? = some o ∧ qs[i]? = some q ∧ o.dst = some t ∧ x = q.v) ∨ ((∀ i o, i < k → ops[i]? = some o → o.dst ≠ some t) ∧ F0[t]? = some x) := by
  intro k
  induction k with
  | zero =>
    intro _ hx
    rw [T.f0] at hx
    exact .inr ⟨fun i o hi => by omega, hx⟩
  | succ k ih =>
    intro hk hx
    have ho : ops[k]? = some ops[k] := Array.getElem?_eq_getElem _
    obtain ⟨q, hq⟩ := T.q ho
    obtain ⟨_, s2, _⟩ := T.each k _ q ho hq
    rw [s2] at hx
    by_cases hd : ops[k].dst = some t
    · rw [hd] at hx
      simp only [putA] at hx
      rw [List.getElem?_set, if_pos rfl] at hx
      split at hx
      · cases hx
        exact .inl ⟨k, _, q, by omega, ho, hq, hd, rfl⟩
      · cases hx
    · have hx' : (Fs k)[t]? = some x := by
        unfold putA at hx
        split at hx
        · rename_i d e
          rw [List.getElem?_set] at hx
          rw [if_neg (by intro e1; subst e1; exact hd e)] at hx
          exact hx
        · exact hx
      rcases ih (by omega) hx' with ⟨i, o, q', h1, h2⟩ | ⟨h1, h2⟩
      · exact .inl ⟨i, o, q', by omega, h2⟩
      · refine .inr ⟨fun i o hi hoi => ?_, h2⟩
        by_cases e : i = k
        · subst e
          rw [ho] at hoi
          cases hoi
          exact hd
        · exact h1 i o (by omega) hoi

/-- Where the region stands, once the operations of D are done, in whatever order. -/
structure DI (ds : List Deferred) (j0 : Inj) (F0 : List AV) (H0 : AHeap) (w0 : World) (ops : Array Oper) (qs : List QR) (Hs : Nat → AHeap) (D : Nat → Prop) (σ : List Nat) (a : Act) (j : Inj) (w : World) : Prop where
  step : Step H0.length j0 H0 w0 j ((σ.filterMap fun k => (qs[k]?).bind (·.st)).foldl putS (Hs ops.size)) w
  dom : ∀ b p, j b = some p → b < H0.length ∨ ∃ k, k < ops.size ∧ D k ∧ (Hs k).length ≤ b ∧ b < (Hs (k + 1)).length
  size : F0.length = a.tmps.size
  set : ∀ (k : Nat) o q t v, D k → ops[k]? = some o → qs[k]? = some q → o.dst = some t → a.tmps[t]? = some v → VR j q.v v
  old : ∀ t x v, (∀ (k : Nat) o, D k → ops[k]? = some o → o.dst ≠ some t) → F0[t]? = some x → a.tmps[t]? = some v → VR j x v
  sig : ∀ k, k ∈ σ ↔ (k < ops.size ∧ D k ∧ ∃ q, qs[k]? = some q ∧ q.st.isSome)
  nodup : σ.Nodup
  sdom : ∀ k, k ∈ σ → ∀ q s, qs[k]? = some q → q.st = some s → ∃ p, j s.1 = some p
  defers : a.defers = ds

end

end Go.Proofs.Ytnaemjchnicmmaa
