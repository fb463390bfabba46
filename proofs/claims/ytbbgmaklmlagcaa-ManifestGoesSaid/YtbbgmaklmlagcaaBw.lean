/- Contracts of functions that read parts of blocks and hand over new ones, beside whatever heap there is; slices that may be nil. -/
import Derived.Test.YtbbgmaklmlagcaaBt
import Derived.Test.YtbbgmaklmlagcaaBs
namespace Go.Proofs.Ytbbgmaklmlagcaa

mutual
theorem shA_inv {k : Nat} {j : Inj} : ∀ (x : AV) (v : Value), VR j (shA k x) v → VR (fun b => j (k + b)) x v
  | .top, _, _ => by simp [VR]
  | .bool b, v, h => by simpa [shA, VR] using h
  | .int _ n, v, h => by simpa [shA, VR] using h
  | .str s, v, h => by simpa [shA, VR] using h
  | .ptr b o, v, h => by simpa [shA, VR] using h
  | .nilp, v, h => by simpa [shA, VR] using h
  | .slice b o l sz c, v, h => by simpa [shA, VR] using h
  | .sl b o l sz c, v, h => by simpa [shA, VR] using h
  | .nils, v, h => by simpa [shA, VR] using h
  | .map b, v, h => by simpa [shA, VR] using h
  | .nilm, v, h => by simpa [shA, VR] using h
  | .func f xs ys, v, h => by
    simp only [shA, VR] at h ⊢
    obtain ⟨cx, cy, e, h1, h2⟩ := h
    exact ⟨cx, cy, e, shAs_inv xs _ h1, shAs_inv ys _ h2⟩
  | .yld b, v, h => by simpa [shA, VR] using h
  | .nilf, v, h => by simpa [shA, VR] using h
  | .agg l, v, h => by
    simp only [shA, VR] at h ⊢
    obtain ⟨cs, e, h1⟩ := h
    exact ⟨cs, e, shAs_inv l _ h1⟩
  | .tuple l, v, h => by
    simp only [shA, VR] at h ⊢
    obtain ⟨cs, e, h1⟩ := h
    exact ⟨cs, e, shAs_inv l _ h1⟩
theorem shAs_inv {k : Nat} {j : Inj} : ∀ (xs : List AV) (vs : List Value), VRs j (shAs k xs) vs → VRs (fun b => j (k + b)) xs vs
  | [], vs, h => by simpa [shAs, VRs] using h
  | x :: xs, vs, h => by
    simp only [shAs, VRs] at h ⊢
    obtain ⟨v, ws, e, h1, h2⟩ := h
    exact ⟨v, ws, e, shA_inv x v h1, shAs_inv xs ws h2⟩
end

theorem shB_inv {k : Nat} {j : Inj} {w : World} {y : ABlk} {p : JB} (h : BRel j w (shB k y) p) : BRel (fun b => j (k + b)) w y p := by
  cases y with
  | dead => trivial
  | cells o l =>
    obtain ⟨cs, T, fz, g1, g2, g3, g4, g5⟩ := h
    refine ⟨cs, T, fz, g1, g2, by rw [shAs_length] at g3; exact g3, fun i x hx => ?_, g5⟩
    obtain ⟨v, hv, hr⟩ := g4 i (shA k x) (by rw [shAs_get, hx]; rfl)
    exact ⟨v, hv, shA_inv x v hr⟩
  | loop ps a b st pe F =>
    obtain ⟨fn, tmps, D, g1, g2⟩ := h
    exact ⟨fn, tmps, D, g1, shAs_inv F _ g2⟩
  | map es =>
    obtain ⟨ents, cl, g1, g2, g3⟩ := h
    refine ⟨ents, cl, g1, by simpa using g2, fun i z e hz he => ?_⟩
    have := g3 i (shA k z.1, shA k z.2) e (by rw [List.getElem?_map, hz]; rfl) he
    exact ⟨shA_inv _ _ this.1, shA_inv _ _ this.2⟩

/-- New blocks, put behind a heap that stays as it is. -/
theorem new_core {j j' : Inj} {H N : AHeap} {w w' : World} {v : AV} {cv : Value} (hR : R j H w) (hk : ∀ c, c < w.heap.size → w'.heap[c]? = w.heap[c]?) (hos : w'.os = w.os) (ht : w'.tape = w.tape) (ho : w'.output = w.output) (hsz : w.heap.size ≤ w'.heap.size)
    (hN : R j' N w') (hfr : ∀ b y p, N[b]? = some y → y ≠ .dead → j' b = some p → y.own = true ∧ w.heap.size ≤ p.blk) (hv : VR j' v cv) :
    VR (jadd H.length j j') (shA H.length v) cv ∧ Step H.length j H w (jadd H.length j j') (H ++ N.map (shB H.length)) w' := by
  have hle : JLe j (jadd H.length j j') := by
    intro b p hp
    have hb : b < H.length := by
      rcases Nat.lt_or_ge b H.length with h3 | h3
      · exact h3
      · rw [hR.dom b h3] at hp; cases hp
    unfold jadd
    rw [if_pos hb]
    exact hp
  have hcase : ∀ c y q, (H ++ N.map (shB H.length))[c]? = some y → jadd H.length j j' c = some q → (H[c]? = some y ∧ j c = some q) ∨ (∃ b y', c = H.length + b ∧ N[b]? = some y' ∧ y = shB H.length y' ∧ j' b = some q) := by
    intro c y q hc hq
    rw [List.getElem?_append] at hc
    split at hc <;> rename_i hlt
    · unfold jadd at hq
      rw [if_pos hlt] at hq
      exact .inl ⟨hc, hq⟩
    · rw [List.getElem?_map] at hc
      obtain ⟨y', hy', rfl⟩ := Option.map_eq_some_iff.1 hc
      unfold jadd at hq
      rw [if_neg hlt] at hq
      exact .inr ⟨c - H.length, y', by omega, hy', rfl, hq⟩
  refine ⟨shA_ok v cv hv, ⟨?_, ?_, ?_⟩, ?_, by simp, ⟨hos, ht, ho, hsz, fun c hc _ => hk c hc⟩, ?_⟩
  · intro b hb
    simp at hb
    unfold jadd
    rw [if_neg (by omega)]
    exact hN.dom _ (by omega)
  · intro b x p hb hp
    rcases hcase b x p hb hp with ⟨g1, g2⟩ | ⟨b', y', rfl, g1, rfl, g2⟩
    · exact (hR.blk b x p g1 g2).mono hle fun hx => hk _ (hR.ltx g1 hx g2)
    · exact shB_ok (hN.blk b' y' p g1 g2)
  · intro b b' y x p p' hb hy hb' hx hne hp hp'
    have nd : ∀ y' : ABlk, shB H.length y' ≠ .dead → y' ≠ .dead := by rintro y' h rfl; exact h rfl
    rcases hcase b y p hb hp with ⟨g1, g2⟩ | ⟨c, y', rfl, g1, rfl, g2⟩ <;> rcases hcase b' x p' hb' hp' with ⟨k1, k2⟩ | ⟨c', x', rfl, k1, rfl, k2⟩
    · exact hR.inj b b' y x p p' g1 hy k1 hx hne g2 k2
    · have := hR.ltx g1 (own_nd hy) g2
      have := (hfr c' x' p' k1 (nd _ hx) k2).2
      omega
    · have := hR.ltx k1 hx k2
      have := (hfr c y' p g1 (nd _ (own_nd hy)) g2).2
      omega
    · exact hN.inj c c' y' x' p p' g1 (by rw [← shB_own H.length]; exact hy) k1 (nd _ hx) (fun e => hne (by rw [e])) g2 k2
  · intro b hb
    unfold jadd
    rw [if_pos hb]
  · intro b y p hb hy hp
    rcases hcase b y p hb hp with ⟨g1, g2⟩ | ⟨c, y', rfl, g1, rfl, g2⟩
    · exact .inr ⟨b, y, p, g1, hy, g2, rfl⟩
    · exact .inl (hfr c y' p g1 (by rintro rfl; exact own_nd hy rfl) g2).2

/-- Windows read, new blocks handed over. -/
theorem ct_winN {P : Program} {f : FuncId} {args0 args : List AV} {H0 H N : AHeap} {v : AV} (h : Ct P f args0 H0 (shA H0.length v) (H0 ++ N.map (shB H0.length))) (ho : allOwn N = true) (wd : List (Nat × Nat)) (ha : winAs wd args0 args) (hH : winH H H0 wd) :
    Ct P f args H (shA H.length v) (H ++ N.map (shB H.length)) := by
  intro j w cargs hR hargs
  obtain ⟨hl, hat⟩ := hH.at
  let j0 : Inj := fun i => match wd[i]? with
    | some (b, off) => (j b).map fun p => ⟨p.blk, p.base + off, p.size⟩
    | none => none
  have hj0 : ∀ i p, j0 i = some p → ∃ b off q, wd[i]? = some (b, off) ∧ j b = some q ∧ p = ⟨q.blk, q.base + off, q.size⟩ := by
    intro i p hp
    simp only [j0] at hp
    split at hp
    · rename_i b off e
      obtain ⟨q, hq, rfl⟩ := Option.map_eq_some_iff.1 hp
      exact ⟨b, off, q, e, hq, rfl⟩
    · cases hp
  have hro : H0.all isRo = true := by
    rw [List.all_eq_true]
    intro x hx
    obtain ⟨i, hi⟩ := List.getElem?_of_mem hx
    have hil : i < wd.length := by rw [← hl]; exact (List.getElem?_eq_some_iff.1 hi).1
    obtain ⟨⟨l0, rfl⟩, _⟩ := hat i x _ _ hi (List.getElem?_eq_getElem hil)
    rfl
  have hR0 : R j0 H0 w := by
    refine ⟨fun b hb => ?_, fun i x p hx hp => ?_, fun i i' yb x p p' hi hyb => ?_⟩
    · simp only [j0]
      rw [List.getElem?_eq_none (show wd.length ≤ b by omega)]
    · obtain ⟨b, off, q, h1, h2, rfl⟩ := hj0 i p hp
      obtain ⟨y0, hy0⟩ := hR.live h2
      obtain ⟨l0, o, l, rfl, hb, h3, h4, h5⟩ := (hat i x b off hx h1).2 y0 hy0
      obtain ⟨cs, T, fz, g1, g2, g3, g4, g5⟩ := hR.blk b _ q hb h2
      refine ⟨cs, T, fz, g1, g2, by dsimp only; omega, fun k z hz => ?_, fun ho => by cases ho⟩
      rw [h4, List.getElem?_take] at hz
      split at hz
      · rw [List.getElem?_drop] at hz
        obtain ⟨v', hv', hr⟩ := g4 _ z hz
        refine ⟨v', by dsimp only; rw [show q.base + off + k = q.base + (off + k) by omega]; exact hv', ?_⟩
        refine VR.free z v' ?_ hr
        refine frees_iff.1 h5 z ?_
        rw [h4]
        refine List.mem_of_getElem? (i := k) ?_
        rw [List.getElem?_take, if_pos ‹_›, List.getElem?_drop]
        exact hz
      · cases hz
    · exact absurd hyb (ro_own (List.all_eq_true.1 hro _ (List.mem_of_getElem? hi)))
  have hargs0 : ∀ (xs ys : List AV) (vs : List Value), winAs wd xs ys → VRs j ys vs → VRs j0 xs vs := winAs_ok fun i b off p h1 h2 => by simp only [j0, h1, h2, Option.map_some]
  refine (h j0 w cargs hR0 (hargs0 _ _ _ ha hargs)).mono ?_
  rintro e w' ⟨cv, j', rfl, h1, h2⟩
  have hk := keeps_all h2.keeps hro
  have hfr : ∀ b y p, N[b]? = some y → y ≠ .dead → j' (H0.length + b) = some p → y.own = true ∧ w.heap.size ≤ p.blk := by
    intro b y p hb hy hp
    have hyo : y.own = true := by
      have := List.all_eq_true.1 ho _ (List.mem_of_getElem? hb)
      cases y <;> simp_all [ABlk.own]
    have hb' : (H0 ++ N.map (shB H0.length))[H0.length + b]? = some (shB H0.length y) := by
      rw [List.getElem?_append_right (by omega), Nat.add_sub_cancel_left, List.getElem?_map, hb]; rfl
    refine ⟨hyo, ?_⟩
    rcases h2.fresh _ _ p hb' (by rw [shB_own]; exact hyo) hp with h3 | ⟨b0, y0, p0, h3, h4, _⟩
    · exact h3
    · exact absurd h4 (ro_own (List.all_eq_true.1 hro _ (List.mem_of_getElem? h3)))
  have hN : R (fun b => j' (H0.length + b)) N w' := by
    refine ⟨fun b hb => h2.rel.dom _ (by simp; omega), fun b x p hb hp => ?_, fun b b' y x p p' hb hy hb' hx hne hp hp' => ?_⟩
    · refine shB_inv (h2.rel.blk (H0.length + b) (shB H0.length x) p ?_ hp)
      rw [List.getElem?_append_right (by omega), Nat.add_sub_cancel_left, List.getElem?_map, hb]; rfl
    · refine h2.rel.inj (H0.length + b) (H0.length + b') (shB H0.length y) (shB H0.length x) p p' ?_ (by rw [shB_own]; exact hy) ?_ ?_ (by omega) hp hp'
      · rw [List.getElem?_append_right (by omega), Nat.add_sub_cancel_left, List.getElem?_map, hb]; rfl
      · rw [List.getElem?_append_right (by omega), Nat.add_sub_cancel_left, List.getElem?_map, hb']; rfl
      · cases x <;> simp_all [shB]
  obtain ⟨g1, g2⟩ := new_core hR hk h2.keeps.os h2.keeps.tape h2.keeps.output h2.keeps.size hN hfr (shA_inv v cv h1)
  exact ⟨cv, _, rfl, g1, g2⟩

/-- The summary of a function that reads memory, and hands over new blocks. -/
def readNewS (g : List AV → AHeap → Option (AV × AHeap)) : Summ := fun args H => match g args H with
  | some (v, N) => some (shA H.length v, H ++ N.map (shB H.length), [])
  | none => none

theorem sound_readNew {P : Program} {f : FuncId} {g : List AV → AHeap → Option (AV × AHeap)} (he : ∀ cargs w, (callFunc f cargs).run P w = .ok (.enter f cargs) w)
    (h : ∀ args H v N, g args H = some (v, N) → Ct P f args H (shA H.length v) (H ++ N.map (shB H.length))) : Sound P f (readNewS g) := by
  refine ⟨he, fun args H v H' W hs => ?_, fun args H v H' W hs => ?_⟩ <;> (unfold readNewS at hs; split at hs <;> cases hs)
  · rename_i v0 N hg
    exact h args H _ _ hg
  · exact ⟨by simp, fun b hb _ => by rw [List.getElem?_append_left hb]⟩

attribute [simp] readNewS

/-! A drawn region's check where stores stand at places that are no numbers: that they are apart is shown beside it -/

def pairOkT (before : Bool) (si sk : List Nat) (di dk : Option Nat) (qi qk : QF) : Bool :=
  (match di with
   | some d => !sk.contains d || before
   | none => true) &&
  (match dk with
   | some d => (!si.contains d || before) && dk != di
   | none => true) &&
  (match qi.st with
   | some s => qk.rd != some s.1 && !qk.call
   | none => true) &&
  (match qk.st with
   | some s => (qi.rd != some s.1 || before) && (!qi.call || before)
   | none => true) &&
  (!qi.call || !qk.grows || before || qi.sc)

def drawOkT (ops : List Oper) (slots : List (List Nat)) (qs : List QF) (pr : List Nat) : Bool :=
  (List.range ops.length).all fun k =>
    ((ops.getD k default).after.toList.all fun e => !Region.binds .any e || e.on < k) &&
    (List.range k).all fun i =>
      pairOkT ((pr.getD k 0).testBit i) (slots.getD i []) (slots.getD k []) (ops.getD i default).dst (ops.getD k default).dst (qs.getD i ⟨none, none, false, false, false⟩) (qs.getD k ⟨none, none, false, false, false⟩)

def drawOkGT (ops : List Oper) (slots : List (List Nat)) (qs : List QF) : Bool := presGoF (drawOkT ops slots qs) ops []

theorem pairOk_split {b : Bool} {si sk : List Nat} {di dk : Option Nat} {qi qk : QF} (h : pairOkT b si sk di dk qi qk = true) (ha : ∀ s s', qi.st = some s → qk.st = some s' → apartF s s' = true) : pairOkF b si sk di dk qi qk = true := by
  unfold pairOkT at h
  unfold pairOkF
  simp only [Bool.and_eq_true] at h ⊢
  refine ⟨⟨⟨h.1.1.1, ?_⟩, h.1.2⟩, h.2⟩
  have h3 := h.1.1.2
  cases hs : qi.st with
  | none => rfl
  | some s =>
    rw [hs] at h3
    simp only [Bool.and_eq_true] at h3 ⊢
    refine ⟨h3, ?_⟩
    cases hs' : qk.st with
    | none => rfl
    | some s' => exact ha s s' hs hs'

theorem drawOkG_split {ops : List Oper} {slots : List (List Nat)} {qs : List QF} (h : drawOkGT ops slots qs = true) (hp : (qs.filterMap (·.st)).Pairwise fun a b => apartF a b = true) : drawOkG ops slots qs = true := by
  unfold drawOkGT at h
  unfold drawOkG
  rw [presGoF_eq] at h ⊢
  unfold drawOkT at h
  unfold drawOkF
  rw [List.all_eq_true] at h ⊢
  intro k hk
  have := h k hk
  rw [Bool.and_eq_true] at this ⊢
  refine ⟨this.1, ?_⟩
  rw [List.all_eq_true]
  intro i hi
  refine pairOk_split (List.all_eq_true.1 this.2 i hi) fun s s' h1 h2 => ?_
  rw [List.pairwise_filterMap] at hp
  have hik : i < k := List.mem_range.1 hi
  have get : ∀ n s, (qs.getD n ⟨none, none, false, false, false⟩).st = some s → n < qs.length := by
    intro n s hn
    rcases Nat.lt_or_ge n qs.length with h3 | h3
    · exact h3
    · rw [List.getD_eq_getElem?_getD, List.getElem?_eq_none h3] at hn; cases hn
  have li := get i s h1
  have lk := get k s' h2
  rw [List.getD_eq_getElem?_getD, List.getElem?_eq_getElem li] at h1
  rw [List.getD_eq_getElem?_getD, List.getElem?_eq_getElem lk] at h2
  exact (List.pairwise_iff_getElem.1 hp) i k li lk hik s h1 s' h2

/-- A function without a walk: its run, and what of it is told. -/
theorem ct_runE {P : Program} {Γ : Gam} (hm : P.follows .mixedOrders = true) (hΓ : GOk P Γ) {n : Nat} {f : FuncId} {fn : Func} (hf : P.funcs[f]? = some fn) {args : List AV} {H H' : AHeap} {v : AV} (h : ∃ v1 H1, runF P Γ n fn args H = some (v1, H1) ∧ Weak H.length [v1] H1 [v] H') :
    Ct P f args H v H' := by
  obtain ⟨v1, H1, h1, h2⟩ := h
  exact ct_run hm hΓ hf h1 h2

/-- An argument that may be nil: both ways. -/
theorem ct_slN {P : Program} {f : FuncId} {pre post : List AV} {b off n sz : Nat} {c : Bool} {H H' : AHeap} {v : AV} (h1 : Ct P f (pre ++ .slice b off n sz c :: post) H v H') (h2 : n = 0 → Ct P f (pre ++ .nils :: post) H v H') : Ct P f (pre ++ .sl b off n sz c :: post) H v H' := by
  intro j w cargs hR hargs
  have hx : ∃ y, (y = .slice b off n sz c ∨ (n = 0 ∧ y = .nils)) ∧ VRs j (pre ++ y :: post) cargs.toList := by
    obtain ⟨L, hL⟩ : ∃ L, cargs.toList = L := ⟨_, rfl⟩
    rw [hL] at hargs ⊢
    clear h1 h2 hL
    induction pre generalizing L with
    | nil =>
      simp only [List.nil_append, VRs] at hargs ⊢
      obtain ⟨u, ws, rfl, k1, k2⟩ := hargs
      rcases VR_sl k1 with ⟨k3, k4⟩ | k3
      · exact ⟨.nils, .inr ⟨k3, rfl⟩, u, ws, rfl, k4, k2⟩
      · exact ⟨_, .inl rfl, u, ws, rfl, k3, k2⟩
    | cons x pre ih =>
      simp only [List.cons_append, VRs] at hargs ⊢
      obtain ⟨u, ws, rfl, k1, k2⟩ := hargs
      obtain ⟨y, hy, hv⟩ := ih ws k2
      exact ⟨y, hy, u, ws, rfl, k1, hv⟩
  obtain ⟨y, rfl | ⟨h0, rfl⟩, hv⟩ := hx
  · exact h1 j w cargs hR hv
  · exact h2 h0 j w cargs hR hv

end Go.Proofs.Ytbbgmaklmlagcaa
