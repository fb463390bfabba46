/- Functions: their ends, what is forgotten, and contracts beside other blocks. -/
import Derived.Test.YtbbgmaklmlagcaaAc
namespace Go.Proofs.Ytbbgmaklmlagcaa

mutual
/-- The first says of a value no more than the second; block b of the first is block rn[b] of the second. -/
def AW (rn : List Nat) : AV → AV → Prop
  | .top, _ => True
  | .bool b, .bool b' => b = b'
  | .int k n, .int k' n' => k = k' ∧ n = n'
  | .str s, .str s' => s = s'
  | .ptr b o, .ptr b' o' => rn[b]? = some b' ∧ o = o'
  | .nilp, .nilp => True
  | .slice b o l sz c, .slice b' o' l' sz' c' => rn[b]? = some b' ∧ o = o' ∧ l = l' ∧ sz = sz' ∧ (c = true → c' = true)
  | .sl b o l sz c, .slice b' o' l' sz' c' => rn[b]? = some b' ∧ o = o' ∧ l = l' ∧ sz = sz' ∧ (c = true → c' = true)
  | .sl b o l sz c, .sl b' o' l' sz' c' => rn[b]? = some b' ∧ o = o' ∧ l = l' ∧ sz = sz' ∧ (c = true → c' = true)
  | .sl _ _ l _ _, .nils => l = 0
  | .nils, .nils => True
  | .map b, .map b' => rn[b]? = some b'
  | .nilm, .nilm => True
  | .func f xs ys, .func f' xs' ys' => f = f' ∧ AWs rn xs xs' ∧ AWs rn ys ys'
  | .yld b, .yld b' => rn[b]? = some b'
  | .nilf, .nilf => True
  | .agg l, .agg l' => AWs rn l l'
  | .tuple l, .tuple l' => AWs rn l l'
  | _, _ => False
def AWs (rn : List Nat) : List AV → List AV → Prop
  | [], [] => True
  | x :: xs, y :: ys => AW rn x y ∧ AWs rn xs ys
  | _, _ => False
end

def jren (rn : List Nat) (j : Inj) : Inj := fun b => (rn[b]?).bind j

theorem jren_some {rn : List Nat} {j : Inj} {b b' : Nat} {p : JB} (h : rn[b]? = some b') (hp : j b' = some p) : jren rn j b = some p := by simp [jren, h, hp]

mutual
theorem AW.ok {rn : List Nat} {j : Inj} : ∀ (x y : AV) (v : Value), AW rn x y → VR j y v → VR (jren rn j) x v
  | .top, _, _, _, _ => by simp [VR]
  | .bool b, y, v, h, hv => by cases y <;> simp_all [AW, VR]
  | .int k n, y, v, h, hv => by cases y <;> simp_all [AW, VR]
  | .str s, y, v, h, hv => by cases y <;> simp_all [AW, VR]
  | .ptr b o, y, v, h, hv => by
    cases y <;> simp only [AW] at h
    obtain ⟨h1, rfl⟩ := h
    simp only [VR] at hv ⊢
    obtain ⟨p, hp, e⟩ := hv
    exact ⟨p, jren_some h1 hp, e⟩
  | .nilp, y, v, h, hv => by cases y <;> simp_all [AW, VR]
  | .slice b o l sz c, y, v, h, hv => by
    cases y <;> simp only [AW] at h
    obtain ⟨h1, rfl, rfl, rfl, h2⟩ := h
    simp only [VR] at hv ⊢
    obtain ⟨p, a, cap, hp, e1, e2, e3, e4⟩ := hv
    exact ⟨p, a, cap, jren_some h1 hp, e1, e2, fun hc => e3 (h2 hc), e4⟩
  | .sl b o l sz c, y, v, h, hv => by
    cases y <;> simp only [AW] at h
    case slice =>
      obtain ⟨h1, rfl, rfl, rfl, h2⟩ := h
      simp only [VR] at hv ⊢
      obtain ⟨p, a, cap, hp, e1, e2, e3, e4⟩ := hv
      exact .inr ⟨p, a, cap, jren_some h1 hp, e1, e2, fun hc => e3 (h2 hc), e4⟩
    case sl =>
      obtain ⟨h1, rfl, rfl, rfl, h2⟩ := h
      simp only [VR] at hv ⊢
      rcases hv with hv | ⟨p, a, cap, hp, e1, e2, e3, e4⟩
      · exact .inl hv
      · exact .inr ⟨p, a, cap, jren_some h1 hp, e1, e2, fun hc => e3 (h2 hc), e4⟩
    case nils =>
      simp only [VR] at hv ⊢
      exact .inl ⟨h, hv⟩
  | .nils, y, v, h, hv => by cases y <;> simp_all [AW, VR]
  | .map b, y, v, h, hv => by
    cases y <;> simp only [AW] at h
    simp only [VR] at hv ⊢
    obtain ⟨p, hp, e⟩ := hv
    exact ⟨p, jren_some h hp, e⟩
  | .nilm, y, v, h, hv => by cases y <;> simp_all [AW, VR]
  | .func f xs ys, y, v, h, hv => by
    cases y <;> simp only [AW] at h
    obtain ⟨rfl, h1, h2⟩ := h
    simp only [VR] at hv ⊢
    obtain ⟨cx, cy, e, g1, g2⟩ := hv
    exact ⟨cx, cy, e, AWs.ok _ _ _ h1 g1, AWs.ok _ _ _ h2 g2⟩
  | .yld b, y, v, h, hv => by
    cases y <;> simp only [AW] at h
    simp only [VR] at hv ⊢
    obtain ⟨p, hp, e⟩ := hv
    exact ⟨p, jren_some h hp, e⟩
  | .nilf, y, v, h, hv => by cases y <;> simp_all [AW, VR]
  | .agg l, y, v, h, hv => by
    cases y <;> simp only [AW] at h
    simp only [VR] at hv ⊢
    obtain ⟨cs, e, g1⟩ := hv
    exact ⟨cs, e, AWs.ok _ _ _ h g1⟩
  | .tuple l, y, v, h, hv => by
    cases y <;> simp only [AW] at h
    simp only [VR] at hv ⊢
    obtain ⟨cs, e, g1⟩ := hv
    exact ⟨cs, e, AWs.ok _ _ _ h g1⟩
theorem AWs.ok {rn : List Nat} {j : Inj} : ∀ (xs ys : List AV) (vs : List Value), AWs rn xs ys → VRs j ys vs → VRs (jren rn j) xs vs
  | [], ys, vs, h, hv => by cases ys <;> simp_all [AWs, VRs]
  | x :: xs, ys, vs, h, hv => by
    cases ys <;> simp only [AWs] at h
    simp only [VRs] at hv ⊢
    obtain ⟨v, ws, e, g1, g2⟩ := hv
    exact ⟨v, ws, e, AW.ok _ _ _ h.1 g1, AWs.ok _ _ _ h.2 g2⟩
end

theorem AWs.len {rn : List Nat} : ∀ {xs ys : List AV}, AWs rn xs ys → xs.length = ys.length
  | [], ys, h => by cases ys <;> simp_all [AWs]
  | x :: xs, ys, h => by
    cases ys <;> simp only [AWs] at h
    simp [AWs.len h.2]

theorem AWs.at {rn : List Nat} : ∀ {xs ys : List AV}, AWs rn xs ys → ∀ (i : Nat) x, xs[i]? = some x → ∃ y, ys[i]? = some y ∧ AW rn x y
  | [], ys, h, i, x, hx => by simp at hx
  | x :: xs, ys, h, i, x', hx => by
    cases ys <;> simp only [AWs] at h
    cases i with
    | zero => simp at hx; subst hx; exact ⟨_, rfl, h.1⟩
    | succ i => simpa using AWs.at h.2 i x' (by simpa using hx)

def AWb (rn : List Nat) : ABlk → ABlk → Prop
  | .dead, _ => True
  | .cells o l, .cells o' l' => (o = true → o' = true) ∧ AWs rn l l'
  | .loop ps asg body st pe F, .loop ps' asg' body' st' pe' F' => ps = ps' ∧ asg = asg' ∧ body = body' ∧ st = st' ∧ pe = pe' ∧ AWs rn F F'
  | .map es, .map es' => AWs rn (es.map (·.1)) (es'.map (·.1)) ∧ AWs rn (es.map (·.2)) (es'.map (·.2))
  | _, _ => False

theorem AWb.own {rn : List Nat} {x y : ABlk} (h : AWb rn x y) (hx : x.own = true) : y.own = true := by
  cases x <;> cases y <;> simp_all [AWb, ABlk.own]

theorem AWb.nd {rn : List Nat} {x y : ABlk} (h : AWb rn x y) (hx : x ≠ .dead) : y ≠ .dead := by
  cases x <;> cases y <;> simp_all [AWb]

theorem AWb.ok {rn : List Nat} {j : Inj} {w : World} {x y : ABlk} {p : JB} (hw : AWb rn x y) (this : BRel j w y p) : BRel (jren rn j) w x p := by
  cases x with
  | dead => trivial
  | cells o l =>
    cases y with
    | dead => simp [AWb] at hw
    | loop _ _ _ _ _ _ => simp [AWb] at hw
    | map _ => simp [AWb] at hw
    | cells o' l' =>
      obtain ⟨w1, w2⟩ := hw
      obtain ⟨cs, T, fz, g1, g2, g3, g4, g5⟩ := this
      refine ⟨cs, T, fz, g1, g2, by rw [w2.len]; exact g3, fun i z hz => ?_, fun ho => g5 (w1 ho)⟩
      obtain ⟨z', hz', hzw⟩ := w2.at i z hz
      obtain ⟨v, hv, hr⟩ := g4 i z' hz'
      exact ⟨v, hv, AW.ok _ _ _ hzw hr⟩
  | loop ps asg body st pe F =>
    cases y with
    | dead => simp [AWb] at hw
    | cells _ _ => simp [AWb] at hw
    | map _ => simp [AWb] at hw
    | loop ps' asg' body' st' pe' F' =>
      obtain ⟨rfl, rfl, rfl, rfl, rfl, w2⟩ := hw
      obtain ⟨fn, tmps, D, g1, g2⟩ := this
      exact ⟨fn, tmps, D, g1, AWs.ok _ _ _ w2 g2⟩
  | map es =>
    cases y with
    | dead => simp [AWb] at hw
    | cells _ _ => simp [AWb] at hw
    | loop _ _ _ _ _ _ => simp [AWb] at hw
    | map es' =>
      obtain ⟨w1, w2⟩ := hw
      obtain ⟨ents, cl, g1, g2, g3⟩ := this
      have hl := w1.len
      simp at hl
      refine ⟨ents, cl, g1, by omega, fun i z e hz he => ?_⟩
      obtain ⟨k', hk', hkw⟩ := w1.at i z.1 (by rw [List.getElem?_map, hz]; rfl)
      obtain ⟨v', hv', hvw⟩ := w2.at i z.2 (by rw [List.getElem?_map, hz]; rfl)
      rw [List.getElem?_map] at hk' hv'
      cases hx : es'[i]? with
      | none => rw [hx] at hk'; cases hk'
      | some x =>
        rw [hx] at hk' hv'
        cases hk'; cases hv'
        have := g3 i x e hx he
        exact ⟨AW.ok _ _ _ hkw this.1, AW.ok _ _ _ hvw this.2⟩

/-- All blocks of a heap, by their names. -/
def AWh (rn : List Nat) (H : AHeap) : AHeap → List Nat → Prop
  | [], [] => True
  | x :: xs, b :: bs => AWb rn x (H.getD b .dead) ∧ b < H.length ∧ AWh rn H xs bs
  | _, _ => False

theorem AWh.at {rn : List Nat} {H : AHeap} : ∀ {xs : AHeap} {bs : List Nat}, AWh rn H xs bs → xs.length = bs.length ∧ ∀ (i : Nat) x b, xs[i]? = some x → bs[i]? = some b → ∃ y, H[b]? = some y ∧ AWb rn x y
  | [], bs, h => by cases bs <;> simp_all [AWh]
  | x :: xs, bs, h => by
    cases bs <;> simp only [AWh] at h
    rename_i b bs
    obtain ⟨h1, h2, h3⟩ := h
    obtain ⟨g1, g2⟩ := AWh.at h3
    refine ⟨by simp [g1], fun i x' b' hx hb => ?_⟩
    cases i with
    | zero =>
      simp at hx hb
      subst hx; subst hb
      refine ⟨H[b], List.getElem?_eq_getElem h2, ?_⟩
      rw [List.getD_eq_getElem?_getD, List.getElem?_eq_getElem h2] at h1
      exact h1
    | succ i => exact g2 i x' b' (by simpa using hx) (by simpa using hb)

/-- The same, where a name may stand for no block at all. -/
def AWg (rn : List Nat) (H : AHeap) : AHeap → List Nat → Prop
  | [], [] => True
  | x :: xs, b :: bs => (if b < H.length then AWb rn x (H.getD b .dead) else True) ∧ AWg rn H xs bs
  | _, _ => False

theorem AWg.at {rn : List Nat} {H : AHeap} : ∀ {xs : AHeap} {bs : List Nat}, AWg rn H xs bs → xs.length = bs.length ∧ ∀ (i : Nat) x b, xs[i]? = some x → bs[i]? = some b → b < H.length → ∃ y, H[b]? = some y ∧ AWb rn x y
  | [], bs, h => by cases bs <;> simp_all [AWg]
  | x :: xs, bs, h => by
    cases bs <;> simp only [AWg] at h
    rename_i b bs
    obtain ⟨h1, h3⟩ := h
    obtain ⟨g1, g2⟩ := AWg.at h3
    refine ⟨by simp [g1], fun i x' b' hx hb hlt => ?_⟩
    cases i with
    | zero =>
      simp at hx hb
      subst hx; subst hb
      rw [if_pos hlt] at h1
      refine ⟨H[b], List.getElem?_eq_getElem hlt, ?_⟩
      rw [List.getD_eq_getElem?_getD, List.getElem?_eq_getElem hlt] at h1
      exact h1
    | succ i => exact g2 i x' b' (by simpa using hx) (by simpa using hb) hlt

theorem AWh.toG {rn : List Nat} {H : AHeap} : ∀ {xs : AHeap} {bs : List Nat}, AWh rn H xs bs → AWg rn H xs bs
  | [], bs, h => by cases bs <;> simp_all [AWh, AWg]
  | x :: xs, bs, h => by
    cases bs <;> simp only [AWh] at h
    obtain ⟨h1, h2, h3⟩ := h
    exact ⟨by rw [if_pos h2]; exact h1, h3.toG⟩

/-- A state, told with less, its first n blocks where they were. -/
structure Weak (n : Nat) (F : List AV) (H : AHeap) (Fn : List AV) (Hn : AHeap) : Prop where
  rn : ∃ rn : List Nat, rn.Nodup ∧ n ≤ rn.length ∧ (∀ b, b < n → rn[b]? = some b) ∧ AWs rn Fn F ∧ AWg rn H Hn rn

theorem Weak.mk' {n : Nat} {F : List AV} {H : AHeap} {Fn : List AV} {Hn : AHeap} (rn : List Nat) (h1 : rn.Nodup) (h2 : rn.take n = List.range n) (h3 : AWs rn Fn F) (h4 : AWg rn H Hn rn) : Weak n F H Fn Hn := by
  have hl : n ≤ rn.length := by
    have := congrArg List.length h2
    simp at this
    omega
  refine ⟨rn, h1, hl, fun b hb => ?_, h3, h4⟩
  have : (rn.take n)[b]? = (List.range n)[b]? := by rw [h2]
  rw [List.getElem?_take, if_pos hb] at this
  rw [this]
  simp [hb]

theorem R.ren {j : Inj} {H Hn : AHeap} {w : World} (h : R j H w) {rn : List Nat} (hnd : rn.Nodup) (hh : AWg rn H Hn rn) : R (jren rn j) Hn w := by
  obtain ⟨hl, hat⟩ := hh.at
  have hget : ∀ b p, jren rn j b = some p → ∃ b', rn[b]? = some b' ∧ j b' = some p := fun b p hp => Option.bind_eq_some_iff.1 hp
  have hlt : ∀ b' p, j b' = some p → b' < H.length := by
    intro b' p hp
    rcases Nat.lt_or_ge b' H.length with h1 | h1
    · exact h1
    · rw [h.dom b' h1] at hp; cases hp
  refine ⟨fun b hb => ?_, fun b x p hb hp => ?_, fun b b' yb x p p' hb hyb hb' hd hne hp hp' => ?_⟩
  · simp [jren, List.getElem?_eq_none (show rn.length ≤ b by omega)]
  · obtain ⟨b', h1, h2⟩ := hget b p hp
    obtain ⟨y, hy, hw⟩ := hat b x b' hb h1 (hlt b' p h2)
    exact hw.ok (h.blk b' y p hy h2)
  · obtain ⟨c, h1, h2⟩ := hget b p hp
    obtain ⟨c', k1, k2⟩ := hget b' p' hp'
    obtain ⟨y, hy, hw⟩ := hat b _ c hb h1 (hlt c p h2)
    obtain ⟨y', hy', hw'⟩ := hat b' _ c' hb' k1 (hlt c' p' k2)
    have hcc : c ≠ c' := by
      intro e
      subst e
      have hlt : b < rn.length := (List.getElem?_eq_some_iff.1 h1).1
      exact hne ((List.getElem?_inj hlt hnd).1 (h1.trans k1.symm))
    exact h.inj c c' y y' p p' hy (hw.own hyb) hy' (hw'.nd hd) hcc h2 k2

theorem Weak.step {n m : Nat} {F Fn : List AV} {H Hn H0 : AHeap} {j0 j : Inj} {w0 w : World} (h : Weak n F H Fn Hn) (hm : m ≤ n) (hs : Step m j0 H0 w0 j H w) {vs : List Value} (hF : VRs j F vs) :
    ∃ j', Step m j0 H0 w0 j' Hn w ∧ VRs j' Fn vs := by
  obtain ⟨rn, h1, h2, h3, h4, h5⟩ := h
  obtain ⟨hl, hat⟩ := h5.at
  refine ⟨jren rn j, ⟨hs.rel.ren h1 h5, fun b hb => ?_, by omega, hs.keeps, fun b yb p hb hyb hp => ?_⟩, AWs.ok _ _ _ h4 hF⟩
  · rw [← hs.ext b hb]
    simp [jren, h3 b (by omega)]
  · obtain ⟨c, k1, k2⟩ := Option.bind_eq_some_iff.1 hp
    have hc : c < H.length := by
      rcases Nat.lt_or_ge c H.length with g1 | g1
      · exact g1
      · rw [hs.rel.dom c g1] at k2; cases k2
    obtain ⟨y, hy, hw⟩ := hat b _ c hb k1 hc
    exact hs.fresh c y p hy (hw.own hyb) k2

/-- From a state that says less. -/
theorem Sim.weak {P : Program} {r : Option Nat} {n0 : Nat} {c : Code} {F Fn : List AV} {H Hn : AHeap} {Q : AX → List AV → AHeap → Prop} (hw : Weak n0 F H Fn Hn) (hn : n0 ≤ H.length) (h : Sim P r n0 c Fn Hn Q) : Sim P r n0 c F H Q := by
  intro B j w a m hB hR hF hd
  obtain ⟨j', hs, hF'⟩ := hw.step (Nat.le_refl _) (Step.refl hR hn) hF
  refine wpIn_mono (h B j' w a m hB hs.rel hF' hd) ?_
  rintro e a' w' ⟨x, F', H', j2, h1, h2, h3, h4, h5⟩
  exact ⟨x, F', H', j2, h1, h2, h3, h4, hs.trans h5 (Nat.le_refl _)⟩

def resOne (P : Program) (F : List AV) (H : AHeap) : ResultVar → Option AV
  | .tmp t => some (F.getD t undefA)
  | .cell a t => loadA P H t (F.getD a undefA)

def resList (P : Program) (F : List AV) (H : AHeap) : List ResultVar → Option (List AV)
  | [] => some []
  | x :: xs => match resOne P F H x, resList P F H xs with
    | some v, some vs => some (v :: vs)
    | _, _ => none

/-- What a function returns. -/
def resA (P : Program) (rs : List ResultVar) (F : List AV) (H : AHeap) : Option AV :=
  match resList P F H rs with
  | some [v] => some v
  | some vs => some (.tuple vs)
  | none => none

theorem tmp_ok {j : Inj} {F : List AV} {tmps : Array Value} (h : VRs j F tmps.toList) (t : Nat) : VR j (F.getD t undefA) (tmps.getD t undef) :=
  ev_ok (a := { tmps, defers := [] }) h (.tmp t)

def resVal (tmps : Array Value) : ResultVar → Sem Value
  | .tmp t => pure (tmps.getD t undef)
  | .cell a t => do loadVar t (← asAddr (tmps.getD a undef))

theorem resOne_ok {P : Program} {j : Inj} {F : List AV} {H : AHeap} {w : World} (hR : R j H w) {tmps : Array Value} (hF : VRs j F tmps.toList) {x : ResultVar} {v : AV} (h : resOne P F H x = some v) :
    ∃ cv, Sem.run P (resVal tmps x) w = .ok cv w ∧ VR j v cv := by
  cases x with
  | tmp t => cases h; exact ⟨_, rfl, tmp_ok hF t⟩
  | cell a t =>
    simp only [resOne] at h
    have ha := tmp_ok hF a
    obtain ⟨cv, h1, h2⟩ := loadA_ok hR h ha
    refine ⟨cv, ?_, h2⟩
    unfold Instr.loadAt at h1
    have hp : ∃ b off, F.getD a undefA = .ptr b off := by
      unfold loadA at h
      split at h
      · rename_i b off e; exact ⟨b, off, e⟩
      · cases h
    obtain ⟨b, off, e⟩ := hp
    rw [e] at ha
    simp only [VR] at ha
    obtain ⟨p, hp, hv⟩ := ha
    show Sem.run P (do loadVar t (← asAddr (tmps.getD a undef))) w = _
    rw [hv] at h1 ⊢
    exact h1

theorem resList_ok {P : Program} {j : Inj} {F : List AV} {H : AHeap} {w : World} (hR : R j H w) {tmps : Array Value} (hF : VRs j F tmps.toList) : ∀ {xs : List ResultVar} {vs : List AV}, resList P F H xs = some vs →
    ∃ cvs, Sem.run P (xs.mapM (resVal tmps)) w = .ok cvs w ∧ VRs j vs cvs
  | [], vs, h => by cases h; exact ⟨[], rfl, rfl⟩
  | x :: xs, vs, h => by
    unfold resList at h
    split at h
    · rename_i v vs' h1 h2
      cases h
      obtain ⟨cv, g1, g2⟩ := resOne_ok hR hF h1
      obtain ⟨cvs, k1, k2⟩ := resList_ok hR hF h2
      refine ⟨cv :: cvs, ?_, cv, cvs, rfl, g2, k2⟩
      rw [List.mapM_cons, rb g1, rb k1]
      rfl
    · cases h

theorem resA_ok {P : Program} {j : Inj} {F : List AV} {H : AHeap} {w : World} (hR : R j H w) {tmps : Array Value} (hF : VRs j F tmps.toList) {fn : Func} {v : AV} (h : resA P fn.results.toList F H = some v) :
    ∃ cv, (results fn tmps).run P w = .ok cv w ∧ VR j v cv := by
  have run : ∀ vs, resList P F H fn.results.toList = some vs → ∃ cvs, VRs j vs cvs ∧ (results fn tmps).run P w = .ok (if h : cvs.toArray.size = 1 then cvs.toArray[0] else .tuple cvs.toArray) w := by
    intro vs hvs
    obtain ⟨cvs, h1, h2⟩ := resList_ok hR hF hvs
    refine ⟨cvs, h2, ?_⟩
    show Sem.run P (fn.results.mapM (resVal tmps) >>= fun vs => pure (if h : vs.size = 1 then vs[0] else .tuple vs)) w = _
    have e : Sem.run P (fn.results.mapM (resVal tmps)) w = .ok cvs.toArray w := by
      rw [Array.mapM_eq_mapM_toList]
      show Sem.run P (List.toArray <$> fn.results.toList.mapM _) w = _
      rw [map_eq_pure_bind, rb h1]
      rfl
    rw [rb e]
    rfl
  unfold resA at h
  split at h
  · rename_i v' hv
    cases h
    obtain ⟨cvs, h1, h2⟩ := run _ hv
    simp only [VRs] at h1
    obtain ⟨c, ws, rfl, h3, rfl⟩ := h1
    exact ⟨c, by rw [h2]; rfl, h3⟩
  · rename_i vs hne hv
    cases h
    obtain ⟨cvs, h1, h2⟩ := run _ hv
    refine ⟨.tuple cvs.toArray, ?_, cvs.toArray, rfl, by simpa using h1⟩
    rw [h2, dif_neg]
    have hl := h1.length
    simp
    rw [← hl]
    intro e1
    match vs, e1 with
    | [x], _ => exact hne x rfl
  · cases h

/-- The marks are come to. -/
def shut : List Nat → World → World
  | [], w => w
  | D :: Ds, w => shut Ds (w.putObj D (.deferred none))

theorem step_shut {n : Nat} {j0 j : Inj} {H0 H : AHeap} {w0 : World} : ∀ (Ds : List Nat) (w : World), Step n j0 H0 w0 j H w → Ds.Nodup → (∀ D ∈ Ds, w0.heap.size ≤ D ∧ w.heap[D]? = some (.deferred (some []))) → Step n j0 H0 w0 j H (shut Ds w)
  | [], w, hs, _, _ => hs
  | D :: Ds, w, hs, hn, hd => by
    obtain ⟨hd1, hd2⟩ := hd D (List.mem_cons_self)
    refine step_shut Ds _ ?_ (List.nodup_cons.1 hn).2 fun D' hD' => ?_
    · refine ⟨⟨hs.rel.dom, fun b x p hb hp => (hs.rel.blk b x p hb hp).mono (JLe.refl j) fun hx => World.putObj_heap_other ?_, hs.rel.inj⟩, hs.ext, hs.len, ⟨hs.keeps.os, hs.keeps.tape, hs.keeps.output, by simpa using hs.keeps.size, fun c hc ho => ?_⟩, hs.fresh⟩
      · rintro rfl
        have hbr := hs.rel.blk b x p hb hp
        cases x with
        | dead => exact absurd rfl hx
        | cells o l => obtain ⟨cs, T, fz, g, _⟩ := hbr; rw [g] at hd2; cases hd2
        | loop _ _ _ _ _ _ => obtain ⟨_, _, _, g, _⟩ := hbr; rw [g] at hd2; cases hd2
        | map _ => obtain ⟨_, _, g, _⟩ := hbr; rw [g] at hd2; cases hd2
      · rw [World.putObj_heap_other (by omega)]; exact hs.keeps.block c hc ho
    · refine ⟨(hd D' (List.mem_cons_of_mem _ hD')).1, ?_⟩
      rw [World.putObj_heap_other (show D' ≠ D from fun e => (List.nodup_cons.1 hn).1 (by rw [← e]; exact hD'))]
      exact (hd D' (List.mem_cons_of_mem _ hD')).2

theorem leaves_shut {F : Fence} {n : Nat} {P : Program} {fn : Func} {tmps : Array Value} {R : Ending → World → Prop} : ∀ (Ds : List Nat) (w : World), Ds.Nodup → (∀ D ∈ Ds, w.heap[D]? = some (.deferred (some []))) →
    (∃ v, (results fn tmps).run P (shut Ds w) = .ok v (shut Ds w) ∧ R (.returned v) (shut Ds w)) → LeavesInM F n P fn tmps R (Ds.map amark) .returning w
  | [], w, _, _, h => h
  | D :: Ds, w, hn, hd, h => by
    refine ⟨by simp, .inl ⟨D, w.putObj D (.deferred none), rfl, run_takeDeferred (hd D (List.mem_cons_self)), ?_⟩⟩
    refine leaves_shut Ds _ (List.nodup_cons.1 hn).2 (fun D' hD' => ?_) h
    rw [World.putObj_heap_other (show D' ≠ D from fun e => (List.nodup_cons.1 hn).1 (by rw [← e]; exact hD'))]
    exact hd D' (List.mem_cons_of_mem _ hD')

/-- The end of a function's body. -/
theorem body_end {P : Program} {fn : Func} {F1 : List AV} {H H1 : AHeap} {v1 : AV} {j j' : Inj} {w w' : World} {a' : Act} {n : Nat} {x : AX} (hx : x = .normal ∨ x = .ret) (hv1 : resA P fn.results.toList F1 H1 = some v1) (h3 : VRs j' F1 a'.tmps.toList) (h4 : DefOk w.heap.size w' a'.defers)
    (h5 : Step H.length j H w j' H1 w') {R : Ending → World → Prop} (hR : ∀ cv w2, VR j' v1 cv → Step H.length j H w j' H1 w2 → R (.returned cv) w2) : bodyPostM (FW none) n P fn R (AX.toExit x) a' w' := by
  obtain ⟨Ds, e, hn, hd⟩ := h4
  have hs := step_shut Ds w' h5 hn hd
  obtain ⟨cv, g1, g2⟩ := resA_ok hs.rel h3 hv1
  have := leaves_shut (F := FW none) (n := n) (P := P) (fn := fn) (tmps := a'.tmps) (R := R) Ds w' hn (fun D hD => (hd D hD).2) ⟨cv, g1, hR cv _ g2 hs⟩
  rcases hx with rfl | rfl
  · show LeavesInM (FW none) n P fn a'.tmps R a'.defers .returning w'
    rw [e]; exact this
  · show LeavesInM (FW none) n P fn a'.tmps R a'.defers .returning w'
    rw [e]; exact this

/-- A function's contract out of what is shown of its body. -/
theorem ct_of_sim {P : Program} {f : FuncId} {fn : Func} {c : Code} (hf : P.funcs[f]? = some fn) (hb : fn.body = some c) {args : List AV} {H H' : AHeap} {v : AV}
    (h : Sim P none H.length c (args ++ List.replicate (fn.ntmps - args.length) undefA) H fun x F1 H1 => (x = .normal ∨ x = .ret) ∧ ∃ v1, resA P fn.results.toList F1 H1 = some v1 ∧ Weak H.length [v1] H1 [v] H') : Ct P f args H v H' := by
  intro j w cargs hR hargs
  refine (callsIn_wide (n := 0)).1 ?_
  refine callsIn_of_wp_marks hf hb trivial ?_ rfl
  have hl := hargs.length
  have hF : VRs j (args ++ List.replicate (fn.ntmps - args.length) undefA) (cargs ++ Array.replicate (fn.ntmps - cargs.size) undef).toList := by
    rw [Array.toList_append, Array.toList_replicate, hl, Array.length_toList]
    exact hargs.append (VRs.replicate (v := undef) (show VR j undefA undef from ⟨#[], rfl, rfl⟩) _)
  refine wpIn_mono (h w.heap.size j w { tmps := cargs ++ Array.replicate (fn.ntmps - cargs.size) undef, defers := [] } 0 (Nat.le_refl _) hR hF (DefOk.nil _ _)) ?_
  rintro e a' w' ⟨x, F', H1, j', rfl, ⟨hx, v1, hv1, hw⟩, h3, h4, h5⟩
  refine body_end hx hv1 h3 h4 h5 fun cv w2 g2 hs => ?_
  obtain ⟨j2, k1, k2⟩ := hw.step (Nat.le_refl _) hs (vs := [cv]) ⟨cv, [], rfl, g2, rfl⟩
  simp only [VRs] at k2
  obtain ⟨_, _, e, k3, _⟩ := k2
  cases e
  exact ⟨cv, j2, rfl, k3, k1⟩

end Go.Proofs.Ytbbgmaklmlagcaa
