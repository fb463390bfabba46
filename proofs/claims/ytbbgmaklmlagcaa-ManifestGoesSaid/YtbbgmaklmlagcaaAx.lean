/- Contracts in use: equal values, windows of blocks, call tables. -/
import Derived.Test.YtbbgmaklmlagcaaAu
namespace Go.Proofs.Ytbbgmaklmlagcaa

mutual
def avEq : AV → AV → Bool
  | .top, .top => true
  | .bool a, .bool b => a == b
  | .int k n, .int k' n' => k == k' && n == n'
  | .str s, .str s' => s == s'
  | .ptr b o, .ptr b' o' => b == b' && o == o'
  | .nilp, .nilp => true
  | .slice b o l sz c, .slice b' o' l' sz' c' => b == b' && o == o' && l == l' && sz == sz' && c == c'
  | .sl b o l sz c, .sl b' o' l' sz' c' => b == b' && o == o' && l == l' && sz == sz' && c == c'
  | .nils, .nils => true
  | .map b, .map b' => b == b'
  | .nilm, .nilm => true
  | .func f xs ys, .func f' xs' ys' => f == f' && avsEq xs xs' && avsEq ys ys'
  | .yld b, .yld b' => b == b'
  | .nilf, .nilf => true
  | .agg l, .agg l' => avsEq l l'
  | .tuple l, .tuple l' => avsEq l l'
  | _, _ => false
def avsEq : List AV → List AV → Bool
  | [], [] => true
  | x :: xs, y :: ys => avEq x y && avsEq xs ys
  | _, _ => false
end

mutual
theorem avEq_eq : ∀ {x y : AV}, avEq x y = true → x = y
  | .top, y, h => by cases y <;> simp_all [avEq]
  | .bool b, y, h => by cases y <;> simp_all [avEq]
  | .int k n, y, h => by cases y <;> simp_all [avEq]
  | .str s, y, h => by cases y <;> simp_all [avEq]
  | .ptr b o, y, h => by cases y <;> simp_all [avEq]
  | .nilp, y, h => by cases y <;> simp_all [avEq]
  | .slice b o l sz c, y, h => by cases y <;> simp_all [avEq]
  | .sl b o l sz c, y, h => by cases y <;> simp_all [avEq]
  | .nils, y, h => by cases y <;> simp_all [avEq]
  | .map b, y, h => by cases y <;> simp_all [avEq]
  | .nilm, y, h => by cases y <;> simp_all [avEq]
  | .func f xs ys, y, h => by
    cases y <;> simp only [avEq, Bool.false_eq_true] at h
    simp only [Bool.and_eq_true, beq_iff_eq] at h
    rw [h.1.1, avsEq_eq h.1.2, avsEq_eq h.2]
  | .yld b, y, h => by cases y <;> simp_all [avEq]
  | .nilf, y, h => by cases y <;> simp_all [avEq]
  | .agg l, y, h => by
    cases y <;> simp only [avEq, Bool.false_eq_true] at h
    rw [avsEq_eq h]
  | .tuple l, y, h => by
    cases y <;> simp only [avEq, Bool.false_eq_true] at h
    rw [avsEq_eq h]
theorem avsEq_eq : ∀ {xs ys : List AV}, avsEq xs ys = true → xs = ys
  | [], ys, h => by cases ys <;> simp_all [avsEq]
  | x :: xs, ys, h => by
    cases ys <;> simp only [avsEq, Bool.false_eq_true] at h
    simp only [Bool.and_eq_true] at h
    rw [avEq_eq h.1, avsEq_eq h.2]
end

mutual
theorem avEq_refl : ∀ (x : AV), avEq x x = true
  | .top | .nilp | .nils | .nilm | .nilf => rfl
  | .bool b => by simp [avEq]
  | .int k n => by simp [avEq]
  | .str s => by simp [avEq]
  | .ptr b o => by simp [avEq]
  | .slice b o l sz c => by simp [avEq]
  | .sl b o l sz c => by simp [avEq]
  | .map b => by simp [avEq]
  | .func f xs ys => by simp [avEq, avsEq_refl xs, avsEq_refl ys]
  | .yld b => by simp [avEq]
  | .agg l => by simp [avEq, avsEq_refl l]
  | .tuple l => by simp [avEq, avsEq_refl l]
theorem avsEq_refl : ∀ (xs : List AV), avsEq xs xs = true
  | [] => rfl
  | x :: xs => by simp [avsEq, avEq_refl x, avsEq_refl xs]
end

attribute [simp] avEq_refl avsEq_refl

def blkEq : ABlk → ABlk → Bool
  | .dead, .dead => true
  | .cells o l, .cells o' l' => o == o' && avsEq l l'
  | .map es, .map es' => avsEq (es.map (·.1)) (es'.map (·.1)) && avsEq (es.map (·.2)) (es'.map (·.2))
  | _, _ => false

def heapEq : AHeap → AHeap → Bool
  | [], [] => true
  | x :: xs, y :: ys => blkEq x y && heapEq xs ys
  | _, _ => false

theorem pairs_eq : ∀ {es es' : List (AV × AV)}, es.map (·.1) = es'.map (·.1) → es.map (·.2) = es'.map (·.2) → es = es'
  | [], [], _, _ => rfl
  | (a, b) :: es, (c, d) :: es', h1, h2 => by
    simp only [List.map_cons, List.cons.injEq] at h1 h2
    rw [h1.1, h2.1, pairs_eq h1.2 h2.2]
  | [], _ :: _, h, _ => by simp at h
  | _ :: _, [], h, _ => by simp at h

theorem blkEq_eq {x y : ABlk} (h : blkEq x y = true) : x = y := by
  cases x <;> cases y <;> simp only [blkEq, Bool.false_eq_true, Bool.and_eq_true, beq_iff_eq] at h
  · rfl
  · rw [h.1, avsEq_eq h.2]
  · rw [pairs_eq (avsEq_eq h.1) (avsEq_eq h.2)]

theorem heapEq_eq : ∀ {xs ys : AHeap}, heapEq xs ys = true → xs = ys
  | [], ys, h => by cases ys <;> simp_all [heapEq]
  | x :: xs, ys, h => by
    cases ys <;> simp only [heapEq, Bool.false_eq_true] at h
    simp only [Bool.and_eq_true] at h
    rw [blkEq_eq h.1, heapEq_eq h.2]

attribute [simp] heapEq

/-- The summary of one call. -/
def onceS (args0 : List AV) (H0 : AHeap) (v : AV) (H1 : AHeap) (W : List Nat) : Summ := fun args H => if avsEq args args0 && heapEq H H0 then some (v, H1, W) else none

theorem sound_once {P : Program} {f : FuncId} {args0 : List AV} {H0 H1 : AHeap} {v : AV} {W : List Nat} (he : ∀ cargs w, (callFunc f cargs).run P w = .ok (.enter f cargs) w) (h : Ct P f args0 H0 v H1) (hl : H0.length ≤ H1.length) (hk : ∀ b, b < H0.length → b ∉ W → H1[b]? = H0[b]?) :
    Sound P f (onceS args0 H0 v H1 W) := by
  refine ⟨he, fun args H v' H' W' hs => ?_, fun args H v' H' W' hs => ?_⟩ <;> (unfold onceS at hs; split at hs <;> cases hs) <;> (rename_i hc; simp only [Bool.and_eq_true] at hc; obtain ⟨h1, h2⟩ := hc; have e1 := avsEq_eq h1; have e2 := heapEq_eq h2; subst e1; subst e2)
  · exact h
  · exact ⟨hl, hk⟩

/-- Several summaries of one function, or of several ones: the first that knows it. -/
def gams : List (FuncId × Summ) → Gam
  | [], _, _, _ => none
  | (g, s) :: l, f, args, H => if f = g then (match s args H with | some r => some r | none => gams l f args H) else gams l f args H

theorem goks_nil {P : Program} : GOk P (gams []) := ⟨fun _ _ ⟨_, _, _, h⟩ => by simp [gams] at h, fun _ _ _ _ _ _ h => by simp [gams] at h⟩

theorem goks_cons {P : Program} {g : FuncId} {s : Summ} {l : List (FuncId × Summ)} (h : Sound P g s) (hl : GOk P (gams l)) (hg : g ≠ yl := by decide) : GOk P (gams ((g, s) :: l)) := by
  refine ⟨fun f hne hf => ?_, ?_⟩
  · by_cases e : f = g
    · subst e
      refine ⟨h.enter, fun args H v H' W hs => ?_, fun args H v H' W hs => ?_⟩ <;> (simp only [gams, if_true] at hs; split at hs)
      · rename_i r hr
        cases hs
        exact h.ct _ _ _ _ _ hr
      · exact (hl.1 f hne ⟨_, _, _, hs⟩).ct _ _ _ _ _ hs
      · rename_i r hr
        cases hs
        exact h.keep _ _ _ _ _ hr
      · exact (hl.1 f hne ⟨_, _, _, hs⟩).keep _ _ _ _ _ hs
    · have : gams ((g, s) :: l) f = gams l f := by funext args H; simp [gams, e]
      rw [this] at hf ⊢
      exact hl.1 f hne hf
  · have : gams ((g, s) :: l) yl = gams l yl := by funext args H; simp only [gams]; rw [if_neg (Ne.symm hg)]
    rw [this]
    exact hl.2

/-! Windows -/

mutual
/-- A slice of a window's own, for a slice of a part of a block; in aggregates too. -/
def winA (wd : List (Nat × Nat)) : AV → AV → Prop
  | .slice i 0 n sz false, .slice b off n' sz' _ => wd[i]? = some (b, off) ∧ n = n' ∧ sz = sz'
  | .sl i 0 n sz false, .slice b off n' sz' _ => wd[i]? = some (b, off) ∧ n = n' ∧ sz = sz'
  | .sl i 0 n sz false, .sl b off n' sz' _ => wd[i]? = some (b, off) ∧ n = n' ∧ sz = sz'
  | .sl _ 0 n _ false, .nils => n = 0
  | .agg xs, .agg ys => winAs wd xs ys
  | x, y => x = y ∧ free x = true
def winAs (wd : List (Nat × Nat)) : List AV → List AV → Prop
  | [], [] => True
  | x :: xs, y :: ys => winA wd x y ∧ winAs wd xs ys
  | _, _ => False
end

mutual
theorem winA_ok {wd : List (Nat × Nat)} {j j0 : Inj} (hj : ∀ i b off p, wd[i]? = some (b, off) → j b = some p → j0 i = some ⟨p.blk, p.base + off, p.size⟩) : ∀ (x y : AV) (v : Value), winA wd x y → VR j y v → VR j0 x v
  | x, y, v, hw, h1 => by
    unfold winA at hw
    split at hw
    · rename_i i n sz b off n' sz' c
      obtain ⟨w1, rfl, rfl⟩ := hw
      simp only [VR] at h1 ⊢
      obtain ⟨p, a, cap, hp, e1, e2, e3, e4, e5⟩ := h1
      refine ⟨⟨p.blk, p.base + off, p.size⟩, a, cap, hj _ _ _ _ w1 hp, e1, e2, (fun hh => by cases hh), e4, ?_⟩
      rcases e5 with e5 | ⟨e5, e6⟩
      · exact .inl e5
      · exact .inr ⟨by rw [e5]; simp, by simpa using e6⟩
    · rename_i i n sz b off n' sz' c
      obtain ⟨w1, rfl, rfl⟩ := hw
      simp only [VR] at h1 ⊢
      obtain ⟨p, a, cap, hp, e1, e2, e3, e4, e5⟩ := h1
      refine .inr ⟨⟨p.blk, p.base + off, p.size⟩, a, cap, hj _ _ _ _ w1 hp, e1, e2, (fun hh => by cases hh), e4, ?_⟩
      rcases e5 with e5 | ⟨e5, e6⟩
      · exact .inl e5
      · exact .inr ⟨by rw [e5]; simp, by simpa using e6⟩
    · rename_i i n sz b off n' sz' c
      obtain ⟨w1, rfl, rfl⟩ := hw
      simp only [VR] at h1 ⊢
      rcases h1 with h1 | ⟨p, a, cap, hp, e1, e2, e3, e4, e5⟩
      · exact .inl h1
      refine .inr ⟨⟨p.blk, p.base + off, p.size⟩, a, cap, hj _ _ _ _ w1 hp, e1, e2, (fun hh => by cases hh), e4, ?_⟩
      rcases e5 with e5 | ⟨e5, e6⟩
      · exact .inl e5
      · exact .inr ⟨by rw [e5]; simp, by simpa using e6⟩
    · subst hw
      simp only [VR] at h1 ⊢
      exact .inl ⟨trivial, h1⟩
    · rename_i xs ys
      simp only [VR] at h1 ⊢
      obtain ⟨cs, e, g⟩ := h1
      exact ⟨cs, e, winAs_ok hj xs ys _ hw g⟩
    · obtain ⟨rfl, hf⟩ := hw
      exact VR.free _ _ hf h1
theorem winAs_ok {wd : List (Nat × Nat)} {j j0 : Inj} (hj : ∀ i b off p, wd[i]? = some (b, off) → j b = some p → j0 i = some ⟨p.blk, p.base + off, p.size⟩) : ∀ (xs ys : List AV) (vs : List Value), winAs wd xs ys → VRs j ys vs → VRs j0 xs vs
  | [], ys, vs, h, hv => by cases ys <;> simp_all [winAs, VRs]
  | x :: xs, ys, vs, h, hv => by
    cases ys with
    | nil => simp [winAs] at h
    | cons y ys =>
      simp only [winAs] at h
      simp only [VRs] at hv ⊢
      obtain ⟨u, us, e, h1, h2⟩ := hv
      exact ⟨u, us, e, winA_ok hj x y u h.1 h1, winAs_ok hj xs ys us h.2 h2⟩
end

/-- The windows, as blocks of their own. -/
def winH (H : AHeap) : AHeap → List (Nat × Nat) → Prop
  | [], [] => True
  | .cells false l0 :: xs, (b, off) :: wd => (match H[b]? with | some (.cells _ l) => off + l0.length ≤ l.length ∧ l0 = (l.drop off).take l0.length | none => True | _ => False) ∧ frees l0 = true ∧ winH H xs wd
  | _, _ => False

theorem winH.at {H : AHeap} : ∀ {xs : AHeap} {wd : List (Nat × Nat)}, winH H xs wd → xs.length = wd.length ∧ ∀ (i : Nat) x b off, xs[i]? = some x → wd[i]? = some (b, off) →
    (∃ l0, x = .cells false l0) ∧ ∀ y, H[b]? = some y → ∃ l0 o l, x = .cells false l0 ∧ H[b]? = some (.cells o l) ∧ off + l0.length ≤ l.length ∧ l0 = (l.drop off).take l0.length ∧ frees l0 = true
  | [], wd, h => by cases wd <;> simp_all [winH]
  | .dead :: xs, wd, h => by simp [winH] at h
  | .cells true l0 :: xs, wd, h => by simp [winH] at h
  | .loop _ _ _ _ _ _ :: xs, wd, h => by simp [winH] at h
  | .map _ :: xs, wd, h => by simp [winH] at h
  | .cells false l0 :: xs, [], h => by simp [winH] at h
  | .cells false l0 :: xs, (b, off) :: wd, h => by
    simp only [winH] at h
    obtain ⟨h1, h2, h3⟩ := h
    obtain ⟨g1, g2⟩ := winH.at h3
    refine ⟨by simp [g1], fun i x b' off' hx hb => ?_⟩
    cases i with
    | zero =>
      simp at hx hb
      obtain ⟨rfl, rfl⟩ := hb
      subst hx
      refine ⟨⟨l0, rfl⟩, fun y hy => ?_⟩
      split at h1
      · rename_i o l hl
        exact ⟨l0, o, l, rfl, hl, h1.1, h1.2, h2⟩
      · rename_i hn; rw [hn] at hy; cases hy
      · exact h1.elim
    | succ i => exact g2 i x b' off' (by simpa using hx) (by simpa using hb)

theorem ct_win {P : Program} {f : FuncId} {args0 args : List AV} {H0 H : AHeap} {v : AV} (h : Ct P f args0 H0 v H0) (hv : free v = true) (wd : List (Nat × Nat)) (ha : winAs wd args0 args) (hH : winH H H0 wd) : Ct P f args H v H := by
  intro j w cargs hR hargs
  obtain ⟨hl, hat⟩ := hH.at
  let j0 : Inj := fun i => match wd[i]? with
    | some (b, off) => (j b).map fun p => ⟨p.blk, p.base + off, p.size⟩
    | none => none
  have hj0 : ∀ i p, j0 i = some p → ∃ b off q, wd[i]? = some (b, off) ∧ j b = some q ∧ p = ⟨q.blk, q.base + off, q.size⟩ := by
    intro i p hp
    simp only [j0] at hp
    split at hp
    · rename_i b off e
      obtain ⟨q, hq, rfl⟩ := Option.map_eq_some_iff.1 hp
      exact ⟨b, off, q, e, hq, rfl⟩
    · cases hp
  have hro : H0.all isRo = true := by
    rw [List.all_eq_true]
    intro x hx
    obtain ⟨i, hi⟩ := List.getElem?_of_mem hx
    have hil : i < wd.length := by rw [← hl]; exact (List.getElem?_eq_some_iff.1 hi).1
    obtain ⟨⟨l0, rfl⟩, _⟩ := hat i x _ _ hi (List.getElem?_eq_getElem hil)
    rfl
  have hR0 : R j0 H0 w := by
    refine ⟨fun b hb => ?_, fun i x p hx hp => ?_, fun i i' yb x p p' hi hyb => ?_⟩
    · simp only [j0]
      rw [List.getElem?_eq_none (show wd.length ≤ b by omega)]
    · obtain ⟨b, off, q, h1, h2, rfl⟩ := hj0 i p hp
      obtain ⟨y0, hy0⟩ := hR.live h2
      obtain ⟨l0, o, l, rfl, hb, h3, h4, h5⟩ := (hat i x b off hx h1).2 y0 hy0
      obtain ⟨cs, T, fz, g1, g2, g3, g4, g5⟩ := hR.blk b _ q hb h2
      refine ⟨cs, T, fz, g1, g2, by dsimp only; omega, fun k z hz => ?_, fun ho => by cases ho⟩
      rw [h4, List.getElem?_take] at hz
      split at hz
      · rw [List.getElem?_drop] at hz
        obtain ⟨v', hv', hr⟩ := g4 _ z hz
        refine ⟨v', by dsimp only; rw [show q.base + off + k = q.base + (off + k) by omega]; exact hv', ?_⟩
        refine VR.free z v' ?_ hr
        refine frees_iff.1 h5 z ?_
        rw [h4]
        refine List.mem_of_getElem? (i := k) ?_
        rw [List.getElem?_take, if_pos ‹_›, List.getElem?_drop]
        exact hz
      · cases hz
    · exact absurd hyb (ro_own (List.all_eq_true.1 hro _ (List.mem_of_getElem? hi)))
  have hargs0 : ∀ (xs ys : List AV) (vs : List Value), winAs wd xs ys → VRs j ys vs → VRs j0 xs vs := winAs_ok fun i b off p h1 h2 => by simp only [j0, h1, h2, Option.map_some]
  refine (h j0 w cargs hR0 (hargs0 _ _ _ ha hargs)).mono ?_
  rintro e w' ⟨cv, j', rfl, h1, h2⟩
  have hk := keeps_all h2.keeps hro
  exact ⟨cv, j, rfl, VR.free v cv hv h1, hR.same hk, fun _ _ => rfl, Nat.le_refl _, ⟨h2.keeps.os, h2.keeps.tape, h2.keeps.output, h2.keeps.size, fun c hc _ => hk c hc⟩, fun b l p hb hy hp => .inr ⟨b, l, p, hb, hy, hp, rfl⟩⟩

/-- Numbers of cells. -/
def natsOf (k : IntKind) : List AV → Option (List Nat)
  | [] => some []
  | .int k' n :: xs => if k' = k ∧ 0 ≤ n then (natsOf k xs).map (n.toNat :: ·) else none
  | _ => none

theorem natsOf_eq {k : IntKind} : ∀ {xs : List AV} {l : List Nat}, natsOf k xs = some l → xs = l.map fun n : Nat => .int k (n : Int)
  | [], l, h => by cases h; rfl
  | x :: xs, l, h => by
    unfold natsOf at h
    split at h
    · cases ‹_ = []›
    · rename_i k' n ys e
      cases e
      split at h
      · rename_i hc
        obtain ⟨rfl, hn⟩ := hc
        obtain ⟨l', hl', rfl⟩ := Option.map_eq_some_iff.1 h
        rw [natsOf_eq hl']
        simp only [List.map_cons]
        congr 2
        omega
      · cases h
    · cases h

/-- Texts of cells. -/
def strsOf : List AV → Option (List (List UInt8))
  | [] => some []
  | .str s :: xs => (strsOf xs).map (s :: ·)
  | _ => none

theorem strsOf_eq : ∀ {xs : List AV} {l : List (List UInt8)}, strsOf xs = some l → xs = l.map .str
  | [], l, h => by cases h; rfl
  | x :: xs, l, h => by
    unfold strsOf at h
    split at h
    · cases ‹_ = []›
    · rename_i s ys e
      cases e
      obtain ⟨l', hl', rfl⟩ := Option.map_eq_some_iff.1 h
      rw [strsOf_eq hl']
      rfl
    · cases h

@[simp] theorem natsOf_map (k : IntKind) (l : List Nat) : natsOf k (l.map fun n : Nat => .int k (n : Int)) = some l := by
  induction l with
  | nil => rfl
  | cons n l ih => simp [natsOf, ih]

@[simp] theorem natsOf_aB (l : List Nat) : natsOf .u8 (l.map aB) = some l := natsOf_map .u8 l
@[simp] theorem natsOf_aU (l : List Nat) : natsOf .u64 (l.map aU) = some l := natsOf_map .u64 l
@[simp] theorem strsOf_map (l : List (List UInt8)) : strsOf (l.map .str) = some l := by
  induction l with
  | nil => rfl
  | cons n l ih => simp [strsOf, ih]
@[simp] theorem frees_str (l : List (List UInt8)) : frees (l.map .str) = true := frees_map _ _ fun _ => rfl
@[simp] theorem frees_aB (l : List Nat) : frees (l.map aB) = true := frees_map _ _ fun _ => rfl
@[simp] theorem frees_aU (l : List Nat) : frees (l.map aU) = true := frees_map _ _ fun _ => rfl
@[simp] theorem frees_aW (l : List Nat) : frees (l.map aW) = true := frees_map _ _ fun _ => rfl

/-! The check of a drawn region, on closed data -/

structure QF where
  st : Option (Nat × Nat × Nat)
  rd : Option Nat
  call : Bool
  grows : Bool
  sc : Bool

def QR.fl (q : QR) : QF := ⟨q.st.map fun s => (s.1, s.2.1, s.2.2.length), q.rd, q.call, q.grows, q.sc⟩

def apartF (a b : Nat × Nat × Nat) : Bool := a.1 != b.1 || decide (a.2.1 + a.2.2 ≤ b.2.1) || decide (b.2.1 + b.2.2 ≤ a.2.1)

def pairOkF (before : Bool) (si sk : List Nat) (di dk : Option Nat) (qi qk : QF) : Bool :=
  (match di with
   | some d => !sk.contains d || before
   | none => true) &&
  (match dk with
   | some d => (!si.contains d || before) && dk != di
   | none => true) &&
  (match qi.st with
   | some s => qk.rd != some s.1 && !qk.call && (match qk.st with | some s' => apartF s s' | none => true)
   | none => true) &&
  (match qk.st with
   | some s => (qi.rd != some s.1 || before) && (!qi.call || before)
   | none => true) &&
  (!qi.call || !qk.grows || before || qi.sc)

theorem pairOk_eq (before : Bool) (si sk : List Nat) (di dk : Option Nat) (qi qk : QR) : pairOk before si sk di dk qi qk = pairOkF before si sk di dk qi.fl qk.fl := by
  unfold pairOk pairOkF QR.fl
  cases qi.st <;> cases qk.st <;> rfl

def drawOkF (ops : List Oper) (slots : List (List Nat)) (qs : List QF) (pr : List Nat) : Bool :=
  (List.range ops.length).all fun k =>
    ((ops.getD k default).after.toList.all fun e => !Region.binds .any e || e.on < k) &&
    (List.range k).all fun i =>
      pairOkF ((pr.getD k 0).testBit i) (slots.getD i []) (slots.getD k []) (ops.getD i default).dst (ops.getD k default).dst (qs.getD i ⟨none, none, false, false, false⟩) (qs.getD k ⟨none, none, false, false, false⟩)

theorem getD_fl (qs : List QR) (i : Nat) : (qs.getD i ⟨.top, [], none, none, false, false, false⟩).fl = (qs.map QR.fl).getD i ⟨none, none, false, false, false⟩ := by
  rw [List.getD_eq_getElem?_getD, List.getD_eq_getElem?_getD, List.getElem?_map]
  cases qs[i]? <;> rfl

@[simp] theorem drawOk_eq (ops : List Oper) (slots : List (List Nat)) (qs : List QR) (pr : List Nat) : drawOk ops slots qs pr = drawOkF ops slots (qs.map QR.fl) pr := by
  unfold drawOk drawOkF
  simp only [pairOk_eq, getD_fl]

/-- A function of values, run without memory. -/
theorem ct_val {P : Program} {Γ : Gam} (hm : P.follows .mixedOrders = true) (hΓ : GOk P Γ) {n : Nat} {f : FuncId} {fn : Func} (hf : P.funcs[f]? = some fn) {args : List AV} {v : AV} (h : ∃ H1, runF P Γ n fn args [] = some (v, H1)) (hv : free v = true) : Ct P f args [] v [] := by
  obtain ⟨H1, h⟩ := h
  exact ct_run hm hΓ hf h (weak_pure hv)

@[simp] theorem bytesA_length (s : List UInt8) : (bytesA s).length = s.length := by simp [bytesA]
@[simp] theorem bytesOf_bytesA' (s : List UInt8) : bytesOf (bytesA s) = some s := bytesOf_bytesA s
@[simp] theorem bytesOf_append (s : List UInt8) (l : List AV) : bytesOf (bytesA s ++ l) = (bytesOf l).map (s ++ ·) := by
  induction s with
  | nil => show bytesOf l = _; cases bytesOf l <;> simp
  | cons b s ih =>
    show Option.map (UInt8.ofNat (Int.toNat (b.toNat : Int)) :: ·) (bytesOf (bytesA s ++ l)) = _
    rw [ih]
    cases bytesOf l <;> simp

@[simp] theorem nat_not_neg (n : Nat) : ((n : Int) < 0) ↔ False := ⟨fun h => by omega, fun h => h.elim⟩

@[simp] theorem wr_i64' {n : Int} (h0 : -9223372036854775808 ≤ n) (h : n ≤ 9223372036854775807) : IntKind.i64.wrap n = n := wr_i64 h0 h
@[simp] theorem wr_u64' {n : Int} (h0 : 0 ≤ n) (h : n ≤ 18446744073709551615) : IntKind.u64.wrap n = n := wr_u64 h0 h
@[simp] theorem wr_u32' {n : Int} (h0 : 0 ≤ n) (h : n ≤ 4294967295) : IntKind.u32.wrap n = n := wr_u32 h0 h
@[simp] theorem wr_u8' {n : Int} (h0 : 0 ≤ n) (h : n ≤ 255) : IntKind.u8.wrap n = n := wr_u8 h0 h

attribute [simp] QR.fl mask_get Op.operands Call.operands Region.binds
attribute [simp] onceS gams winA winAs winH natsOf strsOf IntKind.signed IntKind.max

end Go.Proofs.Ytbbgmaklmlagcaa
