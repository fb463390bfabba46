/- A file, as an object: what it is, and how it is opened and closed. -/
import Derived.Test.YtjolihoakdifoaaCa
import Derived.Test.YtjolihoakdifoaaCo
import Derived.Test.YtjolihoakdifoaaLaj
import Derived.Test.YtjolihoakdifoaaGe
namespace Go.Proofs.Ytjolihoakdifoaa
open Go
set_option maxRecDepth 100000

/-- What is done to bytes: some are appended, or they are cut. -/
inductive FAct where
  | add (s : List UInt8)
  | cut (n : Nat)

/-- A file: durable bytes, and what was done since. -/
structure PF where
  d : List UInt8
  acts : List FAct

/-- An act, of what it appends so many bytes at most. -/
def FAct.run (a : FAct) (s : List UInt8) : List UInt8 := match a with
  | .add m => s ++ m
  | .cut n => s.take n

def runs (s : List UInt8) : List FAct → List UInt8
  | [] => s
  | a :: l => runs (a.run s) l

def PF.now (f : PF) : List UInt8 := runs f.d f.acts

/-- Each cut is within the bytes that there are then. -/
def fits (s : List UInt8) : List FAct → Prop
  | [] => True
  | a :: l => (match a with | .add _ => True | .cut n => n ≤ s.length) ∧ fits (a.run s) l

theorem runs_append (s : List UInt8) (l m : List FAct) : runs s (l ++ m) = runs (runs s l) m := by
  induction l generalizing s with
  | nil => rfl
  | cons a l ih => exact ih _
theorem fits_append (s : List UInt8) (l m : List FAct) : fits s (l ++ m) ↔ fits s l ∧ fits (runs s l) m := by
  induction l generalizing s with
  | nil => simp [fits, runs]
  | cons a l ih => simp only [List.cons_append, fits, runs, ih, and_assoc]

def FAct.fn (k : Nat) : FAct → AV
  | .add _ => .func 42 [] [.ptr k 0]
  | .cut _ => .func 85 [] [.ptr k 0]
def FAct.box : FAct → ABlk
  | .add s => .obj false [.cells true [.str s]]
  | .cut n => .obj false [.cells true [.int .i64 n]]
def rowF : Nat → List FAct → List AV
  | _, [] => []
  | k, a :: l => a.fn k :: rowF (k + 1) l
def rowN : List Nat → List FAct → List AV
  | b :: bs, a :: l => a.fn b :: rowN bs l
  | _, _ => []

@[simp] theorem rowF_length : ∀ (l : List FAct) (k : Nat), (rowF k l).length = l.length
  | [], _ => rfl
  | a :: l, k => by simp [rowF, rowF_length l]

theorem rowF_N : ∀ (l : List FAct) (k : Nat), rowF k l = rowN (List.range' k l.length) l
  | [], k => rfl
  | a :: l, k => by simp [rowF, rowN, List.range'_succ, rowF_N l]

theorem rowF_append : ∀ (l m : List FAct) (k : Nat), rowF k (l ++ m) = rowF k l ++ rowF (k + l.length) m
  | [], m, k => by simp [rowF]
  | a :: l, m, k => by
    simp only [List.cons_append, rowF, rowF_append l m, List.length_cons]
    rw [show k + 1 + l.length = k + (l.length + 1) by omega]

theorem rowF_get : ∀ (l : List FAct) (k i : Nat) (h : i < l.length), (rowF k l)[i]? = some (l[i].fn (k + i))
  | a :: l, k, 0, _ => rfl
  | a :: l, k, i + 1, h => by
    simp only [rowF, List.getElem?_cons_succ, List.getElem_cons_succ]
    rw [rowF_get l (k + 1) i (by simpa using h), show k + 1 + i = k + (i + 1) by omega]

/-- The blocks of a file. -/
def PF.blks (f : PF) : AHeap := .cells true [.str f.d, .sl 1 0 f.acts.length 1 false, .str f.now] :: .cells true (rowF 2 f.acts) :: f.acts.map FAct.box

theorem reAs_rowF (g : Nat → Nat) (q : Nat) : ∀ (l : List FAct) (k : Nat), (∀ i, i < l.length → g (k + i) = q + i) → reAs g (rowF k l) = rowF q l
  | [], _, _ => rfl
  | a :: l, k, h => by
    have h0 := h 0 (by simp)
    simp only [Nat.add_zero] at h0
    have ih := reAs_rowF g (q + 1) l (k + 1) fun i hi => by rw [show k + 1 + i = k + (i + 1) by omega, h (i + 1) (by simpa using hi)]; omega
    cases a <;> simp [rowF, FAct.fn, reAs, reA, h0] <;> exact reAs_rowF g (q + 1) l (k + 1) fun i hi => by rw [show k + 1 + i = k + (i + 1) by omega, h (i + 1) (by simpa using hi)]; omega

theorem reB_box (g : Nat → Nat) (a : FAct) : reB g a.box = a.box := by cases a <;> rfl

/-- A file is opened. -/
theorem open_file (f : PF) (T : AHeap) : openH (.obj true f.blks :: T) 0 f.blks = .cells true [.str f.d, .sl (T.length + 1) 0 f.acts.length 1 false, .str f.now] :: (T ++ .cells true (rowF (T.length + 2) f.acts) :: f.acts.map FAct.box) := by
  have e : reAs (openG 0 (T.length + 1)) (rowF 2 f.acts) = rowF (T.length + 2) f.acts := reAs_rowF _ _ _ _ fun i _ => by simp only [openG]; rw [if_neg (by omega)]; omega
  have e2 : f.acts.map (fun a => reB (openG 0 (T.length + 1)) a.box) = f.acts.map FAct.box := by
    apply List.map_congr_left; intro a _; exact reB_box _ a
  have e3 : f.acts.map (reB (openG 0 (T.length + 1)) ∘ FAct.box) = f.acts.map FAct.box := e2
  unfold openH
  simp only [PF.blks, List.length_cons, List.getD_cons_zero, List.set_cons_zero, List.drop_succ_cons, List.drop_zero, List.map_cons, List.map_map, e3]
  have e4 : reB (openG 0 (T.length + 1)) (.cells true (rowF 2 f.acts)) = .cells true (rowF (T.length + 2) f.acts) := by show ABlk.cells true _ = _; rw [e]
  rw [e4]
  simp [reB, reAs, reA, openG]

theorem AWs_rowN (rs : List Nat) : ∀ (l : List FAct) (k : Nat) (bs : List Nat), bs.length = l.length → (∀ i, i < bs.length → rs[k + i]? = bs[i]?) → AWs rs (rowF k l) (rowN bs l)
  | [], k, bs, h, _ => by
    have : bs = [] := List.eq_nil_of_length_eq_zero (by simpa using h)
    subst this; trivial
  | a :: l, k, b :: bs, h, hr => by
    have h0 := hr 0 (by simp)
    simp only [Nat.add_zero, List.getElem?_cons_zero] at h0
    have ih := AWs_rowN rs l (k + 1) bs (by simpa using h) fun i hi => by
      have := hr (i + 1) (by simpa using hi)
      rw [show k + 1 + i = k + (i + 1) by omega, this]; simp
    cases a <;> exact ⟨⟨rfl, trivial, ⟨h0, rfl⟩, trivial⟩, ih⟩
  | a :: l, k, [], h, _ => by simp at h

theorem AWg_boxes (rs : List Nat) (H : AHeap) : ∀ (l : List FAct) (bs : List Nat), bs.length = l.length → (∀ (i b : Nat) (a : FAct), bs[i]? = some b → l[i]? = some a → H[b]? = some a.box) → AWg rs H (l.map FAct.box) bs
  | [], bs, h, _ => by
    have : bs = [] := List.eq_nil_of_length_eq_zero (by simpa using h)
    subst this; trivial
  | a :: l, b :: bs, h, hr => by
    have h0 := hr 0 b a rfl rfl
    simp only [List.map_cons, AWg]
    refine ⟨?_, AWg_boxes rs H l bs (by simpa using h) fun i b a h1 h2 => hr (i + 1) b a (by simpa using h1) (by simpa using h2)⟩
    split
    · rw [List.getD_eq_getElem?_getD, h0]
      cases a <;> exact ⟨rfl, rfl⟩
    · trivial
  | a :: l, [], h, _ => by simp at h

/-- A file is closed. -/
theorem Aft.closeF {n0 : Nat} {F : List AV} {H : AHeap} {K : List AV → AHeap → Prop} (f : PF) (b r1 : Nat) (bs : List Nat) {x : AV} {o : Bool}
    (hb : H[b]? = some (.cells true [.str f.d, x, .str f.now])) (hx : AW (b :: r1 :: bs) (.sl 1 0 f.acts.length 1 false) x)
    (hr : r1 < H.length → H[r1]? = some (.cells true (rowN bs f.acts))) (hl : bs.length = f.acts.length) (hbx : ∀ (i k : Nat) (a : FAct), bs[i]? = some k → f.acts[i]? = some a → H[k]? = some a.box)
    (hnd : (b :: r1 :: bs).Nodup) (hn : n0 ≤ H.length) (h : Aft n0 F (closeH H b [r1] o f.blks) K) : Aft n0 F H K := by
  refine Aft.close (o := o) (b := b) (rs := b :: r1 :: bs) (ks := [r1]) rfl hnd (List.getElem?_eq_some_iff.1 hb).1 ?_ ?_ ⟨_, rfl, rfl⟩ ?_ hn h
  · intro c x hc hcb hx ho
    rcases List.mem_cons.1 hc with e | hc
    · exact absurd e hcb
    rcases List.mem_cons.1 hc with e | hc
    · simp [e]
    obtain ⟨i, hi⟩ := List.getElem?_of_mem hc
    have hil : i < f.acts.length := by rw [← hl]; exact (List.getElem?_eq_some_iff.1 hi).1
    have := hbx i c _ hi (List.getElem?_eq_getElem hil)
    rw [this] at hx
    cases hx
    cases hfa : f.acts[i] <;> rw [hfa] at ho <;> cases ho
  · refine ⟨?_, ?_, AWg_boxes _ _ _ _ hl hbx⟩
    · split
      · rw [List.getD_eq_getElem?_getD, hb]
        exact ⟨fun h => h, rfl, hx, rfl, trivial⟩
      · trivial
    · split
      · rename_i h1
        rw [List.getD_eq_getElem?_getD, hr h1]
        exact ⟨fun h => h, AWs_rowN _ _ _ _ hl fun i _ => by rw [show 2 + i = i + 1 + 1 by omega]; simp⟩
      · trivial
  · intro i y hy hd
    match i, hy with
    | 0, hy => cases hy; rfl
    | 1, hy => cases hy; rfl
    | i + 2, hy =>
      simp only [PF.blks, List.getElem?_cons_succ, List.getElem?_map] at hy
      obtain ⟨a, _, rfl⟩ := Option.map_eq_some_iff.1 hy
      cases a <;> rfl

/-- Which file an object is. -/
def actOf : AV → ABlk → Option FAct
  | .func f _ _, .obj _ [.cells _ [.str s]] => if f = 42 then some (.add s) else none
  | .func f _ _, .obj _ [.cells _ [.int _ n]] => if f = 85 ∧ 0 ≤ n then some (.cut n.toNat) else none
  | _, _ => none
def actsOf : List AV → List ABlk → Option (List FAct)
  | [], [] => some []
  | x :: xs, B :: Bs => match actOf x B, actsOf xs Bs with
    | some a, some l => some (a :: l)
    | _, _ => none
  | _, _ => none
def fileOf : AHeap → Option PF
  | .cells _ (.str d :: _) :: .cells _ row :: bx => (actsOf row bx).map fun l => ⟨d, l⟩
  | _ => none

theorem actsOf_row : ∀ (l : List FAct) (k : Nat), actsOf (rowF k l) (l.map FAct.box) = some l
  | [], _ => rfl
  | a :: l, k => by
    have h : actOf (a.fn k) a.box = some a := by cases a <;> simp [FAct.fn, FAct.box, actOf]
    simp only [rowF, List.map_cons, actsOf, h, actsOf_row l]
@[simp] theorem fileOf_blks (f : PF) : fileOf f.blks = some f := by simp [fileOf, PF.blks, actsOf_row]

theorem rowN_append : ∀ (bs : List Nat) (l : List FAct) (b : Nat) (a : FAct), bs.length = l.length → rowN (bs ++ [b]) (l ++ [a]) = rowN bs l ++ [a.fn b]
  | [], l, b, a, h => by
    have : l = [] := List.eq_nil_of_length_eq_zero (by simpa using h.symm)
    subst this; rfl
  | c :: bs, [], b, a, h => by simp at h
  | c :: bs, x :: l, b, a, h => by simp only [List.cons_append, rowN, rowN_append bs l b a (by simpa using h)]

def PF.did (f : PF) (a : FAct) : PF := ⟨f.d, f.acts ++ [a]⟩

/-- A file with one more act is closed. -/
theorem Aft.closeA {n0 : Nat} {F : List AV} {H : AHeap} {K : List AV → AHeap → Prop} (f : PF) (a : FAct) (b r1 base q : Nat) {x : AV}
    (hb : H[b]? = some (.cells true [.str f.d, x, .str (a.run f.now)])) (hx : AW (b :: r1 :: (List.range' base f.acts.length ++ [q])) (.sl 1 0 (f.acts.length + 1) 1 false) x)
    (hr : H[r1]? = some (.cells true (rowF base f.acts ++ [a.fn q]))) (hX : ∀ (i : Nat) (a' : FAct), f.acts[i]? = some a' → H[base + i]? = some a'.box) (hq : H[q]? = some a.box)
    (hd : b ≠ r1 ∧ b ≠ q ∧ r1 ≠ q ∧ (b < base ∨ base + f.acts.length ≤ b) ∧ (r1 < base ∨ base + f.acts.length ≤ r1) ∧ (q < base ∨ base + f.acts.length ≤ q)) (hn : n0 ≤ H.length)
    (h : Aft n0 F (closeH H b [r1] true (f.did a).blks) K) : Aft n0 F H K := by
  refine Aft.closeF (f.did a) b r1 (List.range' base f.acts.length ++ [q]) (o := true) (x := x) ?_ ?_ ?_ ?_ ?_ ?_ hn h
  · rw [hb]; simp [PF.did, PF.now, runs_append, runs]
  · show AW _ (.sl 1 0 (f.acts ++ [a]).length 1 false) x
    rw [List.length_append]; exact hx
  · intro _
    rw [hr]
    simp only [PF.did]
    rw [rowN_append _ _ _ _ (by simp), ← rowF_N]
  · simp [PF.did]
  · intro i k a' h1 h2
    simp only [PF.did] at h2
    rcases Nat.lt_or_ge i f.acts.length with h3 | h3
    · rw [List.getElem?_append_left (by simpa using h3), List.getElem?_range' h3] at h1
      rw [List.getElem?_append_left h3] at h2
      simp only [Nat.one_mul, Option.some.injEq] at h1
      subst h1
      exact hX i a' h2
    · have h4 : i = f.acts.length := by
        have := (List.getElem?_eq_some_iff.1 h1).1
        simp at this; omega
      subst h4
      rw [List.getElem?_append_right (by simp)] at h1
      rw [List.getElem?_append_right (by omega)] at h2
      simp at h1 h2
      subst h1; subst h2
      exact hq
  · simp only [List.nodup_cons, List.mem_cons, List.mem_append, List.mem_range'_1, List.not_mem_nil, or_false]
    refine ⟨by omega, by omega, ?_⟩
    rw [List.nodup_append]
    refine ⟨List.nodup_range', by simp, ?_⟩
    intro x hx y hy
    simp only [List.mem_range'_1, List.mem_singleton] at hx hy
    omega

end Go.Proofs.Ytjolihoakdifoaa
