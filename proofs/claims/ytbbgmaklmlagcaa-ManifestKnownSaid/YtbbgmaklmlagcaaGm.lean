/- XMa: Rows of segments, and contracts on them: slices.Equal.
XMb: Rows of segments as summaries read them; slices.Equal, manifest's way.
XMc: Manifests: manifest.Same, the document's Same.
XMp: Manifests, in plain words: what is right.
XMd: Manifests: manifest.Right.
XMe: Rows of segments: slices.Clone, slices.Reverse.
XMf: Manifests: manifest.Compacted and Flushed.
XMg: Manifests, the document's: within, Right, Same.
XMh: Manifests, the document's: Compacted, Flushed.
XMi: Manifests that are made: cedillalaw23's mod and made. -/
import Derived.Test.YtbbgmaklmlagcaaLa
import Derived.Test.YtbbgmaklmlagcaaGd
import Derived.Test.YtbbgmaklmlagcaaGc
namespace Go.Proofs.Ytbbgmaklmlagcaa
open Go
set_option maxRecDepth 100000
attribute [-simp] drawOk_eq adraw qrun acode aops

/-- A segment: its number, entries, bytes. -/
abbrev Sg := Int × Int × Int

def sgA (s : Sg) : List AV := [.int .i64 s.1, .int .i64 s.2.1, .int .i64 s.2.2]
def sgsA : List Sg → List AV
  | [] => []
  | s :: l => sgA s ++ sgsA l

@[simp] theorem sgsA_length : ∀ l : List Sg, (sgsA l).length = l.length * 3
  | [] => rfl
  | s :: l => by simp [sgsA, sgA, sgsA_length l]; omega

@[simp] theorem frees_sgs : ∀ l : List Sg, frees (sgsA l) = true
  | [] => rfl
  | s :: l => by simp [sgsA, sgA, frees_sgs l]

theorem sgs_get : ∀ (l : List Sg) (k : Nat) (h : k < l.length), ((sgsA l).drop (k * 3)).take 3 = sgA l[k]
  | s :: l, 0, _ => by simp [sgsA, sgA]
  | s :: l, k + 1, h => by
    have := sgs_get l k (by simpa using h)
    rw [show (k + 1) * 3 = k * 3 + 3 by omega]
    simpa [sgsA, sgA] using this

set_option maxHeartbeats 4000000 in
theorem equal_ct (a b : List Sg) (ha : a.length ≤ 1000000000000) :
    Ct Try.prog 65 [.sl 0 0 a.length 3 false, .sl 1 0 b.length 3 false] [.cells false (sgsA a), .cells false (sgsA b)] (.bool (decide (a = b))) [.cells false (sgsA a), .cells false (sgsA b)] := by
  refine ct_of_sim Try.func65 rfl ?_
  simp only [Try.ntmps65, List.length_cons, List.length_nil, Nat.reduceAdd, Nat.reduceSub, List.replicate, List.cons_append, List.nil_append]
  refine Sim.step hmix goks_nil (n := 0) (by simp; exact ⟨rfl, rfl⟩) (by simp) ?_
  by_cases hl : a.length = b.length
  rotate_left
  · have e : decide (a = b) = false := by simp; rintro rfl; exact hl rfl
    rw [e]
    have hl3 : ((a.length : Int) != (b.length : Int)) = true := by simp; omega
    refine Sim.exec hmix goks_nil (n := 0) (by simp [hl3]; exact ⟨rfl, rfl, rfl⟩) (by simp) ?_
    exact ⟨.inr rfl, _, by simp; rfl, Weak.mk' [0, 1] (by decide) (by decide) (by simp) (by simp)⟩
  refine Sim.step hmix goks_nil (n := 0) (by simp [hl]; exact ⟨rfl, rfl⟩) (by simp) ?_
  refine Sim.seq (Sim.step hmix goks_nil (n := 0) (by simp; exact ⟨rfl, rfl⟩) (by simp) ?_)
  refine Sim.block (Sim.loopW (fun k : Nat => k ≤ a.length ∧ a.take k = b.take k)
    (fun k => [.sl 0 0 a.length 3 false, .sl 1 0 b.length 3 false, .top, .top, .bool false, .top, .top, .top, .top, .top, .top, .top, .int .i64 a.length, .int .i64 k] ++ List.replicate 12 .top)
    (fun _ => [.cells false (sgsA a), .cells false (sgsA b)]) (fun k => a.length - k) 0 (by simp) (by simp) (Weak.mk' [0, 1] (by decide) (by decide) (by simp [hl]) (by simp)) fun k hk => ?_)
  obtain ⟨hk, hak⟩ := hk
  by_cases hlt : k < a.length
  · have hltb : k < b.length := by omega
    have hw : IntKind.i64.wrap ((k : Int) + 1) = k + 1 := wr_i64 (by omega) (by omega)
    have g1 := sgs_get a k hlt
    have g2 := sgs_get b k hltb
    have k1 : k * 3 + 3 ≤ a.length * 3 := by omega
    have k2 : k * 3 + 3 ≤ b.length * 3 := by omega
    by_cases he : a[k] = b[k]
    · have ht : a.take (k + 1) = b.take (k + 1) := by
        rw [List.take_add_one, List.take_add_one, hak, List.getElem?_eq_getElem hlt, List.getElem?_eq_getElem hltb, he]
      refine Sim.exec hmix goks_nil (n := 0) (by simp (decide := true) [hlt, hltb, g1, g2, he, hw, k1, k2, sgA]; exact ⟨rfl, rfl, rfl⟩) (by simp) ?_
      exact ⟨k + 1, ⟨by omega, ht⟩, Weak.mk' [0, 1] (by decide) (by decide) (by simp) (by simp), by omega⟩
    · have e : decide (a = b) = false := by simp; rintro rfl; exact he rfl
      rw [e]
      obtain ⟨x, hx⟩ : ∃ x, a[k] = x := ⟨_, rfl⟩
      obtain ⟨y, hy⟩ : ∃ y, b[k] = y := ⟨_, rfl⟩
      rw [hx] at g1 he
      rw [hy] at g2 he
      have hne : (x.1 == y.1 && (x.2.1 == y.2.1 && (x.2.2 == y.2.2 && true))) = false := by
        obtain ⟨x1, x2, x3⟩ := x
        obtain ⟨y1, y2, y3⟩ := y
        simp at he ⊢
        exact he
      refine Sim.exec hmix goks_nil (n := 0) (by simp (decide := true) [hlt, hltb, g1, g2, k1, k2, sgA, -Bool.and_true, hne]; exact ⟨rfl, rfl, rfl⟩) (by simp) ?_
      exact ⟨.inr rfl, _, by simp; rfl, Weak.mk' [0, 1] (by decide) (by decide) (by simp) (by simp)⟩
  · have e : decide (a = b) = true := by
      rw [List.take_of_length_le (by omega), List.take_of_length_le (by omega)] at hak
      simpa using hak
    rw [e]
    refine Sim.exec hmix goks_nil (n := 0) (by simp [hlt]; exact ⟨rfl, rfl, rfl⟩) (by simp) ?_
    dsimp only
    rw [if_pos rfl]
    refine Sim.exec hmix goks_nil (n := 0) (by simp; exact ⟨rfl, rfl, rfl⟩) (by simp) ?_
    exact ⟨.inr rfl, _, by simp; rfl, Weak.mk' [0, 1] (by decide) (by decide) (by simp) (by simp)⟩

end Go.Proofs.Ytbbgmaklmlagcaa

namespace Go.Proofs.Ytbbgmaklmlagcaa
open Go
set_option maxRecDepth 100000

/-- Segments of cells. -/
def sgsOf : List AV → Option (List Sg)
  | [] => some []
  | .int .i64 a :: .int .i64 b :: .int .i64 c :: l => (sgsOf l).map ((a, b, c) :: ·)
  | _ => none

theorem sgsOf_eq : ∀ {xs : List AV} {l : List Sg}, sgsOf xs = some l → xs = sgsA l
  | [], l, h => by cases h; rfl
  | x :: xs, l, h => by
    unfold sgsOf at h
    split at h
    · cases ‹_ = []›
    · rename_i a b c ys e
      cases e
      obtain ⟨l', hl', rfl⟩ := Option.map_eq_some_iff.1 h
      rw [sgsOf_eq hl']
      rfl
    · cases h

@[simp] theorem sgsOf_sgsA : ∀ l : List Sg, sgsOf (sgsA l) = some l
  | [] => rfl
  | s :: l => by simp [sgsA, sgA, sgsOf, sgsOf_sgsA l]

@[simp] theorem take_sgsA (l : List Sg) : (sgsA l).take (l.length * 3) = sgsA l := by rw [← sgsA_length, List.take_length]
@[simp] theorem sgsA_append (a b : List Sg) : sgsA (a ++ b) = sgsA a ++ sgsA b := by
  induction a with
  | nil => rfl
  | cons x a ih => simp [sgsA, ih]

/-- The segments of a slice. -/
def rowSgs (H : AHeap) : AV → Option (List Sg)
  | .nils => some []
  | .slice b off len 3 _ => match H[b]? with
    | some (.cells _ l) => if off + len * 3 ≤ l.length then sgsOf ((l.drop off).take (len * 3)) else none
    | _ => none
  | .sl b off len 3 _ => match H[b]? with
    | some (.cells _ l) => if off + len * 3 ≤ l.length then sgsOf ((l.drop off).take (len * 3)) else none
    | _ => none
  | _ => none

/-- A window for it. -/
theorem rowSgs_win {H : AHeap} {x : AV} {a : List Sg} (h : rowSgs H x = some a) : ∃ b off, (∀ (i : Nat) (wd : List (Nat × Nat)), wd[i]? = some (b, off) → winA wd (.sl i 0 a.length 3 false) x) ∧
    (match H[b]? with | some (.cells _ l) => off + (sgsA a).length ≤ l.length ∧ sgsA a = (l.drop off).take (sgsA a).length | none => True | _ => False) := by
  have key : ∀ (b off len : Nat) (o : Bool) (l : List AV), H[b]? = some (.cells o l) → off + len * 3 ≤ l.length → sgsOf ((l.drop off).take (len * 3)) = some a → len = a.length ∧ off + (sgsA a).length ≤ l.length ∧ sgsA a = (l.drop off).take (sgsA a).length := by
    intro b off len o l hb hle hs
    have e := sgsOf_eq hs
    have hlen : len = a.length := by
      have := congrArg List.length e
      simp at this
      omega
    subst hlen
    exact ⟨rfl, by simpa using hle, by rw [sgsA_length]; exact e.symm⟩
  unfold rowSgs at h
  split at h
  · cases h
    exact ⟨H.length, 0, fun i wd _ => by simp [winA], by simp⟩
  · rename_i b off len c
    split at h
    rotate_left
    · cases h
    rename_i o l hb
    split at h
    rotate_left
    · cases h
    rename_i hle
    obtain ⟨rfl, h1, h2⟩ := key b off len o l hb hle h
    exact ⟨b, off, fun i wd hw => by simp [winA, hw], by rw [hb]; exact ⟨h1, h2⟩⟩
  · rename_i b off len c
    split at h
    rotate_left
    · cases h
    rename_i o l hb
    split at h
    rotate_left
    · cases h
    rename_i hle
    obtain ⟨rfl, h1, h2⟩ := key b off len o l hb hle h
    exact ⟨b, off, fun i wd hw => by simp [winA, hw], by rw [hb]; exact ⟨h1, h2⟩⟩
  · cases h

def equalS : Summ := readS fun args H => match args with
  | [x, y] => match rowSgs H x, rowSgs H y with
    | some a, some b => if a.length ≤ 1000000000000 then some (.bool (decide (a = b))) else none
    | _, _ => none
  | _ => none

theorem equal_sound : Sound Try.prog 65 equalS := by
  refine sound_read (enter_of Try.func65 rfl (by decide)) fun args H v h => ?_
  split at h <;> try cases h
  rename_i x y
  split at h <;> try cases h
  rename_i a b hx hy
  split at h <;> cases h
  rename_i hc
  obtain ⟨b1, o1, w1, g1⟩ := rowSgs_win hx
  obtain ⟨b2, o2, w2, g2⟩ := rowSgs_win hy
  refine ct_win (equal_ct a b hc) rfl [(b1, o1), (b2, o2)] ?_ ?_
  · exact ⟨w1 0 _ rfl, w2 1 _ rfl, trivial⟩
  · exact ⟨g1, frees_sgs _, g2, frees_sgs _, trivial⟩

end Go.Proofs.Ytbbgmaklmlagcaa

namespace Go.Proofs.Ytbbgmaklmlagcaa
open Go
set_option maxRecDepth 100000
attribute [-simp] drawOk_eq adraw qrun acode aops

/-- A manifest. -/
structure Mf where
  v : Int
  f : Int
  n : Int
  segs : List Sg
  deriving DecidableEq

def mfA (b : Nat) (m : Mf) : AV := .agg [.int .i64 m.v, .int .i64 m.f, .int .i64 m.n, .sl b 0 m.segs.length 3 false]

theorem mf_dec (a b : Mf) : decide (a = b) = (a.v == b.v && (a.f == b.f && (a.n == b.n && decide (a.segs = b.segs)))) := by
  cases a; cases b
  simp only [Mf.mk.injEq]
  rw [Bool.eq_iff_iff]
  simp

def eqΓ : Gam := gams [(65, equalS)]
theorem eqΓ_ok : GOk Try.prog eqΓ := goks_cons equal_sound goks_nil

set_option maxHeartbeats 4000000 in
theorem msame_ct (a b : Mf) (ha : a.segs.length ≤ 1000000000000) :
    Ct Try.prog 26 [mfA 0 a, mfA 1 b] [.cells false (sgsA a.segs), .cells false (sgsA b.segs)] (.bool (decide (a = b))) [.cells false (sgsA a.segs), .cells false (sgsA b.segs)] := by
  rw [mf_dec]
  obtain ⟨av, af, an, aS⟩ := a
  obtain ⟨bv, bf, bn, bS⟩ := b
  simp only at ha
  refine ct_of_sim Try.func26 rfl ?_
  simp only [Try.ntmps26, List.length_cons, List.length_nil, Nat.reduceAdd, Nat.reduceSub, List.replicate, List.cons_append, List.nil_append]
  refine Sim.step hmix eqΓ_ok (n := 0) (by simp [mfA]; exact ⟨rfl, rfl⟩) (by simp) ?_
  have fin : ∀ (x y : List AV) (v : Bool), Weak 2 [.bool v] ([.cells false (sgsA aS), .cells false (sgsA bS)] ++ [.cells true x, .cells true y]) [.bool v] [.cells false (sgsA aS), .cells false (sgsA bS)] := fun x y v => Weak.mk' [0, 1] (by decide) (by decide) (by simp) (by simp)
  by_cases h1 : av = bv
  rotate_left
  · have e1 : (av == bv) = false := by simpa using h1
    refine Sim.exec hmix eqΓ_ok (n := 0) (by simp [e1]; exact ⟨rfl, rfl, rfl⟩) (by simp) ?_
    exact ⟨.inr rfl, _, by simp [e1] <;> rfl, fin _ _ _⟩
  subst h1
  by_cases h2 : af = bf
  rotate_left
  · have e2 : (af == bf) = false := by simpa using h2
    refine Sim.exec hmix eqΓ_ok (n := 0) (by simp [e2]; exact ⟨rfl, rfl, rfl⟩) (by simp) ?_
    exact ⟨.inr rfl, _, by simp [e2] <;> rfl, fin _ _ _⟩
  subst h2
  by_cases h3 : an = bn
  rotate_left
  · have e3 : (an == bn) = false := by simpa using h3
    refine Sim.exec hmix eqΓ_ok (n := 0) (by simp [e3]; exact ⟨rfl, rfl, rfl⟩) (by simp) ?_
    exact ⟨.inr rfl, _, by simp [e3] <;> rfl, fin _ _ _⟩
  subst h3
  refine Sim.exec hmix eqΓ_ok (n := 0) (by simp [eqΓ, gams, equalS, readS, rowSgs, ha]; exact ⟨rfl, rfl, rfl⟩) (by simp) ?_
  exact ⟨.inr rfl, _, by simp <;> rfl, fin _ _ _⟩

/-- A manifest, as summaries read it. -/
def mfOf (H : AHeap) : AV → Option Mf
  | .agg [.int .i64 v, .int .i64 f, .int .i64 n, x] => (rowSgs H x).map fun l => ⟨v, f, n, l⟩
  | _ => none

@[simp] theorem mfOf_mk (H : AHeap) (v f n : Int) (x : AV) : mfOf H (.agg [.int .i64 v, .int .i64 f, .int .i64 n, x]) = (rowSgs H x).map fun l => ⟨v, f, n, l⟩ := rfl

theorem mf_win {H : AHeap} {x : AV} {m : Mf} (h : mfOf H x = some m) : ∃ b off, (∀ (i : Nat) (wd : List (Nat × Nat)), wd[i]? = some (b, off) → winA wd (mfA i m) x) ∧
    (match H[b]? with | some (.cells _ l) => off + (sgsA m.segs).length ≤ l.length ∧ sgsA m.segs = (l.drop off).take (sgsA m.segs).length | none => True | _ => False) := by
  unfold mfOf at h
  split at h
  · rename_i v f n x
    obtain ⟨l, hl, rfl⟩ := Option.map_eq_some_iff.1 h
    obtain ⟨b, off, w, g⟩ := rowSgs_win hl
    refine ⟨b, off, fun i wd hw => ?_, g⟩
    unfold mfA winA
    refine ⟨?_, ?_, ?_, w i wd hw, trivial⟩ <;> (unfold winA; exact ⟨rfl, rfl⟩)
  · cases h

def msameS : Summ := readS fun args H => match args with
  | [x, y] => match mfOf H x, mfOf H y with
    | some a, some b => if a.segs.length ≤ 1000000000000 then some (.bool (decide (a = b))) else none
    | _, _ => none
  | _ => none

theorem msame_sound : Sound Try.prog 26 msameS := by
  refine sound_read (enter_of Try.func26 rfl (by decide)) fun args H v h => ?_
  split at h <;> try cases h
  rename_i x y
  split at h <;> try cases h
  rename_i a b hx hy
  split at h <;> cases h
  rename_i hc
  obtain ⟨b1, o1, w1, g1⟩ := mf_win hx
  obtain ⟨b2, o2, w2, g2⟩ := mf_win hy
  refine ct_win (msame_ct a b hc) rfl [(b1, o1), (b2, o2)] ?_ ?_
  · exact ⟨w1 0 _ rfl, w2 1 _ rfl, trivial⟩
  · exact ⟨g1, frees_sgs _, g2, frees_sgs _, trivial⟩

end Go.Proofs.Ytbbgmaklmlagcaa

namespace Go.Proofs.Ytbbgmaklmlagcaa
open Go

def Sg.ok (n : Int) (s : Sg) : Bool := decide (1 ≤ s.1 ∧ s.1 < n ∧ 1 ≤ s.2.1 ∧ s.2.1 ≤ 100000 ∧ 1 ≤ s.2.2 ∧ s.2.2 ≤ 1000000000)

def numsS (l : List Sg) : List Int := l.map (·.1)

/-- Where the first segment stands that may not be; -1: none. -/
def badAt (n : Int) : List Int → List Sg → Nat → Int
  | _, [], _ => -1
  | u, s :: l, i => if s.1 ∈ u ∨ Sg.ok n s = false then i else badAt n (u ++ [s.1]) l (i + 1)

def Mf.counts (m : Mf) : Bool := decide (0 ≤ m.v ∧ m.v ≤ 900000000 ∧ 1 ≤ m.f ∧ m.f ≤ 900000000 ∧ 1 ≤ m.n ∧ m.n ≤ 900000000)

def Mf.right (m : Mf) : Bool := m.counts && (decide (m.segs.length ≤ 1000) && (m.segs.all (Sg.ok m.n) && decide (numsS m.segs).Nodup))

theorem badAt_iff (n : Int) : ∀ (l : List Sg) (u : List Int) (i : Nat), (0 ≤ badAt n u l i) ↔ ¬ (l.all (Sg.ok n) = true ∧ (numsS l).Nodup ∧ ∀ x ∈ numsS l, x ∉ u)
  | [], u, i => by simp [badAt, numsS]
  | s :: l, u, i => by
    unfold badAt
    by_cases h : s.1 ∈ u ∨ Sg.ok n s = false
    · rw [if_pos h]
      constructor
      · rintro _ ⟨h1, _, h3⟩
        rcases h with h | h
        · exact h3 s.1 (by simp [numsS]) h
        · simp [h] at h1
      · intro _; omega
    · rw [if_neg h, badAt_iff n l _ (i + 1)]
      simp only [not_or, Bool.not_eq_false] at h
      have e : (List.all (s :: l) (Sg.ok n) = true ∧ (numsS (s :: l)).Nodup ∧ ∀ x ∈ numsS (s :: l), x ∉ u) ↔ (l.all (Sg.ok n) = true ∧ (numsS l).Nodup ∧ ∀ x ∈ numsS l, x ∉ u ++ [s.1]) := by
        have e1 : numsS (s :: l) = s.1 :: numsS l := rfl
        rw [e1, List.nodup_cons]
        simp only [List.all_cons, h.2, Bool.true_and, List.mem_cons, List.mem_append, not_or]
        constructor
        · rintro ⟨a, ⟨b, c⟩, d⟩
          exact ⟨a, c, fun x hx => ⟨d x (.inr hx), fun hh => b (hh ▸ hx), by simp⟩⟩
        · rintro ⟨a, c, d⟩
          exact ⟨a, ⟨fun hx => (d _ hx).2.1 rfl, c⟩, fun x hx => by rcases hx with rfl | hx; exact h.1; exact (d x hx).1⟩
      rw [e]

theorem Mf.right_eq (m : Mf) : m.right = (m.counts && (decide (m.segs.length ≤ 1000) && !decide (0 ≤ badAt m.n [] m.segs 0))) := by
  have : (m.segs.all (Sg.ok m.n) && decide (numsS m.segs).Nodup) = !decide (0 ≤ badAt m.n [] m.segs 0) := by
    rw [Bool.eq_iff_iff]
    simp only [Bool.and_eq_true, decide_eq_true_eq, Bool.not_eq_true', decide_eq_false_iff_not, badAt_iff]
    simp
  unfold Mf.right
  rw [this]

theorem badAt_lt (n : Int) : ∀ (l : List Sg) (u : List Int) (i : Nat), badAt n u l i ≤ i + l.length ∧ -1 ≤ badAt n u l i
  | [], u, i => by simp [badAt] <;> omega
  | s :: l, u, i => by
    unfold badAt
    have := badAt_lt n l (u ++ [s.1]) (i + 1)
    split
    · simp; omega
    · simp at this ⊢; omega

/-- Numbers, as keys of a map. -/
def usedA (u : List Int) : List (AV × AV) := u.map fun y => (.int .i64 y, .int .i64 1)

theorem find_used (x : Int) : ∀ (u : List Int) (i : Nat), findA (usedA u) (.int .i64 x) i = some (if x ∈ u then some (i + u.idxOf x, .int .i64 1) else none)
  | [], i => by simp [usedA, findA]
  | y :: u, i => by
    have ih := find_used x u (i + 1)
    simp only [usedA] at ih
    by_cases h : x = y
    · subst h; simp [usedA, findA, primEq]
    · have h2 : (x == y) = false := by simpa using h
      have h3 : (y == x) = false := by simpa using (fun e => h e.symm)
      simp only [usedA, List.map_cons, findA, primEq, if_true, h2, ih, List.mem_cons, h, false_or]
      split
      · rw [List.idxOf_cons, h3]
        simp; omega
      · rfl

@[simp] theorem usedA_snoc (u : List Int) (x : Int) : usedA u ++ [(.int .i64 x, .int .i64 1)] = usedA (u ++ [x]) := by simp [usedA]

@[simp] theorem frees_used1 : ∀ u : List Int, frees ((usedA u).map fun x => x.fst) = true
  | [] => rfl
  | y :: u => by have := frees_used1 u; simpa [usedA] using this
@[simp] theorem frees_used2 : ∀ u : List Int, frees ((usedA u).map fun x => x.snd) = true
  | [] => rfl
  | y :: u => by have := frees_used2 u; simpa [usedA] using this

/-- A function that reads what there is: its run, what it made forgotten. -/
theorem ct_rd {P : Program} {Γ : Gam} (hm : P.follows .mixedOrders = true) (hΓ : GOk P Γ) {n : Nat} {f : FuncId} {fn : Func} (hf : P.funcs[f]? = some fn) {args : List AV} {H : AHeap} {v : AV} (h : ∃ X, runF P Γ n fn args H = some (v, H ++ X)) (hw : ∀ X, Weak H.length [v] (H ++ X) [v] H) : Ct P f args H v H := by
  obtain ⟨X, h⟩ := h
  exact ct_run hm hΓ hf h (hw X)

theorem minA_min (k k' : IntKind) (x y : Int) : minA false (.int k x) (.int k' y) = some (.int k (min x y)) := by
  unfold minA; simp only [Bool.false_eq_true, if_false]; congr 2; omega
theorem minA_max (k k' : IntKind) (x y : Int) : minA true (.int k x) (.int k' y) = some (.int k (max x y)) := by
  unfold minA; simp only [if_true]; congr 2; omega

end Go.Proofs.Ytbbgmaklmlagcaa

namespace Go.Proofs.Ytbbgmaklmlagcaa
open Go
set_option maxRecDepth 100000
attribute [-simp] drawOk_eq adraw qrun acode aops

def riInl : List FuncId := [63]
theorem riΓ_ok : GOk Try.prog (runG Try.prog (gams []) 0 riInl 1) := gok_run hmix goks_nil 0 riInl 1

set_option maxHeartbeats 4000000 in
theorem index_ct (m : Mf) (hl : m.segs.length ≤ 1000000000000) :
    Ct Try.prog 94 [.sl 0 0 m.segs.length 3 false, .func 63 [] [.ptr 3 0, .ptr 1 0]]
      [.cells false (sgsA m.segs), .cells true [.int .i64 m.v, .int .i64 m.f, .int .i64 m.n, .sl 0 0 m.segs.length 3 false], .map [], .cells true [.map 2]] (.int .i64 (badAt m.n [] m.segs 0))
      [.cells false (sgsA m.segs), .cells true [.int .i64 m.v, .int .i64 m.f, .int .i64 m.n, .sl 0 0 m.segs.length 3 false], .dead, .cells true [.map 2]] := by
  obtain ⟨mv, mf, mn, l⟩ := m
  simp only at hl ⊢
  refine ct_of_sim Try.func94 rfl ?_
  simp only [Try.ntmps94, List.length_cons, List.length_nil, Nat.reduceAdd, Nat.reduceSub, List.replicate, List.cons_append, List.nil_append]
  refine Sim.step hmix goks_nil (n := 0) (by simp; exact ⟨rfl, rfl⟩) (by simp) ?_
  refine Sim.seq (Sim.step hmix goks_nil (n := 0) (by simp; exact ⟨rfl, rfl⟩) (by simp) ?_)
  refine Sim.block (Sim.loopW (fun k : Nat => k ≤ l.length ∧ badAt mn [] l 0 = badAt mn (numsS (l.take k)) (l.drop k) k)
    (fun k => [.sl 0 0 l.length 3 false, .func 63 [] [.ptr 3 0, .ptr 1 0], .top, .top, .top, .top, .top, .int .i64 l.length, .int .i64 k] ++ List.replicate 10 .top)
    (fun k => [.cells false (sgsA l), .cells true [.int .i64 mv, .int .i64 mf, .int .i64 mn, .sl 0 0 l.length 3 false], .map (usedA (numsS (l.take k))), .cells true [.map 2]]) (fun k => l.length - k) 0 (by simp) (by simp [numsS]) (Weak.mk' [0, 1, 2, 3] (by decide) (by decide) (by simp) (by simp [usedA, numsS])) fun k hk => ?_)
  obtain ⟨hk, hb⟩ := hk
  by_cases hlt : k < l.length
  rotate_left
  · rw [List.drop_of_length_le (by omega)] at hb
    simp only [badAt] at hb
    rw [hb]
    refine Sim.exec hmix riΓ_ok (n := 0) (by simp [hlt]; exact ⟨rfl, rfl, rfl⟩) (by simp) ?_
    dsimp only
    rw [if_pos rfl]
    refine Sim.exec hmix riΓ_ok (n := 0) (by simp; exact ⟨rfl, rfl, rfl⟩) (by simp) ?_
    exact ⟨.inr rfl, _, by simp <;> rfl, Weak.mk' [0, 1, 2, 3] (by decide) (by decide) (by simp) (by simp)⟩
  obtain ⟨s, hs⟩ : ∃ s, l[k] = s := ⟨_, rfl⟩
  have g1 := sgs_get l k hlt
  have k1 : k * 3 + 3 ≤ l.length * 3 := by omega
  have hw : IntKind.i64.wrap ((k : Int) + 1) = k + 1 := wr_i64 (by omega) (by omega)
  rw [List.drop_eq_getElem_cons hlt] at hb
  rw [hs] at g1 hb
  have hn : numsS (l.take (k + 1)) = numsS (l.take k) ++ [s.1] := by
    rw [List.take_add_one, List.getElem?_eq_getElem hlt, hs]; simp [numsS]
  obtain ⟨u, hu⟩ : ∃ u, numsS (l.take k) = u := ⟨_, rfl⟩
  rw [hu] at hb hn ⊢
  have hf := fun i => find_used s.1 u i
  by_cases h1 : s.1 ∈ u
  · have hb' : badAt mn [] l 0 = k := by rw [hb]; unfold badAt; rw [if_pos (.inl h1)]
    rw [hb']
    simp only [h1, if_true] at hf
    refine Sim.exec hmix riΓ_ok (n := 0) (by simp (decide := true) [hlt, g1, k1, sgA, hf, riInl, Try.f63]; exact ⟨rfl, rfl, rfl⟩) (by simp) ?_
    exact ⟨.inr rfl, _, by simp <;> rfl, Weak.mk' [0, 1, 2, 3] (by decide) (by decide) (by simp) (by simp)⟩
  simp only [h1, if_false] at hf
  obtain ⟨x, y, z⟩ := s
  have hne : ¬ (x ∈ u ∨ Sg.ok mn (x, y, z) = false) → badAt mn [] l 0 = badAt mn (numsS (l.take (k + 1))) (l.drop (k + 1)) (k + 1) := by
    intro h; rw [hb, hn]; conv => lhs; unfold badAt
    rw [if_neg h]
  have hbad : Sg.ok mn (x, y, z) = false → badAt mn [] l 0 = k := by
    intro h; rw [hb]; unfold badAt; rw [if_pos (.inr h)]
  clear hb
  simp only at hf h1
  obtain ⟨q, hq⟩ : ∃ q, min x (min y z) = q := ⟨_, rfl⟩
  by_cases h2 : q < 1
  · rw [hbad (by simp [Sg.ok]; omega)]
    refine Sim.exec hmix riΓ_ok (n := 0) (by simp (decide := true) [-minA, minA_min, hq, hlt, g1, k1, sgA, hf, riInl, Try.f63, h2]; exact ⟨rfl, rfl, rfl⟩) (by simp) ?_
    exact ⟨.inr rfl, _, by simp <;> rfl, Weak.mk' [0, 1, 2, 3] (by decide) (by decide) (by simp) (by simp)⟩
  by_cases h3 : mn ≤ x
  · rw [hbad (by simp [Sg.ok]; omega)]
    refine Sim.exec hmix riΓ_ok (n := 0) (by simp (decide := true) [-minA, minA_min, hq, hlt, g1, k1, sgA, hf, riInl, Try.f63, h2, h3]; exact ⟨rfl, rfl, rfl⟩) (by simp) ?_
    exact ⟨.inr rfl, _, by simp <;> rfl, Weak.mk' [0, 1, 2, 3] (by decide) (by decide) (by simp) (by simp)⟩
  by_cases h4 : 100000 < y
  · rw [hbad (by simp [Sg.ok]; omega)]
    refine Sim.exec hmix riΓ_ok (n := 0) (by simp (decide := true) [-minA, minA_min, hq, hlt, g1, k1, sgA, hf, riInl, Try.f63, h2, h3, h4]; exact ⟨rfl, rfl, rfl⟩) (by simp) ?_
    exact ⟨.inr rfl, _, by simp <;> rfl, Weak.mk' [0, 1, 2, 3] (by decide) (by decide) (by simp) (by simp)⟩
  by_cases h5 : 1000000000 < z
  · rw [hbad (by simp [Sg.ok]; omega)]
    refine Sim.exec hmix riΓ_ok (n := 0) (by simp (decide := true) [-minA, minA_min, hq, hlt, g1, k1, sgA, hf, riInl, Try.f63, h2, h3, h4, h5]; exact ⟨rfl, rfl, rfl⟩) (by simp) ?_
    exact ⟨.inr rfl, _, by simp <;> rfl, Weak.mk' [0, 1, 2, 3] (by decide) (by decide) (by simp) (by simp)⟩
  have hst := hne (by simp [Sg.ok, h1]; omega)
  refine Sim.exec hmix riΓ_ok (n := 0) (by simp (decide := true) [-minA, minA_min, hq, hlt, g1, k1, sgA, hf, riInl, Try.f63, hw, h2, h3, h4, h5]; exact ⟨rfl, rfl, rfl⟩) (by simp) ?_
  exact ⟨k + 1, ⟨by omega, hst⟩, Weak.mk' [0, 1, 2, 3] (by decide) (by decide) (by simp) (by simp [hn]), by omega⟩

def mcells (m : Mf) : List AV := [.int .i64 m.v, .int .i64 m.f, .int .i64 m.n, .sl 0 0 m.segs.length 3 false]

def idxS (m : Mf) : Summ := onceS [.sl 0 0 m.segs.length 3 false, .func 63 [] [.ptr 3 0, .ptr 1 0]]
      [.cells false (sgsA m.segs), .cells true (mcells m), .map [], .cells true [.map 2]] (.int .i64 (badAt m.n [] m.segs 0))
      [.cells false (sgsA m.segs), .cells true (mcells m), .dead, .cells true [.map 2]] [2]

theorem idxΓ_ok (m : Mf) (hl : m.segs.length ≤ 1000000000000) : GOk Try.prog (runG Try.prog (gams [(94, idxS m)]) 0 [64] 1) := by
  refine gok_run hmix (goks_cons (sound_once (enter_of Try.func94 rfl (by decide)) (index_ct m hl) (by simp) fun b hb hn => ?_) goks_nil) 0 _ 1
  match b, hb with
  | 0, _ => rfl
  | 1, _ => rfl
  | 2, _ => simp at hn
  | 3, _ => rfl
  | b + 4, h => simp at h; omega

set_option maxHeartbeats 4000000 in
theorem mright_ct (m : Mf) (hl : m.segs.length ≤ 1000000000000) : Ct Try.prog 18 [mfA 0 m] [.cells false (sgsA m.segs)] (.bool m.right) [.cells false (sgsA m.segs)] := by
  have hΓ := idxΓ_ok m hl
  rw [Mf.right_eq]
  obtain ⟨t, ht⟩ : ∃ t, decide (0 ≤ badAt m.n [] m.segs 0) = t := ⟨_, rfl⟩
  have ht' : decide (badAt m.n [] m.segs 0 ≥ 0) = t := ht
  have hc : m.counts = decide (1 ≤ min m.f m.n ∧ 0 ≤ m.v ∧ max m.v (max m.f m.n) ≤ 900000000) := by unfold Mf.counts; simp only [decide_eq_decide]; omega
  rw [ht, hc]
  obtain ⟨i, hi⟩ : ∃ i, badAt m.n [] m.segs 0 = i := ⟨_, rfl⟩
  have hS : idxS m = idxS m := rfl
  conv at hS => rhs; unfold idxS
  rw [hi] at hS ht ht'
  obtain ⟨mv, mf, mn, l⟩ := m
  simp only [mcells] at hl hS ⊢
  obtain ⟨q, hq⟩ : ∃ q, min mf mn = q := ⟨_, rfl⟩
  obtain ⟨p, hp⟩ : ∃ p, max mv (max mf mn) = p := ⟨_, rfl⟩
  rw [hq, hp]
  have hl2 : ((l.length : Int) ≤ 1000) ↔ l.length ≤ 1000 := by omega
  refine ct_rd hmix hΓ (n := 0) Try.func18 ?_ (fun X => Weak.mk' [0] (by decide) rfl (by simp) (by simp))
  unfold Try.f18
  by_cases h1 : 1 ≤ q
  rotate_left
  · simp [-minA, minA_min, hq, h1, mfA]
  by_cases h2 : 0 ≤ mv
  rotate_left
  · simp [-minA, minA_min, hq, h1, h2, mfA]
  by_cases h3 : p ≤ 900000000
  rotate_left
  · simp [-minA, minA_min, minA_max, hq, hp, h1, h2, h3, mfA]
  by_cases h4 : l.length ≤ 1000
  rotate_left
  · simp [-minA, minA_min, minA_max, hq, hp, h1, h2, h3, h4, hl2, mfA]
  cases t
  · simp at ht
    simp [-minA, minA_min, minA_max, hq, hp, h1, h2, h3, h4, hl2, mfA, hS, onceS, Try.f64, ht]
  · simp at ht
    simp [-minA, minA_min, minA_max, hq, hp, h1, h2, h3, h4, hl2, mfA, hS, onceS, Try.f64, ht]

def mrightS : Summ := readS fun args H => match args with
  | [x] => match mfOf H x with
    | some m => if m.segs.length ≤ 1000000000000 then some (.bool m.right) else none
    | _ => none
  | _ => none

theorem mright_sound : Sound Try.prog 18 mrightS := by
  refine sound_read (enter_of Try.func18 rfl (by decide)) fun args H v h => ?_
  split at h <;> try cases h
  rename_i x
  split at h <;> try cases h
  rename_i m hx
  split at h <;> cases h
  rename_i hc
  obtain ⟨b1, o1, w1, g1⟩ := mf_win hx
  refine ct_win (mright_ct m hc) rfl [(b1, o1)] ?_ ?_
  · exact ⟨w1 0 _ rfl, trivial⟩
  · exact ⟨g1, frees_sgs _, trivial⟩

end Go.Proofs.Ytbbgmaklmlagcaa

namespace Go.Proofs.Ytbbgmaklmlagcaa
open Go
set_option maxRecDepth 100000
attribute [-simp] drawOk_eq adraw qrun acode aops

@[simp] theorem cells_sgs : ∀ l : List Sg, (sgsA l).all isCell = true
  | [] => rfl
  | s :: l => by simp [sgsA, sgA, cells_sgs l]

theorem sgs_splice (x : Sg) : ∀ (l : List Sg) (i : Nat), i < l.length → (sgsA l).take (i * 3) ++ sgA x ++ (sgsA l).drop (i * 3 + 3) = sgsA (l.set i x)
  | [], i, h => by simp at h
  | s :: l, 0, _ => by simp [sgsA, sgA]
  | s :: l, i + 1, h => by
    have := sgs_splice x l i (by simpa using h)
    rw [show (i + 1) * 3 = i * 3 + 3 by omega]
    simpa [sgsA, sgA] using this

theorem sgs_take : ∀ (l : List Sg) (n : Nat), (sgsA l).take (n * 3) = sgsA (l.take n)
  | [], n => by simp [sgsA]
  | s :: l, 0 => by simp [sgsA]
  | s :: l, n + 1 => by
    rw [show (n + 1) * 3 = n * 3 + 3 by omega]
    simp [sgsA, sgA, sgs_take l n]

theorem sgs_fst : ∀ (l : List Sg) (k : Nat) (x : Sg), l[k]? = some x → (sgsA l)[k * 3]? = some (.int .i64 x.1)
  | [], k, x, h => by simp at h
  | s :: l, 0, x, h => by simp at h; subst h; simp [sgsA, sgA]
  | s :: l, k + 1, x, h => by
    have := sgs_fst l k x (by simpa using h)
    rw [show (k + 1) * 3 = k * 3 + 3 by omega]
    simpa [sgsA, sgA] using this

theorem sgs_drop : ∀ (l : List Sg) (n : Nat), (sgsA l).drop (n * 3) = sgsA (l.drop n)
  | [], n => by simp [sgsA]
  | s :: l, 0 => by simp [sgsA]
  | s :: l, n + 1 => by
    rw [show (n + 1) * 3 = n * 3 + 3 by omega]
    simp [sgsA, sgA, sgs_drop l n]

set_option maxHeartbeats 4000000 in
theorem clone_ct (s : List Sg) (hs : s.length ≤ 1000000000) :
    Ct Try.prog 59 [.sl 0 0 s.length 3 false] [.cells false (sgsA s)] (.sl 1 0 s.length 3 false) [.cells false (sgsA s), .cells true (sgsA s)] := by
  have b1 : s.length * 24 ≤ 140737488355328 := by omega
  have b2 : s.length ≤ 9223372036854775807 := by omega
  refine ct_slN (pre := []) ?_ fun h0 => ?_
  · by_cases h0 : s = []
    · subst h0
      refine ct_runE hmix goks_nil (n := 0) Try.func59 ?_
      unfold Try.f59
      exact ⟨_, _, (by simp [sgsA]; exact ⟨rfl, rfl⟩), Weak.mk' [0, 1] (by decide) rfl (by simp) (by simp [sgsA])⟩
    · have h1 : s.length ≠ 0 := by simpa using h0
      refine ct_runE hmix goks_nil (n := 0) Try.func59 ?_
      unfold Try.f59
      exact ⟨_, _, (by simp [h0, b1, b2]; exact ⟨rfl, rfl⟩), Weak.mk' [0, 2] (by decide) rfl (by simp) (by simp)⟩
  · have h0 : s = [] := by simpa using h0
    subst h0
    refine ct_runE hmix goks_nil (n := 0) Try.func59 ?_
    unfold Try.f59
    exact ⟨_, _, (by simp [sgsA]; exact ⟨rfl, rfl⟩), Weak.mk' [0, 100] (by decide) rfl (by simp) (by simp [sgsA])⟩

/-- The row behind i exchanges. -/
def RevSt (s : List Sg) (p : Nat × List Sg) : Prop := p.2.length = s.length ∧ p.1 ≤ s.length ∧ ∀ k, k < s.length → p.2[k]? = if k < p.1 ∨ s.length ≤ k + p.1 then s[s.length - 1 - k]? else s[k]?

theorem RevSt.next {s : List Sg} {i : Nat} {l : List Sg} (h : RevSt s (i, l)) (hi : 2 * i + 1 < s.length) (a b : Sg) (ha : l[i]? = some a) (hb : l[s.length - 1 - i]? = some b) : RevSt s (i + 1, (l.set i b).set (s.length - 1 - i) a) := by
  obtain ⟨h1, h2, h3⟩ := h
  refine ⟨by simpa using h1, by dsimp only; omega, fun k hk => ?_⟩
  have ka := h3 i (by omega)
  have kb := h3 (s.length - 1 - i) (by omega)
  have kk := h3 k hk
  dsimp only at ka kb kk h1 ⊢
  rw [ha, if_neg (by omega)] at ka
  rw [hb, if_neg (by omega)] at kb
  rw [List.getElem?_set, List.getElem?_set]
  by_cases e1 : s.length - 1 - i = k
  · rw [if_pos e1, if_pos (by simp; omega), if_pos (by omega), ka]
    congr 1; omega
  · rw [if_neg e1]
    by_cases e2 : i = k
    · rw [if_pos e2, if_pos (by omega), if_pos (by omega), kb]
      congr 1; omega
    · rw [if_neg e2, kk]
      by_cases e3 : k < i ∨ s.length ≤ k + i
      · rw [if_pos e3, if_pos (by omega)]
      · rw [if_neg e3, if_neg (by omega)]

theorem RevSt.last {s : List Sg} {i : Nat} {l : List Sg} (h : RevSt s (i, l)) (hi : s.length ≤ 2 * i + 1) : l = s.reverse := by
  obtain ⟨h1, h2, h3⟩ := h
  apply List.ext_getElem?
  intro k
  dsimp only at h1 h2
  rcases Nat.lt_or_ge k s.length with hk | hk
  · rw [h3 k hk, List.getElem?_reverse hk]
    dsimp only
    split
    · rfl
    · congr 1; omega
  · rw [List.getElem?_eq_none (by omega), List.getElem?_eq_none (by simpa using hk)]

set_option maxHeartbeats 4000000 in
theorem reverse_ct (s : List Sg) (hs : s.length ≤ 1000000000) :
    Ct Try.prog 61 [.sl 0 0 s.length 3 false] [.cells true (sgsA s)] (.tuple []) [.cells true (sgsA s.reverse)] := by
  refine ct_of_sim Try.func61 rfl ?_
  simp only [Try.ntmps61, List.length_cons, List.length_nil, Nat.reduceAdd, Nat.reduceSub, List.replicate, List.cons_append, List.nil_append]
  have hw : IntKind.i64.wrap ((s.length : Int) - 1) = (s.length : Int) - 1 := wr_i64 (by omega) (by omega)
  refine Sim.step hmix goks_nil (n := 0) (by simp [hw]; exact ⟨rfl, rfl⟩) (by simp) ?_
  refine Sim.block (Sim.loopW (fun p : Nat × List Sg => RevSt s p)
    (fun p => [.sl 0 0 s.length 3 false, .top, .int .i64 p.1, .int .i64 ((s.length : Int) - 1 - p.1)] ++ List.replicate 24 .top)
    (fun p => [.cells true (sgsA p.2)]) (fun p => s.length - p.1) (0, s) (by simp) ⟨rfl, by simp, fun k hk => by simp; omega⟩ (Weak.mk' [0] (by decide) (by decide) (by simp) (by simp)) fun p hp => ?_)
  obtain ⟨i, l⟩ := p
  have hlen : l.length = s.length := hp.1
  by_cases hlt : 2 * i + 1 < s.length
  rotate_left
  · have e := hp.last (by omega)
    subst e
    have ht : ¬ ((i : Int) < (s.length : Int) - 1 - i) := by omega
    refine Sim.exec hmix goks_nil (n := 0) (by simp [ht]; exact ⟨rfl, rfl, rfl⟩) (by simp) ?_
    exact ⟨.inl rfl, _, by simp <;> rfl, Weak.mk' [0] (by decide) (by decide) (by simp) (by simp)⟩
  obtain ⟨a, ha⟩ : ∃ a, l[i]? = some a := ⟨_, List.getElem?_eq_getElem (by omega)⟩
  obtain ⟨b, hb⟩ : ∃ b, l[s.length - 1 - i]? = some b := ⟨_, List.getElem?_eq_getElem (by omega)⟩
  have hnx := hp.next hlt a b ha hb
  have g1 := sgs_get l i (by omega)
  have g2 := sgs_get l (s.length - 1 - i) (by omega)
  rw [(List.getElem?_eq_some_iff.1 ha).2] at g1
  rw [(List.getElem?_eq_some_iff.1 hb).2] at g2
  have ht : (i : Int) < (s.length : Int) - 1 - i := by omega
  have hj : (s.length : Int) - 1 - i = ((s.length - 1 - i : Nat) : Int) := by omega
  obtain ⟨j, hjj⟩ : ∃ j, s.length - 1 - i = j := ⟨_, rfl⟩
  rw [hjj] at hj g2 hb hnx
  rw [hj] at ht ⊢
  have hw1 : IntKind.i64.wrap ((i : Int) + 1) = i + 1 := wr_i64 (by omega) (by omega)
  have hw2 : IntKind.i64.wrap ((j : Int) - 1) = (j : Int) - 1 := wr_i64 (by omega) (by omega)
  have t1 : i * 3 + 3 ≤ l.length * 3 := by omega
  have t2 : j * 3 + 3 ≤ l.length * 3 := by omega
  have t3 : i < s.length := by omega
  have t4 : j < s.length := by omega
  have ht' : i < j := by omega
  have p1 := sgs_splice b l i (by omega)
  have p2 := sgs_splice a (l.set i b) j (by simp; omega)
  obtain ⟨a1, a2, a3⟩ := a
  obtain ⟨b1, b2, b3⟩ := b
  simp [sgA] at p1 p2 g1 g2
  refine Sim.step hmix goks_nil (n := 0) (by simp [ht]; exact ⟨rfl, rfl⟩) (by simp) ?_
  refine Sim.seq (Sim.block (Sim.draw hmix (by simp) ?_))
  refine SimR.many goks_nil 16 (by simp [stageOps]; rfl) (by omega) (by kernel_rfl) (by simp (decide := true) [t1, t2, t3, t4, g1, g2, p1, p2]; exact ⟨drawOkG_split (by kernel_rfl) (by simp [apartF]; omega), rfl, rfl⟩) ?_
  refine SimR.done rfl ?_
  dsimp only
  refine Sim.exec hmix goks_nil (n := 0) (by simp [hw1, hw2]; exact ⟨rfl, rfl, rfl⟩) (by simp) ?_
  exact ⟨(i + 1, (l.set i (b1, b2, b3)).set j (a1, a2, a3)), hnx, Weak.mk' [0] (by decide) (by decide) (by simp; omega) (by simp), by dsimp only; omega⟩

mutual
theorem reA_free (g : Nat → Nat) : ∀ x : AV, free x = true → reA g x = x
  | .top, _ | .bool _, _ | .int _ _, _ | .str _, _ | .nilp, _ | .nils, _ | .nilm, _ | .nilf, _ => rfl
  | .ptr .., h | .slice .., h | .sl .., h | .map _, h | .yld _, h => by simp [free] at h
  | .func f xs ys, h => by simp at h; simp [reAs_free g xs h.1, reAs_free g ys h.2]
  | .agg l, h => by simp at h; simp [reAs_free g l h]
  | .tuple l, h => by simp at h; simp [reAs_free g l h]
theorem reAs_free (g : Nat → Nat) : ∀ xs : List AV, frees xs = true → reAs g xs = xs
  | [], _ => rfl
  | x :: xs, h => by simp at h; simp [reA_free g x h.1, reAs_free g xs h.2]
end
mutual
theorem shA_free (k : Nat) : ∀ x : AV, free x = true → shA k x = x
  | .top, _ | .bool _, _ | .int _ _, _ | .str _, _ | .nilp, _ | .nils, _ | .nilm, _ | .nilf, _ => rfl
  | .ptr .., h | .slice .., h | .sl .., h | .map _, h | .yld _, h => by simp [free] at h
  | .func f xs ys, h => by simp at h; simp [shAs_free k xs h.1, shAs_free k ys h.2]
  | .agg l, h => by simp at h; simp [shAs_free k l h]
  | .tuple l, h => by simp at h; simp [shAs_free k l h]
theorem shAs_free (k : Nat) : ∀ xs : List AV, frees xs = true → shAs k xs = xs
  | [], _ => rfl
  | x :: xs, h => by simp at h; simp [shA_free k x h.1, shAs_free k xs h.2]
end

@[simp] theorem belows_sgs (n : Nat) (l : List Sg) : belows n (sgsA l) = true := belows_free n _ (frees_sgs l)
@[simp] theorem reAs_sgs (g : Nat → Nat) (l : List Sg) : reAs g (sgsA l) = sgsA l := reAs_free g _ (frees_sgs l)
@[simp] theorem shAs_sgs (k : Nat) (l : List Sg) : shAs k (sgsA l) = sgsA l := shAs_free k _ (frees_sgs l)

def cloneS : Summ := readNewS fun args H => match args with
  | [x] => match rowSgs H x with
    | some a => if a.length ≤ 1000000000 then some (.sl 0 0 a.length 3 false, [.cells true (sgsA a)]) else none
    | none => none
  | _ => none

theorem clone_sound : Sound Try.prog 59 cloneS := by
  refine sound_readNew (enter_of Try.func59 rfl (by decide)) fun args H v N h => ?_
  split at h <;> try cases h
  rename_i x
  split at h <;> try cases h
  rename_i a hx
  split at h <;> cases h
  rename_i hc
  obtain ⟨b1, o1, w1, g1⟩ := rowSgs_win hx
  refine ct_winN (H0 := [.cells false (sgsA a)]) (args0 := [.sl 0 0 a.length 3 false]) ?_ rfl [(b1, o1)] ⟨w1 0 _ rfl, trivial⟩ ⟨g1, frees_sgs _, trivial⟩
  have := clone_ct a hc
  simpa using this

def reverseS : Summ := frameS fun args H => match args with
  | [.sl b 0 n 3 false] => match H[b]? with
    | some (.cells true l) => match sgsOf l with
      | some a => if n = a.length ∧ a.length ≤ 1000000000 then some ([b], [.cells true (sgsA a)], .tuple [], [.cells true (sgsA a.reverse)]) else none
      | none => none
    | _ => none
  | _ => none

theorem reverse_sound : Sound Try.prog 61 reverseS := by
  refine sound_frame (enter_of Try.func61 rfl (by decide)) fun args H em H0 v H1 h => ?_
  split at h <;> try cases h
  rename_i b n
  split at h <;> try cases h
  rename_i l hb
  split at h <;> try cases h
  rename_i a hs
  split at h <;> cases h
  rename_i hc
  obtain ⟨rfl, hc⟩ := hc
  have e := sgsOf_eq hs
  subst e
  refine ⟨_, reverse_ct a hc, by simp, by simp, ?_, by simp⟩
  simp [hb, List.getD_eq_getElem?_getD]
  exact (List.getElem?_eq_some_iff.1 hb).1

end Go.Proofs.Ytbbgmaklmlagcaa

namespace Go.Proofs.Ytbbgmaklmlagcaa
open Go
set_option maxRecDepth 100000
attribute [-simp] drawOk_eq adraw qrun acode aops

/-- Segments with numbers from n on. -/
def numb (n : Int) : List Sg → List Sg
  | [] => []
  | s :: l => (n, s.2) :: numb (n + 1) l

@[simp] theorem numb_length (n : Int) (l : List Sg) : (numb n l).length = l.length := by
  induction l generalizing n with
  | nil => rfl
  | cons s l ih => simp [numb, ih]

theorem numb_snoc (x : Sg) : ∀ (l : List Sg) (n : Int), numb n (l ++ [x]) = numb n l ++ [(n + l.length, x.2)]
  | [], n => by simp [numb]
  | s :: l, n => by
    have := numb_snoc x l (n + 1)
    simp only [List.cons_append, numb, this, List.length_cons]
    rw [show n + 1 + (l.length : Int) = n + ((l.length + 1 : Nat) : Int) by omega]

theorem numb_step (n : Int) (s : List Sg) (k : Nat) (x : Sg) (h : s[k]? = some x) : (numb n (s.take k) ++ s.drop k).set k (n + k, x.2) = numb n (s.take (k + 1)) ++ s.drop (k + 1) := by
  have hk := (List.getElem?_eq_some_iff.1 h).1
  have hx := (List.getElem?_eq_some_iff.1 h).2
  have hl : (s.take k).length = k := by simp; omega
  have e : s.drop k = x :: s.drop (k + 1) := by rw [List.drop_eq_getElem_cons hk, hx]
  rw [List.take_add_one, h, Option.toList_some, numb_snoc, hl, e, List.set_append_right _ _ (by simp; omega)]
  simp [Nat.min_eq_left (Nat.le_of_lt hk)]

theorem sgs_set1 (n : Int) : ∀ (l : List Sg) (k : Nat) (x : Sg), l[k]? = some x → (sgsA l).take (k * 3) ++ [.int .i64 n] ++ (sgsA l).drop (k * 3 + 1) = sgsA (l.set k (n, x.2))
  | [], k, x, h => by simp at h
  | s :: l, 0, x, h => by
    simp at h; subst h
    simp [sgsA, sgA]
  | s :: l, k + 1, x, h => by
    have := sgs_set1 n l k x (by simpa using h)
    rw [show (k + 1) * 3 = k * 3 + 3 by omega, show k * 3 + 3 + 1 = (k * 3 + 1) + 3 by omega]
    simp only [sgsA, sgA, List.cons_append, List.nil_append, List.take_succ_cons, List.drop_succ_cons, List.set_cons_succ, List.append_assoc] at this ⊢
    simpa using this

/-- P23.3. -/
def Mf.lo (m : Mf) (a : Int) : Nat := (max 0 (min a m.segs.length)).toNat
def Mf.hi (m : Mf) (a b : Int) : Nat := (max (m.lo a : Int) (min b m.segs.length)).toNat
def Mf.compacted (m : Mf) (a b : Int) (s : List Sg) : Mf := ⟨m.v + 1, m.f, m.n + s.length, m.segs.take (m.lo a) ++ ((numb m.n s).reverse ++ m.segs.drop (m.hi a b))⟩

theorem Mf.lo_le (m : Mf) (a : Int) : max 0 (min a (m.segs.length : Int)) = m.lo a ∧ m.lo a ≤ m.segs.length := by unfold Mf.lo; omega
theorem Mf.hi_le (m : Mf) (a b : Int) : max (m.lo a : Int) (min b (m.segs.length : Int)) = m.hi a b ∧ m.lo a ≤ m.hi a b ∧ m.hi a b ≤ m.segs.length := by
  have := m.lo_le a
  unfold Mf.hi; omega

def mInl : List FuncId := [60, 62, 93]
theorem mcΓ_ok : GOk Try.prog (runG Try.prog (gams [(59, cloneS), (61, reverseS)]) 4 mInl 2) := gok_run hmix (goks_cons clone_sound (goks_cons reverse_sound goks_nil)) 4 mInl 2

set_option maxHeartbeats 8000000 in
theorem compacted_ct (m : Mf) (from_ to_ : Int) (s : List Sg) (hm : m.segs.length ≤ 1000000) (hs : s.length ≤ 1000000) (v0 : -4611686018427387904 ≤ m.v) (v1 : m.v ≤ 4611686018427387904) (n0 : -4611686018427387904 ≤ m.n) (n1 : m.n ≤ 4611686018427387904) :
    Ct Try.prog 17 [mfA 0 m, .int .i64 from_, .int .i64 to_, .sl 1 0 s.length 3 false] [.cells false (sgsA m.segs), .cells false (sgsA s)]
      (mfA 2 (m.compacted from_ to_ s)) [.cells false (sgsA m.segs), .cells false (sgsA s), .cells true (sgsA (m.compacted from_ to_ s).segs)] := by
  have hΓ := mcΓ_ok
  obtain ⟨la, lb⟩ := m.lo_le from_
  obtain ⟨ha, hb, hc⟩ := m.hi_le from_ to_
  unfold Mf.compacted mfA
  dsimp only
  obtain ⟨a, ea⟩ : ∃ a, m.lo from_ = a := ⟨_, rfl⟩
  obtain ⟨b, eb⟩ : ∃ b, m.hi from_ to_ = b := ⟨_, rfl⟩
  rw [ea] at la lb ha hb ⊢
  rw [eb] at ha hb hc ⊢
  clear ea eb
  obtain ⟨mv, mf, mn, l⟩ := m
  simp only at *
  refine ct_of_sim Try.func17 rfl ?_
  simp only [Try.ntmps17, List.length_cons, List.length_nil, Nat.reduceAdd, Nat.reduceSub, List.replicate, List.cons_append, List.nil_append]
  refine Sim.step hmix hΓ (n := 0) (by simp; exact ⟨rfl, rfl⟩) (by simp) ?_
  refine Sim.step hmix hΓ (n := 0) (by simp [-minA, minA_min, minA_max, la]; exact ⟨rfl, rfl⟩) (by simp) ?_
  refine Sim.step hmix hΓ (n := 0) (by simp [-minA, minA_min, minA_max, ha]; exact ⟨rfl, rfl⟩) (by simp) ?_
  have c1 : s.length ≤ 1000000000 := by omega
  refine Sim.step hmix hΓ (n := 0) (by simp [mInl, cloneS, rowSgs, c1]; exact ⟨rfl, rfl⟩) (by simp) ?_
  refine Sim.step hmix hΓ (n := 0) (by simp; exact ⟨rfl, rfl⟩) (by simp) ?_
  refine Sim.seq (Sim.step hmix hΓ (n := 0) (by simp; exact ⟨rfl, rfl⟩) (by simp) ?_)
  refine Sim.block (Sim.loopW (fun k : Nat => k ≤ s.length)
    (fun k => [.top, .int .i64 a, .int .i64 b, .top, .ptr 2 0, .top, .top, .top, .ptr 3 0, .ptr 5 0, .func 60 [] [.ptr 2 0, .ptr 5 0]] ++ List.replicate 18 .top ++ [.int .i64 s.length, .int .i64 k] ++ List.replicate 25 .top)
    (fun k => [.cells false (sgsA l), .cells false (sgsA s), .cells true [.int .i64 mv, .int .i64 mf, .int .i64 (mn + k), .sl 0 0 l.length 3 false], .cells true [.int .i64 0, .int .i64 0, .int .i64 0, .nils], .cells true (sgsA (numb mn (s.take k) ++ s.drop k)), .cells true [.sl 4 0 s.length 3 false]]) (fun k => s.length - k) 0 (by simp) (by simp) (Weak.mk' [0, 1, 2, 3, 4, 5] (by decide) (by decide) (by simp) (by simp [numb])) fun k hk => ?_)
  by_cases hlt : k < s.length
  · obtain ⟨x, hx⟩ : ∃ x, s[k]? = some x := ⟨_, List.getElem?_eq_getElem hlt⟩
    have hst := numb_step mn s k x hx
    have hL : (numb mn (s.take k) ++ s.drop k).length = s.length := by simp; omega
    have hxL : (numb mn (s.take k) ++ s.drop k)[k]? = some x := by
      rw [List.getElem?_append_right (by simp; omega)]; simp [Nat.min_eq_left hk, hx]
    have h1 := sgs_set1 (mn + k) _ k x hxL
    rw [hst] at h1
    obtain ⟨L, eL⟩ : ∃ L, numb mn (s.take k) ++ s.drop k = L := ⟨_, rfl⟩
    rw [eL] at h1 hL ⊢
    have w1 : IntKind.i64.wrap (mn + k + 1) = mn + (k + 1 : Nat) := by rw [wr_i64 (by omega) (by omega)]; push_cast; omega
    have w2 : IntKind.i64.wrap ((k : Int) + 1) = k + 1 := wr_i64 (by omega) (by omega)
    have t1 : k * 3 + 1 ≤ s.length * 3 := by omega
    simp only [List.append_assoc, List.cons_append, List.nil_append] at h1
    refine Sim.exec hmix hΓ (n := 0) (by simp (decide := true) [hlt, w1, w2, t1, mInl, Try.f60, hL, h1]; exact ⟨rfl, rfl, rfl⟩) (by simp) ?_
    exact ⟨k + 1, by omega, Weak.mk' [0, 1, 2, 3, 4, 5] (by decide) (by decide) (by simp) (by simp), by omega⟩
  have hks : k = s.length := by omega
  subst hks
  refine Sim.exec hmix hΓ (n := 0) (by simp; exact ⟨rfl, rfl, rfl⟩) (by simp) ?_
  dsimp only
  rw [if_pos rfl]
  obtain ⟨N, hN⟩ : ∃ N, numb mn s = N := ⟨_, rfl⟩
  have lN : N.length = s.length := by rw [← hN]; simp
  rw [hN, ← lN]
  have c2 : N.length ≤ 1000000000 := by omega
  refine Sim.step hmix hΓ (n := 0) (by simp [mInl, reverseS, c2]; exact ⟨rfl, rfl⟩) (by simp) ?_
  have w3 : IntKind.i64.wrap (mv + 1) = mv + 1 := wr_i64 (by omega) (by omega)
  refine Sim.step hmix hΓ (n := 0) (by simp [w3]; exact ⟨rfl, rfl⟩) (by simp) ?_
  obtain ⟨r, hr⟩ : ∃ r, N.reverse = r := ⟨_, rfl⟩
  have lr : r.length = N.length := by rw [← hr]; simp
  rw [hr, ← lr]
  have cr : r.length ≤ 1000000 := by omega
  have eA : (sgsA l).take (a * 3) = sgsA (l.take a) := sgs_take l a
  have eB : (sgsA l).drop (b * 3) = sgsA (l.drop b) := sgs_drop l b
  obtain ⟨q, hq⟩ : ∃ q, r.length = q := ⟨_, rfl⟩
  obtain ⟨w, hw⟩ : ∃ w, l.length - b = w := ⟨_, rfl⟩
  obtain ⟨T, hT⟩ : ∃ T : Nat, (a : Int) + q + w = T := ⟨a + q + w, by push_cast; rfl⟩
  have x1 : IntKind.i64.wrap (a : Int) = a := wr_i64 (by omega) (by omega)
  have x2 : IntKind.i64.wrap ((a : Int) + q) = (a : Int) + q := wr_i64 (by omega) (by omega)
  have x3 : IntKind.i64.wrap (T : Int) = T := wr_i64 (by omega) (by omega)
  have x4 : ¬ ((a : Int) + q < 0) := by omega
  have x5 : ¬ ((a : Int) < 0) := by omega
  have y1 : ∀ x : Nat, x = 0 → IntKind.i64.wrap (x : Int) = 0 := fun x h => by subst h; rfl
  have lA : (sgsA (l.take a)).length = a * 3 := by simp; omega
  have lr3 : (sgsA r).length = q * 3 := by simp [hq]
  have lB : (sgsA (l.drop b)).length = w * 3 := by simp [hw]
  have z1 : a * 3 ≤ l.length * 3 := by omega
  have z2 : b * 3 + w * 3 ≤ l.length * 3 := by omega
  have tkA : (sgsA (l.take a)).take (a * 3) = sgsA (l.take a) := List.take_of_length_le (by omega)
  have tkr : (sgsA r).take (q * 3) = sgsA r := List.take_of_length_le (by omega)
  have tkB : (sgsA (l.drop b)).take (w * 3) = sgsA (l.drop b) := List.take_of_length_le (by omega)
  have hba : b ≤ l.length := hc
  rw [hq]
  refine Sim.seq (Sim.draw hmix (by simp) ?_)
  refine SimR.many hΓ 10 (by simp [stageOps]; rfl) (by omega) (by kernel_rfl) (by simp (decide := true) [lb, hc, hw]; exact ⟨rfl, rfl⟩) ?_
  by_cases htot : T = 0
  · have ea : a = 0 := by omega
    have eq : q = 0 := by omega
    have ew : w = 0 := by omega
    have eb : b = l.length := by omega
    have er : r = [] := by apply List.eq_nil_of_length_eq_zero; omega
    subst ea; subst eq; subst ew; subst eb; subst er; subst htot
    refine SimR.one hΓ _ rfl (by kernel_rfl) (by simp (decide := true) [mInl, Try.f62, Try.f93]; exact ⟨rfl, rfl⟩) ?_
    refine SimR.many hΓ 13 (by simp [stageOps, blankOp]; rfl) (by omega) (by kernel_rfl) (by simp (decide := true); exact ⟨rfl, rfl⟩) ?_
    refine SimR.done rfl ?_
    dsimp only
    refine Sim.exec hmix hΓ (n := 0) (by simp; exact ⟨rfl, rfl, rfl⟩) (by simp) ?_
    exact ⟨.inr rfl, _, by simp [Try.f17] <;> rfl, Weak.mk' [0, 1, 9] (by decide) (by decide) (by simp) (by simp [sgsA])⟩
  have t0 : 0 < T := by omega
  have tb : T * 24 ≤ 140737488355328 := by omega
  have tm : T ≤ 9223372036854775807 := by omega
  have hmin : min a l.length = a := by omega
  have b1 : a * 24 ≤ 140737488355328 := by omega
  have b2 : a ≤ 9223372036854775807 := by omega
  have b3 : (a + q) * 24 ≤ 140737488355328 := by omega
  have b4 : a + q ≤ 9223372036854775807 := by omega
  have b5 : (a + q + w) * 24 ≤ 140737488355328 := by omega
  have b6 : a + q + w ≤ 9223372036854775807 := by omega
  have h4 : (a + q) * 3 = a * 3 + q * 3 := by omega
  have h3 : (sgsA (l.take a) ++ sgsA r).take ((a + q) * 3) = sgsA (l.take a) ++ sgsA r := List.take_of_length_le (by rw [List.length_append]; omega)
  have h5 := h3
  rw [h4] at h5
  refine SimR.one hΓ _ rfl (by kernel_rfl) (by simp (decide := true) [mInl, Try.f62, Try.f93, x1, x2, x3, x4, x5, hT, t0, tb, tm, z1, z2, eA, eB, tkA, tkr, tkB, hmin, hq, b1, b2, b3, b4, b5, b6, h4]; exact ⟨rfl, rfl⟩) ?_
  refine SimR.many hΓ 13 (by simp [stageOps, blankOp]; rfl) (by omega) (by kernel_rfl) (by simp (decide := true); exact ⟨rfl, rfl⟩) ?_
  refine SimR.done rfl ?_
  dsimp only
  refine Sim.exec hmix hΓ (n := 0) (by simp; exact ⟨rfl, rfl, rfl⟩) (by simp) ?_
  exact ⟨.inr rfl, _, by simp [Try.f17] <;> rfl, Weak.mk' [0, 1, 10] (by decide) (by decide) (by simp [hq, hw, hmin]; omega) (by simp [h5])⟩

/-- Segments that a slice holds, a second window. -/
theorem mf_row_win {H : AHeap} {x y : AV} {m : Mf} {a : List Sg} (h : mfOf H x = some m) (k : rowSgs H y = some a) : ∃ wd : List (Nat × Nat), winA wd (mfA 0 m) x ∧ winA wd (.sl 1 0 a.length 3 false) y ∧ winH H [.cells false (sgsA m.segs), .cells false (sgsA a)] wd := by
  obtain ⟨b1, o1, w1, g1⟩ := mf_win h
  obtain ⟨b2, o2, w2, g2⟩ := rowSgs_win k
  exact ⟨[(b1, o1), (b2, o2)], w1 0 _ rfl, w2 1 _ rfl, g1, frees_sgs _, g2, frees_sgs _, trivial⟩

/-- A manifest's numbers may be counted with. -/
def Mf.fit (m : Mf) (s : List Sg) : Prop := m.segs.length ≤ 1000000 ∧ s.length ≤ 1000000 ∧ -4611686018427387904 ≤ m.v ∧ m.v ≤ 4611686018427387904 ∧ -4611686018427387904 ≤ m.n ∧ m.n ≤ 4611686018427387904
instance (m : Mf) (s : List Sg) : Decidable (m.fit s) := by unfold Mf.fit; infer_instance

def compactedS : Summ := readNewS fun args H => match args with
  | [x, .int .i64 a, .int .i64 b, y] => match mfOf H x, rowSgs H y with
    | some m, some s => if m.fit s then some (mfA 0 (m.compacted a b s), [.cells true (sgsA (m.compacted a b s).segs)]) else none
    | _, _ => none
  | _ => none

theorem compacted_sound : Sound Try.prog 17 compactedS := by
  refine sound_readNew (enter_of Try.func17 rfl (by decide)) fun args H v N h => ?_
  split at h <;> try cases h
  rename_i x a b y
  split at h <;> try cases h
  rename_i m s hx hy
  split at h <;> cases h
  rename_i hc
  obtain ⟨c1, c2, c3, c4, c5, c6⟩ := hc
  obtain ⟨wd, w1, w2, w3⟩ := mf_row_win hx hy
  refine ct_winN (H0 := [.cells false (sgsA m.segs), .cells false (sgsA s)]) (args0 := [mfA 0 m, .int .i64 a, .int .i64 b, .sl 1 0 s.length 3 false]) ?_ rfl wd ⟨w1, by simp [winA], by simp [winA], w2, trivial⟩ w3
  have := compacted_ct m a b s c1 c2 c3 c4 c5 c6
  simpa [mfA] using this

/-- P23.3. -/
def Mf.flushed (m : Mf) (f : Int) (s : List Sg) : Mf := { m.compacted 0 0 s with f := f }

theorem flΓ_ok : GOk Try.prog (gams [(17, compactedS)]) := goks_cons compacted_sound goks_nil

set_option maxHeartbeats 4000000 in
theorem flushed_ct (m : Mf) (f : Int) (s : List Sg) (hc : m.fit s) :
    Ct Try.prog 16 [mfA 0 m, .int .i64 f, .sl 1 0 s.length 3 false] [.cells false (sgsA m.segs), .cells false (sgsA s)]
      (mfA 2 (m.flushed f s)) [.cells false (sgsA m.segs), .cells false (sgsA s), .cells true (sgsA (m.flushed f s).segs)] := by
  have e : m.flushed f s = ⟨(m.compacted 0 0 s).v, f, (m.compacted 0 0 s).n, (m.compacted 0 0 s).segs⟩ := rfl
  obtain ⟨r, hr⟩ : ∃ r, m.compacted 0 0 s = r := ⟨_, rfl⟩
  rw [e, hr]
  obtain ⟨mv, mf, mn, l⟩ := m
  obtain ⟨rv, rf, rn, rl⟩ := r
  refine ct_runE hmix flΓ_ok (n := 0) Try.func16 ?_
  unfold Try.f16
  exact ⟨_, _, (by simp (decide := true) [mfA, compactedS, rowSgs, hc, hr]; exact ⟨rfl, rfl⟩), Weak.mk' [0, 1, 4] (by decide) rfl (by simp [mfA]) (by simp)⟩

def flushedS : Summ := readNewS fun args H => match args with
  | [x, .int .i64 f, y] => match mfOf H x, rowSgs H y with
    | some m, some s => if m.fit s then some (mfA 0 (m.flushed f s), [.cells true (sgsA (m.flushed f s).segs)]) else none
    | _, _ => none
  | _ => none

theorem flushed_sound : Sound Try.prog 16 flushedS := by
  refine sound_readNew (enter_of Try.func16 rfl (by decide)) fun args H v N h => ?_
  split at h <;> try cases h
  rename_i x f y
  split at h <;> try cases h
  rename_i m s hx hy
  split at h <;> cases h
  rename_i hc
  obtain ⟨wd, w1, w2, w3⟩ := mf_row_win hx hy
  refine ct_winN (H0 := [.cells false (sgsA m.segs), .cells false (sgsA s)]) (args0 := [mfA 0 m, .int .i64 f, .sl 1 0 s.length 3 false]) ?_ rfl wd ⟨w1, by simp [winA], w2, trivial⟩ w3
  have := flushed_ct m f s hc
  simpa [mfA] using this

end Go.Proofs.Ytbbgmaklmlagcaa

namespace Go.Proofs.Ytbbgmaklmlagcaa
open Go
set_option maxRecDepth 100000
attribute [-simp] drawOk_eq adraw qrun acode aops

def inB (n a b : Int) : Bool := decide (a ≤ n ∧ n ≤ b)
theorem within_ct (n a b : Int) : Ct Try.prog 78 [.int .i64 n, .int .i64 a, .int .i64 b] [] (.bool (inB n a b)) [] := by
  refine ct_val hmix goks_nil (n := 0) Try.func78 ?_ (by simp)
  unfold Try.f78
  by_cases h1 : a ≤ n
  · simp [h1, inB]
  · simp [h1, inB]

def withinS : Summ := pureS fun | [.int .i64 n, .int .i64 a, .int .i64 b] => some (.bool (inB n a b)) | _ => none
theorem within_sound : Sound Try.prog 78 withinS := by
  refine sound_pure (enter_of Try.func78 rfl (by decide)) fun args v h => ?_
  split at h <;> cases h
  exact ⟨within_ct _ _ _, by simp, by simp⟩

theorem wiΓ_ok : GOk Try.prog (gams [(78, withinS)]) := goks_cons within_sound goks_nil

theorem all_take (p : Sg → Bool) (l : List Sg) (k : Nat) (x : Sg) (h : l[k]? = some x) : (l.take (k + 1)).all p = ((l.take k).all p && p x) := by
  rw [List.take_add_one, h]; simp

theorem nums_take (l : List Sg) (k : Nat) (x : Sg) (h : l[k]? = some x) : numsS (l.take (k + 1)) = numsS (l.take k) ++ [x.1] := by
  rw [List.take_add_one, h]; simp [numsS]

theorem nodup_snoc (u : List Int) (x : Int) : (u ++ [x]).Nodup ↔ u.Nodup ∧ x ∉ u := by
  rw [List.nodup_append]
  constructor
  · rintro ⟨a, _, b⟩; exact ⟨a, fun h => b x h x (by simp) rfl⟩
  · rintro ⟨a, b⟩; exact ⟨a, by simp, fun y hy z hz e => b (by simp at hz; rw [← hz, ← e]; exact hy)⟩

theorem nodup_take (l : List Sg) (k : Nat) (h : (numsS l).Nodup) : (numsS (l.take k)).Nodup := by
  unfold numsS at h ⊢
  rw [List.map_take]
  exact h.sublist (List.take_sublist _ _)

set_option maxHeartbeats 8000000 in
theorem rright_ct (m : Mf) (hl : m.segs.length ≤ 1000000000000) : Ct Try.prog 41 [mfA 0 m] [.cells false (sgsA m.segs)] (.bool m.right) [.cells false (sgsA m.segs)] := by
  have hΓ := wiΓ_ok
  unfold Mf.right
  obtain ⟨mv, mf, mn, l⟩ := m
  simp only at hl ⊢
  have hc : Mf.counts ⟨mv, mf, mn, l⟩ = (inB mv 0 900000000 && (inB mf 1 900000000 && inB mn 1 900000000)) := by
    unfold Mf.counts inB; rw [Bool.eq_iff_iff]; simp [and_assoc]
  have hok : ∀ x : Sg, Sg.ok mn x = (inB x.1 1 (mn - 1) && (inB x.2.1 1 100000 && inB x.2.2 1 1000000000)) := by
    intro x; unfold Sg.ok inB; rw [Bool.eq_iff_iff]; simp [and_assoc, Int.le_sub_one_iff]
  rw [hc]
  clear hc
  have hl2 : (1000 < (l.length : Int)) ↔ ¬ (l.length ≤ 1000) := by omega
  refine ct_of_sim Try.func41 rfl ?_
  simp only [Try.ntmps41, List.length_cons, List.length_nil, Nat.reduceAdd, Nat.reduceSub, List.replicate, List.cons_append, List.nil_append, mfA]
  refine Sim.step hmix hΓ (n := 0) (by simp; exact ⟨rfl, rfl⟩) (by simp) ?_
  cases h1 : inB mv 0 900000000
  · refine Sim.exec hmix hΓ (n := 0) (by simp [withinS, h1]; exact ⟨rfl, rfl, rfl⟩) (by simp) ?_
    exact ⟨.inr rfl, _, by simp [Try.f41] <;> rfl, Weak.mk' [0] (by decide) rfl (by simp) (by simp)⟩
  cases h2 : inB mf 1 900000000
  · refine Sim.exec hmix hΓ (n := 0) (by simp [withinS, h1, h2]; exact ⟨rfl, rfl, rfl⟩) (by simp) ?_
    exact ⟨.inr rfl, _, by simp [Try.f41] <;> rfl, Weak.mk' [0] (by decide) rfl (by simp) (by simp)⟩
  cases h3 : inB mn 1 900000000
  · refine Sim.exec hmix hΓ (n := 0) (by simp [withinS, h1, h2, h3]; exact ⟨rfl, rfl, rfl⟩) (by simp) ?_
    exact ⟨.inr rfl, _, by simp [Try.f41] <;> rfl, Weak.mk' [0] (by decide) rfl (by simp) (by simp)⟩
  by_cases h4 : l.length ≤ 1000
  rotate_left
  · refine Sim.exec hmix hΓ (n := 0) (by simp [withinS, h1, h2, h3, h4, hl2]; exact ⟨rfl, rfl, rfl⟩) (by simp) ?_
    exact ⟨.inr rfl, _, by simp [Try.f41] <;> rfl, Weak.mk' [0] (by decide) rfl (by simp [h4]) (by simp)⟩
  refine Sim.step hmix hΓ (n := 0) (by simp [withinS, h1, h2, h3, h4, hl2]; exact ⟨rfl, rfl⟩) (by simp) ?_
  have w0 : IntKind.i64.wrap (mn - 1) = mn - 1 := by
    simp only [inB, decide_eq_true_eq] at h3
    exact wr_i64 (by omega) (by omega)
  simp only [Bool.true_and, h4, decide_true]
  have hfin : ∀ k x, l[k]? = some x → (l.take k).all (Sg.ok mn) = true → (Sg.ok mn x = false ∨ x.1 ∈ numsS (l.take k)) → (l.all (Sg.ok mn) && decide (numsS l).Nodup) = false := by
    intro k x hx ha hb
    rw [Bool.eq_false_iff]
    intro h
    rw [Bool.and_eq_true, decide_eq_true_eq] at h
    rcases hb with hb | hb
    · have := List.all_eq_true.1 h.1 x (List.mem_of_getElem? hx)
      rw [hb] at this; cases this
    · have := nodup_take l (k + 1) h.2
      rw [nums_take l k x hx, nodup_snoc] at this
      exact this.2 hb
  refine Sim.seq (Sim.step hmix hΓ (n := 0) (by simp; exact ⟨rfl, rfl⟩) (by simp) ?_)
  refine Sim.block (Sim.loopW (fun i : Nat => i ≤ l.length ∧ (l.take i).all (Sg.ok mn) = true ∧ (numsS (l.take i)).Nodup)
    (fun i => [.top, .ptr 1 0, .bool false, .int .i64 i] ++ List.replicate 69 .top)
    (fun _ => [.cells false (sgsA l), .cells true [.int .i64 mv, .int .i64 mf, .int .i64 mn, .sl 0 0 l.length 3 false]]) (fun i => l.length - i) 0 (by simp) (by simp [numsS]) (Weak.mk' [0, 1] (by decide) (by decide) (by simp) (by simp)) fun i hi => ?_)
  obtain ⟨hi, ha, hn⟩ := hi
  by_cases hlt : i < l.length
  rotate_left
  · refine Sim.exec hmix hΓ (n := 0) (by simp [hlt]; exact ⟨rfl, rfl, rfl⟩) (by simp) ?_
    dsimp only
    rw [if_pos rfl]
    refine Sim.exec hmix hΓ (n := 0) (by simp; exact ⟨rfl, rfl, rfl⟩) (by simp) ?_
    rw [List.take_of_length_le (by omega)] at ha hn
    exact ⟨.inr rfl, _, by simp [Try.f41] <;> rfl, Weak.mk' [0] (by decide) rfl (by simp only [ha, hn]; simp) (by simp)⟩
  obtain ⟨x, hx⟩ : ∃ x, l[i]? = some x := ⟨_, List.getElem?_eq_getElem hlt⟩
  have g1 := sgs_get l i hlt
  rw [(List.getElem?_eq_some_iff.1 hx).2] at g1
  have hf := hfin i x hx ha
  have hokx := hok x
  have hall := all_take (Sg.ok mn) l i x hx
  have hnums := nums_take l i x hx
  have k1 : i * 3 + 3 ≤ l.length * 3 := by omega
  have w1 : IntKind.i64.wrap ((i : Int) + 1) = i + 1 := wr_i64 (by omega) (by omega)
  obtain ⟨x1, x2, x3⟩ := x
  simp [sgA] at g1
  refine Sim.step hmix hΓ (n := 0) (by simp [hlt]; exact ⟨rfl, rfl⟩) (by simp) ?_
  refine Sim.seq (Sim.block ?_)
  refine Sim.step hmix hΓ (n := 0) (by simp (decide := true) [hlt, g1, k1]; exact ⟨rfl, rfl⟩) (by simp) ?_
  cases e1 : inB x1 1 (mn - 1)
  · rw [hf (.inl (by rw [hokx]; simp [e1]))]
    refine Sim.exec hmix hΓ (n := 0) (by simp [withinS, w0, e1]; exact ⟨rfl, rfl, rfl⟩) (by simp) ?_
    exact ⟨.inr rfl, _, by simp [Try.f41] <;> rfl, Weak.mk' [0] (by decide) rfl (by simp) (by simp)⟩
  cases e2 : inB x2 1 100000
  · rw [hf (.inl (by rw [hokx]; simp [e2]))]
    refine Sim.exec hmix hΓ (n := 0) (by simp [withinS, w0, e1, e2]; exact ⟨rfl, rfl, rfl⟩) (by simp) ?_
    exact ⟨.inr rfl, _, by simp [Try.f41] <;> rfl, Weak.mk' [0] (by decide) rfl (by simp) (by simp)⟩
  cases e3 : inB x3 1 1000000000
  · rw [hf (.inl (by rw [hokx]; simp [e3]))]
    refine Sim.exec hmix hΓ (n := 0) (by simp [withinS, w0, e1, e2, e3]; exact ⟨rfl, rfl, rfl⟩) (by simp) ?_
    exact ⟨.inr rfl, _, by simp [Try.f41] <;> rfl, Weak.mk' [0] (by decide) rfl (by simp) (by simp)⟩
  have hokt : Sg.ok mn (x1, x2, x3) = true := by rw [hokx]; simp [e1, e2, e3]
  refine Sim.step hmix hΓ (n := 0) (by simp [withinS, w0, e1, e2, e3]; exact ⟨rfl, rfl⟩) (by simp) ?_
  refine Sim.step hmix hΓ (n := 0) (by simp; exact ⟨rfl, rfl⟩) (by simp) ?_
  refine Sim.block (Sim.loopW (fun k : Nat => k ≤ i ∧ x1 ∉ numsS (l.take k))
    (fun k => [.top, .ptr 1 0, .bool false, .int .i64 i, .ptr 2 0, .int .i64 k] ++ List.replicate 67 .top)
    (fun _ => [.cells false (sgsA l), .cells true [.int .i64 mv, .int .i64 mf, .int .i64 mn, .sl 0 0 l.length 3 false], .cells true [.int .i64 x1, .int .i64 x2, .int .i64 x3]]) (fun k => i - k) 0 (by simp) (by simp [numsS]) (Weak.mk' [0, 1, 2] (by decide) (by decide) (by simp) (by simp)) fun k hk => ?_)
  obtain ⟨hk, hnk⟩ := hk
  by_cases hki : k < i
  rotate_left
  · have : k = i := by omega
    subst this
    refine Sim.exec hmix hΓ (n := 0) (by simp; exact ⟨rfl, rfl, rfl⟩) (by simp) ?_
    dsimp only
    rw [if_pos rfl]
    refine Sim.exec hmix hΓ (n := 0) (by simp [w1]; exact ⟨rfl, rfl, rfl⟩) (by simp) ?_
    exact ⟨k + 1, ⟨by omega, by rw [hall, ha, hokt]; rfl, by rw [hnums, nodup_snoc]; exact ⟨hn, hnk⟩⟩, Weak.mk' [0, 1] (by decide) (by decide) (by simp) (by simp), by omega⟩
  have hkl : k < l.length := by omega
  obtain ⟨y, hy⟩ : ∃ y, l[k]? = some y := ⟨_, List.getElem?_eq_getElem hkl⟩
  have g2 : ∀ h, (sgsA l)[k * 3]'h = .int .i64 y.1 := fun h => by have := sgs_fst l k y hy; rw [List.getElem?_eq_getElem h] at this; simpa using this
  have w2 : IntKind.i64.wrap ((k : Int) + 1) = k + 1 := wr_i64 (by omega) (by omega)
  have hny := nums_take l k y hy
  by_cases he : y.1 = x1
  · have hmem : x1 ∈ numsS (l.take i) := by
      have : x1 ∈ numsS (l.take (k + 1)) := by rw [hny, he]; simp
      unfold numsS at this ⊢
      rw [List.map_take] at this ⊢
      have h9 : (List.map (fun x : Sg => x.1) l).take (k + 1) = ((List.map (fun x : Sg => x.1) l).take i).take (k + 1) := by rw [List.take_take, Nat.min_eq_left (by omega)]
      rw [h9] at this
      exact List.mem_of_mem_take this
    rw [hf (.inr hmem)]
    refine Sim.exec hmix hΓ (n := 0) (by simp (decide := true) [hki, hkl, g2, he]; exact ⟨rfl, rfl, rfl⟩) (by simp) ?_
    exact ⟨.inr rfl, _, by simp [Try.f41] <;> rfl, Weak.mk' [0] (by decide) rfl (by simp) (by simp)⟩
  · have he' : (y.1 == x1) = false := by simpa using he
    refine Sim.exec hmix hΓ (n := 0) (by simp (decide := true) [hki, hkl, g2, he', w2]; exact ⟨rfl, rfl, rfl⟩) (by simp) ?_
    exact ⟨k + 1, ⟨by omega, by rw [hny]; simp [hnk]; exact fun e => he e.symm⟩, Weak.mk' [0, 1, 2] (by decide) (by decide) (by simp) (by simp), by omega⟩

theorem rright_sound : Sound Try.prog 41 mrightS := by
  refine sound_read (enter_of Try.func41 rfl (by decide)) fun args H v h => ?_
  split at h <;> try cases h
  rename_i x
  split at h <;> try cases h
  rename_i m hx
  split at h <;> cases h
  rename_i hc
  obtain ⟨b1, o1, w1, g1⟩ := mf_win hx
  refine ct_win (rright_ct m hc) rfl [(b1, o1)] ?_ ?_
  · exact ⟨w1 0 _ rfl, trivial⟩
  · exact ⟨g1, frees_sgs _, trivial⟩

set_option maxHeartbeats 8000000 in
theorem rsame_ct (a b : Mf) (ha : a.segs.length ≤ 1000000000000) :
    Ct Try.prog 21 [mfA 0 a, mfA 1 b] [.cells false (sgsA a.segs), .cells false (sgsA b.segs)] (.bool (decide (a = b))) [.cells false (sgsA a.segs), .cells false (sgsA b.segs)] := by
  obtain ⟨av, af, an, l⟩ := a
  obtain ⟨bv, bf, bn, m⟩ := b
  simp only at ha
  refine ct_of_sim Try.func21 rfl ?_
  simp only [Try.ntmps21, List.length_cons, List.length_nil, Nat.reduceAdd, Nat.reduceSub, List.replicate, List.cons_append, List.nil_append, mfA]
  have hΓ := goks_nil (P := Try.prog)
  refine Sim.step hmix hΓ (n := 0) (by simp; exact ⟨rfl, rfl⟩) (by simp) ?_
  have fin : ∀ (x y : List AV) (v : Bool), Weak 2 [.bool v] ([.cells false (sgsA l), .cells false (sgsA m)] ++ [.cells true x, .cells true y]) [.bool v] [.cells false (sgsA l), .cells false (sgsA m)] := fun x y v => Weak.mk' [0, 1] (by decide) (by decide) (by simp) (by simp)
  have ne : ∀ x y : Int, x ≠ y → (x != y) = true := fun x y h => by simpa using h
  by_cases h1 : av = bv
  rotate_left
  · have e : decide ((⟨av, af, an, l⟩ : Mf) = ⟨bv, bf, bn, m⟩) = false := by simp [h1]
    rw [e]
    refine Sim.exec hmix hΓ (n := 0) (by simp [ne _ _ h1]; exact ⟨rfl, rfl, rfl⟩) (by simp) ?_
    exact ⟨.inr rfl, _, by simp [Try.f21] <;> rfl, fin _ _ _⟩
  by_cases h2 : af = bf
  rotate_left
  · have e : decide ((⟨av, af, an, l⟩ : Mf) = ⟨bv, bf, bn, m⟩) = false := by simp [h2]
    rw [e]
    refine Sim.exec hmix hΓ (n := 0) (by simp [h1, ne _ _ h2]; exact ⟨rfl, rfl, rfl⟩) (by simp) ?_
    exact ⟨.inr rfl, _, by simp [Try.f21] <;> rfl, fin _ _ _⟩
  by_cases h3 : an = bn
  rotate_left
  · have e : decide ((⟨av, af, an, l⟩ : Mf) = ⟨bv, bf, bn, m⟩) = false := by simp [h3]
    rw [e]
    refine Sim.exec hmix hΓ (n := 0) (by simp [h1, h2, ne _ _ h3]; exact ⟨rfl, rfl, rfl⟩) (by simp) ?_
    exact ⟨.inr rfl, _, by simp [Try.f21] <;> rfl, fin _ _ _⟩
  by_cases h4 : l.length = m.length
  rotate_left
  · have e : decide ((⟨av, af, an, l⟩ : Mf) = ⟨bv, bf, bn, m⟩) = false := by simp; rintro _ _ _ rfl; exact h4 rfl
    rw [e]
    have h4' : ((l.length : Int) != (m.length : Int)) = true := ne _ _ (by omega)
    refine Sim.exec hmix hΓ (n := 0) (by simp [h1, h2, h3, h4']; exact ⟨rfl, rfl, rfl⟩) (by simp) ?_
    exact ⟨.inr rfl, _, by simp [Try.f21] <;> rfl, fin _ _ _⟩
  subst h1; subst h2; subst h3
  have hd : decide ((⟨av, af, an, l⟩ : Mf) = ⟨av, af, an, m⟩) = decide (l = m) := by simp
  rw [hd]
  refine Sim.step hmix hΓ (n := 0) (by simp [h4]; exact ⟨rfl, rfl⟩) (by simp) ?_
  refine Sim.seq (Sim.step hmix hΓ (n := 0) (by simp; exact ⟨rfl, rfl⟩) (by simp) ?_)
  refine Sim.block (Sim.loopW (fun k : Nat => k ≤ l.length ∧ l.take k = m.take k)
    (fun k => [.top, .top, .ptr 2 0, .ptr 3 0, .bool false, .int .i64 k] ++ List.replicate 46 .top)
    (fun _ => [.cells false (sgsA l), .cells false (sgsA m), .cells true [.int .i64 av, .int .i64 af, .int .i64 an, .sl 0 0 l.length 3 false], .cells true [.int .i64 av, .int .i64 af, .int .i64 an, .sl 1 0 m.length 3 false]]) (fun k => l.length - k) 0 (by simp) (by simp) (Weak.mk' [0, 1, 2, 3] (by decide) (by decide) (by simp) (by simp [h4])) fun k hk => ?_)
  obtain ⟨hk, hak⟩ := hk
  by_cases hlt : k < l.length
  rotate_left
  · have e : decide (l = m) = true := by
      rw [List.take_of_length_le (by omega), List.take_of_length_le (by omega)] at hak
      simpa using hak
    rw [e]
    refine Sim.exec hmix hΓ (n := 0) (by simp [hlt]; exact ⟨rfl, rfl, rfl⟩) (by simp) ?_
    dsimp only
    rw [if_pos rfl]
    refine Sim.exec hmix hΓ (n := 0) (by simp; exact ⟨rfl, rfl, rfl⟩) (by simp) ?_
    exact ⟨.inr rfl, _, by simp [Try.f21] <;> rfl, fin _ _ _⟩
  have hltm : k < m.length := by omega
  have w1 : IntKind.i64.wrap ((k : Int) + 1) = k + 1 := wr_i64 (by omega) (by omega)
  obtain ⟨x, hx⟩ : ∃ x, l[k]? = some x := ⟨_, List.getElem?_eq_getElem hlt⟩
  obtain ⟨y, hy⟩ : ∃ y, m[k]? = some y := ⟨_, List.getElem?_eq_getElem hltm⟩
  have g1 := sgs_get l k hlt
  have g2 := sgs_get m k hltm
  rw [(List.getElem?_eq_some_iff.1 hx).2] at g1
  rw [(List.getElem?_eq_some_iff.1 hy).2] at g2
  have k1 : k * 3 + 3 ≤ l.length * 3 := by omega
  have k2 : k * 3 + 3 ≤ m.length * 3 := by omega
  by_cases he : x = y
  · subst he
    have ht : l.take (k + 1) = m.take (k + 1) := by rw [List.take_add_one, List.take_add_one, hak, hx, hy]
    refine Sim.exec hmix hΓ (n := 0) (by simp (decide := true) [hlt, hltm, g1, g2, w1, k1, k2, sgA]; exact ⟨rfl, rfl, rfl⟩) (by simp) ?_
    exact ⟨k + 1, ⟨by omega, ht⟩, Weak.mk' [0, 1, 2, 3] (by decide) (by decide) (by simp) (by simp), by omega⟩
  · have e : decide (l = m) = false := by simp; rintro rfl; rw [hx] at hy; exact he (Option.some.inj hy)
    rw [e]
    have hne : (x.1 == y.1 && (x.2.1 == y.2.1 && (x.2.2 == y.2.2 && true))) = false := by
      obtain ⟨x1, x2, x3⟩ := x
      obtain ⟨y1, y2, y3⟩ := y
      simp at he ⊢
      exact he
    refine Sim.exec hmix hΓ (n := 0) (by simp (decide := true) [hlt, hltm, g1, g2, k1, k2, sgA, -Bool.and_true, hne]; exact ⟨rfl, rfl, rfl⟩) (by simp) ?_
    exact ⟨.inr rfl, _, by simp [Try.f21] <;> rfl, fin _ _ _⟩

theorem rsame_sound : Sound Try.prog 21 msameS := by
  refine sound_read (enter_of Try.func21 rfl (by decide)) fun args H v h => ?_
  split at h <;> try cases h
  rename_i x y
  split at h <;> try cases h
  rename_i a b hx hy
  split at h <;> cases h
  rename_i hc
  obtain ⟨b1, o1, w1, g1⟩ := mf_win hx
  obtain ⟨b2, o2, w2, g2⟩ := mf_win hy
  refine ct_win (rsame_ct a b hc) rfl [(b1, o1), (b2, o2)] ?_ ?_
  · exact ⟨w1 0 _ rfl, w2 1 _ rfl, trivial⟩
  · exact ⟨g1, frees_sgs _, g2, frees_sgs _, trivial⟩

end Go.Proofs.Ytbbgmaklmlagcaa

namespace Go.Proofs.Ytbbgmaklmlagcaa
open Go
set_option maxRecDepth 100000
attribute [-simp] drawOk_eq adraw qrun acode aops

set_option maxHeartbeats 8000000 in
theorem rcompacted_ct (m : Mf) (from_ to_ : Int) (s : List Sg) (hm : m.segs.length ≤ 1000000) (hs : s.length ≤ 1000000) (v0 : -4611686018427387904 ≤ m.v) (v1 : m.v ≤ 4611686018427387904) (n0 : -4611686018427387904 ≤ m.n) (n1 : m.n ≤ 4611686018427387904) :
    Ct Try.prog 25 [mfA 0 m, .int .i64 from_, .int .i64 to_, .sl 1 0 s.length 3 false] [.cells false (sgsA m.segs), .cells false (sgsA s)]
      (mfA 2 (m.compacted from_ to_ s)) [.cells false (sgsA m.segs), .cells false (sgsA s), .cells true (sgsA (m.compacted from_ to_ s).segs)] := by
  have hΓ := goks_nil (P := Try.prog)
  obtain ⟨la, lb⟩ := m.lo_le from_
  obtain ⟨ha, hb, hc⟩ := m.hi_le from_ to_
  unfold Mf.compacted mfA
  dsimp only
  obtain ⟨a, ea⟩ : ∃ a, m.lo from_ = a := ⟨_, rfl⟩
  obtain ⟨b, eb⟩ : ∃ b, m.hi from_ to_ = b := ⟨_, rfl⟩
  rw [ea] at la lb ha hb ⊢
  rw [eb] at ha hb hc ⊢
  clear ea eb
  obtain ⟨mv, mf, mn, l⟩ := m
  simp only at *
  refine ct_of_sim Try.func25 rfl ?_
  simp only [Try.ntmps25, List.length_cons, List.length_nil, Nat.reduceAdd, Nat.reduceSub, List.replicate, List.cons_append, List.nil_append]
  have w3 : IntKind.i64.wrap (mv + 1) = mv + 1 := wr_i64 (by omega) (by omega)
  refine Sim.step hmix hΓ (n := 0) (by simp; exact ⟨rfl, rfl⟩) (by simp) ?_
  refine Sim.step hmix hΓ (n := 0) (by simp [-minA, minA_min, minA_max, la]; exact ⟨rfl, rfl⟩) (by simp) ?_
  refine Sim.step hmix hΓ (n := 0) (by simp [-minA, minA_min, minA_max, ha]; exact ⟨rfl, rfl⟩) (by simp) ?_
  refine Sim.step hmix hΓ (n := 0) (by simp [w3]; exact ⟨rfl, rfl⟩) (by simp) ?_
  refine Sim.step hmix hΓ (n := 0) (by simp; exact ⟨rfl, rfl⟩) (by simp) ?_
  refine Sim.seq (Sim.step hmix hΓ (n := 0) (by simp; exact ⟨rfl, rfl⟩) (by simp) ?_)
  refine Sim.block (Sim.loopW (fun k : Nat => k ≤ s.length)
    (fun k => [.top, .int .i64 a, .int .i64 b, .sl 1 0 s.length 3 false, .ptr 2 0, .top, .top, .top, .ptr 3 0, .ptr 4 0, .sl 5 0 k 3 false, .int .i64 k] ++ List.replicate 65 .top)
    (fun k => [.cells false (sgsA l), .cells false (sgsA s), .cells true [.int .i64 mv, .int .i64 mf, .int .i64 mn, .sl 0 0 l.length 3 false], .cells true [.int .i64 0, .int .i64 0, .int .i64 0, .nils], .cells true [.int .i64 (mv + 1), .int .i64 mf, .int .i64 (mn + k), .nils], .cells true (sgsA (numb mn (s.take k)).reverse)]) (fun k => s.length - k) 0 (by simp) (by simp) (Weak.mk' [0, 1, 2, 3, 4, 100] (by decide) (by decide) (by simp) (by simp)) fun k hk => ?_)
  by_cases hlt : k < s.length
  · obtain ⟨x, hx⟩ : ∃ x, s[k]? = some x := ⟨_, List.getElem?_eq_getElem hlt⟩
    have g1 := sgs_get s k hlt
    rw [(List.getElem?_eq_some_iff.1 hx).2] at g1
    have k1 : k * 3 + 3 ≤ s.length * 3 := by omega
    have e : numb mn (s.take (k + 1)) = numb mn (s.take k) ++ [(mn + k, x.2)] := by
      rw [List.take_add_one, hx, Option.toList_some, numb_snoc]; simp; omega
    have er : (numb mn (s.take (k + 1))).reverse = (mn + k, x.2) :: (numb mn (s.take k)).reverse := by rw [e]; simp
    obtain ⟨L, eL⟩ : ∃ L, (numb mn (s.take k)).reverse = L := ⟨_, rfl⟩
    have hL : L.length = k := by rw [← eL]; simp; omega
    rw [eL] at er ⊢
    obtain ⟨x1, x2, x3⟩ := x
    simp [sgA] at g1
    have w1 : IntKind.i64.wrap (mn + k + 1) = mn + (k + 1 : Nat) := by rw [wr_i64 (by omega) (by omega)]; push_cast; omega
    have w2 : IntKind.i64.wrap ((k : Int) + 1) = k + 1 := wr_i64 (by omega) (by omega)
    have tkL : (sgsA L).take (k * 3) = sgsA L := List.take_of_length_le (by simp; omega)
    have b1 : (1 + k) * 24 ≤ 140737488355328 := by omega
    have b2 : 1 + k ≤ 9223372036854775807 := by omega
    by_cases h0 : k = 0
    · subst h0
      have : L = [] := by simpa using hL
      subst this
      simp at g1 w1
      refine Sim.exec hmix hΓ (n := 0) (by simp (decide := true) [hlt, w1, g1, k1]; exact ⟨rfl, rfl, rfl⟩) (by simp) ?_
      exact ⟨1, by omega, Weak.mk' [0, 1, 2, 3, 4, 7] (by decide) (by decide) (by simp) (by simp [er, sgsA, sgA]), by omega⟩
    · refine Sim.exec hmix hΓ (n := 0) (by simp (decide := true) [hlt, w1, w2, g1, k1, h0, hL, tkL, b1, b2]; exact ⟨rfl, rfl, rfl⟩) (by simp) ?_
      exact ⟨k + 1, by omega, Weak.mk' [0, 1, 2, 3, 4, 8] (by decide) (by decide) (by simp; omega) (by simp [er, sgsA, sgA]), by omega⟩
  have hks : k = s.length := by omega
  subst hks
  refine Sim.exec hmix hΓ (n := 0) (by simp; exact ⟨rfl, rfl, rfl⟩) (by simp) ?_
  dsimp only
  rw [if_pos rfl]
  obtain ⟨r, hr⟩ : ∃ r, (numb mn s).reverse = r := ⟨_, rfl⟩
  have lr : r.length = s.length := by rw [← hr]; simp
  rw [hr, ← lr]
  obtain ⟨q, hq⟩ : ∃ q, r.length = q := ⟨_, rfl⟩
  obtain ⟨w, hw⟩ : ∃ w, l.length - b = w := ⟨_, rfl⟩
  have eA : (sgsA l).take (a * 3) = sgsA (l.take a) := sgs_take l a
  have eB : (sgsA l).drop (b * 3) = sgsA (l.drop b) := sgs_drop l b
  have z1 : a * 3 ≤ l.length * 3 := by omega
  have z2 : b * 3 + w * 3 ≤ l.length * 3 := by omega
  have tkA : (sgsA (l.take a)).take (a * 3) = sgsA (l.take a) := List.take_of_length_le (by simp; omega)
  have tkr : (sgsA r).take (q * 3) = sgsA r := List.take_of_length_le (by simp; omega)
  have tkB : (sgsA (l.drop b)).take (w * 3) = sgsA (l.drop b) := List.take_of_length_le (by simp; omega)
  have hmin : min a l.length = a := by omega
  have b1 : a * 24 ≤ 140737488355328 := by omega
  have b2 : a ≤ 9223372036854775807 := by omega
  have b3 : (a + q) * 24 ≤ 140737488355328 := by omega
  have b4 : a + q ≤ 9223372036854775807 := by omega
  have b5 : (a + q + w) * 24 ≤ 140737488355328 := by omega
  have b6 : a + q + w ≤ 9223372036854775807 := by omega
  have h4 : (a + q) * 3 = a * 3 + q * 3 := by omega
  have h3 : (sgsA (l.take a) ++ sgsA r).take ((a + q) * 3) = sgsA (l.take a) ++ sgsA r := List.take_of_length_le (by simp; omega)
  have h5 := h3
  rw [h4] at h5
  rw [hq]
  refine Sim.seq (Sim.draw hmix (by simp) ?_)
  refine SimR.many hΓ 6 (by simp [stageOps]; rfl) (by omega) (by kernel_rfl) (by simp (decide := true) [lb]; exact ⟨rfl, rfl⟩) ?_
  refine SimR.one hΓ _ rfl (by kernel_rfl) (by simp (decide := true) [z1, eA, b1, b2]; exact ⟨rfl, rfl⟩) ?_
  refine SimR.many hΓ 9 (by simp [stageOps, blankOp]; rfl) (by omega) (by kernel_rfl) (by simp (decide := true); exact ⟨rfl, rfl⟩) ?_
  refine SimR.done rfl ?_
  dsimp only
  refine Sim.step hmix hΓ (n := 0) (by simp (decide := true) [tkA, tkr, hmin, b3, b4, hq]; exact ⟨rfl, rfl⟩) (by simp) ?_
  refine Sim.seq (Sim.draw hmix (by simp) ?_)
  refine SimR.many hΓ 6 (by simp [stageOps]; rfl) (by omega) (by kernel_rfl) (by simp (decide := true) [hc, hw]; exact ⟨rfl, rfl⟩) ?_
  refine SimR.one hΓ _ rfl (by kernel_rfl) (by simp (decide := true) [z2, eB, tkB, hmin, b5, b6, hq, h4]; exact ⟨rfl, rfl⟩) ?_
  refine SimR.many hΓ 9 (by simp [stageOps, blankOp]; rfl) (by omega) (by kernel_rfl) (by simp (decide := true); exact ⟨rfl, rfl⟩) ?_
  refine SimR.done rfl ?_
  dsimp only
  refine Sim.exec hmix hΓ (n := 0) (by simp; exact ⟨rfl, rfl, rfl⟩) (by simp) ?_
  exact ⟨.inr rfl, _, by simp [Try.f25] <;> rfl, Weak.mk' [0, 1, 8] (by decide) (by decide) (by simp [hq, hw, hmin]; omega) (by simp [h5])⟩

theorem rcompacted_sound : Sound Try.prog 25 compactedS := by
  refine sound_readNew (enter_of Try.func25 rfl (by decide)) fun args H v N h => ?_
  split at h <;> try cases h
  rename_i x a b y
  split at h <;> try cases h
  rename_i m s hx hy
  split at h <;> cases h
  rename_i hc
  obtain ⟨c1, c2, c3, c4, c5, c6⟩ := hc
  obtain ⟨wd, w1, w2, w3⟩ := mf_row_win hx hy
  refine ct_winN (H0 := [.cells false (sgsA m.segs), .cells false (sgsA s)]) (args0 := [mfA 0 m, .int .i64 a, .int .i64 b, .sl 1 0 s.length 3 false]) ?_ rfl wd ⟨w1, by simp [winA], by simp [winA], w2, trivial⟩ w3
  have := rcompacted_ct m a b s c1 c2 c3 c4 c5 c6
  simpa [mfA] using this

theorem rflΓ_ok : GOk Try.prog (gams [(25, compactedS)]) := goks_cons rcompacted_sound goks_nil

set_option maxHeartbeats 4000000 in
theorem rflushed_ct (m : Mf) (f : Int) (s : List Sg) (hc : m.fit s) :
    Ct Try.prog 23 [mfA 0 m, .int .i64 f, .sl 1 0 s.length 3 false] [.cells false (sgsA m.segs), .cells false (sgsA s)]
      (mfA 2 (m.flushed f s)) [.cells false (sgsA m.segs), .cells false (sgsA s), .cells true (sgsA (m.flushed f s).segs)] := by
  have e : m.flushed f s = ⟨(m.compacted 0 0 s).v, f, (m.compacted 0 0 s).n, (m.compacted 0 0 s).segs⟩ := rfl
  obtain ⟨r, hr⟩ : ∃ r, m.compacted 0 0 s = r := ⟨_, rfl⟩
  rw [e, hr]
  obtain ⟨mv, mf, mn, l⟩ := m
  obtain ⟨rv, rf, rn, rl⟩ := r
  refine ct_runE hmix rflΓ_ok (n := 0) Try.func23 ?_
  unfold Try.f23
  exact ⟨_, _, (by simp (decide := true) [mfA, compactedS, rowSgs, hc, hr]; exact ⟨rfl, rfl⟩), Weak.mk' [0, 1, 4] (by decide) rfl (by simp [mfA]) (by simp)⟩

theorem rflushed_sound : Sound Try.prog 23 flushedS := by
  refine sound_readNew (enter_of Try.func23 rfl (by decide)) fun args H v N h => ?_
  split at h <;> try cases h
  rename_i x f y
  split at h <;> try cases h
  rename_i m s hx hy
  split at h <;> cases h
  rename_i hc
  obtain ⟨wd, w1, w2, w3⟩ := mf_row_win hx hy
  refine ct_winN (H0 := [.cells false (sgsA m.segs), .cells false (sgsA s)]) (args0 := [mfA 0 m, .int .i64 f, .sl 1 0 s.length 3 false]) ?_ rfl wd ⟨w1, by simp [winA], w2, trivial⟩ w3
  have := rflushed_ct m f s hc
  simpa [mfA] using this

end Go.Proofs.Ytbbgmaklmlagcaa

namespace Go.Proofs.Ytbbgmaklmlagcaa
open Go
set_option maxRecDepth 100000
attribute [-simp] drawOk_eq adraw qrun acode aops

def modI (n m : Int) : Int := (n.tmod m + m).tmod m

theorem modI_rng (n m : Int) (hm : 0 < m) : 0 ≤ modI n m ∧ modI n m < m := by
  have h1 := Int.lt_tmod_of_pos n hm
  have h2 := Int.tmod_lt_of_pos n hm
  unfold modI
  have h3 := Int.tmod_lt_of_pos (n.tmod m + m) hm
  exact ⟨Int.tmod_nonneg m (by omega), h3⟩

theorem mod_ct (n m : Int) (h0 : 0 < m) (h1 : m ≤ 4611686018427387904) : Ct Try.prog 24 [.int .i64 n, .int .i64 m] [] (.int .i64 (modI n m)) [] := by
  have g1 := Int.lt_tmod_of_pos n h0
  have g2 := Int.tmod_lt_of_pos n h0
  have hw : IntKind.i64.wrap (n.tmod m + m) = n.tmod m + m := wr_i64 (by omega) (by omega)
  have hm : ¬ m = 0 := by omega
  refine ct_val hmix goks_nil (n := 0) Try.func24 ?_ (by simp)
  unfold Try.f24
  simp [hm, hw, modI]

def modS : Summ := pureS fun | [.int .i64 n, .int .i64 m] => if 0 < m ∧ m ≤ 4611686018427387904 then some (.int .i64 (modI n m)) else none | _ => none
theorem mod_sound : Sound Try.prog 24 modS := by
  refine sound_pure (enter_of Try.func24 rfl (by decide)) fun args v h => ?_
  split at h <;> try cases h
  split at h <;> cases h
  rename_i hc
  exact ⟨mod_ct _ _ hc.1 hc.2, by simp, by simp⟩

/-- A segment that is made, at its place. -/
def mkS (s : Sg) (i : Nat) : Sg := (20 * modI s.1 1000000 + i + 1, 1 + modI s.2.1 100000, 1 + modI s.2.2 1000000000)
def mkSs : List Sg → Nat → List Sg
  | [], _ => []
  | s :: l, i => mkS s i :: mkSs l (i + 1)

@[simp] theorem mkSs_length : ∀ (l : List Sg) (i : Nat), (mkSs l i).length = l.length
  | [], _ => rfl
  | s :: l, i => by simp [mkSs, mkSs_length l]

theorem mkSs_snoc (x : Sg) : ∀ (l : List Sg) (i : Nat), mkSs (l ++ [x]) i = mkSs l i ++ [mkS x (i + l.length)]
  | [], i => by simp [mkSs]
  | s :: l, i => by
    simp only [List.cons_append, mkSs, mkSs_snoc x l (i + 1), List.length_cons]
    rw [show i + 1 + l.length = i + (l.length + 1) by omega]

def Mf.made (m : Mf) : Mf := ⟨modI m.v 900000001, 1 + modI m.f 900000000, 20000100 + modI m.n 800000000, mkSs (m.segs.take 20) 0⟩

theorem mkSs_mem : ∀ (l : List Sg) (i : Nat) (x : Sg), x ∈ mkSs l i → ∃ (s : Sg) (k : Nat), x = mkS s k ∧ i ≤ k ∧ k < i + l.length
  | [], i, x, h => by simp [mkSs] at h
  | s :: l, i, x, h => by
    simp only [mkSs, List.mem_cons] at h
    rcases h with rfl | h
    · exact ⟨s, i, rfl, Nat.le_refl _, by simp⟩
    · obtain ⟨s', k, h1, h2, h3⟩ := mkSs_mem l (i + 1) x h
      exact ⟨s', k, h1, by omega, by simp; omega⟩

theorem mkS_fst (s s' : Sg) (i k : Nat) (hi : i < 20) (hk : k < 20) (h : (mkS s i).1 = (mkS s' k).1) : i = k := by
  have h1 := modI_rng s.1 1000000 (by omega)
  have h2 := modI_rng s'.1 1000000 (by omega)
  simp only [mkS] at h
  omega

theorem mkSs_nodup : ∀ (l : List Sg) (i : Nat), i + l.length ≤ 20 → (numsS (mkSs l i)).Nodup
  | [], i, _ => by simp [mkSs, numsS]
  | s :: l, i, h => by
    have e : numsS (mkSs (s :: l) i) = (mkS s i).1 :: numsS (mkSs l (i + 1)) := rfl
    rw [e, List.nodup_cons]
    simp at h
    refine ⟨fun hm => ?_, mkSs_nodup l (i + 1) (by omega)⟩
    obtain ⟨x, hx, e2⟩ := List.mem_map.1 hm
    obtain ⟨s', k, rfl, h1, h2⟩ := mkSs_mem l (i + 1) x hx
    have := mkS_fst s' s k i (by omega) (by omega) e2
    omega

theorem Mf.made_right (m : Mf) : m.made.right = true := by
  unfold Mf.right Mf.counts Mf.made
  have h1 := modI_rng m.v 900000001 (by omega)
  have h2 := modI_rng m.f 900000000 (by omega)
  have h3 := modI_rng m.n 800000000 (by omega)
  simp only [Bool.and_eq_true, decide_eq_true_eq]
  refine ⟨by omega, by simp; omega, ?_, mkSs_nodup _ 0 (by simp; omega)⟩
  rw [List.all_eq_true]
  intro x hx
  obtain ⟨s, k, rfl, _, hk⟩ := mkSs_mem _ _ _ hx
  have g1 := modI_rng s.1 1000000 (by omega)
  have g2 := modI_rng s.2.1 100000 (by omega)
  have g3 := modI_rng s.2.2 1000000000 (by omega)
  simp at hk
  simp only [Sg.ok, mkS]
  exact decide_eq_true (by omega)

theorem mdΓ_ok : GOk Try.prog (gams [(24, modS)]) := goks_cons mod_sound goks_nil

theorem sgs_snd (l : List Sg) (k : Nat) (x : Sg) (h : l[k]? = some x) : (sgsA l)[k * 3 + 1]? = some (.int .i64 x.2.1) ∧ (sgsA l)[k * 3 + 2]? = some (.int .i64 x.2.2) := by
  have hk := (List.getElem?_eq_some_iff.1 h).1
  have g := sgs_get l k hk
  rw [(List.getElem?_eq_some_iff.1 h).2] at g
  have e : ∀ i, i < 3 → (sgsA l)[k * 3 + i]? = (sgA x)[i]? := by
    intro i hi
    rw [← g, List.getElem?_take, if_pos hi, List.getElem?_drop]
  exact ⟨by rw [e 1 (by omega)]; rfl, by rw [e 2 (by omega)]; rfl⟩

set_option maxHeartbeats 8000000 in
theorem made_ct (m : Mf) : Ct Try.prog 20 [mfA 0 m] [.cells false (sgsA m.segs)] (mfA 1 m.made) [.cells false (sgsA m.segs), .cells true (sgsA m.made.segs)] := by
  have hΓ := mdΓ_ok
  unfold Mf.made mfA
  obtain ⟨mv, mf, mn, l⟩ := m
  simp only
  refine ct_of_sim Try.func20 rfl ?_
  simp only [Try.ntmps20, List.length_cons, List.length_nil, Nat.reduceAdd, Nat.reduceSub, List.replicate, List.cons_append, List.nil_append]
  have h2 := modI_rng mf 900000000 (by omega)
  have h3 := modI_rng mn 800000000 (by omega)
  have w1 : IntKind.i64.wrap (1 + modI mf 900000000) = 1 + modI mf 900000000 := wr_i64 (by omega) (by omega)
  have w2 : IntKind.i64.wrap (20000100 + modI mn 800000000) = 20000100 + modI mn 800000000 := wr_i64 (by omega) (by omega)
  refine Sim.step hmix hΓ (n := 0) (by simp; exact ⟨rfl, rfl⟩) (by simp) ?_
  refine Sim.step hmix hΓ (n := 0) (by simp (decide := true) [modS, w1]; exact ⟨rfl, rfl⟩) (by simp) ?_
  refine Sim.seq (Sim.step hmix hΓ (n := 0) (by simp; exact ⟨rfl, rfl⟩) (by simp) ?_)
  refine Sim.block (Sim.loopW (fun k : Nat => k ≤ l.length ∧ k ≤ 20)
    (fun k => [.top, .ptr 1 0, .ptr 2 0, .ptr 3 0, .int .i64 k] ++ List.replicate 58 .top)
    (fun k => [.cells false (sgsA l), .cells true [.int .i64 mv, .int .i64 mf, .int .i64 mn, .sl 0 0 l.length 3 false], .cells true [.int .i64 0, .int .i64 0, .int .i64 0, .nils], .cells true [.int .i64 (modI mv 900000001), .int .i64 (1 + modI mf 900000000), .int .i64 0, .sl 4 0 k 3 false], .cells true (sgsA (mkSs (l.take k) 0))]) (fun k => l.length - k) 0 (by simp) (by simp) (Weak.mk' [0, 1, 2, 3, 100] (by decide) (by decide) (by simp) (by simp)) fun k hk => ?_)
  obtain ⟨hk, hk20⟩ := hk
  have hend : ¬ (k < l.length ∧ k < 20) → l.take k = l.take 20 ∧ k = min l.length 20 := by
    intro h
    rcases Nat.lt_or_ge k 20 with h1 | h1
    · rw [List.take_of_length_le (by omega), List.take_of_length_le (by omega)]; exact ⟨rfl, by omega⟩
    · rw [show k = 20 by omega]; exact ⟨rfl, by omega⟩
  by_cases hlt : k < l.length ∧ k < 20
  · obtain ⟨c1, c2⟩ := hlt
    have c2' : (k : Int) < 20 := by omega
    obtain ⟨x, hx⟩ : ∃ x, l[k]? = some x := ⟨_, List.getElem?_eq_getElem c1⟩
    have e : mkSs (l.take (k + 1)) 0 = mkSs (l.take k) 0 ++ [mkS x k] := by
      rw [List.take_add_one, hx, Option.toList_some, mkSs_snoc]; simp; congr 1; omega
    obtain ⟨L, eL⟩ : ∃ L, mkSs (l.take k) 0 = L := ⟨_, rfl⟩
    have hL : L.length = k := by rw [← eL]; simp; omega
    rw [eL] at e ⊢
    have q1 : ∀ h, (sgsA l)[k * 3]'h = .int .i64 x.1 := fun h => by have := sgs_fst l k x hx; rw [List.getElem?_eq_getElem h] at this; simpa using this
    have q2 : ∀ h, (sgsA l)[k * 3 + 1]'h = .int .i64 x.2.1 := fun h => by have := (sgs_snd l k x hx).1; rw [List.getElem?_eq_getElem h] at this; simpa using this
    have q3 : ∀ h, (sgsA l)[k * 3 + 2]'h = .int .i64 x.2.2 := fun h => by have := (sgs_snd l k x hx).2; rw [List.getElem?_eq_getElem h] at this; simpa using this
    have g1 := modI_rng x.1 1000000 (by omega)
    have g2 := modI_rng x.2.1 100000 (by omega)
    have g3 := modI_rng x.2.2 1000000000 (by omega)
    have y1 : IntKind.i64.wrap (20 * modI x.1 1000000) = 20 * modI x.1 1000000 := wr_i64 (by omega) (by omega)
    have y2 : IntKind.i64.wrap (20 * modI x.1 1000000 + k) = 20 * modI x.1 1000000 + k := wr_i64 (by omega) (by omega)
    have y3 : IntKind.i64.wrap (20 * modI x.1 1000000 + k + 1) = 20 * modI x.1 1000000 + k + 1 := wr_i64 (by omega) (by omega)
    have y4 : IntKind.i64.wrap (1 + modI x.2.1 100000) = 1 + modI x.2.1 100000 := wr_i64 (by omega) (by omega)
    have y5 : IntKind.i64.wrap (1 + modI x.2.2 1000000000) = 1 + modI x.2.2 1000000000 := wr_i64 (by omega) (by omega)
    have y6 : IntKind.i64.wrap ((k : Int) + 1) = k + 1 := wr_i64 (by omega) (by omega)
    have z1 : k * 3 + 1 < l.length * 3 := by omega
    have z2 : k * 3 + 2 < l.length * 3 := by omega
    have tkL : (sgsA L).take (k * 3) = sgsA L := List.take_of_length_le (by simp; omega)
    have b1 : (k + 1) * 24 ≤ 140737488355328 := by omega
    have b2 : k + 1 ≤ 9223372036854775807 := by omega
    refine Sim.step hmix hΓ (n := 0) (by simp [c1, c2']; exact ⟨rfl, rfl⟩) (by simp) ?_
    refine Sim.seq (Sim.block (Sim.draw hmix (by simp) ?_))
    refine SimR.many hΓ 31 (by simp [stageOps]; rfl) (by omega) (by kernel_rfl) (by simp (decide := true) [modS, c1, q1, q2, q3, y1, y2, y3, y4, y5, z1, z2]; exact ⟨rfl, rfl⟩) ?_
    refine SimR.one hΓ _ rfl (by kernel_rfl) (by simp (decide := true) [hL, tkL, b1, b2]; exact ⟨rfl, rfl⟩) ?_
    refine SimR.many hΓ 34 (by simp [stageOps, blankOp]; rfl) (by omega) (by kernel_rfl) (by simp (decide := true); exact ⟨rfl, rfl⟩) ?_
    refine SimR.done rfl ?_
    dsimp only
    refine Sim.exec hmix hΓ (n := 0) (by simp [y6]; exact ⟨rfl, rfl, rfl⟩) (by simp) ?_
    exact ⟨k + 1, by omega, Weak.mk' [0, 1, 2, 3, 6] (by decide) (by decide) (by simp) (by simp [e, sgsA, sgA, mkS]), by omega⟩
  obtain ⟨e1, e2⟩ := hend hlt
  have hq : (if l.length < 20 then l.length else 20) = k := by split <;> omega
  by_cases c1 : k < l.length
  · have c2 : ¬ ((k : Int) < 20) := by omega
    refine Sim.exec hmix hΓ (n := 0) (by simp [c1, c2]; exact ⟨rfl, rfl, rfl⟩) (by simp) ?_
    dsimp only
    rw [if_pos rfl]
    refine Sim.step hmix hΓ (n := 0) (by simp [modS, w2]; exact ⟨rfl, rfl⟩) (by simp) ?_
    refine Sim.exec hmix hΓ (n := 0) (by simp; exact ⟨rfl, rfl, rfl⟩) (by simp) ?_
    exact ⟨.inr rfl, _, by simp [Try.f20] <;> rfl, Weak.mk' [0, 4] (by decide) (by decide) (by simp; omega) (by simp [e1])⟩
  · refine Sim.exec hmix hΓ (n := 0) (by simp [c1]; exact ⟨rfl, rfl, rfl⟩) (by simp) ?_
    dsimp only
    rw [if_pos rfl]
    refine Sim.step hmix hΓ (n := 0) (by simp [modS, w2]; exact ⟨rfl, rfl⟩) (by simp) ?_
    refine Sim.exec hmix hΓ (n := 0) (by simp; exact ⟨rfl, rfl, rfl⟩) (by simp) ?_
    exact ⟨.inr rfl, _, by simp [Try.f20] <;> rfl, Weak.mk' [0, 4] (by decide) (by decide) (by simp; omega) (by simp [e1])⟩

def madeS : Summ := readNewS fun args H => match args with
  | [x] => match mfOf H x with
    | some m => some (mfA 0 m.made, [.cells true (sgsA m.made.segs)])
    | _ => none
  | _ => none

theorem made_sound : Sound Try.prog 20 madeS := by
  refine sound_readNew (enter_of Try.func20 rfl (by decide)) fun args H v N h => ?_
  split at h <;> try cases h
  rename_i x
  split at h <;> try cases h
  rename_i m hx
  obtain ⟨b1, o1, w1, g1⟩ := mf_win hx
  refine ct_winN (H0 := [.cells false (sgsA m.segs)]) (args0 := [mfA 0 m]) ?_ rfl [(b1, o1)] ⟨w1 0 _ rfl, trivial⟩ ⟨g1, frees_sgs _, trivial⟩
  have := made_ct m
  simpa [mfA] using this

end Go.Proofs.Ytbbgmaklmlagcaa

