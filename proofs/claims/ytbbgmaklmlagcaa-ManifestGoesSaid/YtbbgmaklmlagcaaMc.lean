/- Manifests: manifest.Same, the document's Same. -/
import Derived.Test.YtbbgmaklmlagcaaMb
namespace Go.Proofs.Ytbbgmaklmlagcaa
open Go
set_option maxRecDepth 100000
attribute [-simp] drawOk_eq adraw qrun acode aops

/-- A manifest. -/
structure Mf where
  v : Int
  f : Int
  n : Int
  segs : List Sg
  deriving DecidableEq

def mfA (b : Nat) (m : Mf) : AV := .agg [.int .i64 m.v, .int .i64 m.f, .int .i64 m.n, .sl b 0 m.segs.length 3 false]

theorem mf_dec (a b : Mf) : decide (a = b) = (a.v == b.v && (a.f == b.f && (a.n == b.n && decide (a.segs = b.segs)))) := by
  cases a; cases b
  simp only [Mf.mk.injEq]
  rw [Bool.eq_iff_iff]
  simp

def eqΓ : Gam := gams [(65, equalS)]
theorem eqΓ_ok : GOk Try.prog eqΓ := goks_cons equal_sound goks_nil

set_option maxHeartbeats 4000000 in
theorem msame_ct (a b : Mf) (ha : a.segs.length ≤ 1000000000000) :
    Ct Try.prog 26 [mfA 0 a, mfA 1 b] [.cells false (sgsA a.segs), .cells false (sgsA b.segs)] (.bool (decide (a = b))) [.cells false (sgsA a.segs), .cells false (sgsA b.segs)] := by
  rw [mf_dec]
  obtain ⟨av, af, an, aS⟩ := a
  obtain ⟨bv, bf, bn, bS⟩ := b
  simp only at ha
  refine ct_of_sim Try.func26 rfl ?_
  simp only [Try.ntmps26, List.length_cons, List.length_nil, Nat.reduceAdd, Nat.reduceSub, List.replicate, List.cons_append, List.nil_append]
  refine Sim.step hmix eqΓ_ok (n := 0) (by simp [mfA]; exact ⟨rfl, rfl⟩) (by simp) ?_
  have fin : ∀ (x y : List AV) (v : Bool), Weak 2 [.bool v] ([.cells false (sgsA aS), .cells false (sgsA bS)] ++ [.cells true x, .cells true y]) [.bool v] [.cells false (sgsA aS), .cells false (sgsA bS)] := fun x y v => Weak.mk' [0, 1] (by decide) (by decide) (by simp) (by simp)
  by_cases h1 : av = bv
  rotate_left
  · have e1 : (av == bv) = false := by simpa using h1
    refine Sim.exec hmix eqΓ_ok (n := 0) (by simp [e1]; exact ⟨rfl, rfl, rfl⟩) (by simp) ?_
    exact ⟨.inr rfl, _, by simp [e1] <;> rfl, fin _ _ _⟩
  subst h1
  by_cases h2 : af = bf
  rotate_left
  · have e2 : (af == bf) = false := by simpa using h2
    refine Sim.exec hmix eqΓ_ok (n := 0) (by simp [e2]; exact ⟨rfl, rfl, rfl⟩) (by simp) ?_
    exact ⟨.inr rfl, _, by simp [e2] <;> rfl, fin _ _ _⟩
  subst h2
  by_cases h3 : an = bn
  rotate_left
  · have e3 : (an == bn) = false := by simpa using h3
    refine Sim.exec hmix eqΓ_ok (n := 0) (by simp [e3]; exact ⟨rfl, rfl, rfl⟩) (by simp) ?_
    exact ⟨.inr rfl, _, by simp [e3] <;> rfl, fin _ _ _⟩
  subst h3
  refine Sim.exec hmix eqΓ_ok (n := 0) (by simp [eqΓ, gams, equalS, readS, rowSgs, ha]; exact ⟨rfl, rfl, rfl⟩) (by simp) ?_
  exact ⟨.inr rfl, _, by simp <;> rfl, fin _ _ _⟩

/-- A manifest, as summaries read it. -/
def mfOf (H : AHeap) : AV → Option Mf
  | .agg [.int .i64 v, .int .i64 f, .int .i64 n, x] => (rowSgs H x).map fun l => ⟨v, f, n, l⟩
  | _ => none

@[simp] theorem mfOf_mk (H : AHeap) (v f n : Int) (x : AV) : mfOf H (.agg [.int .i64 v, .int .i64 f, .int .i64 n, x]) = (rowSgs H x).map fun l => ⟨v, f, n, l⟩ := rfl

theorem mf_win {H : AHeap} {x : AV} {m : Mf} (h : mfOf H x = some m) : ∃ b off, (∀ (i : Nat) (wd : List (Nat × Nat)), wd[i]? = some (b, off) → winA wd (mfA i m) x) ∧
    (match H[b]? with | some (.cells _ l) => off + (sgsA m.segs).length ≤ l.length ∧ sgsA m.segs = (l.drop off).take (sgsA m.segs).length | none => True | _ => False) := by
  unfold mfOf at h
  split at h
  · rename_i v f n x
    obtain ⟨l, hl, rfl⟩ := Option.map_eq_some_iff.1 h
    obtain ⟨b, off, w, g⟩ := rowSgs_win hl
    refine ⟨b, off, fun i wd hw => ?_, g⟩
    unfold mfA winA
    refine ⟨?_, ?_, ?_, w i wd hw, trivial⟩ <;> (unfold winA; exact ⟨rfl, rfl⟩)
  · cases h

def msameS : Summ := readS fun args H => match args with
  | [x, y] => match mfOf H x, mfOf H y with
    | some a, some b => if a.segs.length ≤ 1000000000000 then some (.bool (decide (a = b))) else none
    | _, _ => none
  | _ => none

theorem msame_sound : Sound Try.prog 26 msameS := by
  refine sound_read (enter_of Try.func26 rfl (by decide)) fun args H v h => ?_
  split at h <;> try cases h
  rename_i x y
  split at h <;> try cases h
  rename_i a b hx hy
  split at h <;> cases h
  rename_i hc
  obtain ⟨b1, o1, w1, g1⟩ := mf_win hx
  obtain ⟨b2, o2, w2, g2⟩ := mf_win hy
  refine ct_win (msame_ct a b hc) rfl [(b1, o1), (b2, o2)] ?_ ?_
  · exact ⟨w1 0 _ rfl, w2 1 _ rfl, trivial⟩
  · exact ⟨g1, frees_sgs _, g2, frees_sgs _, trivial⟩

end Go.Proofs.Ytbbgmaklmlagcaa
