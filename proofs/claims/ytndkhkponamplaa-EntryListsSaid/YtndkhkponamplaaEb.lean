/- slices.BinarySearchFunc in entries in order. -/
import Derived.Test.YtndkhkponamplaaEa
namespace Go.Proofs.Ytndkhkponamplaa
open Go
set_option maxRecDepth 100000
attribute [-simp] drawOk_eq adraw qrun acode aops

theorem bl_eq : ∀ x y : List UInt8, Op.bytesLess x y = decide (x < y)
  | _, [] => by simp [Op.bytesLess]
  | [], _ :: _ => by simp [Op.bytesLess]
  | a :: x, b :: y => by
    by_cases h : a = b <;> simp [Op.bytesLess, bl_eq x y, List.cons_lt_cons_iff, h]

def cmpL (a b : List UInt8) : Int := if Op.bytesLess a b then -1 else if a = b then 0 else 1

theorem cmpL_neg (a b : List UInt8) : cmpL a b < 0 ↔ Op.bytesLess a b = true := by
  unfold cmpL; split
  · simp [*]
  · rename_i h
    split
    · simp [h]
    · simp [h]
theorem cmpL_zero (a b : List UInt8) : cmpL a b = 0 ↔ a = b := by
  unfold cmpL; split
  · rename_i h
    rw [bl_eq, decide_eq_true_eq] at h
    simp; rintro rfl; exact List.lt_irrefl _ h
  · split <;> simp [*]

theorem isNaN_ct (a : List UInt8) : Ct Try.prog 63 [.str a] [] (.bool false) [] := by
  refine ct_val hmix goks_nil (n := 0) Try.func63 ?_ (by simp)
  unfold Try.f63
  simp

def isNaNS : Summ := pureS fun | [.str _] => some (.bool false) | _ => none
theorem isNaN_sound : Sound Try.prog 63 isNaNS := by
  refine sound_pure (enter_of Try.func63 rfl (by decide)) fun args v h => ?_
  split at h <;> cases h
  exact ⟨isNaN_ct _, rfl, rfl⟩

theorem compare_ct (a b : List UInt8) : Ct Try.prog 54 [.str a, .str b] [] (.int .i64 (cmpL a b)) [] := by
  have hΓ : GOk Try.prog (gams [(63, isNaNS)]) := goks_cons isNaN_sound goks_nil
  refine ct_val hmix hΓ (n := 0) Try.func54 ?_ (by simp)
  unfold Try.f54 cmpL
  by_cases h1 : Op.bytesLess a b = true
  · simp [isNaNS, h1]
  · by_cases h2 : a = b
    · subst h2
      have h1' : Op.bytesLess a a = false := by simpa using h1
      simp [isNaNS, h1']
    · have h1' : Op.bytesLess a b = false := by simpa using h1
      simp [isNaNS, h1', h2]

def compareS : Summ := pureS fun | [.str a, .str b] => some (.int .i64 (cmpL a b)) | _ => none
theorem compare_sound : Sound Try.prog 54 compareS := by
  refine sound_pure (enter_of Try.func54 rfl (by decide)) fun args v h => ?_
  split at h <;> cases h
  exact ⟨compare_ct _ _, rfl, rfl⟩

theorem by_ct (e : En) (b : List UInt8) : Ct Try.prog 38 [.agg (enA e), .str b] [] (.int .i64 (cmpL e.1 b)) [] := by
  have hΓ : GOk Try.prog (gams [(54, compareS)]) := goks_cons compare_sound goks_nil
  refine ct_val hmix hΓ (n := 0) Try.func38 ?_ (by simp)
  unfold Try.f38
  simp [compareS, enA]

def byS : Summ := pureS fun | [.agg [.str a, .int .u32 _, .bool _], .str b] => some (.int .i64 (cmpL a b)) | _ => none
theorem by_sound : Sound Try.prog 38 byS := by
  refine sound_pure (enter_of Try.func38 rfl (by decide)) fun args v h => ?_
  split at h <;> cases h
  rename_i a n g b
  exact ⟨by_ct (a, n, g) b, rfl, rfl⟩

/-- In order, each word once. -/
def asc (l : List En) : Prop := l.Pairwise fun x y => x.1 < y.1
instance (l : List En) : Decidable (asc l) := by unfold asc; infer_instance

/-- Where a word is, or would be. -/
def posE (l : List En) (w : List UInt8) : Nat := (l.takeWhile fun x => Op.bytesLess x.1 w).length
def hasE (l : List En) (w : List UInt8) : Bool := match l[posE l w]? with | some x => x.1 == w | none => false

theorem posE_of (w : List UInt8) : ∀ (l : List En) (i : Nat), i ≤ l.length → (∀ k x, k < i → l[k]? = some x → Op.bytesLess x.1 w = true) → (∀ x, l[i]? = some x → Op.bytesLess x.1 w = false) → posE l w = i
  | [], i, h, _, _ => by simp at h; subst h; rfl
  | x :: l, 0, _, _, h2 => by
    have := h2 x rfl
    simp [posE, List.takeWhile_cons, this]
  | x :: l, i + 1, h, h1, h2 => by
    have h3 := h1 0 x (by omega) rfl
    have := posE_of w l i (by simpa using h) (fun k y hk hy => h1 (k + 1) y (by omega) (by simpa using hy)) (fun y hy => h2 y (by simpa using hy))
    unfold posE at this ⊢
    rw [List.takeWhile_cons, if_pos h3, List.length_cons, this]

theorem asc_lt {l : List En} (h : asc l) {i k : Nat} {x y : En} (hik : i < k) (hx : l[i]? = some x) (hy : l[k]? = some y) : x.1 < y.1 := by
  obtain ⟨h1, e1⟩ := List.getElem?_eq_some_iff.1 hx
  obtain ⟨h2, e2⟩ := List.getElem?_eq_some_iff.1 hy
  have := (List.pairwise_iff_getElem.1 h) i k h1 h2 hik
  rwa [e1, e2] at this

def bsΓ : Gam := gams [(38, byS)]
theorem bsΓ_ok : GOk Try.prog bsΓ := goks_cons by_sound goks_nil

set_option maxHeartbeats 4000000 in
theorem bs_ct (l : List En) (w : List UInt8) (hl : l.length ≤ 1000000) (ha : asc l) :
    Ct Try.prog 39 [.sl 0 0 l.length 3 false, .str w, .func 38 [] []] [.cells false (ensA l)] (.tuple [.int .i64 (posE l w), .bool (hasE l w)]) [.cells false (ensA l)] := by
  refine ct_of_sim Try.func39 rfl ?_
  simp only [Try.ntmps39, List.length_cons, List.length_nil, Nat.reduceAdd, Nat.reduceSub, List.replicate, List.cons_append, List.nil_append]
  refine Sim.step hmix bsΓ_ok (n := 0) (by simp; exact ⟨rfl, rfl⟩) (by simp) ?_
  refine Sim.step hmix bsΓ_ok (n := 0) (by simp; exact ⟨rfl, rfl⟩) (by simp) ?_
  refine Sim.step hmix bsΓ_ok (n := 0) (by simp; exact ⟨rfl, rfl⟩) (by simp) ?_
  refine Sim.seq (Sim.block (Sim.loopW (fun p : Nat × Nat => p.1 ≤ p.2 ∧ p.2 ≤ l.length ∧ (∀ k x, k < p.1 → l[k]? = some x → Op.bytesLess x.1 w = true) ∧ (∀ k x, p.2 ≤ k → l[k]? = some x → Op.bytesLess x.1 w = false))
    (fun p => [.sl 0 0 l.length 3 false, .str w, .func 38 [] [], .top, .top, .top, .int .i64 0, .bool false, .int .i64 l.length, .int .i64 p.1, .int .i64 p.2] ++ List.replicate 38 .top)
    (fun _ => [.cells false (ensA l)]) (fun p => p.2 - p.1) (0, l.length) (by simp) ⟨by simp, by simp, fun k x h => by omega, fun k x h hx => by rw [List.getElem?_eq_none (by omega)] at hx; cases hx⟩ (Weak.mk' [0] (by decide) (by decide) (by simp) (by simp)) fun ⟨i, h⟩ ⟨h1, h2, h3, h4⟩ => ?_))
  dsimp only at h1 h2 h3 h4 ⊢
  by_cases hlt : i < h
  · obtain ⟨m, hm⟩ : ∃ m, (i + h) / 2 = m := ⟨_, rfl⟩
    have m1 : i ≤ m := by omega
    have m2 : m < h := by omega
    have ml : m < l.length := by omega
    have w1 : IntKind.i64.wrap ((i : Int) + h) = i + h := wr_i64 (by omega) (by omega)
    have w2 : IntKind.u64.wrap ((i : Int) + h) = i + h := wr_u64 (by omega) (by omega)
    have w3 : ((i : Int) + h).fdiv 2 = m := by rw [Int.fdiv_eq_ediv_of_nonneg _ (by omega)]; omega
    have w4 : IntKind.i64.wrap (m : Int) = m := wr_i64 (by omega) (by omega)
    have w5 : IntKind.u64.wrap (m : Int) = m := wr_u64 (by omega) (by omega)
    have w6 : IntKind.i64.wrap ((m : Int) + 1) = m + 1 := wr_i64 (by omega) (by omega)
    have g1 := ens_get l m ml
    have k1 : m * 3 + 3 ≤ l.length * 3 := by omega
    obtain ⟨x, hx⟩ : ∃ x, l[m] = x := ⟨_, rfl⟩
    rw [hx] at g1
    have hx' : l[m]? = some x := by rw [List.getElem?_eq_getElem ml, hx]
    by_cases hb : Op.bytesLess x.1 w = true
    · have hc : cmpL x.1 w < 0 := (cmpL_neg _ _).2 hb
      refine Sim.exec hmix bsΓ_ok (n := 0) (by simp (decide := true) [hlt, ml, g1, w1, w2, w3, w4, w5, w6, k1, enA, hc, byS, bsΓ]; exact ⟨rfl, rfl, rfl⟩) (by simp) ?_
      refine ⟨(m + 1, h), ⟨by dsimp only; omega, h2, fun k y hk hy => ?_, h4⟩, Weak.mk' [0] (by decide) (by decide) (by simp) (by simp), by dsimp only; omega⟩
      rcases Nat.lt_or_ge k m with hkm | hkm
      · have h5 := asc_lt ha hkm hy hx'
        rw [bl_eq, decide_eq_true_eq] at hb ⊢
        exact List.lt_trans h5 hb
      · have : k = m := by dsimp only at hk; omega
        subst this
        rw [hx'] at hy; cases hy; exact hb
    · have hb' : Op.bytesLess x.1 w = false := by simpa using hb
      have hc : ¬ cmpL x.1 w < 0 := fun h6 => hb ((cmpL_neg _ _).1 h6)
      refine Sim.exec hmix bsΓ_ok (n := 0) (by simp (decide := true) [hlt, ml, g1, w1, w2, w3, w4, w5, w6, k1, enA, hc, byS, bsΓ]; exact ⟨rfl, rfl, rfl⟩) (by simp) ?_
      refine ⟨(i, m), ⟨m1, by dsimp only; omega, h3, fun k y hk hy => ?_⟩, Weak.mk' [0] (by decide) (by decide) (by simp) (by simp), by dsimp only; omega⟩
      rcases Nat.lt_or_ge m k with hkm | hkm
      · have h5 := asc_lt ha hkm hx' hy
        cases hy2 : Op.bytesLess y.1 w with
        | false => rfl
        | true =>
          rw [bl_eq, decide_eq_true_eq] at hy2
          rw [bl_eq, decide_eq_false_iff_not] at hb'
          exact absurd (List.lt_trans h5 hy2) hb'
      · have : k = m := by dsimp only at hk; omega
        subst this
        rw [hx'] at hy; cases hy; exact hb'
  · have hih : i = h := by omega
    subst hih
    have hp : posE l w = i := posE_of w l i h2 h3 fun x hx => h4 i x (Nat.le_refl _) hx
    refine Sim.exec hmix bsΓ_ok (n := 0) (by simp [hlt]; exact ⟨rfl, rfl, rfl⟩) (by simp) ?_
    dsimp only
    rw [if_pos rfl]
    by_cases hin : i < l.length
    · have g1 := ens_get l i hin
      have k1 : i * 3 + 3 ≤ l.length * 3 := by omega
      obtain ⟨x, hx⟩ : ∃ x, l[i] = x := ⟨_, rfl⟩
      rw [hx] at g1
      have hh : hasE l w = (x.1 == w) := by unfold hasE; rw [hp, List.getElem?_eq_getElem hin, hx]
      rw [hp, hh]
      by_cases he : x.1 = w
      · have hc : cmpL x.1 w = 0 := (cmpL_zero _ _).2 he
        refine Sim.exec hmix bsΓ_ok (n := 0) (by simp (decide := true) [hin, g1, k1, enA, hc, byS, bsΓ]; exact ⟨rfl, rfl, rfl⟩) (by simp) ?_
        exact ⟨.inr rfl, _, by simp; rfl, Weak.mk' [0] (by decide) (by decide) (by simp [he]) (by simp)⟩
      · have hc : ¬ cmpL x.1 w = 0 := fun h6 => he ((cmpL_zero _ _).1 h6)
        refine Sim.exec hmix bsΓ_ok (n := 0) (by simp (decide := true) [hin, g1, k1, enA, hc, byS, bsΓ]; exact ⟨rfl, rfl, rfl⟩) (by simp) ?_
        have hq : (x.1 == w) = (cmpL x.1 w == 0) := by rw [Bool.eq_iff_iff]; simp [cmpL_zero]
        exact ⟨.inr rfl, _, by simp; rfl, Weak.mk' [0] (by decide) (by decide) (by simp; exact hq) (by simp)⟩
    · have hh : hasE l w = false := by unfold hasE; rw [hp, List.getElem?_eq_none (by omega)]
      rw [hp, hh]
      refine Sim.exec hmix bsΓ_ok (n := 0) (by simp (decide := true) [hin, byS, bsΓ]; exact ⟨rfl, rfl, rfl⟩) (by simp) ?_
      exact ⟨.inr rfl, _, by simp; rfl, Weak.mk' [0] (by decide) (by decide) (by simp) (by simp)⟩


def bsS : Summ := readS fun args H => match args with
  | [x, .str w, .func f [] []] => if f = 38 then (match rowEns H x with
    | some l => if l.length ≤ 1000000 ∧ asc l then some (.tuple [.int .i64 (posE l w), .bool (hasE l w)]) else none
    | none => none) else none
  | _ => none

theorem bs_sound : Sound Try.prog 39 bsS := by
  refine sound_read (enter_of Try.func39 rfl (by decide)) fun args H v h => ?_
  split at h <;> try cases h
  rename_i x w f
  split at h <;> try cases h
  rename_i hf
  subst hf
  split at h <;> try cases h
  rename_i l hx
  split at h <;> cases h
  rename_i hc
  obtain ⟨b1, o1, w1, g1⟩ := rowEns_win hx
  refine ct_win (bs_ct l w hc.1 hc.2) rfl [(b1, o1)] ?_ ?_
  · exact ⟨w1 0 _ rfl, by simp [winA], by simp [winA], trivial⟩
  · exact ⟨g1, frees_ens _, trivial⟩

end Go.Proofs.Ytndkhkponamplaa
