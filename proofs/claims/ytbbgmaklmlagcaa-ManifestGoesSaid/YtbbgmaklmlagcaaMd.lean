/- Manifests: manifest.Right. -/
import Derived.Test.YtbbgmaklmlagcaaMp
namespace Go.Proofs.Ytbbgmaklmlagcaa
open Go
set_option maxRecDepth 100000
attribute [-simp] drawOk_eq adraw qrun acode aops

def riInl : List FuncId := [63]
theorem riΓ_ok : GOk Try.prog (runG Try.prog (gams []) 0 riInl 1) := gok_run hmix goks_nil 0 riInl 1

set_option maxHeartbeats 4000000 in
theorem index_ct (m : Mf) (hl : m.segs.length ≤ 1000000000000) :
    Ct Try.prog 94 [.sl 0 0 m.segs.length 3 false, .func 63 [] [.ptr 3 0, .ptr 1 0]]
      [.cells false (sgsA m.segs), .cells true [.int .i64 m.v, .int .i64 m.f, .int .i64 m.n, .sl 0 0 m.segs.length 3 false], .map [], .cells true [.map 2]] (.int .i64 (badAt m.n [] m.segs 0))
      [.cells false (sgsA m.segs), .cells true [.int .i64 m.v, .int .i64 m.f, .int .i64 m.n, .sl 0 0 m.segs.length 3 false], .dead, .cells true [.map 2]] := by
  obtain ⟨mv, mf, mn, l⟩ := m
  simp only at hl ⊢
  refine ct_of_sim Try.func94 rfl ?_
  simp only [Try.ntmps94, List.length_cons, List.length_nil, Nat.reduceAdd, Nat.reduceSub, List.replicate, List.cons_append, List.nil_append]
  refine Sim.step hmix goks_nil (n := 0) (by simp; exact ⟨rfl, rfl⟩) (by simp) ?_
  refine Sim.seq (Sim.step hmix goks_nil (n := 0) (by simp; exact ⟨rfl, rfl⟩) (by simp) ?_)
  refine Sim.block (Sim.loopW (fun k : Nat => k ≤ l.length ∧ badAt mn [] l 0 = badAt mn (numsS (l.take k)) (l.drop k) k)
    (fun k => [.sl 0 0 l.length 3 false, .func 63 [] [.ptr 3 0, .ptr 1 0], .top, .top, .top, .top, .top, .int .i64 l.length, .int .i64 k] ++ List.replicate 10 .top)
    (fun k => [.cells false (sgsA l), .cells true [.int .i64 mv, .int .i64 mf, .int .i64 mn, .sl 0 0 l.length 3 false], .map (usedA (numsS (l.take k))), .cells true [.map 2]]) (fun k => l.length - k) 0 (by simp) (by simp [numsS]) (Weak.mk' [0, 1, 2, 3] (by decide) (by decide) (by simp) (by simp [usedA, numsS])) fun k hk => ?_)
  obtain ⟨hk, hb⟩ := hk
  by_cases hlt : k < l.length
  rotate_left
  · rw [List.drop_of_length_le (by omega)] at hb
    simp only [badAt] at hb
    rw [hb]
    refine Sim.exec hmix riΓ_ok (n := 0) (by simp [hlt]; exact ⟨rfl, rfl, rfl⟩) (by simp) ?_
    dsimp only
    rw [if_pos rfl]
    refine Sim.exec hmix riΓ_ok (n := 0) (by simp; exact ⟨rfl, rfl, rfl⟩) (by simp) ?_
    exact ⟨.inr rfl, _, by simp <;> rfl, Weak.mk' [0, 1, 2, 3] (by decide) (by decide) (by simp) (by simp)⟩
  obtain ⟨s, hs⟩ : ∃ s, l[k] = s := ⟨_, rfl⟩
  have g1 := sgs_get l k hlt
  have k1 : k * 3 + 3 ≤ l.length * 3 := by omega
  have hw : IntKind.i64.wrap ((k : Int) + 1) = k + 1 := wr_i64 (by omega) (by omega)
  rw [List.drop_eq_getElem_cons hlt] at hb
  rw [hs] at g1 hb
  have hn : numsS (l.take (k + 1)) = numsS (l.take k) ++ [s.1] := by
    rw [List.take_add_one, List.getElem?_eq_getElem hlt, hs]; simp [numsS]
  obtain ⟨u, hu⟩ : ∃ u, numsS (l.take k) = u := ⟨_, rfl⟩
  rw [hu] at hb hn ⊢
  have hf := fun i => find_used s.1 u i
  by_cases h1 : s.1 ∈ u
  · have hb' : badAt mn [] l 0 = k := by rw [hb]; unfold badAt; rw [if_pos (.inl h1)]
    rw [hb']
    simp only [h1, if_true] at hf
    refine Sim.exec hmix riΓ_ok (n := 0) (by simp (decide := true) [hlt, g1, k1, sgA, hf, riInl, Try.f63]; exact ⟨rfl, rfl, rfl⟩) (by simp) ?_
    exact ⟨.inr rfl, _, by simp <;> rfl, Weak.mk' [0, 1, 2, 3] (by decide) (by decide) (by simp) (by simp)⟩
  simp only [h1, if_false] at hf
  obtain ⟨x, y, z⟩ := s
  have hne : ¬ (x ∈ u ∨ Sg.ok mn (x, y, z) = false) → badAt mn [] l 0 = badAt mn (numsS (l.take (k + 1))) (l.drop (k + 1)) (k + 1) := by
    intro h; rw [hb, hn]; conv => lhs; unfold badAt
    rw [if_neg h]
  have hbad : Sg.ok mn (x, y, z) = false → badAt mn [] l 0 = k := by
    intro h; rw [hb]; unfold badAt; rw [if_pos (.inr h)]
  clear hb
  simp only at hf h1
  obtain ⟨q, hq⟩ : ∃ q, min x (min y z) = q := ⟨_, rfl⟩
  by_cases h2 : q < 1
  · rw [hbad (by simp [Sg.ok]; omega)]
    refine Sim.exec hmix riΓ_ok (n := 0) (by simp (decide := true) [-minA, minA_min, hq, hlt, g1, k1, sgA, hf, riInl, Try.f63, hw, h2]; exact ⟨rfl, rfl, rfl⟩) (by simp) ?_
    exact ⟨.inr rfl, _, by simp <;> rfl, Weak.mk' [0, 1, 2, 3] (by decide) (by decide) (by simp) (by simp)⟩
  by_cases h3 : mn ≤ x
  · rw [hbad (by simp [Sg.ok]; omega)]
    refine Sim.exec hmix riΓ_ok (n := 0) (by simp (decide := true) [-minA, minA_min, hq, hlt, g1, k1, sgA, hf, riInl, Try.f63, hw, h2, h3]; exact ⟨rfl, rfl, rfl⟩) (by simp) ?_
    exact ⟨.inr rfl, _, by simp <;> rfl, Weak.mk' [0, 1, 2, 3] (by decide) (by decide) (by simp) (by simp)⟩
  by_cases h4 : 100000 < y
  · rw [hbad (by simp [Sg.ok]; omega)]
    refine Sim.exec hmix riΓ_ok (n := 0) (by simp (decide := true) [-minA, minA_min, hq, hlt, g1, k1, sgA, hf, riInl, Try.f63, hw, h2, h3, h4]; exact ⟨rfl, rfl, rfl⟩) (by simp) ?_
    exact ⟨.inr rfl, _, by simp <;> rfl, Weak.mk' [0, 1, 2, 3] (by decide) (by decide) (by simp) (by simp)⟩
  by_cases h5 : 1000000000 < z
  · rw [hbad (by simp [Sg.ok]; omega)]
    refine Sim.exec hmix riΓ_ok (n := 0) (by simp (decide := true) [-minA, minA_min, hq, hlt, g1, k1, sgA, hf, riInl, Try.f63, hw, h2, h3, h4, h5]; exact ⟨rfl, rfl, rfl⟩) (by simp) ?_
    exact ⟨.inr rfl, _, by simp <;> rfl, Weak.mk' [0, 1, 2, 3] (by decide) (by decide) (by simp) (by simp)⟩
  have hst := hne (by simp [Sg.ok, h1]; omega)
  refine Sim.exec hmix riΓ_ok (n := 0) (by simp (decide := true) [-minA, minA_min, hq, hlt, g1, k1, sgA, hf, riInl, Try.f63, hw, h2, h3, h4, h5]; exact ⟨rfl, rfl, rfl⟩) (by simp) ?_
  exact ⟨k + 1, ⟨by omega, hst⟩, Weak.mk' [0, 1, 2, 3] (by decide) (by decide) (by simp) (by simp [hn]), by omega⟩

def mcells (m : Mf) : List AV := [.int .i64 m.v, .int .i64 m.f, .int .i64 m.n, .sl 0 0 m.segs.length 3 false]

def idxS (m : Mf) : Summ := onceS [.sl 0 0 m.segs.length 3 false, .func 63 [] [.ptr 3 0, .ptr 1 0]]
      [.cells false (sgsA m.segs), .cells true (mcells m), .map [], .cells true [.map 2]] (.int .i64 (badAt m.n [] m.segs 0))
      [.cells false (sgsA m.segs), .cells true (mcells m), .dead, .cells true [.map 2]] [2]

theorem idxΓ_ok (m : Mf) (hl : m.segs.length ≤ 1000000000000) : GOk Try.prog (runG Try.prog (gams [(94, idxS m)]) 0 [64] 1) := by
  refine gok_run hmix (goks_cons (sound_once (enter_of Try.func94 rfl (by decide)) (index_ct m hl) (by simp) fun b hb hn => ?_) goks_nil) 0 _ 1
  match b, hb with
  | 0, _ => rfl
  | 1, _ => rfl
  | 2, _ => simp at hn
  | 3, _ => rfl
  | b + 4, h => simp at h; omega

set_option maxHeartbeats 4000000 in
theorem mright_ct (m : Mf) (hl : m.segs.length ≤ 1000000000000) : Ct Try.prog 18 [mfA 0 m] [.cells false (sgsA m.segs)] (.bool m.right) [.cells false (sgsA m.segs)] := by
  have hΓ := idxΓ_ok m hl
  rw [Mf.right_eq]
  obtain ⟨t, ht⟩ : ∃ t, decide (0 ≤ badAt m.n [] m.segs 0) = t := ⟨_, rfl⟩
  have ht' : decide (badAt m.n [] m.segs 0 ≥ 0) = t := ht
  have hc : m.counts = decide (1 ≤ min m.f m.n ∧ 0 ≤ m.v ∧ max m.v (max m.f m.n) ≤ 900000000) := by unfold Mf.counts; simp only [decide_eq_decide]; omega
  rw [ht, hc]
  obtain ⟨i, hi⟩ : ∃ i, badAt m.n [] m.segs 0 = i := ⟨_, rfl⟩
  have hS : idxS m = idxS m := rfl
  conv at hS => rhs; unfold idxS
  rw [hi] at hS ht ht'
  obtain ⟨mv, mf, mn, l⟩ := m
  simp only [mcells] at hl hS ⊢
  obtain ⟨q, hq⟩ : ∃ q, min mf mn = q := ⟨_, rfl⟩
  obtain ⟨p, hp⟩ : ∃ p, max mv (max mf mn) = p := ⟨_, rfl⟩
  rw [hq, hp]
  have hl2 : ((l.length : Int) ≤ 1000) ↔ l.length ≤ 1000 := by omega
  refine ct_rd hmix hΓ (n := 0) Try.func18 ?_ (fun X => Weak.mk' [0] (by decide) rfl (by simp) (by simp))
  unfold Try.f18
  by_cases h1 : 1 ≤ q
  rotate_left
  · simp [-minA, minA_min, minA_max, hq, hp, h1, mfA]
  by_cases h2 : 0 ≤ mv
  rotate_left
  · simp [-minA, minA_min, minA_max, hq, hp, h1, h2, mfA]
  by_cases h3 : p ≤ 900000000
  rotate_left
  · simp [-minA, minA_min, minA_max, hq, hp, h1, h2, h3, mfA]
  by_cases h4 : l.length ≤ 1000
  rotate_left
  · simp [-minA, minA_min, minA_max, hq, hp, h1, h2, h3, h4, hl2, mfA]
  cases t
  · simp at ht
    simp [-minA, minA_min, minA_max, hq, hp, h1, h2, h3, h4, hl2, mfA, hS, onceS, Try.f64, ht]
  · simp at ht
    simp [-minA, minA_min, minA_max, hq, hp, h1, h2, h3, h4, hl2, mfA, hS, onceS, Try.f64, ht]

def mrightS : Summ := readS fun args H => match args with
  | [x] => match mfOf H x with
    | some m => if m.segs.length ≤ 1000000000000 then some (.bool m.right) else none
    | _ => none
  | _ => none

theorem mright_sound : Sound Try.prog 18 mrightS := by
  refine sound_read (enter_of Try.func18 rfl (by decide)) fun args H v h => ?_
  split at h <;> try cases h
  rename_i x
  split at h <;> try cases h
  rename_i m hx
  split at h <;> cases h
  rename_i hc
  obtain ⟨b1, o1, w1, g1⟩ := mf_win hx
  refine ct_win (mright_ct m hc) rfl [(b1, o1)] ?_ ?_
  · exact ⟨w1 0 _ rfl, trivial⟩
  · exact ⟨g1, frees_sgs _, trivial⟩

end Go.Proofs.Ytbbgmaklmlagcaa
