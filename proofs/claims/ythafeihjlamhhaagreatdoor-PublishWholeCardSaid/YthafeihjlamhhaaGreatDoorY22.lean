/- Parts of the proof of PublishWhole: lemmas, each with its own conditions. -/
import Derived.Test.YthafeihjlamhhaaGreatDoorY16
import Derived.Test.YthafeihjlamhhaaGreatDoorY4
import Derived.Test.YthafeihjlamhhaaGreatDoorY18
import Derived.Test.YthafeihjlamhhaaGreatDoorY19
import Derived.Test.YthafeihjlamhhaaGreatDoorY20
import Derived.Test.YthafeihjlamhhaaGreatDoorY21
namespace Go.Proofs.YthafeihjlamhhaaGreatDoor
open Go Go.Lib
set_option maxRecDepth 100000
theorem row_u16s : ∀ {n : Nat} {l : List AV}, All2 PrimA (List.replicate n [Prim.int .u16]).flatten l → ∃ zs : List Int, l = numA zs ∧ zs.length = n ∧ ∀ z ∈ zs, 0 ≤ z ∧ z ≤ 65535
  | 0, [], _ => ⟨[], rfl, rfl, by simp⟩
  | n + 1, x :: l, h => by
    rw [List.replicate_succ, List.flatten_cons] at h
    obtain ⟨a, rfl, ha⟩ := h.1
    obtain ⟨zs, rfl, hl, hq⟩ := row_u16s (n := n) (l := l) h.2
    have ba := bounds_u16 ha
    refine ⟨a :: zs, rfl, by simp [hl], fun x hx => ?_⟩
    rcases List.mem_cons.1 hx with rfl | hx
    · exact ⟨ba.1, by omega⟩
    · exact hq x hx
  | 0, _ :: _, h => h.elim
  | n + 1, [], h => by
    rw [List.replicate_succ, List.flatten_cons] at h
    exact h.elim
end Go.Proofs.YthafeihjlamhhaaGreatDoor
namespace Go.Proofs.YthafeihjlamhhaaGreatDoor
open Go Go.Lib
set_option maxRecDepth 100000
attribute [-simp] drawOk_eq adraw qrun acode aops
open Classical in
noncomputable def pfileS : Summ := fun args H => match args with
  | [.ptr b 0, .str k, .slice b2 0 n 1 _c] => match H[b]?, H[b2]? with
    | some (.obj true sub), some (.cells true l) => match dsD sub, (if n ≤ l.length then strsOf (l.take n) else none) with
      | some d, some a => if d.ok 800000 100000000 ∧ d.quota ≤ 1000000000 ∧ flatsA l = true ∧ a.flatten.length ≤ 140737488355328 ∧ a.length ≤ 140737488355328 ∧ k.length ≤ 9223372036854775807 then some (.int .i64 (d.pfile k a.flatten).2, H.set b (.obj true (d.pfile k a.flatten).1.blks), [b]) else none
      | _, _ => none
    | _, _ => none
  | _ => none
theorem pfile_sound : Sound Tryz.prog 55 pfileS := by
  have key : ∀ args H v H' W, pfileS args H = some (v, H', W) → ∃ b B, W = [b] ∧ H' = H.set b B ∧ Ct Tryz.prog 55 args H v H' := by
    intro args H v H' W hs
    unfold pfileS at hs
    split at hs
    rotate_left
    · cases hs
    rename_i b k b2 n c
    split at hs <;> try cases hs
    rename_i sub l hb hb2
    split at hs <;> try cases hs
    rename_i d a hd hl
    split at hl <;> try cases hl
    rename_i hle
    split at hs <;> cases hs
    rename_i hc
    obtain ⟨h1, h2, h3, h4, h5, h6⟩ := hc
    have e := dsD_eq hd
    subst e
    refine ⟨b, _, rfl, rfl, ?_⟩
    have hbl : b < H.length := (List.getElem?_eq_some_iff.1 hb).1
    have hbl2 : b2 < H.length := (List.getElem?_eq_some_iff.1 hb2).1
    have hne : b ≠ b2 := by rintro rfl; rw [hb] at hb2; cases hb2
    have hct := file_ct d l h3 a n hle hl h4 h5 c k h6 (wr_small h1 1000000000 (by decide) (by omega) (by omega) (by omega) k a.flatten) (by rw [create_quota]; omega)
    have := ct_frame (H := H) (args := [.ptr b 0, .str k, .slice b2 0 n 1 c]) hct [b, b2] (by simp [hne]) ⟨⟨rfl, rfl⟩, rfl, ⟨rfl, rfl, rfl, rfl, fun h => h⟩, trivial⟩ ⟨by rw [List.getD_eq_getElem?_getD, hb]; exact ⟨rfl, rfl⟩, hbl, by rw [List.getD_eq_getElem?_getD, hb2]; exact ⟨fun h => h, AWs_flat _ h3⟩, hbl2, trivial⟩ rfl
    have hset : ∀ (B : ABlk), (H.set b B).set b2 (.cells true l) = H.set b B := fun B => by
      refine List.ext_getElem? fun i => ?_
      by_cases hi : i = b2
      · subst hi
        rw [List.getElem?_set_self (by simpa using hbl2), List.getElem?_set_ne hne, hb2]
      · rw [List.getElem?_set_ne (Ne.symm hi)]
    simpa [setOwn, ABlk.own, reB, reA, hset, reAs_flat _ l h3] using this
  refine ⟨enter_of Tryz.func55 rfl (by decide), fun args H v H' W hs => ?_, fun args H v H' W hs => ?_⟩
  · obtain ⟨b, B, _, _, h⟩ := key args H v H' W hs
    exact h
  · obtain ⟨b, B, rfl, rfl, _⟩ := key args H v H' W hs
    refine ⟨by simp, fun c hc hn => ?_⟩
    simp only [List.mem_singleton] at hn
    rw [List.getElem?_set_ne (Ne.symm hn)]
def phInl : List FuncId := [56]
noncomputable def phΓ0 : Gam := gams [(48, trueK_U4), (17, dnewS), (55, pfileS), (33, darmS), (34, ddownS), (35, drestS), (41, dreaS), (36, dlistS), (57, hasPreS)]
theorem phΓ_ok : GOk Tryz.prog (runG Tryz.prog phΓ0 0 phInl 2) := gok_run hmix (goks_cons pubWS0_sound (goks_cons dnew_sound (goks_cons pfile_sound (goks_cons darm_sound (goks_cons ddown_sound (goks_cons drest_sound (goks_cons drea_sound (goks_cons dlist_sound (goks_cons haspre_sound goks_nil))))))))) 0 phInl 2
set_option maxHeartbeats 64000000 in
theorem whole_ct (s0 : List UInt8) (hs0 : s0.length ≤ 9223372036854775807) (a : Int) (ha : 0 ≤ a ∧ a ≤ 255) (nums : List Int) (hnums : ∀ x ∈ nums, 0 ≤ x ∧ x ≤ 65535) (hMl : nums.length ≤ 9223372036854775807) :
    ∃ H', Ct Tryz.prog 10 [.str s0, .int .u8 a, .sl 0 0 nums.length 1 false] [.cells false (numA nums)] (.bool true) H' := by
  have hΓ := phΓ_ok
  refine ⟨[.cells false (numA nums)], ct_of_sim Tryz.func10 rfl ?_⟩
  simp only [Tryz.ntmps10, List.length_cons, List.length_nil, Nat.reduceAdd, Nat.reduceSub, List.replicate, List.cons_append, List.nil_append]
  obtain ⟨M, hM⟩ : ∃ M, nums.length = M := ⟨_, rfl⟩
  rw [hM] at hMl ⊢
  obtain ⟨K, hK⟩ : ∃ K : Nat, min (s0.length : Int) 200 = K := ⟨min s0.length 200, by omega⟩
  have hKs : K ≤ s0.length := by omega
  have hKsI : (K : Int) ≤ s0.length := by omega
  have hK0 : (0 : Int) ≤ K := by omega
  obtain ⟨s, hs⟩ : ∃ s, s0.take K = s := ⟨_, rfl⟩
  have hsl : s.length = K := by rw [← hs, List.length_take]; omega
  have hK2 : K ≤ 200 := by omega
  obtain ⟨J, hJ⟩ : ∃ J : Nat, min (M : Int) 20 = J := ⟨min M 20, by omega⟩
  have hJM : J ≤ M := by omega
  have hJMI : (J : Int) ≤ M := by omega
  have hJ0 : (0 : Int) ≤ J := by omega
  have hn1 : (∀ x ∈ nums, 0 ≤ x ∧ x ≤ 65535) = True := by simpa using hnums
  obtain ⟨t, ht⟩ : ∃ t : Nat, a.tmod 6 = t := ⟨(a.tmod 6).toNat, by rw [Int.tmod_eq_emod_of_nonneg ha.1]; omega⟩
  have ht6 : t < 6 := by rw [Int.tmod_eq_emod_of_nonneg ha.1] at ht; omega
  have w1 : IntKind.u8.wrap (t : Int) = t := wr_u8 (by omega) (by omega)
  have w2 : IntKind.i64.wrap (t : Int) = t := wr_i64 (by omega) (by omega)
  obtain ⟨d1, hd1, hok1, q1, d3, e3, hd3, hok3, hdw, hrest⟩ := whole_law s (by omega) t (nums.take J)
  have hok3 := hok3 (by omega) (by omega)
  obtain ⟨ra, rb0, rb1, rl⟩ := hrest (by omega) (by omega)
  have hr3 := DS.ok_restart hok3 (nums.take J)
  obtain ⟨D, hD⟩ : ∃ D, d3.restart (nums.take J) = D := ⟨_, rfl⟩
  rw [hD] at ra rb0 rb1 rl hr3
  have s3 : d3.small := DS.ok_mono hok3 (by omega) (by omega)
  have sD : D.small := DS.ok_mono hr3 (by omega) (by omega)
  have k1 : d1.ok 800000 100000000 := DS.ok_mono hok1 (by omega) (by omega)
  have k1s : d1.small := DS.ok_mono hok1 (by omega) (by omega)
  have k2 : (d1.arm t).ok 800000 100000000 := DS.ok_arm k1 t (by omega)
  have k2q : (d1.arm t).quota ≤ 1000000000 := by show d1.quota ≤ _; omega
  have k0 : (DS.new 1048576).ok 800000 100000000 := DS.ok_mono (DS.ok_new 1048576 (by decide) (by decide)) (by omega) (by omega)
  have k0q : (DS.new 1048576).quota ≤ 1000000000 := by decide
  obtain ⟨D0, hD0⟩ : ∃ D0, DS.new 1048576 = D0 := ⟨_, rfl⟩
  rw [hD0] at hd1 k0 k0q
  obtain ⟨d2, hd2⟩ : ∃ d2, d1.arm t = d2 := ⟨_, rfl⟩
  rw [hd2] at hd3 k2 k2q
  obtain ⟨q, hq⟩ : ∃ q : Nat, K / 3 = q := ⟨_, rfl⟩
  have hqd : (K : Int).tdiv 3 = q := by rw [Int.tdiv_eq_ediv_of_nonneg (by omega)]; omega
  have hqK : q ≤ K := by omega
  have hqKI : (q : Int) ≤ K := by omega
  have hq0 : (0 : Int) ≤ q := by omega
  have w3 : IntKind.i64.wrap (q : Int) = q := wr_i64 (by omega) (by omega)
  simp only [firstB] at hd1 ra
  refine Sim.step hmix hΓ (n := 0) (by simp; exact ⟨rfl, rfl⟩) (by simp) ?_
  refine Sim.step hmix hΓ (n := 0) (by simp [phInl, phΓ0, trueK_U4]; exact ⟨rfl, rfl⟩) (by simp) ?_
  refine Sim.step hmix hΓ (n := 0) (by simp (decide := true) [-minA, minA_min, hK, hKsI, hK0, hs]; exact ⟨rfl, rfl⟩) (by simp) ?_
  refine Sim.step hmix hΓ (n := 0) (by simp (decide := true) [phInl, phΓ0, dnewS, newS, hD0]; exact ⟨rfl, rfl⟩) (by simp) ?_
  refine Sim.step hmix hΓ (n := 0) (by simp (decide := true) [phInl, phΓ0, pfileS, strsOf, flatsA, flatA, k0, k0q, hd1]; exact ⟨rfl, rfl⟩) (by simp) ?_
  refine Sim.step hmix hΓ (n := 0) (by simp (decide := true) [phInl, phΓ0, darmS, ht, w2, hd2]; exact ⟨rfl, rfl⟩) (by simp) ?_
  have hts : (s.drop q).take (K - q) = s.drop q := List.take_of_length_le (by rw [List.length_drop]; omega)
  have hK9 : K ≤ 140737488355328 := by omega
  refine Sim.seq (Sim.draw hmix (by simp) ?_)
  refine SimR.many hΓ 12 (by simp [stageOps]; rfl) (by omega) (by kernel_rfl) (by simp (decide := true) [hsl, hqd, hqKI, hq0, w3, hts]; first | exact ⟨rfl, rfl⟩ | exact ⟨by kernel_rfl, rfl, rfl⟩) ?_
  refine SimR.one hΓ _ rfl (by kernel_rfl) (by simp (decide := true) [phΓ0, pfileS, strsOf, flatsA, flatA, hsl, hK9, k2, k2q, hd3]; exact ⟨rfl, rfl⟩) ?_
  refine SimR.many hΓ 14 (by simp [stageOps, blankOp]; rfl) (by omega) (by kernel_rfl) (by simp (decide := true); first | exact ⟨rfl, rfl⟩ | exact ⟨by kernel_rfl, rfl, rfl⟩) ?_
  refine SimR.done rfl ?_
  dsimp only
  obtain ⟨rt, re, hbt⟩ : ∃ rt re, D.readAt [98] 0 1048576 = (rt, re) := ⟨_, _, rfl⟩
  rw [hbt] at rb0 rb1
  dsimp only at rb1
  have rlI : (D.list.length : Int) ≤ 2 := by omega
  have fin : ∀ (T : AHeap), Weak 1 [.bool true] (.cells false (numA nums) :: T) [.bool true] [.cells false (numA nums)] := fun T =>
    Weak.mk' [0] (by decide) (by decide) (by simp) (by simp [AWb])
  by_cases he : e3 = 0
  · have hdw' : d3.down = false := hdw.2 he
    subst he
    obtain ⟨rfl, rfl⟩ : rt = s ∧ re = 0 := by have := rb0 rfl; simpa using this
    refine Sim.step hmix hΓ (n := 0) (by simp (decide := true) [phInl, phΓ0, ddownS, hdw']; exact ⟨rfl, rfl⟩) (by simp) ?_
    refine Sim.step hmix hΓ (n := 0) (by simp (decide := true) [-minA, minA_min, phInl, phΓ0, drestS, rowArg, numsOf_at, s3, hD, hJ, hM, hJM, hJMI, hJ0, hMl, hn1]; exact ⟨rfl, rfl⟩) (by simp) ?_
    refine Sim.step hmix hΓ (n := 0) (by simp (decide := true) [phInl, phΓ0, dreaS, Tryz.f56, sD, hbt]; exact ⟨rfl, rfl⟩) (by simp) ?_
    refine Sim.step hmix hΓ (n := 0) (by simp (decide := true) [phInl, phΓ0, dreaS, Tryz.f56, sD, ra]; exact ⟨rfl, rfl⟩) (by simp) ?_
    have hpre : rt.take rt.length = rt := List.take_length
    refine Sim.step hmix hΓ (n := 0) (by simp (decide := true) [phInl, phΓ0, hasPreS]; exact ⟨rfl, rfl⟩) (by simp) ?_
    refine Sim.exec hmix hΓ (n := 0) (by simp (decide := true) [phInl, phΓ0, dlistS, sD, rlI]; exact ⟨rfl, rfl, rfl⟩) (by simp) ?_
    exact ⟨.inr rfl, _, by simp [Tryz.f10] <;> rfl, fin _⟩
  · have hdw' : d3.down = true := by
      cases h : d3.down with
      | true => rfl
      | false => exact absurd (hdw.1 h) he
    have he1 : (e3 == 0) = false := by simpa using he
    refine Sim.step hmix hΓ (n := 0) (by simp (decide := true) [phInl, phΓ0, ddownS, hdw', he1]; exact ⟨rfl, rfl⟩) (by simp) ?_
    refine Sim.step hmix hΓ (n := 0) (by simp (decide := true) [-minA, minA_min, phInl, phΓ0, drestS, rowArg, numsOf_at, s3, hD, hJ, hM, hJM, hJMI, hJ0, hMl, hn1]; exact ⟨rfl, rfl⟩) (by simp) ?_
    refine Sim.step hmix hΓ (n := 0) (by simp (decide := true) [phInl, phΓ0, dreaS, Tryz.f56, sD, hbt]; exact ⟨rfl, rfl⟩) (by simp) ?_
    refine Sim.step hmix hΓ (n := 0) (by simp (decide := true) [phInl, phΓ0, dreaS, Tryz.f56, sD, ra]; exact ⟨rfl, rfl⟩) (by simp) ?_
    by_cases hre : re = 0
    · subst hre
      have hp := rb1 rfl
      have hpre : s.take rt.length = rt := (List.prefix_iff_eq_take.1 hp).symm
      refine Sim.step hmix hΓ (n := 0) (by simp (decide := true) [phInl, phΓ0, hasPreS, he1, hpre]; exact ⟨rfl, rfl⟩) (by simp) ?_
      refine Sim.exec hmix hΓ (n := 0) (by simp (decide := true) [phInl, phΓ0, dlistS, sD, rlI]; exact ⟨rfl, rfl, rfl⟩) (by simp) ?_
      exact ⟨.inr rfl, _, by simp [Tryz.f10] <;> rfl, fin _⟩
    · have hre1 : (re == 0) = false := by simpa using hre
      refine Sim.step hmix hΓ (n := 0) (by simp (decide := true) [phInl, phΓ0, hasPreS, he1, hre1]; exact ⟨rfl, rfl⟩) (by simp) ?_
      refine Sim.exec hmix hΓ (n := 0) (by simp (decide := true) [phInl, phΓ0, dlistS, sD, rlI]; exact ⟨rfl, rfl, rfl⟩) (by simp) ?_
      exact ⟨.inr rfl, _, by simp [Tryz.f10] <;> rfl, fin _⟩
def publishWhole_shape : List (Bool × List CT) := [(false, [.one .str]), (false, [.one (.int .u8)]), (false, [.row [.int .u16]])]
theorem publishWhole_law : ∀ xs H, AbsArgs publishWhole_shape 0 xs H → ∃ H', Ct Tryz.prog 10 xs H (.bool true) H' := by
  intro xs H h0
  obtain ⟨x, ys, rfl, ⟨s, rfl, hs⟩, h1⟩ := absArgs_one h0
  obtain ⟨x', ys', rfl, ⟨a, rfl, ha⟩, h1'⟩ := absArgs_one h1
  obtain ⟨y, zs, l, n, H2, rfl, rfl, hy, hm, hl, h2⟩ := absArgs_row h1'
  obtain ⟨nums, rfl, rfl, hok⟩ := row_u16s hl
  obtain ⟨rfl, rfl⟩ := absArgs_nil h2
  have ba := bounds_u8 ha
  unfold maxLen at hm hs
  obtain ⟨H', h⟩ := whole_ct s (by omega) a (by omega) nums hok (by omega)
  refine ⟨H', ct_args h fun j vs hv => ?_⟩
  simp only [VRs] at hv ⊢
  obtain ⟨v1, w1, e1, g1, v2, w2, e2, g2, v3, w3, e3, g3, r⟩ := hv
  exact ⟨v1, w1, e1, g1, v2, w2, e2, g2, v3, w3, e3, VR_arg_sl hy g3, r⟩
end Go.Proofs.YthafeihjlamhhaaGreatDoor
