/- The law cedillalaw07.FolderSurvives: the walk. -/
import Derived.Test.YtjiilgpagpfdnaaHn
import Derived.Test.YtjiilgpagpfdnaaHp
namespace Go.Proofs.Ytjiilgpagpfdnaa
open Go Go.Lib
set_option maxRecDepth 100000
attribute [-simp] drawOk_eq adraw qrun acode aops

theorem FD.ok_doAll : ∀ (l : List FA) {f : FD} {B : Nat}, f.ok B → (f.doAll l).ok (B + l.length)
  | [], f, B, h => h
  | x :: l, f, B, h => by
    have := FD.ok_doAll l (FD.ok_does h x)
    exact FD.ok_mono this (by rw [List.length_cons]; omega)
theorem FD.doAll_len : ∀ (l : List FA) (f : FD), (f.doAll l).acts.length ≤ f.acts.length + l.length
  | [], f => Nat.le_refl _
  | x :: l, f => by
    have h1 := FD.doAll_len l (f.does x)
    have h2 := (f.does_more x).len
    have h3 : (f.doAll (x :: l)) = (f.does x).doAll l := rfl
    rw [h3, List.length_cons]; omega

noncomputable def fsΓ : Gam := gams [(6, trueK), (7, fnew0S), (16, nameS), (9, fsyn0S), (15, ffindS), (14, fsurvS), (10, fpendS), (13, fnamesS), (12, joinS2), (11, lnamesS), (8, doesFS)]
theorem fsΓ_ok : GOk Try.prog fsΓ := goks_cons hw_sound (goks_cons fnew0_sound (goks_cons name_sound (goks_cons fsyn0_sound (goks_cons ffind_sound (goks_cons fsurv_sound (goks_cons fpend_sound (goks_cons fnames_sound (goks_cons join_sound2 (goks_cons lnames_sound (goks_cons doesF_sound goks_nil))))))))))

abbrev svF (A B : Nat) (n : Int) : List AV := [.sl 0 0 A 5 false, .sl 1 0 B 5 false, .int .i8 n, .top, .top, .top, .bool false, .ptr 2 0, .ptr 3 0]

set_option maxHeartbeats 16000000 in
theorem survives_ct (A B : List FA) (hA : ∀ x ∈ A, x.ok) (hB : ∀ x ∈ B, x.ok) (_hAl : A.length ≤ 9223372036854775807) (hBl : B.length ≤ 9223372036854775807) (n : Int) (hn : -128 ≤ n ∧ n ≤ 127) :
    Ct Try.prog 3 [.sl 0 0 A.length 5 false, .sl 1 0 B.length 5 false, .int .i8 n] [.cells false (fasA A), .cells false (fasA B)] (.bool true) [.cells false (fasA A), .cells false (fasA B)] := by
  have hΓ := fsΓ_ok
  have hwn : IntKind.i64.wrap n = n := wr_i64 (by omega) (by omega)
  have fA := frees_fas A
  have fB := frees_fas B
  refine ct_of_sim Try.func3 rfl ?_
  simp only [Try.ntmps3, List.length_cons, List.length_nil, Nat.reduceAdd, Nat.reduceSub, List.replicate, List.cons_append, List.nil_append]
  refine Sim.step hmix hΓ (n := 0) (by simp; exact ⟨rfl, rfl⟩) (by simp) ?_
  refine Sim.step hmix hΓ (n := 0) (by simp [fsΓ, trueK]; exact ⟨rfl, rfl⟩) (by simp) ?_
  refine Sim.step hmix hΓ (n := 0) (by simp [fsΓ, fnew0S]; exact ⟨rfl, rfl⟩) (by simp) ?_
  -- the acts that last
  refine Sim.seq (Sim.mono (Q := fun e F' H' => e = .normal ∧ ∃ f : FD, f.ok 30 ∧ Weak 2 F' H' (svF A.length B.length n ++ List.replicate 140 .top) [.cells false (fasA A), .cells false (fasA B), .obj true f.blks, .obj true f.blks]) ?_ ?_)
  · refine Sim.step hmix hΓ (n := 0) (by simp; exact ⟨rfl, rfl⟩) (by simp) ?_
    refine Sim.block (Sim.loopW (fun r : Nat × FD => (r.1 ≤ A.length ∧ r.1 ≤ 30) ∧ r.2.ok r.1)
      (fun r => svF A.length B.length n ++ [.int .i64 r.1] ++ List.replicate 139 .top) (fun r => [.cells false (fasA A), .cells false (fasA B), .obj true r.2.blks, .obj true r.2.blks]) (fun r => 30 - r.1) (0, FD.new) (by simp) ⟨⟨by simp, by simp⟩, FD.ok_new⟩ (Weak.mk' [0, 1, 2, 3] (by decide) (by decide) (by simp) (by simp [AWb, fA, fB])) fun r hr => ?_)
    obtain ⟨i, f⟩ := r
    obtain ⟨⟨hi1, hi2⟩, hfo⟩ := hr
    dsimp only at hi1 hi2 hfo ⊢
    simp only [svF]
    by_cases h1 : i < A.length
    rotate_left
    · have hltI : ¬ (i : Int) < A.length := by omega
      refine Sim.exec hmix hΓ (n := 0) (by simp [hltI]; exact ⟨rfl, rfl, rfl⟩) (by simp) ?_
      dsimp only
      rw [if_pos rfl]
      exact ⟨by trivial, f, FD.ok_mono hfo (by omega), Weak.mk' [0, 1, 2, 3] (by decide) (by decide) (by simp) (by simp [AWb, fA, fB])⟩
    have hltI : (i : Int) < A.length := by omega
    by_cases h30 : i < 30
    rotate_left
    · have h30I : ¬ (i : Int) < 30 := by omega
      refine Sim.exec hmix hΓ (n := 0) (by simp [hltI, h30I]; exact ⟨rfl, rfl, rfl⟩) (by simp) ?_
      dsimp only
      rw [if_pos rfl]
      exact ⟨by trivial, f, FD.ok_mono hfo (by omega), Weak.mk' [0, 1, 2, 3] (by decide) (by decide) (by simp) (by simp [AWb, fA, fB])⟩
    have h30I : (i : Int) < 30 := by omega
    obtain ⟨x, hx⟩ : ∃ x, A[i] = x := ⟨_, rfl⟩
    have hx' : A[i]? = some x := by rw [List.getElem?_eq_getElem h1, hx]
    have hxo := hA x (List.mem_of_getElem? hx')
    have g1 := fas_get A i h1
    rw [hx] at g1
    have k1 : i * 5 + 5 ≤ A.length * 5 := by omega
    have hsm : f.small := FD.ok_mono hfo (by omega)
    have d1 := doesFS_at (H := [.cells false (fasA A), .cells false (fasA B), .obj true f.blks, .obj true f.blks]) (c := 2) rfl hxo hsm
    have d2 := doesFS_at (H := [.cells false (fasA A), .cells false (fasA B), .obj true (f.does x).blks, .obj true f.blks]) (c := 3) rfl hxo hsm
    have hok' := FD.ok_does hfo x
    obtain ⟨f', hf'⟩ : ∃ f', f.does x = f' := ⟨_, rfl⟩
    rw [hf'] at d1 d2 hok'
    simp only [faA] at d1 d2 g1
    have hw : IntKind.i64.wrap ((i : Int) + 1) = i + 1 := wr_i64 (by omega) (by omega)
    refine Sim.step hmix hΓ (n := 0) (by simp [hltI, h30I]; exact ⟨rfl, rfl⟩) (by simp) ?_
    refine Sim.exec hmix hΓ (n := 0) (by simp [h1, k1, g1, fsΓ, d1, d2, hw]; exact ⟨rfl, rfl, rfl⟩) (by simp) ?_
    exact ⟨(i + 1, f'), ⟨⟨by dsimp only; omega, by dsimp only; omega⟩, hok'⟩, Weak.mk' [0, 1, 2, 3] (by decide) (by decide) (by simp) (by simp [AWb, fA, fB]), by dsimp only; omega⟩
  rintro e F' H' hlen ⟨rfl, f1, hf1, hwk⟩
  dsimp only
  refine Sim.weak hwk hlen ?_
  clear hwk hlen
  simp only [svF, List.cons_append, List.nil_append]
  have hal1 : f1.acts.length ≤ 1000000 := by have := hf1.len; omega
  have hs0 := FD.ok_survive hf1 f1.acts.length
  obtain ⟨s0, hse⟩ : ∃ s, f1.survive f1.acts.length = s := ⟨_, rfl⟩
  have hsa : s0.acts = [] := by rw [← hse]; rfl
  have hsl : s0.acts.length = 0 := by rw [hsa]; rfl
  rw [hse] at hs0
  have hsm0 : s0.small := FD.ok_mono hs0 (by omega)
  refine Sim.step hmix hΓ (n := 0) (by simp [fsΓ, fsyn0S, hal1, hse]; exact ⟨rfl, rfl⟩) (by simp) ?_
  refine Sim.step hmix hΓ (n := 0) (by simp [fsΓ, fsyn0S, hal1, hse]; exact ⟨rfl, rfl⟩) (by simp) ?_
  have n1 := fnames_at (H := [.cells false (fasA A), .cells false (fasA B), .obj true s0.blks, .obj true s0.blks]) (b := 3) rfl hsm0
  have n2 := joinS2_at (H := [.cells false (fasA A), .cells false (fasA B), .obj true s0.blks, .obj true s0.blks, .cells true (s0.names.map .str)]) (x := .sl 4 0 s0.names.length 1 false) (sep := [32]) (rowStrs_at rfl) (names_join hsm0)
  simp only [List.length_cons, List.length_nil, Nat.reduceAdd, List.cons_append, List.nil_append] at n1
  obtain ⟨J, hJ⟩ : ∃ J, joinU s0.names [32] = J := ⟨_, rfl⟩
  rw [hJ] at n2
  refine Sim.step hmix hΓ (n := 0) (by simp (decide := true) [fsΓ, fpendS, hsa, n1, n2, lnamesS, hsm0, hJ]; exact ⟨rfl, rfl⟩) (by simp) ?_
  refine Sim.weak (Fn := svF A.length B.length n ++ List.replicate 140 .top) (Hn := [.cells false (fasA A), .cells false (fasA B), .obj true s0.blks, .obj true s0.blks]) (Weak.mk' [0, 1, 2, 3] (by decide) (by decide) (by simp) (by simp [AWb, fA, fB])) (by simp) ?_
  clear n1 n2 hJ J
  obtain ⟨L, hL⟩ : ∃ L, min B.length 30 = L := ⟨_, rfl⟩
  have hdok : ∀ i, i ≤ 30 → (s0.doAll (B.take i)).ok 60 := fun i hi => FD.ok_mono (FD.ok_doAll (B.take i) hs0) (by rw [List.length_take]; omega)
  have hdsm : ∀ i, i ≤ 30 → (s0.doAll (B.take i)).small := fun i hi => FD.ok_mono (hdok i hi) (by omega)
  have hdln : ∀ i, i ≤ 30 → (s0.doAll (B.take i)).acts.length ≤ i := fun i hi => by
    have := FD.doAll_len (B.take i) s0
    rw [List.length_take] at this; omega
  -- the acts that do not last
  refine Sim.seq (Sim.mono (Q := fun e F' H' => e = .normal ∧ Weak 2 F' H' (svF A.length B.length n ++ List.replicate 140 .top) [.cells false (fasA A), .cells false (fasA B), .obj true (s0.doAll (B.take L)).blks, .obj true s0.blks]) ?_ ?_)
  · refine Sim.step hmix hΓ (n := 0) (by simp [svF]; exact ⟨rfl, rfl⟩) (by simp) ?_
    refine Sim.block (Sim.loopW (fun i : Nat => i ≤ B.length ∧ i ≤ 30)
      (fun i => svF A.length B.length n ++ [.top, .int .i64 i] ++ List.replicate 138 .top) (fun i => [.cells false (fasA A), .cells false (fasA B), .obj true (s0.doAll (B.take i)).blks, .obj true s0.blks]) (fun i => 30 - i) 0 (by simp) (by simp) (Weak.mk' [0, 1, 2, 3] (by decide) (by decide) (by simp) (by simp [AWb, fA, fB, FD.doAll])) fun i hi => ?_)
    obtain ⟨hi1, hi2⟩ := hi
    simp only [svF]
    by_cases h1 : i < B.length
    rotate_left
    · have hltI : ¬ (i : Int) < B.length := by omega
      have hiL : i = L := by omega
      subst hiL
      refine Sim.exec hmix hΓ (n := 0) (by simp [hltI]; exact ⟨rfl, rfl, rfl⟩) (by simp) ?_
      dsimp only
      rw [if_pos rfl]
      exact ⟨by trivial, Weak.mk' [0, 1, 2, 3] (by decide) (by decide) (by simp) (by simp [AWb, fA, fB])⟩
    have hltI : (i : Int) < B.length := by omega
    by_cases h30 : i < 30
    rotate_left
    · have h30I : ¬ (i : Int) < 30 := by omega
      have hiL : i = L := by omega
      subst hiL
      refine Sim.exec hmix hΓ (n := 0) (by simp [hltI, h30I]; exact ⟨rfl, rfl, rfl⟩) (by simp) ?_
      dsimp only
      rw [if_pos rfl]
      exact ⟨by trivial, Weak.mk' [0, 1, 2, 3] (by decide) (by decide) (by simp) (by simp [AWb, fA, fB])⟩
    have h30I : (i : Int) < 30 := by omega
    obtain ⟨x, hx⟩ : ∃ x, B[i] = x := ⟨_, rfl⟩
    have hx' : B[i]? = some x := by rw [List.getElem?_eq_getElem h1, hx]
    have hxo := hB x (List.mem_of_getElem? hx')
    have g1 := fas_get B i h1
    rw [hx] at g1
    have k1 : i * 5 + 5 ≤ B.length * 5 := by omega
    have d1 := doesFS_at (H := [.cells false (fasA A), .cells false (fasA B), .obj true (s0.doAll (B.take i)).blks, .obj true s0.blks]) (c := 2) rfl hxo (hdsm i hi2)
    have hnx := FD.doAll_snoc s0 B i x hx'
    have hln := hdln (i + 1) (by omega)
    rw [← hnx] at d1
    obtain ⟨f', hf'⟩ : ∃ f', s0.doAll (B.take (i + 1)) = f' := ⟨_, rfl⟩
    rw [hf'] at d1 hln
    simp only [faA] at d1 g1
    have hw : IntKind.i64.wrap ((i : Int) + 1) = i + 1 := wr_i64 (by omega) (by omega)
    have hpe : ¬ (i : Int) + 1 < f'.acts.length := by omega
    refine Sim.step hmix hΓ (n := 0) (by simp [hltI, h30I]; exact ⟨rfl, rfl⟩) (by simp) ?_
    refine Sim.exec hmix hΓ (n := 0) (by simp [h1, k1, g1, fsΓ, d1, hw, fpendS, hpe]; exact ⟨rfl, rfl, rfl⟩) (by simp) ?_
    exact ⟨i + 1, ⟨by omega, by omega⟩, Weak.mk' [0, 1, 2, 3] (by decide) (by decide) (by simp) (by simp [AWb, fA, fB, hf']), by omega⟩
  rintro e F' H' hlen ⟨rfl, hwk⟩
  dsimp only
  refine Sim.weak hwk hlen ?_
  clear hwk hlen
  simp only [svF, List.cons_append, List.nil_append]
  have hL30 : L ≤ 30 := by omega
  obtain ⟨F, hF⟩ : ∃ F, s0.doAll (B.take L) = F := ⟨_, rfl⟩
  have hFs := hdsm L hL30
  have hFok := hdok L hL30
  rw [hF] at hFs hFok ⊢
  obtain ⟨k, hk⟩ : ∃ k, F.clamp n = k := ⟨_, rfl⟩
  have hk1 : max 0 (min n (F.acts.length : Int)) = k := by rw [← hk]; unfold FD.clamp; omega
  refine Sim.step hmix hΓ (n := 0) (by simp [-minA, minA_min, minA_max, hwn, fsΓ, fpendS, hk1]; exact ⟨rfl, rfl⟩) (by simp) ?_
  -- as many acts of the other one
  refine Sim.seq (Sim.mono (Q := fun e F' H' => e = .normal ∧ ∃ i, i ≤ L ∧ (s0.doAll (B.take i)).acts.length ≤ k ∧ (k ≤ (s0.doAll (B.take i)).acts.length ∨ i = L) ∧ Weak 2 F' H' (svF A.length B.length n ++ List.replicate 140 .top) [.cells false (fasA A), .cells false (fasA B), .obj true F.blks, .obj true (s0.doAll (B.take i)).blks]) ?_ ?_)
  · refine Sim.step hmix hΓ (n := 0) (by simp; exact ⟨rfl, rfl⟩) (by simp) ?_
    refine Sim.block (Sim.loopW (fun i : Nat => i ≤ L ∧ (s0.doAll (B.take i)).acts.length ≤ k)
      (fun i => svF A.length B.length n ++ [.top, .top, .int .i64 k, .int .i64 i] ++ List.replicate 136 .top) (fun i => [.cells false (fasA A), .cells false (fasA B), .obj true F.blks, .obj true (s0.doAll (B.take i)).blks]) (fun i => L - i) 0 (by simp) ⟨by omega, by simp [FD.doAll, hsl]⟩ (Weak.mk' [0, 1, 2, 3] (by decide) (by decide) (by simp) (by simp [AWb, fA, fB, FD.doAll])) fun i hi => ?_)
    obtain ⟨hi1, hi2⟩ := hi
    simp only [svF]
    obtain ⟨G, hG⟩ : ∃ G, s0.doAll (B.take i) = G := ⟨_, rfl⟩
    have hGs := hdsm i (by omega)
    rw [hG] at hi2 hGs ⊢
    by_cases h1 : i < B.length
    rotate_left
    · have hltI : ¬ (i : Int) < B.length := by omega
      refine Sim.exec hmix hΓ (n := 0) (by simp [hltI]; exact ⟨rfl, rfl, rfl⟩) (by simp) ?_
      dsimp only
      rw [if_pos rfl]
      exact ⟨by trivial, i, hi1, by rw [hG]; exact hi2, .inr (by omega), Weak.mk' [0, 1, 2, 3] (by decide) (by decide) (by simp) (by simp [AWb, fA, fB, hG])⟩
    have hltI : (i : Int) < B.length := by omega
    by_cases h30 : i < 30
    rotate_left
    · have h30I : ¬ (i : Int) < 30 := by omega
      refine Sim.exec hmix hΓ (n := 0) (by simp [hltI, h30I]; exact ⟨rfl, rfl, rfl⟩) (by simp) ?_
      dsimp only
      rw [if_pos rfl]
      exact ⟨by trivial, i, hi1, by rw [hG]; exact hi2, .inr (by omega), Weak.mk' [0, 1, 2, 3] (by decide) (by decide) (by simp) (by simp [AWb, fA, fB, hG])⟩
    have h30I : (i : Int) < 30 := by omega
    by_cases hpk : G.acts.length < k
    rotate_left
    · have hpkI : ¬ (G.acts.length : Int) < k := by omega
      refine Sim.exec hmix hΓ (n := 0) (by simp [hltI, h30I, fsΓ, fpendS, hpk]; exact ⟨rfl, rfl, rfl⟩) (by simp) ?_
      dsimp only
      rw [if_pos rfl]
      exact ⟨by trivial, i, hi1, by rw [hG]; exact hi2, .inl (by rw [hG]; omega), Weak.mk' [0, 1, 2, 3] (by decide) (by decide) (by simp) (by simp [AWb, fA, fB, hG])⟩
    obtain ⟨x, hx⟩ : ∃ x, B[i] = x := ⟨_, rfl⟩
    have hx' : B[i]? = some x := by rw [List.getElem?_eq_getElem h1, hx]
    have hxo := hB x (List.mem_of_getElem? hx')
    have g1 := fas_get B i h1
    rw [hx] at g1
    have k1 : i * 5 + 5 ≤ B.length * 5 := by omega
    have d1 := doesFS_at (H := [.cells false (fasA A), .cells false (fasA B), .obj true F.blks, .obj true G.blks]) (c := 3) rfl hxo hGs
    have hnx := FD.doAll_snoc s0 B i x hx'
    rw [hG] at hnx
    have hml := (G.does_more x).len
    rw [← hnx] at d1 hml
    obtain ⟨f', hf'⟩ : ∃ f', s0.doAll (B.take (i + 1)) = f' := ⟨_, rfl⟩
    rw [hf'] at d1 hml
    simp only [faA] at d1 g1
    have hw : IntKind.i64.wrap ((i : Int) + 1) = i + 1 := wr_i64 (by omega) (by omega)
    refine Sim.step hmix hΓ (n := 0) (by simp [hltI, h30I, fsΓ, fpendS, hpk]; exact ⟨rfl, rfl⟩) (by simp) ?_
    refine Sim.exec hmix hΓ (n := 0) (by simp [h1, k1, g1, fsΓ, d1, hw]; exact ⟨rfl, rfl, rfl⟩) (by simp) ?_
    exact ⟨i + 1, ⟨by omega, by rw [hf']; omega⟩, Weak.mk' [0, 1, 2, 3] (by decide) (by decide) (by simp) (by simp [AWb, fA, fB, hf']), by omega⟩
  rintro e F' H' hlen ⟨rfl, i, hiL, hik, hend, hwk⟩
  dsimp only
  refine Sim.weak hwk hlen ?_
  clear hwk hlen
  simp only [svF, List.cons_append, List.nil_append]
  obtain ⟨G, hG⟩ : ∃ G, s0.doAll (B.take i) = G := ⟨_, rfl⟩
  have hGs := hdsm i (by omega)
  rw [hG] at hik hend hGs ⊢
  have hsame := FD.survive_same (f := s0) B i L n hiL hF.symm hG.symm (by rw [hk]; exact hik) (by rw [hk]; exact hend)
  have hFal : F.acts.length ≤ 1000000 := by have := hFok.len; omega
  have hTs := FD.ok_survive hFs n
  have hTa : (F.survive n).acts = [] := rfl
  obtain ⟨T, hT⟩ : ∃ T, F.survive n = T := ⟨_, rfl⟩
  rw [hT] at hsame hTs hTa
  have hnm : T.names = G.names := by unfold FD.names; rw [hsame]
  have hfd : ∀ s, T.find s = G.find s := fun s => by unfold FD.find; rw [hsame]
  refine Sim.step hmix hΓ (n := 0) (by simp [hwn, fsΓ, fsurvS, hFal, hT]; exact ⟨rfl, rfl⟩) (by simp) ?_
  have n1 := fnames_at (H := [.cells false (fasA A), .cells false (fasA B), .obj true T.blks, .obj true G.blks]) (b := 3) rfl hGs
  have n2 := joinS2_at (H := [.cells false (fasA A), .cells false (fasA B), .obj true T.blks, .obj true G.blks, .cells true (G.names.map .str)]) (x := .sl 4 0 G.names.length 1 false) (sep := [32]) (rowStrs_at rfl) (names_join hGs)
  simp only [List.length_cons, List.length_nil, Nat.reduceAdd, List.cons_append, List.nil_append] at n1
  obtain ⟨J, hJ⟩ : ∃ J, joinU G.names [32] = J := ⟨_, rfl⟩
  have hJT : joinU T.names [32] = J := by rw [hnm, hJ]
  rw [hJ] at n2
  have hTs' : T.small := hTs
  refine Sim.step hmix hΓ (n := 0) (by simp (decide := true) [fsΓ, fpendS, hTa, n1, n2, lnamesS, hTs', hJT]; exact ⟨rfl, rfl⟩) (by simp) ?_
  refine Sim.weak (Fn := svF A.length B.length n ++ List.replicate 140 .top) (Hn := [.cells false (fasA A), .cells false (fasA B), .obj true T.blks, .obj true G.blks]) (Weak.mk' [0, 1, 2, 3] (by decide) (by decide) (by simp) (by simp [AWb, fA, fB])) (by simp) ?_
  refine Sim.seq (Sim.mono (Q := fun e F' H' => e = .normal ∧ Weak 2 F' H' ([.sl 0 0 A.length 5 false, .sl 1 0 B.length 5 false, .int .i8 n, .top, .top, .top, .bool false] ++ List.replicate 142 .top) [.cells false (fasA A), .cells false (fasA B)]) ?_ ?_)
  · refine Sim.step hmix hΓ (n := 0) (by simp [svF]; exact ⟨rfl, rfl⟩) (by simp) ?_
    refine Sim.block (Sim.loopW (fun i : Nat => i ≤ 7)
      (fun i => svF A.length B.length n ++ [.top, .top, .top, .top, .int .u8 i] ++ List.replicate 135 .top) (fun _ => [.cells false (fasA A), .cells false (fasA B), .obj true T.blks, .obj true G.blks]) (fun i => 7 - i) 0 (by simp) (by simp) (Weak.mk' [0, 1, 2, 3] (by decide) (by decide) (by simp) (by simp [AWb, fA, fB])) fun i hi => ?_)
    simp only [svF]
    by_cases h7 : i < 7
    · have h7I : (i : Int) < 7 := by omega
      have hb2 : (i : Int) ≤ 255 := by omega
      have hw : IntKind.u8.wrap ((i : Int) + 1) = i + 1 := wr_u8 (by omega) (by omega)
      obtain ⟨⟨v, is⟩, hp⟩ : ∃ p, G.find (nameF i) = p := ⟨_, rfl⟩
      have hp2 : T.find (nameF i) = (v, is) := by rw [hfd, hp]
      refine Sim.step hmix hΓ (n := 0) (by simp [h7I]; exact ⟨rfl, rfl⟩) (by simp) ?_
      refine Sim.exec hmix hΓ (n := 0) (by simp (decide := true) [fsΓ, nameS, ffindS, hb2, hp, hp2, hw]; exact ⟨rfl, rfl, rfl⟩) (by simp) ?_
      exact ⟨i + 1, by omega, Weak.mk' [0, 1, 2, 3] (by decide) (by decide) (by simp) (by simp [AWb, fA, fB]), by omega⟩
    · have h7I : ¬ (i : Int) < 7 := by omega
      refine Sim.exec hmix hΓ (n := 0) (by simp [h7I]; exact ⟨rfl, rfl, rfl⟩) (by simp) ?_
      dsimp only
      rw [if_pos rfl]
      exact ⟨by trivial, Weak.mk' [0, 1] (by decide) (by decide) (by simp) (by simp [AWb, fA, fB])⟩
  rintro e F' H' hlen ⟨rfl, hwk⟩
  dsimp only
  refine Sim.weak hwk hlen ?_
  clear hwk hlen
  refine Sim.exec hmix hΓ (n := 0) (by simp; exact ⟨rfl, rfl, rfl⟩) (by simp) ?_
  exact ⟨.inr rfl, _, by simp [Try.f3] <;> rfl, Weak.mk' [0, 1] (by decide) (by decide) (by simp) (by simp [fA, fB])⟩

def folderSurvives_shape : List (Bool × List CT) := [(false, [.row [.int .u8, .int .u8, .int .u8, .int .i8, .str]]), (false, [.row [.int .u8, .int .u8, .int .u8, .int .i8, .str]]), (false, [.one (.int .i8)])]

theorem folderSurvives_law : ∀ xs H, AbsArgs folderSurvives_shape 0 xs H → ∃ H', Ct Try.prog 3 xs H (.bool true) H' := by
  intro xs H h0
  obtain ⟨y1, zs1, l1, n1, H1, rfl, rfl, hy1, hm1, hl1, h1⟩ := absArgs_row h0
  obtain ⟨A, rfl, rfl, hA⟩ := row_fas hl1
  obtain ⟨y2, zs2, l2, n2, H2, rfl, rfl, hy2, hm2, hl2, h2⟩ := absArgs_row h1
  obtain ⟨B, rfl, rfl, hB⟩ := row_fas hl2
  obtain ⟨x, ys, rfl, ⟨n, rfl, hn⟩, h3⟩ := absArgs_one h2
  obtain ⟨rfl, rfl⟩ := absArgs_nil h3
  unfold maxLen at hm1 hm2
  refine ⟨_, ct_args (survives_ct A B hA hB (by omega) (by omega) n (bounds_i8 hn)) fun j vs hv => ?_⟩
  simp only [VRs] at hv ⊢
  obtain ⟨v1, w1, e1, g1, v2, w2, e2, g2, r⟩ := hv
  exact ⟨v1, w1, e1, VR_arg_sl hy1 g1, v2, w2, e2, VR_arg_sl hy2 g2, r⟩

end Go.Proofs.Ytjiilgpagpfdnaa
