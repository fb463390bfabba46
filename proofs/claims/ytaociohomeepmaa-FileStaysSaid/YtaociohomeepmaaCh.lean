/- The law cedillalaw06.FileStays: a round of the loop. -/
import Derived.Test.YtaociohomeepmaaCi
namespace Go.Proofs.Ytaociohomeepmaa
open Go
set_option maxRecDepth 100000
attribute [-simp] drawOk_eq adraw qrun acode aops

set_option maxHeartbeats 16000000 in
theorem fstays_round (l : List Ac) (c0 c1 : Int) (_hl : l.length ≤ 9223372036854775807) (hok : ∀ a ∈ l, a.ok) (f : PF) (cuts : Bool) (k : Nat) (hI : Fi.Inv f cuts k) (hlt : k < l.length) (h30 : k < 30) :
    Sim Try.prog none 1 (inC (inC (restC 1 (fstC (restC 5 (bodyOf Try.f4)))))) (fsF l.length f cuts k) (fsH l c0 c1 f) fun e F' H' => e = .normal ∧ ∃ f' cuts', Fi.Inv f' cuts' (k + 1) ∧ Weak 1 F' H' (fsF l.length f' cuts' (k + 1)) (fsH l c0 c1 f') := by
  have hΓ := fsΓ_ok
  simp only [bodyOf, Try.f4, Option.getD_some, restC, fstC, inC]
  obtain ⟨hf, hwf, hnc, hln⟩ := hI
  have hlti : (k : Int) < l.length := by omega
  have h30i : (k : Int) < 30 := by omega
  obtain ⟨e, he⟩ : ∃ e, l[k] = e := ⟨_, rfl⟩
  have he' : l[k]? = some e := by rw [List.getElem?_eq_getElem hlt, he]
  have hoke := hok e (List.mem_of_getElem? he')
  have g1 := acs_get l k hlt
  rw [he] at g1
  have k1 : k * 4 + 4 ≤ l.length * 4 := by omega
  have hw : IntKind.i64.wrap ((k : Int) + 1) = k + 1 := wr_i64 (by omega) (by omega)
  obtain ⟨W, S, N, M⟩ := e
  dsimp only [Ac.ok] at hoke
  obtain ⟨ow, on, om, os⟩ := hoke
  obtain ⟨q, hq⟩ : ∃ q, W.tmod 10 = q := ⟨_, rfl⟩
  have hwq : IntKind.u8.wrap q = q := wr_u8 (by rw [← hq]; exact Int.tmod_nonneg _ ow.1) (by have := Int.tmod_lt_of_pos W (b := 10) (by decide); omega)
  have hfs : f.small := PF.ok_mono hf (by omega)
  have hnl := PF.ok_now hf
  have b1 : (f.now.length : Int) ≤ 1000000000000 := by omega
  obtain ⟨n, en⟩ : ∃ n, sizeF N f.now.length = n := ⟨_, rfl⟩
  refine Sim.step hmix hΓ (n := 0) (by simp [hlti, h30i]; exact ⟨rfl, rfl⟩) (by simp) ?_
  refine Sim.seq (Sim.block ?_)
  refine Sim.step hmix hΓ (n := 0) (by simp (decide := true) [hlt, g1, acA, k1]; exact ⟨rfl, rfl⟩) (by simp) ?_
  refine Sim.seq (Sim.mono (Q := fun e F' H' => e = .normal ∧ ∃ f' cuts', Fi.Inv f' cuts' (k + 1) ∧ Weak 1 F' H' (fsF l.length f' cuts' k) (fsH l c0 c1 f')) ?_ ?_)
  · refine Sim.step hmix hΓ (n := 0) (by simp [hq]; exact ⟨rfl, rfl⟩) (by simp) ?_
    refine Sim.block ?_
    have hsame : Fi.Inv f cuts (k + 1) := ⟨PF.ok_mono hf (by omega), hwf, hnc, by omega⟩
    have tb1 : (f.times.length + 1) * 16 ≤ 140737488355328 := by rw [f.times_length]; omega
    have tb2 : f.times.length + 1 ≤ 9223372036854775807 := by rw [f.times_length]; omega
    have hc3 : f.cut n = (f, 17) ∨ (f.cut n = (f.did (.cut n.toNat), 0) ∧ 0 ≤ n ∧ n < f.now.length) ∨ f.cut n = (f, 0) := by
      unfold PF.cut
      split
      · exact .inl rfl
      split
      · exact .inr (.inl ⟨rfl, by omega, by omega⟩)
      · exact .inr (.inr rfl)
    have hcutI : 0 ≤ n → n < f.now.length → Fi.Inv (f.did (.cut n.toNat)) true (k + 1) := fun h0 h1 =>
      ⟨PF.ok_did hf _ (by show n.toNat ≤ _; omega) (by simp [FAct.run]; omega) (by omega), PF.wf_did hwf _ (by show n.toNat < _; omega), fun h => (by cases h), (by simp [PF.did]; omega)⟩
    have hcutN : (f.did (.cut n.toNat)).now = f.now.take n.toNat := by simp [PF.did, PF.now, runs_append, runs, FAct.run]
    have hln1 : 0 ≤ n → n < f.now.length → (((f.did (.cut n.toNat)).now.length : Int) < f.now.length) := fun h0 h1 => by rw [hcutN, List.length_take]; omega
    have hln2 : 0 ≤ n → n < f.now.length → (f.did (.cut n.toNat)).now.length < f.now.length := fun h0 h1 => by rw [hcutN, List.length_take]; omega
    have htk : List.take f.times.length (List.map AV.str f.times) = List.map AV.str f.times := List.take_of_length_le (by simp)
    have hfr : ∀ x : List UInt8, frees (List.map AV.str f.times ++ [AV.str x]) = true := fun x => by simp
    by_cases hqv : q = 4
    · refine Sim.step hmix hΓ (n := 0) (by simp [hqv]; exact ⟨rfl, rfl⟩) (by simp) ?_
      refine Sim.cond (t := true) (by simp) ?_
      rw [if_pos rfl]
      refine Sim.step hmix hΓ (n := 0) (by simp [fsΓ, flenR]; exact ⟨rfl, rfl⟩) (by simp) ?_
      rcases hc3 with hcut | ⟨hcut, hn0, hnl2⟩ | hcut
      · refine Sim.seq (Sim.draw hmix (by simp) ?_)
        refine SimR.many hΓ 6 (by simp [stageOps]; rfl) (by omega) (by kernel_rfl) (by simp [fsΓ, flenR, lsizeS, on, b1, en]; first | exact ⟨rfl, rfl⟩ | exact ⟨by kernel_rfl, rfl, rfl⟩) ?_
        refine SimR.one hΓ _ rfl (by kernel_rfl) (by simp [fsΓ, fcutS, hfs, hcut]; exact ⟨rfl, rfl⟩) ?_
        refine SimR.many hΓ 14 (by simp [stageOps, blankOp]; rfl) (by omega) (by kernel_rfl) (by simp [fsΓ, flenR]; first | exact ⟨rfl, rfl⟩ | exact ⟨by kernel_rfl, rfl, rfl⟩) ?_
        refine SimR.done rfl ?_
        dsimp only
        refine Sim.exec hmix hΓ (n := 0) (by simp; exact ⟨rfl, rfl, rfl⟩) (by simp) ?_
        exact ⟨rfl, f, cuts, hsame, Weak.mk' [0, 1, 2, 3] (by decide) (by decide) (by simp) (by simp [AWb])⟩
      · refine Sim.seq (Sim.draw hmix (by simp) ?_)
        refine SimR.many hΓ 6 (by simp [stageOps]; rfl) (by omega) (by kernel_rfl) (by simp [fsΓ, flenR, lsizeS, on, b1, en]; first | exact ⟨rfl, rfl⟩ | exact ⟨by kernel_rfl, rfl, rfl⟩) ?_
        refine SimR.one hΓ _ rfl (by kernel_rfl) (by simp [fsΓ, fcutS, hfs, hcut]; exact ⟨rfl, rfl⟩) ?_
        refine SimR.many hΓ 14 (by simp [stageOps, blankOp]; rfl) (by omega) (by kernel_rfl) (by simp [fsΓ, flenR, hln1 hn0 hnl2]; first | exact ⟨rfl, rfl⟩ | exact ⟨by kernel_rfl, rfl, rfl⟩) ?_
        refine SimR.done rfl ?_
        dsimp only
        refine Sim.exec hmix hΓ (n := 0) (by simp [fsΓ, fbytesR, tb1, tb2]; exact ⟨rfl, rfl, rfl⟩) (by simp) ?_
        exact ⟨rfl, _, true, hcutI hn0 hnl2, Weak.mk' [0, 1, 2, 6] (by decide) (by decide) (by simp [PF.times_did]) (by simp [AWb, PF.times_did, htk])⟩
      · refine Sim.seq (Sim.draw hmix (by simp) ?_)
        refine SimR.many hΓ 6 (by simp [stageOps]; rfl) (by omega) (by kernel_rfl) (by simp [fsΓ, flenR, lsizeS, on, b1, en]; first | exact ⟨rfl, rfl⟩ | exact ⟨by kernel_rfl, rfl, rfl⟩) ?_
        refine SimR.one hΓ _ rfl (by kernel_rfl) (by simp [fsΓ, fcutS, hfs, hcut]; exact ⟨rfl, rfl⟩) ?_
        refine SimR.many hΓ 14 (by simp [stageOps, blankOp]; rfl) (by omega) (by kernel_rfl) (by simp [fsΓ, flenR]; first | exact ⟨rfl, rfl⟩ | exact ⟨by kernel_rfl, rfl, rfl⟩) ?_
        refine SimR.done rfl ?_
        dsimp only
        refine Sim.exec hmix hΓ (n := 0) (by simp; exact ⟨rfl, rfl, rfl⟩) (by simp) ?_
        exact ⟨rfl, f, cuts, hsame, Weak.mk' [0, 1, 2, 3] (by decide) (by decide) (by simp) (by simp [AWb])⟩
    have hq4 := hqv
    by_cases hqv : q = 5
    · refine Sim.step hmix hΓ (n := 0) (by simp [hqv]; exact ⟨rfl, rfl⟩) (by simp) ?_
      refine Sim.cond (t := true) (by simp) ?_
      rw [if_pos rfl]
      refine Sim.step hmix hΓ (n := 0) (by simp [fsΓ, flenR]; exact ⟨rfl, rfl⟩) (by simp) ?_
      rcases hc3 with hcut | ⟨hcut, hn0, hnl2⟩ | hcut
      · refine Sim.seq (Sim.draw hmix (by simp) ?_)
        refine SimR.many hΓ 6 (by simp [stageOps]; rfl) (by omega) (by kernel_rfl) (by simp [fsΓ, flenR, lsizeS, on, b1, en]; first | exact ⟨rfl, rfl⟩ | exact ⟨by kernel_rfl, rfl, rfl⟩) ?_
        refine SimR.one hΓ _ rfl (by kernel_rfl) (by simp [fsΓ, fcutS, hfs, hcut]; exact ⟨rfl, rfl⟩) ?_
        refine SimR.many hΓ 14 (by simp [stageOps, blankOp]; rfl) (by omega) (by kernel_rfl) (by simp [fsΓ, flenR]; first | exact ⟨rfl, rfl⟩ | exact ⟨by kernel_rfl, rfl, rfl⟩) ?_
        refine SimR.done rfl ?_
        dsimp only
        refine Sim.exec hmix hΓ (n := 0) (by simp; exact ⟨rfl, rfl, rfl⟩) (by simp) ?_
        exact ⟨rfl, f, cuts, hsame, Weak.mk' [0, 1, 2, 3] (by decide) (by decide) (by simp) (by simp [AWb])⟩
      · refine Sim.seq (Sim.draw hmix (by simp) ?_)
        refine SimR.many hΓ 6 (by simp [stageOps]; rfl) (by omega) (by kernel_rfl) (by simp [fsΓ, flenR, lsizeS, on, b1, en]; first | exact ⟨rfl, rfl⟩ | exact ⟨by kernel_rfl, rfl, rfl⟩) ?_
        refine SimR.one hΓ _ rfl (by kernel_rfl) (by simp [fsΓ, fcutS, hfs, hcut]; exact ⟨rfl, rfl⟩) ?_
        refine SimR.many hΓ 14 (by simp [stageOps, blankOp]; rfl) (by omega) (by kernel_rfl) (by simp [fsΓ, flenR, hln1 hn0 hnl2]; first | exact ⟨rfl, rfl⟩ | exact ⟨by kernel_rfl, rfl, rfl⟩) ?_
        refine SimR.done rfl ?_
        dsimp only
        refine Sim.exec hmix hΓ (n := 0) (by simp [fsΓ, fbytesR, tb1, tb2]; exact ⟨rfl, rfl, rfl⟩) (by simp) ?_
        exact ⟨rfl, _, true, hcutI hn0 hnl2, Weak.mk' [0, 1, 2, 6] (by decide) (by decide) (by simp [PF.times_did]) (by simp [AWb, PF.times_did, htk])⟩
      · refine Sim.seq (Sim.draw hmix (by simp) ?_)
        refine SimR.many hΓ 6 (by simp [stageOps]; rfl) (by omega) (by kernel_rfl) (by simp [fsΓ, flenR, lsizeS, on, b1, en]; first | exact ⟨rfl, rfl⟩ | exact ⟨by kernel_rfl, rfl, rfl⟩) ?_
        refine SimR.one hΓ _ rfl (by kernel_rfl) (by simp [fsΓ, fcutS, hfs, hcut]; exact ⟨rfl, rfl⟩) ?_
        refine SimR.many hΓ 14 (by simp [stageOps, blankOp]; rfl) (by omega) (by kernel_rfl) (by simp [fsΓ, flenR]; first | exact ⟨rfl, rfl⟩ | exact ⟨by kernel_rfl, rfl, rfl⟩) ?_
        refine SimR.done rfl ?_
        dsimp only
        refine Sim.exec hmix hΓ (n := 0) (by simp; exact ⟨rfl, rfl, rfl⟩) (by simp) ?_
        exact ⟨rfl, f, cuts, hsame, Weak.mk' [0, 1, 2, 3] (by decide) (by decide) (by simp) (by simp [AWb])⟩
    refine Sim.step hmix hΓ (n := 0) (by simp [hq4]; exact ⟨rfl, rfl⟩) (by simp) ?_
    refine Sim.cond (t := false) (by simp [hqv]) ?_
    rw [if_neg (by decide)]
    by_cases hq6 : q = 6
    · refine Sim.exec hmix hΓ (n := 0) (by simp [hq6, fsΓ, fsyncS, fbytesR]; exact ⟨rfl, rfl, rfl⟩) (by simp) ?_
      exact ⟨rfl, ⟨f.now, []⟩, false, ⟨PF.ok_new _ _ (by omega), PF.wf_new _, fun _ => PF.noCuts_new _, by simp⟩, Weak.mk' [0, 1, 2, 5] (by decide) (by decide) (by simp [PF.times_new]) (by simp [AWb, PF.times_new]; rfl)⟩
    refine Sim.step hmix hΓ (n := 0) (by simp; exact ⟨rfl, rfl⟩) (by simp) ?_
    refine Sim.cond (t := false) (by simp [hq6]) ?_
    rw [if_neg (by decide)]
    obtain ⟨s, es⟩ : ∃ s, S.take 20 = s := ⟨_, rfl⟩
    obtain ⟨z, ez⟩ : ∃ z : Nat, min (S.length : Int) 20 = z := ⟨min S.length 20, by omega⟩
    have ez2 : S.take z = s := by
      rw [← es]
      by_cases h : S.length ≤ 20
      · rw [List.take_of_length_le (by omega), List.take_of_length_le h]
      · rw [show z = 20 by omega]
    have z1 : z ≤ S.length := by omega
    have hsl : s.length ≤ 20 := by rw [← es]; simp; omega
    have hs20 : s.length ≤ 1000000000000 := by omega
    have tl1 : f.times.length = f.acts.length + 1 := f.times_length
    have w1 : IntKind.i64.wrap ((f.acts.length : Int) + 1 - 1) = f.acts.length := by rw [show (f.acts.length : Int) + 1 - 1 = f.acts.length by omega]; exact wr_i64 (by omega) (by omega)
    have wlt : (f.acts.length : Int) < f.acts.length + 1 := by omega
    have wl0 : (0 : Int) < f.acts.length + 1 := by omega
    have wL : IntKind.i64.wrap (f.acts.length : Int) = f.acts.length := wr_i64 (by omega) (by omega)
    have tq : ∀ h, f.times[f.acts.length]'h = f.now := fun h => (List.getElem?_eq_some_iff.1 f.times_last).2
    have tq' := f.times_last
    refine Sim.step hmix hΓ (n := 0) (by simp [-minA, minA_min, ez, ez2, z1, fsΓ, fappS, rowStrs, strsOf, flatsA, hfs, hs20]; exact ⟨rfl, rfl⟩) (by simp) ?_
    by_cases hse : s = []
    · have hadd : f.add s = f := by unfold PF.add; rw [if_pos hse]
      rw [hadd]
      refine Sim.step hmix hΓ (n := 0) (by simp (decide := true) [fsΓ, fbytesR, tl1, wL, wlt, tq]; first | exact ⟨rfl, rfl⟩ | exact ⟨by kernel_rfl, rfl, rfl⟩) (by simp) ?_
      refine Sim.exec hmix hΓ (n := 0) (by simp; exact ⟨rfl, rfl, rfl⟩) (by simp) ?_
      exact ⟨rfl, f, cuts, hsame, Weak.mk' [0, 1, 2, 3] (by decide) (by decide) (by simp [tl1]) (by simp [AWb])⟩
    · have hadd : f.add s = f.did (.add s) := by unfold PF.add PF.did; rw [if_neg hse]
      have hnow : (f.did (.add s)).now = f.now ++ s := by simp [PF.did, PF.now, runs_append, runs, FAct.run]
      have hne : ¬ (f.now ++ s = f.now) := fun e => hse (by simpa using e)
      have hneb : ((f.now ++ s) == f.now) = false := by simpa using hse
      have tb1' : (f.acts.length + 1 + 1) * 16 ≤ 140737488355328 := by omega
      have tb2' : f.acts.length + 1 + 1 ≤ 9223372036854775807 := by omega
      have htk' : List.take (f.acts.length + 1) (List.map AV.str f.times) = List.map AV.str f.times := by rw [← tl1]; exact htk
      have hI2 : Fi.Inv (f.did (.add s)) cuts (k + 1) := ⟨PF.ok_did hf _ trivial (by simp [FAct.run]; omega) (by omega), PF.wf_did hwf _ hse, fun h => PF.noCuts_add (hnc h) s, by simp [PF.did]; omega⟩
      rw [hadd]
      refine Sim.step hmix hΓ (n := 0) (by simp (decide := true) [fsΓ, fbytesR, tl1, wL, wlt, tq, hnow, hneb]; first | exact ⟨rfl, rfl⟩ | exact ⟨by kernel_rfl, rfl, rfl⟩) (by simp) ?_
      refine Sim.exec hmix hΓ (n := 0) (by simp [fsΓ, fbytesR, hnow, tl1, tb1', tb2']; exact ⟨rfl, rfl, rfl⟩) (by simp) ?_
      exact ⟨rfl, _, cuts, hI2, Weak.mk' [0, 1, 2, 7] (by decide) (by decide) (by simp [PF.times_did, tl1]) (by simp [AWb, PF.times_did, htk', hnow])⟩
  rintro e F' H' hlen ⟨rfl, f', cuts', hI', hwk⟩
  dsimp only
  refine Sim.weak hwk hlen ?_
  clear hwk hlen
  have hlook := fstays_look l c0 c1 f' cuts' k (by have := hI'.ln; omega)
  simp only [bodyOf, Try.f4, Option.getD_some, restC, fstC, inC] at hlook
  refine Sim.mono hlook ?_
  rintro e F' H' hlen ⟨rfl, hwk⟩
  dsimp only
  refine Sim.weak hwk hlen ?_
  clear hwk hlen
  refine Sim.exec hmix hΓ (n := 0) (by simp [hw]; exact ⟨rfl, rfl, rfl⟩) (by simp) ?_
  exact ⟨rfl, f', cuts', hI', Weak.mk' [0, 1, 2, 3] (by decide) (by decide) (by simp) (by simp [AWb])⟩

end Go.Proofs.Ytaociohomeepmaa
