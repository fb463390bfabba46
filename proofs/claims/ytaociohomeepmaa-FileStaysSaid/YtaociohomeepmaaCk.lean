/- The law cedillalaw06.FileStays: is what stays what was read at a time? -/
import Derived.Test.YtaociohomeepmaaCj
namespace Go.Proofs.Ytaociohomeepmaa
open Go
set_option maxRecDepth 100000
attribute [-simp] drawOk_eq adraw qrun acode aops

set_option maxHeartbeats 16000000 in
theorem fs_whole (l : List Ac) (c0 c1 : Int) (f g h : PF) (cuts b : Bool) (D P : Int) (n : Nat) (_hok : f.ok 1000) (hwf : f.wf) (hL : f.acts.length ≤ 30) (hn : (inI D 0 f.acts.length).toNat = n) :
    Sim Try.prog none 1 (fstC (restC 14 (bodyOf Try.f4))) (fsT f cuts D P n (f.stays D P) (.bool b) .top) (fsU l c0 c1 f g h) fun e F' H' => e = .normal ∧ ∃ w : Bool, (w = false → ∃ m, f.acts[n]? = some (.add m)) ∧ Weak 1 F' H' (fsT f cuts D P n (f.stays D P) (.bool b) (.bool w)) (fsU l c0 c1 f g h) := by
  have hΓ := fsΓ_ok
  simp only [bodyOf, Try.f4, Option.getD_some, restC, fstC, fsT, fsU]
  have tl1 : f.times.length = f.acts.length + 1 := f.times_length
  have hnL : n ≤ f.acts.length := by unfold inI at hn; omega
  obtain ⟨tn, htn⟩ : ∃ t, runs f.d (f.acts.take n) = t := ⟨_, rfl⟩
  obtain ⟨x1, x2⟩ := tms_at f hnL htn
  have d7 : (n : Int) < f.acts.length + 1 := by omega
  have d8 : n < f.acts.length + 1 := by omega
  have wn : IntKind.i64.wrap ((n : Int) + 1) = n + 1 := wr_i64 (by omega) (by omega)
  obtain ⟨a, ha⟩ : ∃ a, f.stays D P = a := ⟨_, rfl⟩
  rcases PF.stays_cases hwf D P hn with ⟨h1, h2⟩ | ⟨m, h1, h2, h3, h4, h5⟩ | ⟨c, h1, h2, h3, h4, h5⟩
  · have e1 : a = tn := by rw [← ha, h2, ← htn, h1, List.take_length]; rfl
    rw [ha, e1]
    by_cases hP : P ≤ 0
    · refine Sim.draw hmix (by simp) ?_
      refine SimR.many hΓ 7 (by simp [stageOps]; rfl) (by omega) (by kernel_rfl) (by simp (decide := true) [tl1, x1, d7, d8]; first | exact ⟨rfl, rfl⟩ | exact ⟨by kernel_rfl, rfl, rfl⟩) ?_
      refine SimR.many hΓ 10 (by simp [stageOps, blankOp]; rfl) (by omega) (by kernel_rfl) (by simp (decide := true) [hP]; first | exact ⟨rfl, rfl⟩ | exact ⟨by kernel_rfl, rfl, rfl⟩) ?_
      refine SimR.many hΓ 17 (by simp [stageOps, blankOp]; rfl) (by omega) (by kernel_rfl) (by simp (decide := true); first | exact ⟨rfl, rfl⟩ | exact ⟨by kernel_rfl, rfl, rfl⟩) ?_
      refine SimR.many hΓ 32 (by simp [stageOps, blankOp]; rfl) (by omega) (by kernel_rfl) (by simp (decide := true); first | exact ⟨rfl, rfl⟩ | exact ⟨by kernel_rfl, rfl, rfl⟩) ?_
      refine SimR.done rfl ?_
      exact ⟨rfl, true, (fun h => by cases h), Weak.mk' [0, 1, 2, 3, 4, 5] (by decide) (by decide) (by simp [tl1]) (by simp [AWb])⟩
    · have d9 : ((n : Int) + 1 == f.acts.length + 1) = true := by rw [beq_iff_eq]; omega
      have d10 : ((n : Int) == f.acts.length) = true := by rw [beq_iff_eq]; omega
      refine Sim.draw hmix (by simp) ?_
      refine SimR.many hΓ 7 (by simp [stageOps]; rfl) (by omega) (by kernel_rfl) (by simp (decide := true) [tl1, x1, d7, d8]; first | exact ⟨rfl, rfl⟩ | exact ⟨by kernel_rfl, rfl, rfl⟩) ?_
      refine SimR.many hΓ 10 (by simp [stageOps, blankOp]; rfl) (by omega) (by kernel_rfl) (by simp (decide := true) [hP]; first | exact ⟨rfl, rfl⟩ | exact ⟨by kernel_rfl, rfl, rfl⟩) ?_
      refine SimR.many hΓ 17 (by simp [stageOps, blankOp]; rfl) (by omega) (by kernel_rfl) (by simp (decide := true) [wn, d9]; first | exact ⟨rfl, rfl⟩ | exact ⟨by kernel_rfl, rfl, rfl⟩) ?_
      refine SimR.many hΓ 32 (by simp [stageOps, blankOp]; rfl) (by omega) (by kernel_rfl) (by simp (decide := true); first | exact ⟨rfl, rfl⟩ | exact ⟨by kernel_rfl, rfl, rfl⟩) ?_
      refine SimR.done rfl ?_
      exact ⟨rfl, true, (fun h => by cases h), Weak.mk' [0, 1, 2, 3, 4, 5] (by decide) (by decide) (by simp [tl1]) (by simp [AWb])⟩
  · rw [htn] at h4 h5
    rw [ha] at h5 ⊢
    by_cases hP : P ≤ 0
    · have e1 : a = tn := by
        rw [h5, show (inI P 0 m.length).toNat = 0 by unfold inI; omega]
        simp
      rw [e1]
      refine Sim.draw hmix (by simp) ?_
      refine SimR.many hΓ 7 (by simp [stageOps]; rfl) (by omega) (by kernel_rfl) (by simp (decide := true) [tl1, x1, d7, d8]; first | exact ⟨rfl, rfl⟩ | exact ⟨by kernel_rfl, rfl, rfl⟩) ?_
      refine SimR.many hΓ 10 (by simp [stageOps, blankOp]; rfl) (by omega) (by kernel_rfl) (by simp (decide := true) [hP]; first | exact ⟨rfl, rfl⟩ | exact ⟨by kernel_rfl, rfl, rfl⟩) ?_
      refine SimR.many hΓ 17 (by simp [stageOps, blankOp]; rfl) (by omega) (by kernel_rfl) (by simp (decide := true); first | exact ⟨rfl, rfl⟩ | exact ⟨by kernel_rfl, rfl, rfl⟩) ?_
      refine SimR.many hΓ 32 (by simp [stageOps, blankOp]; rfl) (by omega) (by kernel_rfl) (by simp (decide := true); first | exact ⟨rfl, rfl⟩ | exact ⟨by kernel_rfl, rfl, rfl⟩) ?_
      refine SimR.done rfl ?_
      exact ⟨rfl, true, (fun h => by cases h), Weak.mk' [0, 1, 2, 3, 4, 5] (by decide) (by decide) (by simp [tl1]) (by simp [AWb])⟩
    · have e1 : ¬ a = tn := by
        intro e
        rw [e] at h5
        have hl := congrArg List.length h5
        have := List.length_pos_iff.2 h3
        have e2 : (inI P 0 m.length).toNat = min P.toNat m.length := by unfold inI; omega
        rw [List.length_append, List.length_take, e2] at hl
        omega
      have e1b : (a == tn) = false := by simpa using e1
      refine Sim.draw hmix (by simp) ?_
      refine SimR.many hΓ 7 (by simp [stageOps]; rfl) (by omega) (by kernel_rfl) (by simp (decide := true) [tl1, x1, d7, d8, e1b]; first | exact ⟨rfl, rfl⟩ | exact ⟨by kernel_rfl, rfl, rfl⟩) ?_
      refine SimR.many hΓ 10 (by simp [stageOps, blankOp]; rfl) (by omega) (by kernel_rfl) (by simp (decide := true); first | exact ⟨rfl, rfl⟩ | exact ⟨by kernel_rfl, rfl, rfl⟩) ?_
      refine SimR.many hΓ 17 (by simp [stageOps, blankOp]; rfl) (by omega) (by kernel_rfl) (by simp (decide := true); first | exact ⟨rfl, rfl⟩ | exact ⟨by kernel_rfl, rfl, rfl⟩) ?_
      refine SimR.many hΓ 32 (by simp [stageOps, blankOp]; rfl) (by omega) (by kernel_rfl) (by simp (decide := true); first | exact ⟨rfl, rfl⟩ | exact ⟨by kernel_rfl, rfl, rfl⟩) ?_
      refine SimR.done rfl ?_
      exact ⟨rfl, false, (fun _ => ⟨m, h2⟩), Weak.mk' [0, 1, 2, 3, 4, 5] (by decide) (by decide) (by simp [tl1]) (by simp [AWb])⟩
  · obtain ⟨t1, ht1⟩ : ∃ t, runs f.d (f.acts.take (n + 1)) = t := ⟨_, rfl⟩
    obtain ⟨y1, y2⟩ := tms_at f (i := n + 1) (by omega) ht1
    rw [ht1, htn] at h4
    rw [htn] at h5 h3
    rw [h5]
    have d0 : (0 : Int) ≤ n + 1 := by omega
    have d1 : (n : Int) + 1 < f.acts.length + 1 := by omega
    have d3 : ((n : Int) + 1).toNat = n + 1 := by omega
    have l1 : t1.length = c := by rw [h4, List.length_take]; omega
    have d5 : (t1.length : Int) < tn.length := by omega
    have d6 : t1.length < tn.length := by omega
    by_cases hP : P ≤ 0
    · refine Sim.draw hmix (by simp) ?_
      refine SimR.many hΓ 7 (by simp [stageOps]; rfl) (by omega) (by kernel_rfl) (by simp (decide := true) [tl1, x1, d7, d8]; first | exact ⟨rfl, rfl⟩ | exact ⟨by kernel_rfl, rfl, rfl⟩) ?_
      refine SimR.many hΓ 10 (by simp [stageOps, blankOp]; rfl) (by omega) (by kernel_rfl) (by simp (decide := true) [hP]; first | exact ⟨rfl, rfl⟩ | exact ⟨by kernel_rfl, rfl, rfl⟩) ?_
      refine SimR.many hΓ 17 (by simp [stageOps, blankOp]; rfl) (by omega) (by kernel_rfl) (by simp (decide := true); first | exact ⟨rfl, rfl⟩ | exact ⟨by kernel_rfl, rfl, rfl⟩) ?_
      refine SimR.many hΓ 32 (by simp [stageOps, blankOp]; rfl) (by omega) (by kernel_rfl) (by simp (decide := true); first | exact ⟨rfl, rfl⟩ | exact ⟨by kernel_rfl, rfl, rfl⟩) ?_
      refine SimR.done rfl ?_
      exact ⟨rfl, true, (fun h => by cases h), Weak.mk' [0, 1, 2, 3, 4, 5] (by decide) (by decide) (by simp [tl1]) (by simp [AWb])⟩
    · have d9 : ((n : Int) + 1 == f.acts.length + 1) = false := by rw [beq_eq_false_iff_ne]; omega
      have d10 : ((n : Int) == f.acts.length) = false := by rw [beq_eq_false_iff_ne]; omega
      refine Sim.draw hmix (by simp) ?_
      refine SimR.many hΓ 7 (by simp [stageOps]; rfl) (by omega) (by kernel_rfl) (by simp (decide := true) [tl1, x1, d7, d8]; first | exact ⟨rfl, rfl⟩ | exact ⟨by kernel_rfl, rfl, rfl⟩) ?_
      refine SimR.many hΓ 10 (by simp [stageOps, blankOp]; rfl) (by omega) (by kernel_rfl) (by simp (decide := true) [hP]; first | exact ⟨rfl, rfl⟩ | exact ⟨by kernel_rfl, rfl, rfl⟩) ?_
      refine SimR.many hΓ 17 (by simp [stageOps, blankOp]; rfl) (by omega) (by kernel_rfl) (by simp (decide := true) [wn, d9]; first | exact ⟨rfl, rfl⟩ | exact ⟨by kernel_rfl, rfl, rfl⟩) ?_
      refine SimR.many hΓ 32 (by simp [stageOps, blankOp]; rfl) (by omega) (by kernel_rfl) (by simp (decide := true) [tl1, wn, x1, d7, d8, d0, d1, d3, h1, y1, d5]; first | exact ⟨rfl, rfl⟩ | exact ⟨by kernel_rfl, rfl, rfl⟩) ?_
      refine SimR.done rfl ?_
      exact ⟨rfl, true, (fun h => by cases h), Weak.mk' [0, 1, 2, 3, 4, 5] (by decide) (by decide) (by simp [tl1]) (by simp [AWb])⟩

end Go.Proofs.Ytaociohomeepmaa
