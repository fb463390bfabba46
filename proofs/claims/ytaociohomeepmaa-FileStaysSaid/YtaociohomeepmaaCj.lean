/- The law cedillalaw06.FileStays: what is asked of what stays. -/
import Derived.Test.YtaociohomeepmaaCi
namespace Go.Proofs.Ytaociohomeepmaa
open Go
set_option maxRecDepth 100000
attribute [-simp] drawOk_eq adraw qrun acode aops

abbrev fsT (f : PF) (cuts : Bool) (D P : Int) (n : Nat) (a : List UInt8) (m w : AV) : List AV := [.top, .top, .top, .top, .top, .top, .bool false, .ptr 2 0, .sl 3 0 f.times.length 1 false, .bool cuts, .top, .top, .top, .int .i64 D, .int .i64 P, .ptr 4 0, .ptr 5 0, .int .i64 n, .str a, m, w] ++ List.replicate 284 .top
abbrev fsU (l : List Ac) (c0 c1 : Int) (f g h : PF) : AHeap := [.cells false (acsA l), .cells true [.int .i16 c0, .int .i16 c1], .obj true f.blks, .cells true (f.times.map AV.str), .obj true g.blks, .obj true h.blks]

/-- The row of times at two places. -/
theorem tms_at (f : PF) {i : Nat} (hi : i ≤ f.acts.length) {t : List UInt8} (h : runs f.d (f.acts.take i) = t) : (∀ q, f.times[i]'q = t) ∧ f.times[i]? = some t := by
  have := f.times_get hi
  rw [h] at this
  exact ⟨fun q => (List.getElem?_eq_some_iff.1 this).2, this⟩

set_option maxHeartbeats 16000000 in
theorem fs_more (l : List Ac) (c0 c1 : Int) (f g h : PF) (cuts : Bool) (D P : Int) (n : Nat) (hP : -32768 ≤ P ∧ P ≤ 32767) (hok : f.ok 1000) (hwf : f.wf) (hL : f.acts.length ≤ 30) (hn : (inI D 0 f.acts.length).toNat = n) :
    Sim Try.prog none 1 (fstC (restC 13 (bodyOf Try.f4))) (fsT f cuts D P n (f.stays D P) .top .top) (fsU l c0 c1 f g h) fun e F' H' => e = .normal ∧ ∃ b : Bool, (b = false → ¬ ∃ m, f.acts[n]? = some (.add m)) ∧ Weak 1 F' H' (fsT f cuts D P n (f.stays D P) (.bool b) .top) (fsU l c0 c1 f g h) := by
  have hΓ := fsΓ_ok
  simp only [bodyOf, Try.f4, Option.getD_some, restC, fstC, fsT, fsU]
  have tl1 : f.times.length = f.acts.length + 1 := f.times_length
  have hnL : n ≤ f.acts.length := by unfold inI at hn; omega
  obtain ⟨tn, htn⟩ : ∃ t, runs f.d (f.acts.take n) = t := ⟨_, rfl⟩
  obtain ⟨x1, x2⟩ := tms_at f hnL htn
  have lt1 : tn.length ≤ 1000 := by rw [← htn]; exact hok.len n
  have wn : IntKind.i64.wrap ((n : Int) + 1) = n + 1 := wr_i64 (by omega) (by omega)
  rcases PF.stays_cases hwf D P hn with ⟨h1, h2⟩ | ⟨m, h1, h2, h3, h4, h5⟩ | ⟨c, h1, h2, h3, h4, h5⟩
  · have d1 : ¬ ((n : Int) + 1 < f.acts.length + 1) := by omega
    have d2 : ¬ (n < f.acts.length) := by omega
    refine Sim.exec hmix hΓ (n := 0) (by simp (decide := true) [tl1, wn, d1]; first | exact ⟨rfl, rfl, rfl⟩ | exact ⟨by kernel_rfl, rfl, rfl, rfl⟩) (by simp) ?_
    refine ⟨rfl, false, fun _ ⟨m, hm⟩ => ?_, Weak.mk' [0, 1, 2, 3, 4, 5] (by decide) (by decide) (by simp [tl1]) (by simp [AWb])⟩
    have := (List.getElem?_eq_some_iff.1 hm).1
    omega
  · obtain ⟨t1, ht1⟩ : ∃ t, runs f.d (f.acts.take (n + 1)) = t := ⟨_, rfl⟩
    obtain ⟨y1, y2⟩ := tms_at f (i := n + 1) (by omega) ht1
    rw [ht1, htn] at h4
    rw [htn] at h5
    obtain ⟨a, ha⟩ : ∃ a, f.stays D P = a := ⟨_, rfl⟩
    rw [ha] at h5
    have d1 : (n : Int) + 1 < f.acts.length + 1 := by omega
    have d3 : ((n : Int) + 1).toNat = n + 1 := by omega
    have d0 : (0 : Int) ≤ n + 1 := by omega
    have d7 : (n : Int) < f.acts.length + 1 := by omega
    have d8 : n < f.acts.length + 1 := by omega
    have d4 : 0 < m.length := List.length_pos_iff.2 h3
    have l1 : t1.length = tn.length + m.length := by rw [h4, List.length_append]
    obtain ⟨p0, hp0⟩ : ∃ p0 : Nat, max (0 : Int) P = p0 := ⟨(max 0 P).toNat, by omega⟩
    have hp1 : (inI P 0 m.length).toNat = min p0 m.length := by unfold inI; omega
    have l2 : a.length = tn.length + min p0 m.length := by rw [h5, List.length_append, List.length_take, hp1]; omega
    have hl1 : t1.length ≤ 1000 := by rw [← ht1]; exact hok.len (n + 1)
    have d5 : (tn.length : Int) < t1.length := by omega
    have d6 : tn.length < t1.length := by omega
    have q1 : t1.take a.length = a := by
      rw [l2, h4, List.take_append, List.take_of_length_le (by omega), h5, hp1]
      congr 1
      rw [show tn.length + min p0 m.length - tn.length = min p0 m.length by omega]
    have q2 : a.take tn.length = tn := by rw [h5, List.take_left]
    have wp : IntKind.i64.wrap ((tn.length : Int) + p0) = (tn.length : Int) + p0 := wr_i64 (by omega) (by omega)
    have q3 : min (t1.length : Int) ((tn.length : Int) + p0) = a.length := by omega
    rw [ha]
    refine Sim.draw hmix (by simp) ?_
    refine SimR.many hΓ 6 (by simp [stageOps]; rfl) (by omega) (by kernel_rfl) (by simp (decide := true) [-minA, tl1, wn, d1, fsΓ, hasPreS]; first | exact ⟨rfl, rfl⟩ | exact ⟨by kernel_rfl, rfl, rfl⟩) ?_
    refine SimR.many hΓ 20 (by simp [stageOps, blankOp]; rfl) (by omega) (by kernel_rfl) (by simp (decide := true) [-minA, tl1, wn, d0, d7, d8, d1, d3, d5, h1, x1, y1, fsΓ, hasPreS]; first | exact ⟨rfl, rfl⟩ | exact ⟨by kernel_rfl, rfl, rfl⟩) ?_
    refine SimR.many hΓ 29 (by simp [stageOps, blankOp]; rfl) (by omega) (by kernel_rfl) (by simp (decide := true) [-minA, tl1, wn, d0, d1, d3, h1, y1, fsΓ, hasPreS, q1]; first | exact ⟨rfl, rfl⟩ | exact ⟨by kernel_rfl, rfl, rfl⟩) ?_
    refine SimR.many hΓ 37 (by simp [stageOps, blankOp]; rfl) (by omega) (by kernel_rfl) (by simp (decide := true) [-minA, tl1, d7, d8, x1, fsΓ, hasPreS, q2]; first | exact ⟨rfl, rfl⟩ | exact ⟨by kernel_rfl, rfl, rfl⟩) ?_
    refine SimR.many hΓ 57 (by simp [stageOps, blankOp]; rfl) (by omega) (by kernel_rfl) (by simp (decide := true) [-minA, minA_min, minA_max, tl1, wn, d0, d7, d8, d1, d3, h1, x1, y1, fsΓ, hasPreS, q3, hp0, wp]; first | exact ⟨rfl, rfl⟩ | exact ⟨by kernel_rfl, rfl, rfl⟩) ?_
    refine SimR.done rfl ?_
    exact ⟨rfl, true, (fun h => by cases h), Weak.mk' [0, 1, 2, 3, 4, 5] (by decide) (by decide) (by simp [tl1]) (by simp [AWb])⟩
  · obtain ⟨t1, ht1⟩ : ∃ t, runs f.d (f.acts.take (n + 1)) = t := ⟨_, rfl⟩
    obtain ⟨y1, y2⟩ := tms_at f (i := n + 1) (by omega) ht1
    rw [ht1, htn] at h4
    rw [htn] at h5 h3
    have d1 : (n : Int) + 1 < f.acts.length + 1 := by omega
    have d3 : ((n : Int) + 1).toNat = n + 1 := by omega
    have d0 : (0 : Int) ≤ n + 1 := by omega
    have d7 : (n : Int) < f.acts.length + 1 := by omega
    have d8 : n < f.acts.length + 1 := by omega
    have l1 : t1.length = c := by rw [h4, List.length_take]; omega
    have d5 : ¬ ((tn.length : Int) < t1.length) := by omega
    have d6 : ¬ (tn.length < t1.length) := by omega
    refine Sim.draw hmix (by simp) ?_
    refine SimR.many hΓ 6 (by simp [stageOps]; rfl) (by omega) (by kernel_rfl) (by simp (decide := true) [tl1, wn, d1]; first | exact ⟨rfl, rfl⟩ | exact ⟨by kernel_rfl, rfl, rfl⟩) ?_
    refine SimR.many hΓ 20 (by simp [stageOps, blankOp]; rfl) (by omega) (by kernel_rfl) (by simp (decide := true) [tl1, wn, d0, d7, d8, d1, d3, d5, h1, x1, y1]; first | exact ⟨rfl, rfl⟩ | exact ⟨by kernel_rfl, rfl, rfl⟩) ?_
    refine SimR.many hΓ 29 (by simp [stageOps, blankOp]; rfl) (by omega) (by kernel_rfl) (by simp (decide := true); first | exact ⟨rfl, rfl⟩ | exact ⟨by kernel_rfl, rfl, rfl⟩) ?_
    refine SimR.many hΓ 37 (by simp [stageOps, blankOp]; rfl) (by omega) (by kernel_rfl) (by simp (decide := true); first | exact ⟨rfl, rfl⟩ | exact ⟨by kernel_rfl, rfl, rfl⟩) ?_
    refine SimR.many hΓ 57 (by simp [stageOps, blankOp]; rfl) (by omega) (by kernel_rfl) (by simp (decide := true); first | exact ⟨rfl, rfl⟩ | exact ⟨by kernel_rfl, rfl, rfl⟩) ?_
    refine SimR.done rfl ?_
    refine ⟨rfl, false, fun _ ⟨m, hm⟩ => ?_, Weak.mk' [0, 1, 2, 3, 4, 5] (by decide) (by decide) (by simp [tl1]) (by simp [AWb])⟩
    rw [h2] at hm
    cases hm

end Go.Proofs.Ytaociohomeepmaa
