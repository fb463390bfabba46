/- The law cedillalaw06.FileStays: its end. -/
import Derived.Test.YtaociohomeepmaaCk
namespace Go.Proofs.Ytaociohomeepmaa
open Go
set_option maxRecDepth 100000
attribute [-simp] drawOk_eq adraw qrun acode aops

theorem PF.stays_grow {f : PF} (hnc : f.noCuts) (hwf : f.wf) (D P : Int) : f.stays D P <+: f.now ∧ f.d <+: f.stays D P := by
  rcases PF.stays_cases hwf D P rfl with ⟨h1, h2⟩ | ⟨m, h1, h2, h3, h4, h5⟩ | ⟨c, h1, h2, h3, h4, h5⟩
  · rw [h2]
    refine ⟨List.prefix_refl _, ?_⟩
    have := (PF.grow hnc f.acts.length).2
    rwa [List.take_length] at this
  · have g1 := (PF.grow hnc ((inI D 0 f.acts.length).toNat + 1)).1
    have g2 := (PF.grow hnc ((inI D 0 f.acts.length).toNat)).2
    rw [h4] at g1
    rw [h5]
    refine ⟨List.IsPrefix.trans ?_ g1, g2.trans (List.prefix_append _ _)⟩
    rw [List.prefix_append_right_inj]
    exact List.take_prefix _ _
  · rw [h5]
    exact PF.grow hnc _

theorem PF.stays_none (a : List UInt8) : (⟨a, []⟩ : PF).stays 0 0 = a := by simp [PF.stays, runs]
theorem PF.now_none (a : List UInt8) : (⟨a, []⟩ : PF).now = a := rfl

theorem PF.stays_all {f : PF} (hL : f.acts.length ≤ 30) (P : Int) : f.stays 1000 P = f.now := by
  have h : (inI 1000 0 f.acts.length).toNat = f.acts.length := by unfold inI; omega
  unfold PF.stays
  simp only [h]
  rw [List.take_length, List.getElem?_eq_none (Nat.le_refl _)]
  simp [PF.now]

set_option maxHeartbeats 16000000 in
theorem fs_end (l : List Ac) (c0 c1 : Int) (f : PF) (cuts b w : Bool) (D P : Int) (n : Nat) (hok : f.ok 1000) (hwf : f.wf) (hnc : cuts = false → f.noCuts) (hL : f.acts.length ≤ 30) (hbw : (b || w) = true) :
    Sim Try.prog none 1 (restC 15 (bodyOf Try.f4)) (fsT f cuts D P n (f.stays D P) (.bool b) (.bool w)) (fsU l c0 c1 f ⟨f.stays D P, []⟩ ⟨f.now, []⟩) (Ends Try.prog Try.f4 1 (.bool true) [.cells false (acsA l)]) := by
  have hΓ := fsΓ_ok
  simp only [bodyOf, Try.f4, Option.getD_some, restC, fsT, fsU]
  have tl1 : f.times.length = f.acts.length + 1 := f.times_length
  have w1 : IntKind.i64.wrap ((f.acts.length : Int) + 1 - 1) = f.acts.length := by rw [show (f.acts.length : Int) + 1 - 1 = f.acts.length by omega]; exact wr_i64 (by omega) (by omega)
  have wlt : (f.acts.length : Int) < f.acts.length + 1 := by omega
  have wl0 : (0 : Int) < f.acts.length + 1 := by omega
  have wL : IntKind.i64.wrap (f.acts.length : Int) = f.acts.length := wr_i64 (by omega) (by omega)
  have tq : ∀ h, f.times[f.acts.length]'h = f.now := fun h => (List.getElem?_eq_some_iff.1 f.times_last).2
  have tq' := f.times_last
  have hal : (f.stays D P).length ≤ 1000 := PF.ok_stays hok D P
  have hpre : cuts = false → f.now.take (f.stays D P).length = f.stays D P ∧ (f.stays D P).take f.d.length = f.d := fun h => by
    obtain ⟨g1, g2⟩ := PF.stays_grow (hnc h) hwf D P
    exact ⟨(List.prefix_iff_eq_take.1 g1).symm, (List.prefix_iff_eq_take.1 g2).symm⟩
  obtain ⟨a, ha⟩ : ∃ a, f.stays D P = a := ⟨_, rfl⟩
  rw [ha] at hpre hal ⊢
  have hga : (⟨a, []⟩ : PF).small := PF.ok_new _ _ (by omega)
  have n1 := PF.now_none a
  have n2 := PF.now_none f.now
  have n3 := PF.stays_none a
  refine Sim.seq (Sim.mono (Q := fun e F' H' => e = .normal ∧ Weak 1 F' H' ([.top, .top, .top, .top, .top, .top, .bool false, .ptr 2 0, .sl 3 0 f.times.length 1 false, .top, .top, .top, .top, .top, .top, .ptr 4 0, .top, .top, .str a] ++ List.replicate 286 .top) (fsU l c0 c1 f ⟨a, []⟩ ⟨f.now, []⟩)) ?_ ?_)
  · cases cuts with
    | true =>
      cases b with
      | true =>
        refine Sim.exec hmix hΓ (n := 0) (by simp (decide := true) [fsΓ, fbytesR, n2]; exact ⟨rfl, rfl, rfl⟩) (by simp) ?_
        exact ⟨rfl, Weak.mk' [0, 1, 2, 3, 4, 5] (by decide) (by decide) (by simp) (by simp [AWb])⟩
      | false =>
        have hw : w = true := by simpa using hbw
        subst hw
        refine Sim.exec hmix hΓ (n := 0) (by simp (decide := true) [fsΓ, fbytesR, n2]; exact ⟨rfl, rfl, rfl⟩) (by simp) ?_
        exact ⟨rfl, Weak.mk' [0, 1, 2, 3, 4, 5] (by decide) (by decide) (by simp) (by simp [AWb])⟩
    | false =>
      obtain ⟨p1, p2⟩ := hpre rfl
      cases b with
      | true =>
        refine Sim.exec hmix hΓ (n := 0) (by simp (decide := true) [fsΓ, fbytesR, fdurableR, hasPreS, n2, p1, p2]; exact ⟨rfl, rfl, rfl⟩) (by simp) ?_
        exact ⟨rfl, Weak.mk' [0, 1, 2, 3, 4, 5] (by decide) (by decide) (by simp) (by simp [AWb])⟩
      | false =>
        have hw : w = true := by simpa using hbw
        subst hw
        refine Sim.exec hmix hΓ (n := 0) (by simp (decide := true) [fsΓ, fbytesR, fdurableR, hasPreS, n2, p1, p2]; exact ⟨rfl, rfl, rfl⟩) (by simp) ?_
        exact ⟨rfl, Weak.mk' [0, 1, 2, 3, 4, 5] (by decide) (by decide) (by simp) (by simp [AWb])⟩
  rintro e F' H' hlen ⟨rfl, hwk⟩
  dsimp only
  refine Sim.weak hwk hlen ?_
  clear hwk hlen
  simp only [fsU]
  refine Sim.step hmix hΓ (n := 0) (by simp [fsΓ, fstayS, hga, n3]; exact ⟨rfl, rfl⟩) (by simp) ?_
  refine Sim.exec hmix hΓ (n := 0) (by simp (decide := true) [fsΓ, fbytesR, fdurableR, n1, tl1, wL, wlt, tq]; first | exact ⟨rfl, rfl, rfl⟩ | exact ⟨by kernel_rfl, rfl, rfl, rfl⟩) (by simp) ?_
  exact ⟨.inr rfl, _, by simp [] <;> rfl, Weak.mk' [0] (by decide) (by decide) (by simp) (by simp)⟩

end Go.Proofs.Ytaociohomeepmaa
