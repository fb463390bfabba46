/- The law cedillalaw06.FileStays: behind the loop. -/
import Derived.Test.YtaociohomeepmaaCl
namespace Go.Proofs.Ytaociohomeepmaa
open Go
set_option maxRecDepth 100000
attribute [-simp] drawOk_eq adraw qrun acode aops

set_option maxHeartbeats 16000000 in
theorem fs_tail (l : List Ac) (c0 c1 : Int) (h0 : -32768 ≤ c0 ∧ c0 ≤ 32767) (h1 : -32768 ≤ c1 ∧ c1 ≤ 32767) (f : PF) (cuts : Bool) (k : Nat) (hI : Fi.Inv f cuts k) (hk : k ≤ 30) :
    Sim Try.prog none 1 (restC 6 (bodyOf Try.f4)) (fsF l.length f cuts k) (fsH l c0 c1 f) (Ends Try.prog Try.f4 1 (.bool true) [.cells false (acsA l)]) := by
  have hΓ := fsΓ_ok
  obtain ⟨hok, hwf, hnc, hln⟩ := hI
  have hL : f.acts.length ≤ 30 := by omega
  have hok : f.ok 1000 := PF.ok_mono hok (by omega)
  obtain ⟨D, hD⟩ : ∃ D, sizeF c0 f.acts.length = D := ⟨_, rfl⟩
  obtain ⟨n, hn⟩ : ∃ n, (inI D 0 f.acts.length).toNat = n := ⟨_, rfl⟩
  have hmore := fs_more l c0 c1 f ⟨f.stays D c1, []⟩ ⟨f.now, []⟩ cuts D c1 n h1 hok hwf hL hn
  have hwhole := fun b => fs_whole l c0 c1 f ⟨f.stays D c1, []⟩ ⟨f.now, []⟩ cuts b D c1 n hok hwf hL hn
  have hend := fun b w => fs_end l c0 c1 f cuts b w D c1 n hok hwf hnc hL
  simp only [bodyOf, Try.f4, Option.getD_some, restC, fstC] at hmore hwhole hend ⊢
  have hsm : f.small := PF.ok_mono hok (by omega)
  have hac : f.acts.length ≤ 1000000000 := by omega
  have hLi : (f.acts.length : Int) ≤ 1000000000000 := by omega
  have wc : IntKind.i64.wrap c1 = c1 := wr_i64 (by omega) (by omega)
  have hP : c1 ≤ 4611686018427387903 := by omega
  have hall := PF.stays_all hL 1000
  have tl1 : f.times.length = f.acts.length + 1 := f.times_length
  have w1 : IntKind.i64.wrap ((f.acts.length : Int) + 1 - 1) = f.acts.length := by rw [show (f.acts.length : Int) + 1 - 1 = f.acts.length by omega]; exact wr_i64 (by omega) (by omega)
  have wL : IntKind.i64.wrap (f.acts.length : Int) = f.acts.length := wr_i64 (by omega) (by omega)
  have hN : max (0 : Int) (min D (f.acts.length : Int)) = n := by rw [← hn]; unfold inI; omega
  have n1 : ∀ x : List UInt8, (⟨x, []⟩ : PF).now = x := PF.now_none
  simp only [fsF, fsH]
  refine Sim.step hmix hΓ (n := 0) (by simp (decide := true) [fsΓ, factsR, lsizeS, h0, hLi, hD, wc]; first | exact ⟨rfl, rfl⟩ | exact ⟨by kernel_rfl, rfl, rfl⟩) (by simp) ?_
  refine Sim.step hmix hΓ (n := 0) (by simp [fsΓ, fcopyS, hac]; exact ⟨rfl, rfl⟩) (by simp) ?_
  refine Sim.step hmix hΓ (n := 0) (by simp; exact ⟨rfl, rfl⟩) (by simp) ?_
  refine Sim.step hmix hΓ (n := 0) (by simp [fsΓ, fstayS, hsm, hP]; exact ⟨rfl, rfl⟩) (by simp) ?_
  refine Sim.step hmix hΓ (n := 0) (by simp [fsΓ, fstayS, hsm, hall]; exact ⟨rfl, rfl⟩) (by simp) ?_
  refine Sim.step hmix hΓ (n := 0) (by simp [-minA, minA_min, minA_max, tl1, wL, hN]; exact ⟨rfl, rfl⟩) (by simp) ?_
  refine Sim.step hmix hΓ (n := 0) (by simp [fsΓ, fbytesR, n1]; exact ⟨rfl, rfl⟩) (by simp) ?_
  refine Sim.weak (Fn := fsT f cuts D c1 n (f.stays D c1) .top .top) (Hn := fsU l c0 c1 f ⟨f.stays D c1, []⟩ ⟨f.now, []⟩) (Weak.mk' [0, 1, 2, 3, 4, 5] (by decide) (by decide) (by simp [tl1]) (by simp [AWb])) (by simp) ?_
  refine Sim.seq (Sim.mono hmore ?_)
  rintro e F' H' hlen ⟨rfl, b, hb, hwk⟩
  dsimp only
  refine Sim.weak hwk hlen ?_
  clear hwk hlen
  refine Sim.seq (Sim.mono (hwhole b) ?_)
  rintro e F' H' hlen ⟨rfl, w, hw, hwk⟩
  dsimp only
  refine Sim.weak hwk hlen ?_
  clear hwk hlen
  refine hend b w ?_
  cases b with
  | true => rfl
  | false =>
    cases w with
    | true => rfl
    | false => exact absurd (hw rfl) (hb rfl)

end Go.Proofs.Ytaociohomeepmaa
