/- The law cedillalaw06.FileStays: what is looked at behind each act. -/
import Derived.Test.YtaociohomeepmaaCe
import Derived.Test.YtaociohomeepmaaCg
import Derived.Test.YtaociohomeepmaaLp
namespace Go.Proofs.Ytaociohomeepmaa
open Go
set_option maxRecDepth 100000
attribute [-simp] drawOk_eq adraw qrun acode aops

noncomputable def fsΓ : Gam := gams [(5, fnewS), (6, fcopyS), (7, fappS), (8, fsyncS), (14, fcutS), (18, fstayS), (12, fbytesR), (16, fdurableR), (13, flenR), (17, factsR), (15, lsizeS), (19, hasPreS), (11, trueS)]
theorem fsΓ_ok : GOk Try.prog fsΓ := goks_cons fnew_sound (goks_cons fcopy_sound (goks_cons fapp_sound (goks_cons fsync_sound (goks_cons fcut_sound (goks_cons fstay_sound (goks_cons fbytesR_sound (goks_cons fdurableR_sound (goks_cons flenR_sound (goks_cons factsR_sound (goks_cons lsize_sound (goks_cons haspre_sound (goks_cons fworks_sound goks_nil))))))))))))

/-- What holds of a file behind so many acts. -/
structure Fi.Inv (f : PF) (cuts : Bool) (k : Nat) : Prop where
  ok : f.ok (50 + 20 * k)
  wf : f.wf
  nc : cuts = false → f.noCuts
  ln : f.acts.length ≤ k

theorem tms_cells (f : PF) : frees (f.times.map AV.str) = true := frees_map _ _ fun _ => rfl

abbrev fsF (n : Nat) (f : PF) (cuts : Bool) (k : Nat) : List AV := [.top, .sl 0 0 n 4 false, .top, .top, .top, .ptr 1 0, .bool false, .ptr 2 0, .sl 3 0 f.times.length 1 false, .bool cuts, .int .i64 k] ++ List.replicate 294 .top
abbrev fsH (l : List Ac) (c0 c1 : Int) (f : PF) : AHeap := [.cells false (acsA l), .cells true [.int .i16 c0, .int .i16 c1], .obj true f.blks, .cells true (f.times.map AV.str)]

def fstC : Code → Code
  | .seq x _ => x
  | c => c
def inC : Code → Code
  | .block _ x => x
  | .loop x => x
  | .scope x => x
  | c => c

abbrev fsM (n : Nat) (f : PF) (cuts : Bool) (k : Nat) : List AV := [.top, .sl 0 0 n 4 false, .top, .top, .top, .ptr 1 0, .bool false, .ptr 2 0, .sl 3 0 f.times.length 1 false, .bool cuts, .int .i64 k] ++ List.replicate 294 .top

set_option maxHeartbeats 16000000 in
theorem fstays_look (l : List Ac) (c0 c1 : Int) (f : PF) (cuts : Bool) (k : Nat) (hln : f.acts.length ≤ 30) :
    Sim Try.prog none 1 (restC 2 (inC (fstC (restC 1 (inC (inC (restC 1 (fstC (restC 5 (bodyOf Try.f4))))))))) ) (fsF l.length f cuts k) (fsH l c0 c1 f) fun e F' H' => e = .normal ∧ Weak 1 F' H' (fsF l.length f cuts k) (fsH l c0 c1 f) := by
  have hΓ := fsΓ_ok
  simp only [bodyOf, Try.f4, Option.getD_some, restC, fstC, inC, fsF, fsH]
  have tl1 : f.times.length = f.acts.length + 1 := f.times_length
  have w1 : IntKind.i64.wrap ((f.acts.length : Int) + 1 - 1) = f.acts.length := by rw [show (f.acts.length : Int) + 1 - 1 = f.acts.length by omega]; exact wr_i64 (by omega) (by omega)
  have wlt : (f.acts.length : Int) < f.acts.length + 1 := by omega
  have wl0 : (0 : Int) < f.acts.length + 1 := by omega
  have wL : IntKind.i64.wrap (f.acts.length : Int) = f.acts.length := wr_i64 (by omega) (by omega)
  have tq : ∀ h, f.times[f.acts.length]'h = f.now := fun h => (List.getElem?_eq_some_iff.1 f.times_last).2
  have tq' := f.times_last
  have tz : ∀ h, f.times[0]'h = f.d := fun h => (List.getElem?_eq_some_iff.1 f.times_zero).2
  have tz' := f.times_zero
  refine Sim.step hmix hΓ (n := 0) (by simp (decide := true) [fsΓ, fbytesR, fdurableR, factsR, tl1, wL, wlt, wl0, tq, tz]; first | exact ⟨rfl, rfl⟩ | exact ⟨by kernel_rfl, rfl, rfl⟩) (by simp) ?_

  refine Sim.exec hmix hΓ (n := 0) (by simp; exact ⟨rfl, rfl, rfl⟩) (by simp) ?_
  exact ⟨rfl, Weak.mk' [0, 1, 2, 3] (by decide) (by decide) (by simp [tl1]) (by simp [AWb])⟩

end Go.Proofs.Ytaociohomeepmaa
