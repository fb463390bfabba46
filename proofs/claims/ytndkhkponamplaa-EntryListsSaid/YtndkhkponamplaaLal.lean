/- Contract: bits.Len64. -/
import Derived.Test.YtndkhkponamplaaLa
import Derived.Test.YtndkhkponamplaaShelf
namespace Go.Proofs.Ytndkhkponamplaa
open Go

def lenS : Summ := pureS fun
  | [.int .u64 (.ofNat x)] => if x < 18446744073709551616 then some (.int .i64 (Lib.bitLen x)) else none
  | _ => none

theorem len64_sound : Sound Try.prog 62 lenS := by
  refine sound_pure (enter_of Try.func62 rfl (by decide)) fun args v h => ?_
  split at h
  rotate_left
  · cases h
  rename_i x
  split at h <;> cases h
  rename_i hc
  refine ⟨ct_of_world rfl fun j w cargs hR hargs => ?_, by simp, by simp⟩
  simp only [VRs, VR] at hargs
  obtain ⟨_, _, e1, rfl, rfl⟩ := hargs
  have ec : cargs = #[.int .u64 x] := by apply Array.ext'; rw [e1]; rfl
  subst ec
  refine (Try.bits_Len64 (x : Int) w (by omega) (by omega)).mono ?_
  rintro e w' ⟨rfl, rfl⟩
  exact ⟨_, rfl, by simp [VR], RowKit.Below.refl _ _⟩

end Go.Proofs.Ytndkhkponamplaa
