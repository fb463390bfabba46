/- Contract: strings.Repeat. -/
import Derived.Test.YtndkhkponamplaaLa
import Derived.Test.YtndkhkponamplaaShelf
namespace Go.Proofs.Ytndkhkponamplaa
open Go

def repeatS : Summ := pureS fun
  | [.str s, .int .i64 (.ofNat c)] => if s.length * c ≤ 140737488355328 ∧ c ≤ 9223372036854775807 then some (.str (Lib.repeatL s c)) else none
  | _ => none

theorem repeat_sound : Sound Try.prog 30 repeatS := by
  refine sound_pure (enter_of Try.func30 rfl (by decide)) fun args v h => ?_
  split at h
  rotate_left
  · cases h
  rename_i s c
  split at h <;> cases h
  rename_i hc
  refine ⟨ct_of_world rfl fun j w cargs hR hargs => ?_, by simp, by simp⟩
  simp only [VRs, VR] at hargs
  obtain ⟨_, _, e1, rfl, _, _, rfl, rfl, rfl⟩ := hargs
  have ec : cargs = #[.string ⟨s.toArray⟩, .int .i64 c] := by apply Array.ext'; rw [e1]; rfl
  subst ec
  refine (Try.strings_Repeat ⟨s.toArray⟩ c w hc.2 (by simpa [ByteArray.size] using hc.1)).mono ?_
  rintro e w' ⟨rfl, hb⟩
  exact ⟨_, rfl, by simp [VR], hb⟩

end Go.Proofs.Ytndkhkponamplaa
