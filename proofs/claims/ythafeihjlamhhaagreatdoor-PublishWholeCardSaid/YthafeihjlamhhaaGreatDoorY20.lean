/- Parts of the proof of PublishWhole: lemmas, each with its own conditions. -/
import Derived.Test.YthafeihjlamhhaaGreatDoorY4
import Derived.Test.YthafeihjlamhhaaGreatDoorY7
import Derived.Test.YthafeihjlamhhaaGreatDoorTypes
namespace Go.Proofs.YthafeihjlamhhaaGreatDoor
open Go
set_option maxRecDepth 100000
attribute [-simp] drawOk_eq adraw qrun acode aops
def hpInl : List FuncId := [123]
theorem hpΓ_ok : GOk Tryz.prog (runG Tryz.prog (gams []) 0 hpInl 2) := gok_run hmix goks_nil 0 hpInl 2
theorem haspre_ct (s p : List UInt8) : Ct Tryz.prog 57 [.str s, .str p] [] (.bool (decide (s.take p.length = p))) [] := by
  refine ct_val hmix hpΓ_ok (n := 0) Tryz.func57 ?_ (by simp)
  unfold Tryz.f57
  by_cases hl : p.length ≤ s.length
  · by_cases h : s.take p.length = p
    · simp [hpInl, Tryz.f123, h, hl]
    · simp [hpInl, Tryz.f123, h, hl]
  · have h : ¬ s.take p.length = p := fun e => by have := congrArg List.length e; simp at this; omega
    simp [hpInl, Tryz.f123, h, hl]
def hasPreS : Summ := pureS fun
  | [.str s, .str p] => some (.bool (decide (s.take p.length = p)))
  | _ => none
theorem haspre_sound : Sound Tryz.prog 57 hasPreS := by
  refine sound_pure (enter_of Tryz.func57 rfl (by decide)) fun args v h => ?_
  split at h <;> cases h
  exact ⟨haspre_ct _ _, rfl, rfl⟩
end Go.Proofs.YthafeihjlamhhaaGreatDoor
