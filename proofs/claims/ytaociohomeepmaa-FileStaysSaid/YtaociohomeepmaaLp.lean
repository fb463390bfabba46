/- Contract: strings.HasPrefix. -/
import Derived.Test.YtaociohomeepmaaGe
import Derived.Test.YtaociohomeepmaaLa
import Derived.Test.YtaociohomeepmaaTypes
namespace Go.Proofs.Ytaociohomeepmaa
open Go
set_option maxRecDepth 100000
attribute [-simp] drawOk_eq adraw qrun acode aops

def hpInl : List FuncId := [36]
theorem hpΓ_ok : GOk Try.prog (runG Try.prog (gams []) 0 hpInl 2) := gok_run hmix goks_nil 0 hpInl 2

theorem haspre_ct (s p : List UInt8) : Ct Try.prog 19 [.str s, .str p] [] (.bool (decide (s.take p.length = p))) [] := by
  refine ct_val hmix hpΓ_ok (n := 0) Try.func19 ?_ (by simp)
  unfold Try.f19
  by_cases hl : p.length ≤ s.length
  · by_cases h : s.take p.length = p
    · simp [hpInl, Try.f36, h, hl]
    · simp [hpInl, Try.f36, h, hl]
  · have h : ¬ s.take p.length = p := fun e => by have := congrArg List.length e; simp at this; omega
    simp [hpInl, Try.f36, h, hl]

def hasPreS : Summ := pureS fun
  | [.str s, .str p] => some (.bool (decide (s.take p.length = p)))
  | _ => none
theorem haspre_sound : Sound Try.prog 19 hasPreS := by
  refine sound_pure (enter_of Try.func19 rfl (by decide)) fun args v h => ?_
  split at h <;> cases h
  exact ⟨haspre_ct _ _, rfl, rfl⟩

end Go.Proofs.Ytaociohomeepmaa
