/- FileTells: summaries of size and alike. -/
import Derived.Test.YtaociohomeepmaaGw
namespace Go.Proofs.Ytaociohomeepmaa
open Go
set_option maxRecDepth 100000

def lsizeS : Summ := pureS fun
  | [.int .i16 n, .int .i64 m] => if (-32768 ≤ n ∧ n ≤ 32767) ∧ 0 ≤ m ∧ m ≤ 1000000000000 then some (.int .i64 (sizeF n m)) else none
  | _ => none
theorem lsize_sound : Sound Try.prog 15 lsizeS := by
  refine sound_pure (enter_of Try.func15 rfl (by decide)) fun args v h => ?_
  split at h
  · split at h <;> cases h
    rename_i hc
    exact ⟨lsize_ct _ _ hc.1 hc.2, rfl, rfl⟩
  · cases h

end Go.Proofs.Ytaociohomeepmaa
