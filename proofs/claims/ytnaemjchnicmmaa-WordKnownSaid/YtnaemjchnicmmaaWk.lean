/- The closed law cedillalaw04.WordKnown, by the kernel's run. -/
import Derived.Test.YtnaemjchnicmmaaLk
import Derived.Test.YtnaemjchnicmmaaLar
import Derived.Test.YtnaemjchnicmmaaBr
namespace Go.Proofs.Ytnaemjchnicmmaa
open Go
set_option maxRecDepth 100000

def wkInl : List FuncId := [24, 26, 27, 28, 29, 30, 52, 53, 54, 55, 56, 64, 65, 66]

theorem wordKnown_run : isTrue (runFK Try.prog (runGK Try.prog (gams [(25, repeatS)]) 40 wkInl 7) 40 Try.f7 [] []) = true := by kernel_rfl

def wordKnown_shape : List (Bool × List CT) := []

theorem wordKnown_law : ∀ xs H, AbsArgs wordKnown_shape 0 xs H → ∃ H', Ct Try.prog 7 xs H (.bool true) H' := by
  intro xs H h0
  obtain ⟨rfl, rfl⟩ := absArgs_nil h0
  exact ⟨[], ct_true hmix (goks_cons repeat_sound goks_nil) 40 wkInl 7 Try.func7 wordKnown_run⟩

end Go.Proofs.Ytnaemjchnicmmaa
