/- The closed law cedillalaw07.FolderKnown, by the kernel's run. -/
import Derived.Test.YtgabbcljbdjfpaaIt
import Derived.Test.YtgabbcljbdjfpaaLaj
import Derived.Test.YtgabbcljbdjfpaaLar
import Derived.Test.YtgabbcljbdjfpaaGe
namespace Go.Proofs.Ytgabbcljbdjfpaa
open Go
set_option maxRecDepth 100000

/-- A folder's methods, run as they stand. -/
def foInl : List FuncId := [14, 15, 16, 17, 18, 20, 21, 22, 24, 25, 41, 42, 43, 44, 46, 50, 68, 51]

def fdInl : List FuncId := 19 :: 23 :: 26 :: foInl

def fdΓ : Gam := gams [(49, keysS), (48, sortedS), (47, mcloneS), (45, joinS2), (5, repeatS)]
theorem fdΓ_ok : GOk Try.prog fdΓ := goks_cons keys_sound (goks_cons sorted_sound (goks_cons mclone_sound (goks_cons join_sound2 (goks_cons repeat_sound goks_nil))))

theorem folderKnown_run : isTrue (runFK Try.prog (runGK Try.prog fdΓ 40 fdInl 7) 40 Try.f4 [] []) = true := by kernel_rfl

def folderKnown_shape : List (Bool × List CT) := []

theorem folderKnown_law : ∀ xs H, AbsArgs folderKnown_shape 0 xs H → ∃ H', Ct Try.prog 4 xs H (.bool true) H' := by
  intro xs H h0
  obtain ⟨rfl, rfl⟩ := absArgs_nil h0
  exact ⟨[], ct_true hmix fdΓ_ok 40 fdInl 7 Try.func4 folderKnown_run⟩

end Go.Proofs.Ytgabbcljbdjfpaa
