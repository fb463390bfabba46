/- The chapter's examples of cedillalaw23, by the kernel's run. -/
import Derived.Test.YtbbgmaklmlagcaaGd
import Derived.Test.YtbbgmaklmlagcaaLal
import Derived.Test.YtbbgmaklmlagcaaGe
namespace Go.Proofs.Ytbbgmaklmlagcaa
open Go
set_option maxRecDepth 100000

def mnInl : List FuncId := (List.range 400).filter fun f => f != 118 && f != 58
def mnΓ : Gam := gams [(118, lenS)]
theorem mnΓ_ok : GOk Try.prog mnΓ := goks_cons len64_sound goks_nil

theorem mworks_run : isTrue (runFK Try.prog (runGK Try.prog mnΓ 60 mnInl 12) 60 Try.f14 [] []) = true := by kernel_rfl
theorem mworks_ct : Ct Try.prog 14 [] [] (.bool true) [] := ct_true hmix mnΓ_ok 60 mnInl 12 Try.func14 mworks_run

end Go.Proofs.Ytbbgmaklmlagcaa
