/- Folders: the chapter's examples (works), run by the kernel. -/
import Derived.Test.YtjiilgpagpfdnaaIt
import Derived.Test.YtjiilgpagpfdnaaLaj
import Derived.Test.YtjiilgpagpfdnaaGe
import Derived.Test.YtjiilgpagpfdnaaBz
namespace Go.Proofs.Ytjiilgpagpfdnaa
open Go
set_option maxRecDepth 100000

def hwInl : List FuncId := [11, 7, 17, 9, 18, 15, 19, 10, 13, 14, 28, 27, 29, 30, 31, 25, 37]
def hwΓ : Gam := gams [(24, keysS), (23, sortedS), (26, mcloneS), (12, joinS2)]
theorem hwΓ_ok : GOk Try.prog hwΓ := goks_cons keys_sound (goks_cons sorted_sound (goks_cons mclone_sound (goks_cons join_sound2 goks_nil)))

theorem hw_run : isTrue (runFK Try.prog (runGK Try.prog hwΓ 40 hwInl 7) 40 Try.f6 [] []) = true := by kernel_rfl

def trueK : Summ := pureS fun | [] => some (.bool true) | _ => none
theorem trueK_sound {f : FuncId} {fn : Func} (hf : Try.prog.funcs[f]? = some fn) (hb : fn.body.isSome = true) (hn : (fn.name == "runtime.NumGoroutine") = false) (h : Ct Try.prog f [] [] (.bool true) []) : Sound Try.prog f trueK := by
  refine sound_pure (enter_of hf hb hn) fun args v hv => ?_
  split at hv <;> cases hv
  exact ⟨h, rfl, rfl⟩
theorem hw_sound : Sound Try.prog 6 trueK := trueK_sound Try.func6 rfl (by decide) (ct_true hmix hwΓ_ok 40 hwInl 7 Try.func6 hw_run)

end Go.Proofs.Ytjiilgpagpfdnaa
