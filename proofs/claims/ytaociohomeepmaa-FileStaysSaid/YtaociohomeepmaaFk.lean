/- The closed laws of cedillalaw06, by the kernel's run: works. -/
import Derived.Test.YtaociohomeepmaaGd
import Derived.Test.YtaociohomeepmaaLaj
import Derived.Test.YtaociohomeepmaaGe
namespace Go.Proofs.Ytaociohomeepmaa
open Go
set_option maxRecDepth 100000

def fkInl : List FuncId := [11, 33, 34, 5, 7, 12, 17, 16, 29, 14, 8, 6, 18, 13, 22, 23, 24, 35, 25, 20, 40]

def fkΓ : Gam := gams [(21, joinS)]
theorem fkΓ_ok : GOk Try.prog fkΓ := goks_cons join_sound goks_nil

theorem fworks_run : isTrue (runFK Try.prog (runGK Try.prog fkΓ 40 fkInl 7) 40 Try.f11 [] []) = true := by kernel_rfl
theorem fworks_ct : Ct Try.prog 11 [] [] (.bool true) [] := ct_true hmix fkΓ_ok 40 fkInl 7 Try.func11 fworks_run

def trueS : Summ := pureS fun | [] => some (.bool true) | _ => none
theorem true_sound {f : FuncId} {fn : Func} (hf : Try.prog.funcs[f]? = some fn) (hb : fn.body.isSome = true) (hn : (fn.name == "runtime.NumGoroutine") = false) (h : Ct Try.prog f [] [] (.bool true) []) : Sound Try.prog f trueS := by
  refine sound_pure (enter_of hf hb hn) fun args v hv => ?_
  split at hv <;> cases hv
  exact ⟨h, rfl, rfl⟩

theorem fworks_sound : Sound Try.prog 11 trueS := true_sound Try.func11 rfl (by decide) fworks_ct

end Go.Proofs.Ytaociohomeepmaa
