/- The closed laws of cedillalaw06, by the kernel's run: works, FileKnown. -/
import Derived.Test.YtnaemjchnicmmaaLk
import Derived.Test.YtnaemjchnicmmaaLaj
import Derived.Test.YtnaemjchnicmmaaBr
namespace Go.Proofs.Ytnaemjchnicmmaa
open Go
set_option maxRecDepth 100000

def fkInl : List FuncId := [8, 31, 32, 9, 10, 11, 12, 13, 14, 15, 16, 17, 20, 21, 34, 35, 36, 37, 38, 39, 57]

def fkΓ : Gam := gams [(33, joinS)]
theorem fkΓ_ok : GOk Try.prog fkΓ := goks_cons join_sound goks_nil

theorem fworks_run : isTrue (runFK Try.prog (runGK Try.prog fkΓ 40 fkInl 7) 40 Try.f8 [] []) = true := by kernel_rfl
theorem fworks_ct : Ct Try.prog 8 [] [] (.bool true) [] := ct_true hmix fkΓ_ok 40 fkInl 7 Try.func8 fworks_run

def trueS : Summ := pureS fun | [] => some (.bool true) | _ => none
theorem true_sound {f : FuncId} {fn : Func} (hf : Try.prog.funcs[f]? = some fn) (hb : fn.body.isSome = true) (hn : (fn.name == "runtime.NumGoroutine") = false) (h : Ct Try.prog f [] [] (.bool true) []) : Sound Try.prog f trueS := by
  refine sound_pure (enter_of hf hb hn) fun args v hv => ?_
  split at hv <;> cases hv
  exact ⟨h, rfl, rfl⟩

theorem fworks_sound : Sound Try.prog 8 trueS := true_sound Try.func8 rfl (by decide) fworks_ct

theorem fileKnown_run : isTrue (runFK Try.prog (runGK Try.prog (gams [(33, joinS), (8, trueS)]) 40 (fkInl.drop 1) 7) 40 Try.f5 [] []) = true := by kernel_rfl

def fileKnown_shape : List (Bool × List CT) := []

theorem fileKnown_law : ∀ xs H, AbsArgs fileKnown_shape 0 xs H → ∃ H', Ct Try.prog 5 xs H (.bool true) H' := by
  intro xs H h0
  obtain ⟨rfl, rfl⟩ := absArgs_nil h0
  exact ⟨[], ct_true hmix (goks_cons join_sound (goks_cons fworks_sound goks_nil)) 40 (fkInl.drop 1) 7 Try.func5 fileKnown_run⟩

end Go.Proofs.Ytnaemjchnicmmaa
