/- What the closed law cedillalaw05.EntryKnown reaches, run by the kernel in parts. -/
import Derived.Test.YtndkhkponamplaaLar
import Derived.Test.YtndkhkponamplaaLal
import Derived.Test.YtndkhkponamplaaEx
import Derived.Test.YtndkhkponamplaaGe
import Derived.Test.YtndkhkponamplaaBz
namespace Go.Proofs.Ytndkhkponamplaa
open Go
set_option maxRecDepth 100000

def entryKnownInl : List FuncId := [8, 9, 10, 11, 12, 13, 14, 15, 17, 18, 19, 20, 21, 22, 23, 24, 25, 27, 28, 29, 31, 32, 33, 34, 35, 36, 37, 38, 39, 41, 48, 49, 50, 51, 52, 53, 54, 63, 83]

def trueK : Summ := pureS fun | [] => some (.bool true) | _ => none
theorem trueK_sound {f : FuncId} {fn : Func} (hf : Try.prog.funcs[f]? = some fn) (hb : fn.body.isSome = true) (hn : (fn.name == "runtime.NumGoroutine") = false) (h : Ct Try.prog f [] [] (.bool true) []) : Sound Try.prog f trueK := by
  refine sound_pure (enter_of hf hb hn) fun args v hv => ?_
  split at hv <;> cases hv
  exact ⟨h, rfl, rfl⟩

noncomputable def entryKnownS0G : Gam := gams [(30, repeatS), (62, lenS), (26, withS)]
theorem entryKnownS0G_ok : GOk Try.prog entryKnownS0G := goks_cons repeat_sound (goks_cons len64_sound (goks_cons with_sound goks_nil))
noncomputable abbrev entryKnownS0C0 : Code := bodyOf Try.f16
noncomputable abbrev entryKnownS0F0 : List AV := [] ++ List.replicate (Try.f16.ntmps - 0) undefA
abbrev entryKnownS0H0 : AHeap := []
noncomputable abbrev entryKnownS0C1 : Code := restC 7 entryKnownS0C0
def entryKnownS0F1 : List AV := [.bool true] ++ List.replicate 97 .top
def entryKnownS0H1 : AHeap := []
theorem entryKnownS0_k1 : kendM 0 (acodeN Try.prog (runGK Try.prog entryKnownS0G 400 entryKnownInl 30) 400 true 7 entryKnownS0C0 entryKnownS0F0 entryKnownS0H0) entryKnownS0F1 entryKnownS0H1 = true := by kernel_rfl
theorem entryKnownS0_end : kretB Try.prog Try.f16.results.toList (acodeK Try.prog (runGK Try.prog entryKnownS0G 400 entryKnownInl 30) 400 true entryKnownS0C1 entryKnownS0F1 entryKnownS0H1) = true := by kernel_rfl
theorem entryKnownS0_ct : Ct Try.prog 16 [] [] (.bool true) [] := by
  have hΓ := gok_runK hmix entryKnownS0G_ok 400 entryKnownInl 30
  refine ct_of_sim (c := entryKnownS0C0) Try.func16 (by kernel_rfl) ?_
  refine Sim.kmanyM (n := 400) hmix hΓ 7 entryKnownS0_k1 (Nat.zero_le _) ?_
  exact Sim.kret (n := 400) hmix hΓ entryKnownS0_end

theorem entryKnownS0_sound : Sound Try.prog 16 trueK := trueK_sound Try.func16 rfl (by decide) entryKnownS0_ct

noncomputable def entryKnownG : Gam := gams [(16, trueK), (30, repeatS), (62, lenS), (26, withS)]
theorem entryKnownG_ok : GOk Try.prog entryKnownG := goks_cons entryKnownS0_sound (goks_cons repeat_sound (goks_cons len64_sound (goks_cons with_sound goks_nil)))
noncomputable abbrev entryKnownC0 : Code := bodyOf Try.f7
noncomputable abbrev entryKnownF0 : List AV := [] ++ List.replicate (Try.f7.ntmps - 0) undefA
abbrev entryKnownH0 : AHeap := []
noncomputable abbrev entryKnownC1 : Code := restC 13 entryKnownC0
def entryKnownF1 : List AV := [.bool true] ++ List.replicate 206 .top
def entryKnownH1 : AHeap := []
theorem entryKnown_k1 : kendM 0 (acodeN Try.prog (runGK Try.prog entryKnownG 400 entryKnownInl 30) 400 true 13 entryKnownC0 entryKnownF0 entryKnownH0) entryKnownF1 entryKnownH1 = true := by kernel_rfl
theorem entryKnown_end : kretB Try.prog Try.f7.results.toList (acodeK Try.prog (runGK Try.prog entryKnownG 400 entryKnownInl 30) 400 true entryKnownC1 entryKnownF1 entryKnownH1) = true := by kernel_rfl
theorem entryKnown_ct : Ct Try.prog 7 [] [] (.bool true) [] := by
  have hΓ := gok_runK hmix entryKnownG_ok 400 entryKnownInl 30
  refine ct_of_sim (c := entryKnownC0) Try.func7 (by kernel_rfl) ?_
  refine Sim.kmanyM (n := 400) hmix hΓ 13 entryKnown_k1 (Nat.zero_le _) ?_
  exact Sim.kret (n := 400) hmix hΓ entryKnown_end

def entryKnown_shape : List (Bool × List CT) := []

theorem entryKnown_law : ∀ xs H, AbsArgs entryKnown_shape 0 xs H → ∃ H', Ct Try.prog 7 xs H (.bool true) H' := by
  intro xs H h0
  obtain ⟨rfl, rfl⟩ := absArgs_nil h0
  exact ⟨[], entryKnown_ct⟩

end Go.Proofs.Ytndkhkponamplaa
