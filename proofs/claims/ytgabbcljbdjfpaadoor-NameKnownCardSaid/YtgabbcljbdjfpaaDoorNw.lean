/- What the closed law cedillalaw09.NameKnown reaches, run by the kernel in parts. -/
import Derived.Test.YtgabbcljbdjfpaaDoorSa
import Derived.Test.YtgabbcljbdjfpaaDoorGe
import Derived.Test.YtgabbcljbdjfpaaDoorBz
namespace Go.Proofs.YtgabbcljbdjfpaaDoor
open Go
set_option maxRecDepth 100000

def nameKnownInl : List FuncId := [9, 4, 6, 7, 8, 10, 11, 13, 41, 58, 19, 25, 24, 45, 18, 17, 35, 23, 14]

def trueK : Summ := pureS fun | [] => some (.bool true) | _ => none
theorem trueK_sound {f : FuncId} {fn : Func} (hf : Tryd.prog.funcs[f]? = some fn) (hb : fn.body.isSome = true) (hn : (fn.name == "runtime.NumGoroutine") = false) (h : Ct Tryd.prog f [] [] (.bool true) []) : Sound Tryd.prog f trueK := by
  refine sound_pure (enter_of hf hb hn) fun args v hv => ?_
  split at hv <;> cases hv
  exact ⟨h, rfl, rfl⟩

def nameKnownS0G : Gam := gams [(12, itoaS), (15, atoiS)]
theorem nameKnownS0G_ok : GOk Tryd.prog nameKnownS0G := goks_cons itoa_sound (goks_cons atoi_sound goks_nil)
noncomputable abbrev nameKnownS0C0 : Code := bodyOf Tryd.f5
noncomputable abbrev nameKnownS0F0 : List AV := [] ++ List.replicate (Tryd.f5.ntmps - 0) undefA
abbrev nameKnownS0H0 : AHeap := []
noncomputable abbrev nameKnownS0C1 : Code := restC 2 nameKnownS0C0
def nameKnownS0F1 : List AV := [.bool true] ++ List.replicate 31 .top
def nameKnownS0H1 : AHeap := []
theorem nameKnownS0_k1 : kendN 0 [] (acodeN Tryd.prog (runGK Tryd.prog nameKnownS0G 400 nameKnownInl 30) 400 true 2 nameKnownS0C0 nameKnownS0F0 nameKnownS0H0) nameKnownS0F1 nameKnownS0H1 = true := by kernel_rfl
theorem nameKnownS0_end : kretB Tryd.prog Tryd.f5.results.toList (acodeK Tryd.prog (runGK Tryd.prog nameKnownS0G 400 nameKnownInl 30) 400 true nameKnownS0C1 nameKnownS0F1 nameKnownS0H1) = true := by kernel_rfl
theorem nameKnownS0_ct : Ct Tryd.prog 5 [] [] (.bool true) [] := by
  have hΓ := gok_runK hmix nameKnownS0G_ok 400 nameKnownInl 30
  refine ct_of_sim (c := nameKnownS0C0) Tryd.func5 (by kernel_rfl) ?_
  refine Sim.kmany (n := 400) hmix hΓ 2 [] nameKnownS0_k1 (Nat.zero_le _) ?_
  exact Sim.kret (n := 400) hmix hΓ nameKnownS0_end

theorem nameKnownS0_sound : Sound Tryd.prog 5 trueK := trueK_sound Tryd.func5 rfl (by decide) nameKnownS0_ct

def nameKnownG : Gam := gams [(5, trueK), (12, itoaS), (15, atoiS)]
theorem nameKnownG_ok : GOk Tryd.prog nameKnownG := goks_cons nameKnownS0_sound (goks_cons itoa_sound (goks_cons atoi_sound goks_nil))
noncomputable abbrev nameKnownC0 : Code := bodyOf Tryd.f3
noncomputable abbrev nameKnownF0 : List AV := [] ++ List.replicate (Tryd.f3.ntmps - 0) undefA
abbrev nameKnownH0 : AHeap := []
noncomputable abbrev nameKnownC1 : Code := restC 3 nameKnownC0
def nameKnownF1 : List AV := [.bool false] ++ List.replicate 15 .top ++ List.replicate 50 (.tuple [])
def nameKnownH1 : AHeap := []
theorem nameKnown_k1 : kendN 0 [] (acodeN Tryd.prog (runGK Tryd.prog nameKnownG 400 nameKnownInl 30) 400 true 3 nameKnownC0 nameKnownF0 nameKnownH0) nameKnownF1 nameKnownH1 = true := by kernel_rfl
noncomputable abbrev nameKnownC2 : Code := restC 1 nameKnownC1
def nameKnownF2 : List AV := [.bool true] ++ List.replicate 65 .top
def nameKnownH2 : AHeap := []
theorem nameKnown_k2 : kendN 0 [] (acodeN Tryd.prog (runGK Tryd.prog nameKnownG 400 nameKnownInl 30) 400 true 1 nameKnownC1 nameKnownF1 nameKnownH1) nameKnownF2 nameKnownH2 = true := by kernel_rfl
theorem nameKnown_end : kretB Tryd.prog Tryd.f3.results.toList (acodeK Tryd.prog (runGK Tryd.prog nameKnownG 400 nameKnownInl 30) 400 true nameKnownC2 nameKnownF2 nameKnownH2) = true := by kernel_rfl
theorem nameKnown_ct : Ct Tryd.prog 3 [] [] (.bool true) [] := by
  have hΓ := gok_runK hmix nameKnownG_ok 400 nameKnownInl 30
  refine ct_of_sim (c := nameKnownC0) Tryd.func3 (by kernel_rfl) ?_
  refine Sim.kmany (n := 400) hmix hΓ 3 [] nameKnown_k1 (Nat.zero_le _) ?_
  refine Sim.kmany (n := 400) hmix hΓ 1 [] nameKnown_k2 (Nat.zero_le _) ?_
  exact Sim.kret (n := 400) hmix hΓ nameKnown_end

def nameKnown_shape : List (Bool × List CT) := []

theorem nameKnown_law : ∀ xs H, AbsArgs nameKnown_shape 0 xs H → ∃ H', Ct Tryd.prog 3 xs H (.bool true) H' := by
  intro xs H h0
  obtain ⟨rfl, rfl⟩ := absArgs_nil h0
  exact ⟨[], nameKnown_ct⟩

end Go.Proofs.YtgabbcljbdjfpaaDoor
