/- Names: the chapter's examples (works), run by the kernel. -/
import Derived.Test.YtkeffhaldeedpaaDoorSa
import Derived.Test.YtkeffhaldeedpaaDoorGe
import Derived.Test.YtkeffhaldeedpaaDoorBz
namespace Go.Proofs.YtkeffhaldeedpaaDoor
open Go
set_option maxRecDepth 100000

def nwInl : List FuncId := [11, 15, 10, 12, 8, 19, 22, 24, 53, 69, 25, 31, 39, 57, 30, 29, 47, 38, 20]

def trueK : Summ := pureS fun | [] => some (.bool true) | _ => none
theorem trueK_sound {f : FuncId} {fn : Func} (hf : Tryd.prog.funcs[f]? = some fn) (hb : fn.body.isSome = true) (hn : (fn.name == "runtime.NumGoroutine") = false) (h : Ct Tryd.prog f [] [] (.bool true) []) : Sound Tryd.prog f trueK := by
  refine sound_pure (enter_of hf hb hn) fun args v hv => ?_
  split at hv <;> cases hv
  exact ⟨h, rfl, rfl⟩

def nwS0G : Gam := gams [(23, itoaS), (21, atoiS)]
theorem nwS0G_ok : GOk Tryd.prog nwS0G := goks_cons itoa_sound (goks_cons atoi_sound goks_nil)
noncomputable abbrev nwS0C0 : Code := bodyOf Tryd.f14
noncomputable abbrev nwS0F0 : List AV := [] ++ List.replicate (Tryd.f14.ntmps - 0) undefA
abbrev nwS0H0 : AHeap := []
noncomputable abbrev nwS0C1 : Code := restC 2 nwS0C0
def nwS0F1 : List AV := [.bool true] ++ List.replicate 31 .top
def nwS0H1 : AHeap := []
theorem nwS0_k1 : kendN 0 [] (acodeN Tryd.prog (runGK Tryd.prog nwS0G 400 nwInl 30) 400 true 2 nwS0C0 nwS0F0 nwS0H0) nwS0F1 nwS0H1 = true := by kernel_rfl
theorem nwS0_end : kretB Tryd.prog Tryd.f14.results.toList (acodeK Tryd.prog (runGK Tryd.prog nwS0G 400 nwInl 30) 400 true nwS0C1 nwS0F1 nwS0H1) = true := by kernel_rfl
theorem nwS0_ct : Ct Tryd.prog 14 [] [] (.bool true) [] := by
  have hΓ := gok_runK hmix nwS0G_ok 400 nwInl 30
  refine ct_of_sim (c := nwS0C0) Tryd.func14 (by kernel_rfl) ?_
  refine Sim.kmany (n := 400) hmix hΓ 2 [] nwS0_k1 (Nat.zero_le _) ?_
  exact Sim.kret (n := 400) hmix hΓ nwS0_end

theorem nwS0_sound : Sound Tryd.prog 14 trueK := trueK_sound Tryd.func14 rfl (by decide) nwS0_ct

end Go.Proofs.YtkeffhaldeedpaaDoor
