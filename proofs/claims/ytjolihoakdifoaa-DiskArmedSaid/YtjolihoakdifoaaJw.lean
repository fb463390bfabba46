/- The works of cedillalaw08, run by the kernel in parts. -/
import Derived.Test.YtjolihoakdifoaaIt
import Derived.Test.YtjolihoakdifoaaLaj
import Derived.Test.YtjolihoakdifoaaGe
import Derived.Test.YtjolihoakdifoaaBz
namespace Go.Proofs.Ytjolihoakdifoaa
open Go
set_option maxRecDepth 100000

def dworksInl : List FuncId := [73, 29, 30, 31, 39, 71, 33, 34, 25, 35, 36, 28, 32, 38, 72, 26, 14, 61, 6, 16, 74, 75, 76, 77, 8, 78, 9, 62, 7, 82, 21, 20, 22, 53, 37, 79, 50, 56, 47, 80, 63, 81, 55, 87, 88, 89, 17, 99, 41, 42, 43, 44, 90, 40, 100, 69, 85, 91, 83, 97, 139, 58]

def trueK : Summ := pureS fun | [] => some (.bool true) | _ => none
theorem trueK_sound {f : FuncId} {fn : Func} (hf : Try.prog.funcs[f]? = some fn) (hb : fn.body.isSome = true) (hn : (fn.name == "runtime.NumGoroutine") = false) (h : Ct Try.prog f [] [] (.bool true) []) : Sound Try.prog f trueK := by
  refine sound_pure (enter_of hf hb hn) fun args v hv => ?_
  split at hv <;> cases hv
  exact ⟨h, rfl, rfl⟩

noncomputable def dworksS0G : Gam := gams [(68, keysS), (67, sortedS), (70, mcloneS), (19, joinS2)]
theorem dworksS0G_ok : GOk Try.prog dworksS0G := goks_cons keys_sound (goks_cons sorted_sound (goks_cons mclone_sound (goks_cons join_sound2 goks_nil)))
noncomputable abbrev dworksS0C0 : Code := bodyOf Try.f24
noncomputable abbrev dworksS0F0 : List AV := [] ++ List.replicate (Try.f24.ntmps - 0) undefA
abbrev dworksS0H0 : AHeap := []
noncomputable abbrev dworksS0C1 : Code := restC 6 dworksS0C0
def dworksS0F1 : List AV := [.bool false, .ptr 2 0, .int .i64 (0), .int .i64 (0), .int .i64 (10), .bool true, .ptr 8 0, .ptr 16 0, .tuple [], .tuple [], .tuple [], .tuple []] ++ List.replicate 16 .top ++ [.tuple [], .tuple [], .top, .tuple [], .tuple [], .top, .tuple [], .tuple [], .top] ++ List.replicate 51 (.tuple [])
def dworksS0H1 : AHeap := [.map [], .cells true [.map 0, .map 3, .nils, .int .i64 (1)], .cells true [.ptr 1 0, .map 4, .int .i64 (10), .int .i64 (3), .int .i64 (0), .bool false], .map [], .map [], .map [(.str [97], .int .i64 (1))], .cells true [.map 5, .map 10, .nils, .int .i64 (1)], .map [(.int .i64 (1), .ptr 9 0)], .cells true [.ptr 6 0, .map 7, .int .i64 (10), .int .i64 (5), .int .i64 (0), .bool false], .cells true [.str [120, 121], .slice 12 0 1 1 false, .str [120, 121, 122]], .map [(.str [97], .int .i64 (1))], .cells true [.str [122]], .cells true [.func 42 [] [.ptr 11 0]], .map [(.str [97], .int .i64 (1))], .cells true [.map 13, .map 18, .nils, .int .i64 (1)], .map [(.int .i64 (1), .ptr 17 0)], .cells true [.ptr 14 0, .map 15, .int .i64 (10), .int .i64 (5), .int .i64 (0), .bool false], .cells true [.str [120, 121], .slice 20 0 1 1 false, .str [120, 121, 122]], .map [(.str [97], .int .i64 (1))], .cells true [.str [122]], .cells true [.func 42 [] [.ptr 19 0]]]
theorem dworksS0_k1 : kendM 0 (acodeN Try.prog (runGK Try.prog dworksS0G 400 dworksInl 30) 400 true 6 dworksS0C0 dworksS0F0 dworksS0H0) dworksS0F1 dworksS0H1 = true := by kernel_rfl
noncomputable abbrev dworksS0C2 : Code := restC 6 dworksS0C1
def dworksS0F2 : List AV := [.bool true] ++ List.replicate 87 .top
def dworksS0H2 : AHeap := []
theorem dworksS0_k2 : kendM 0 (acodeN Try.prog (runGK Try.prog dworksS0G 400 dworksInl 30) 400 true 6 dworksS0C1 dworksS0F1 dworksS0H1) dworksS0F2 dworksS0H2 = true := by kernel_rfl
theorem dworksS0_end : kretB Try.prog Try.f24.results.toList (acodeK Try.prog (runGK Try.prog dworksS0G 400 dworksInl 30) 400 true dworksS0C2 dworksS0F2 dworksS0H2) = true := by kernel_rfl
theorem dworksS0_ct : Ct Try.prog 24 [] [] (.bool true) [] := by
  have hΓ := gok_runK hmix dworksS0G_ok 400 dworksInl 30
  refine ct_of_sim (c := dworksS0C0) Try.func24 (by kernel_rfl) ?_
  refine Sim.kmanyM (n := 400) hmix hΓ 6 dworksS0_k1 (Nat.zero_le _) ?_
  refine Sim.kmanyM (n := 400) hmix hΓ 6 dworksS0_k2 (Nat.zero_le _) ?_
  exact Sim.kret (n := 400) hmix hΓ dworksS0_end

theorem dworksS0_sound : Sound Try.prog 24 trueK := trueK_sound Try.func24 rfl (by decide) dworksS0_ct

end Go.Proofs.Ytjolihoakdifoaa
