/- Parts of the proof of DiskKeeps: lemmas, each with its own conditions. -/
import Derived.Test.YtjolihoakdifoaaGreatY18
import Derived.Test.YtjolihoakdifoaaGreatY6
import Derived.Test.YtjolihoakdifoaaGreatY7
import Derived.Test.YtjolihoakdifoaaGreatY5
namespace Go.Proofs.YtjolihoakdifoaaGreat
open Go
set_option maxRecDepth 100000
def dkeepInl : List FuncId := [24, 9, 18, 12, 16, 21, 25, 8, 13, 26, 27, 28, 6, 10, 17, 14, 29, 30, 19, 31, 32, 65, 35, 36, 45, 33, 34, 37, 50, 52, 40, 41, 46, 47, 54, 58, 59, 60, 61, 62, 63, 22, 42, 43, 66, 38, 39, 48, 49, 44, 53, 67, 68, 69, 74, 70, 71, 80, 81, 73, 75, 83, 87, 88, 91, 72, 76, 92, 98, 137, 138]
def trueK : Summ := pureS fun | [] => some (.bool true) | _ => none
theorem trueK_sound {f : FuncId} {fn : Func} (hf : Tryz.prog.funcs[f]? = some fn) (hb : fn.body.isSome = true) (hn : (fn.name == "runtime.NumGoroutine") = false) (h : Ct Tryz.prog f [] [] (.bool true) []) : Sound Tryz.prog f trueK := by
  refine sound_pure (enter_of hf hb hn) fun args v hv => ?_
  split at hv <;> cases hv
  exact ⟨h, rfl, rfl⟩
noncomputable def dkeepS0G : Gam := gams [(90, keysS), (89, sortedS), (82, mcloneS), (51, joinS2), (20, dcopyS)]
theorem dkeepS0G_ok : GOk Tryz.prog dkeepS0G := goks_cons keys_sound (goks_cons sorted_sound (goks_cons mclone_sound (goks_cons join_sound2 (goks_cons dcopy_sound goks_nil))))
noncomputable abbrev dkeepS0C0 : Code := bodyOf Tryz.f5
noncomputable abbrev dkeepS0F0 : List AV := [] ++ List.replicate (Tryz.f5.ntmps - 0) undefA
abbrev dkeepS0H0 : AHeap := []
noncomputable abbrev dkeepS0C1 : Code := restC 6 dkeepS0C0
def dkeepS0F1 : List AV := [.bool false, .ptr 2 0, .int .i64 (0), .int .i64 (0), .int .i64 (10), .bool true, .ptr 8 0, .ptr 16 0, .tuple [], .tuple [], .tuple [], .tuple []] ++ List.replicate 16 .top ++ [.tuple [], .tuple [], .top, .tuple [], .tuple [], .top, .tuple [], .tuple [], .top] ++ List.replicate 51 (.tuple [])
def dkeepS0H1 : AHeap := [.map [], .cells true [.map 0, .map 3, .nils, .int .i64 (1)], .cells true [.ptr 1 0, .map 4, .int .i64 (10), .int .i64 (3), .int .i64 (0), .bool false], .map [], .map [], .map [(.str [97], .int .i64 (1))], .cells true [.map 5, .map 10, .nils, .int .i64 (1)], .map [(.int .i64 (1), .ptr 9 0)], .cells true [.ptr 6 0, .map 7, .int .i64 (10), .int .i64 (5), .int .i64 (0), .bool false], .cells true [.str [120, 121], .slice 12 0 1 1 false, .str [120, 121, 122]], .map [(.str [97], .int .i64 (1))], .cells true [.str [122]], .cells true [.func 80 [] [.ptr 11 0]], .map [(.str [97], .int .i64 (1))], .cells true [.map 13, .map 18, .nils, .int .i64 (1)], .map [(.int .i64 (1), .ptr 17 0)], .cells true [.ptr 14 0, .map 15, .int .i64 (10), .int .i64 (5), .int .i64 (0), .bool false], .cells true [.str [120, 121], .slice 20 0 1 1 false, .str [120, 121, 122]], .map [(.str [97], .int .i64 (1))], .cells true [.str [122]], .cells true [.func 80 [] [.ptr 19 0]]]
theorem dkeepS0_k1 : kendM 0 (acodeN Tryz.prog (runGK Tryz.prog dkeepS0G 400 dkeepInl 30) 400 true 6 dkeepS0C0 dkeepS0F0 dkeepS0H0) dkeepS0F1 dkeepS0H1 = true := by kernel_rfl
noncomputable abbrev dkeepS0C2 : Code := restC 6 dkeepS0C1
def dkeepS0F2 : List AV := [.bool true] ++ List.replicate 87 .top
def dkeepS0H2 : AHeap := []
theorem dkeepS0_k2 : kendM 0 (acodeN Tryz.prog (runGK Tryz.prog dkeepS0G 400 dkeepInl 30) 400 true 6 dkeepS0C1 dkeepS0F1 dkeepS0H1) dkeepS0F2 dkeepS0H2 = true := by kernel_rfl
theorem dkeepS0_end : kretB Tryz.prog Tryz.f5.results.toList (acodeK Tryz.prog (runGK Tryz.prog dkeepS0G 400 dkeepInl 30) 400 true dkeepS0C2 dkeepS0F2 dkeepS0H2) = true := by kernel_rfl
theorem dkeepS0_ct : Ct Tryz.prog 5 [] [] (.bool true) [] := by
  have hΓ := gok_runK hmix dkeepS0G_ok 400 dkeepInl 30
  refine ct_of_sim (c := dkeepS0C0) Tryz.func5 (by kernel_rfl) ?_
  refine Sim.kmanyM (n := 400) hmix hΓ 6 dkeepS0_k1 (Nat.zero_le _) ?_
  refine Sim.kmanyM (n := 400) hmix hΓ 6 dkeepS0_k2 (Nat.zero_le _) ?_
  exact Sim.kret (n := 400) hmix hΓ dkeepS0_end
theorem dkeepS0_sound : Sound Tryz.prog 5 trueK := trueK_sound Tryz.func5 rfl (by decide) dkeepS0_ct
end Go.Proofs.YtjolihoakdifoaaGreat
