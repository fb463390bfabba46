/- What the closed law cedillalaw24.PublishKnown reaches, run by the kernel in parts. -/
import Derived.Test.YtgabbcljbdjfpaaGreatDoorIt
import Derived.Test.YtgabbcljbdjfpaaGreatDoorSc
import Derived.Test.YtgabbcljbdjfpaaGreatDoorLaj
import Derived.Test.YtgabbcljbdjfpaaGreatDoorGe
import Derived.Test.YtgabbcljbdjfpaaGreatDoorBz
namespace Go.Proofs.YtgabbcljbdjfpaaGreatDoor
open Go
set_option maxRecDepth 100000

def publishKnownInl : List FuncId := [105, 51, 25, 57, 11, 87, 44, 62, 83, 129, 77, 132, 80, 47, 40, 24, 149, 92, 82, 34, 107, 160, 104, 93, 56, 165, 108, 96, 94, 135, 101, 150, 164, 157, 113, 58, 100, 99, 114, 189, 130, 190, 133, 98, 64, 112, 74, 73, 226, 136, 126, 187, 259, 258, 8, 20, 151, 97, 59, 156, 63, 111, 29, 84, 75, 125, 124, 194, 139, 66, 116, 117, 33, 32, 35, 79, 31, 191, 134, 131, 78, 128, 76, 81, 201, 127, 138, 188, 228, 193, 192, 227, 229, 195, 214, 186, 65, 184, 225, 115, 209, 155, 137]

def trueK : Summ := pureS fun | [] => some (.bool true) | _ => none
theorem trueK_sound {f : FuncId} {fn : Func} (hf : Tryz.prog.funcs[f]? = some fn) (hb : fn.body.isSome = true) (hn : (fn.name == "runtime.NumGoroutine") = false) (h : Ct Tryz.prog f [] [] (.bool true) []) : Sound Tryz.prog f trueK := by
  refine sound_pure (enter_of hf hb hn) fun args v hv => ?_
  split at hv <;> cases hv
  exact ⟨h, rfl, rfl⟩

def publishKnownS0G : Gam := gams [(154, keysS), (153, sortedS), (152, mcloneS), (106, joinS2), (118, itoaS)]
theorem publishKnownS0G_ok : GOk Tryz.prog publishKnownS0G := goks_cons keys_sound (goks_cons sorted_sound (goks_cons mclone_sound (goks_cons join_sound2 (goks_cons itoa_sound goks_nil))))
noncomputable abbrev publishKnownS0C0 : Code := bodyOf Tryz.f30
noncomputable abbrev publishKnownS0F0 : List AV := [] ++ List.replicate (Tryz.f30.ntmps - 0) undefA
abbrev publishKnownS0H0 : AHeap := []
noncomputable abbrev publishKnownS0C1 : Code := restC 5 publishKnownS0C0
def publishKnownS0F1 : List AV := [.bool false, .ptr 3 0, .ptr 4 0, .bool true, .int .i64 (0)] ++ List.replicate 10 (.tuple []) ++ List.replicate 8 .top ++ List.replicate 34 (.tuple []) ++ [.top] ++ List.replicate 42 (.tuple [])
def publishKnownS0H1 : AHeap := [.map [(.str [109, 97, 110, 105, 102, 101, 115, 116], .int .i64 (1))], .cells true [.map 0, .map 6, .nils, .int .i64 (1)], .map [(.int .i64 (1), .ptr 5 0)], .cells true [.ptr 1 0, .map 2, .int .i64 (500), .int .i64 (5), .int .i64 (0), .bool false], .cells true [.int .i64 (1), .int .i64 (2), .int .i64 (1), .nils], .cells true [.str [67, 77, 1, 1, 2, 1, 0, 210, 2, 10, 196], .nils, .str [67, 77, 1, 1, 2, 1, 0, 210, 2, 10, 196]], .map [(.str [109, 97, 110, 105, 102, 101, 115, 116], .int .i64 (1))]]
theorem publishKnownS0_k1 : kendN 0 [0, 2, 3, 4, 6, 89, 124] (acodeN Tryz.prog (runGK Tryz.prog publishKnownS0G 60 publishKnownInl 20) 60 true 5 publishKnownS0C0 publishKnownS0F0 publishKnownS0H0) publishKnownS0F1 publishKnownS0H1 = true := by kernel_rfl
noncomputable abbrev publishKnownS0C2 : Code := restC 1 publishKnownS0C1
def publishKnownS0F2 : List AV := [.bool false, .ptr 3 0, .ptr 4 0, .top, .top] ++ List.replicate 10 (.tuple []) ++ List.replicate 29 .top ++ List.replicate 13 (.tuple []) ++ [.top] ++ List.replicate 42 (.tuple [])
def publishKnownS0H2 : AHeap := [.map [(.str [109, 97, 110, 105, 102, 101, 115, 116], .int .i64 (1))], .cells true [.map 0, .map 6, .nils, .int .i64 (1)], .map [(.int .i64 (1), .ptr 5 0)], .cells true [.ptr 1 0, .map 2, .int .i64 (500), .int .i64 (5), .int .i64 (0), .bool false], .cells true [.int .i64 (1), .int .i64 (2), .int .i64 (1), .nils], .cells true [.str [67, 77, 1, 1, 2, 1, 0, 210, 2, 10, 196], .nils, .str [67, 77, 1, 1, 2, 1, 0, 210, 2, 10, 196]], .map [(.str [109, 97, 110, 105, 102, 101, 115, 116], .int .i64 (1))]]
theorem publishKnownS0_k2 : kendN 0 [0, 1, 2, 3, 4, 5, 6] (acodeN Tryz.prog (runGK Tryz.prog publishKnownS0G 60 publishKnownInl 20) 60 true 1 publishKnownS0C1 publishKnownS0F1 publishKnownS0H1) publishKnownS0F2 publishKnownS0H2 = true := by kernel_rfl
noncomputable abbrev publishKnownS0C3 : Code := restC 2 publishKnownS0C2
def publishKnownS0F3 : List AV := [.bool false, .ptr 3 0, .top, .top, .top, .int .i64 (0), .int .i64 (0)] ++ List.replicate 8 (.tuple []) ++ List.replicate 34 .top ++ List.replicate 8 (.tuple []) ++ [.top] ++ List.replicate 42 (.tuple [])
def publishKnownS0H3 : AHeap := [.map [(.str [109, 97, 110, 105, 102, 101, 115, 116], .int .i64 (3))], .cells true [.map 0, .map 7, .nils, .int .i64 (3)], .map [(.int .i64 (1), .ptr 4 0), (.int .i64 (2), .ptr 5 0), (.int .i64 (3), .ptr 6 0)], .cells true [.ptr 1 0, .map 2, .int .i64 (500), .int .i64 (12), .int .i64 (0), .bool false], .cells true [.str [67, 77, 1, 1, 2, 1, 0, 210, 2, 10, 196], .nils, .str [67, 77, 1, 1, 2, 1, 0, 210, 2, 10, 196]], .cells true [.str [], .nils, .str []], .cells true [.str [67, 77, 1, 1, 2, 1, 0, 210, 2, 10, 196], .nils, .str [67, 77, 1, 1, 2, 1, 0, 210, 2, 10, 196]], .map [(.str [109, 97, 110, 105, 102, 101, 115, 116], .int .i64 (3))]]
theorem publishKnownS0_k3 : kendN 0 [0, 1, 2, 3, 5, 14, 104, 146] (acodeN Tryz.prog (runGK Tryz.prog publishKnownS0G 60 publishKnownInl 20) 60 true 2 publishKnownS0C2 publishKnownS0F2 publishKnownS0H2) publishKnownS0F3 publishKnownS0H3 = true := by kernel_rfl
noncomputable abbrev publishKnownS0C4 : Code := restC 2 publishKnownS0C3
def publishKnownS0F4 : List AV := [.bool false, .ptr 3 0, .top, .top, .top, .int .i64 (0), .int .i64 (0), .int .i64 (12), .int .i64 (0)] ++ List.replicate 6 (.tuple []) ++ List.replicate 39 .top ++ [.tuple [], .tuple [], .tuple [], .top] ++ List.replicate 42 (.tuple [])
def publishKnownS0H4 : AHeap := [.map [(.str [109, 97, 110, 105, 102, 101, 115, 116], .int .i64 (3)), (.str [115, 101, 103, 45, 49], .int .i64 (4))], .cells true [.map 0, .map 8, .nils, .int .i64 (4)], .map [(.int .i64 (1), .ptr 4 0), (.int .i64 (2), .ptr 5 0), (.int .i64 (3), .ptr 6 0), (.int .i64 (4), .ptr 7 0)], .cells true [.ptr 1 0, .map 2, .int .i64 (500), .int .i64 (16), .int .i64 (0), .bool false], .cells true [.str [67, 77, 1, 1, 2, 1, 0, 210, 2, 10, 196], .nils, .str [67, 77, 1, 1, 2, 1, 0, 210, 2, 10, 196]], .cells true [.str [], .nils, .str []], .cells true [.str [67, 77, 1, 1, 2, 1, 0, 210, 2, 10, 196], .nils, .str [67, 77, 1, 1, 2, 1, 0, 210, 2, 10, 196]], .cells true [.str [97, 98, 99], .nils, .str [97, 98, 99]], .map [(.str [109, 97, 110, 105, 102, 101, 115, 116], .int .i64 (3)), (.str [115, 101, 103, 45, 49], .int .i64 (4))]]
theorem publishKnownS0_k4 : kendN 0 [0, 1, 2, 3, 4, 5, 6, 29, 59] (acodeN Tryz.prog (runGK Tryz.prog publishKnownS0G 60 publishKnownInl 20) 60 true 2 publishKnownS0C3 publishKnownS0F3 publishKnownS0H3) publishKnownS0F4 publishKnownS0H4 = true := by kernel_rfl
noncomputable abbrev publishKnownS0C5 : Code := restC 4 publishKnownS0C4
def publishKnownS0F5 : List AV := [.bool false, .top, .top, .top, .top, .int .i64 (0), .int .i64 (0), .int .i64 (12), .int .i64 (0), .int .i64 (16), .str [97, 98, 99], .bool true, .ptr 3 0, .tuple [], .tuple []] ++ List.replicate 51 .top ++ List.replicate 34 (.tuple [])
def publishKnownS0H5 : AHeap := [.map [(.str [109, 97, 110, 105, 102, 101, 115, 116], .int .i64 (1))], .cells true [.map 0, .map 5, .nils, .int .i64 (1)], .map [(.int .i64 (1), .ptr 4 0)], .cells true [.ptr 1 0, .map 2, .int .i64 (9), .int .i64 (0), .int .i64 (0), .bool false], .cells true [.str [110, 111], .nils, .str [110, 111]], .map [(.str [109, 97, 110, 105, 102, 101, 115, 116], .int .i64 (1))]]
theorem publishKnownS0_k5 : kendN 0 [28, 30, 31, 32, 39, 41] (acodeN Tryz.prog (runGK Tryz.prog publishKnownS0G 60 publishKnownInl 20) 60 true 4 publishKnownS0C4 publishKnownS0F4 publishKnownS0H4) publishKnownS0F5 publishKnownS0H5 = true := by kernel_rfl
noncomputable abbrev publishKnownS0C6 : Code := restC 2 publishKnownS0C5
def publishKnownS0F6 : List AV := [.bool true] ++ List.replicate 99 .top
def publishKnownS0H6 : AHeap := []
theorem publishKnownS0_k6 : kendN 0 [] (acodeN Tryz.prog (runGK Tryz.prog publishKnownS0G 60 publishKnownInl 20) 60 true 2 publishKnownS0C5 publishKnownS0F5 publishKnownS0H5) publishKnownS0F6 publishKnownS0H6 = true := by kernel_rfl
theorem publishKnownS0_end : kretB Tryz.prog Tryz.f30.results.toList (acodeK Tryz.prog (runGK Tryz.prog publishKnownS0G 60 publishKnownInl 20) 60 true publishKnownS0C6 publishKnownS0F6 publishKnownS0H6) = true := by kernel_rfl
theorem publishKnownS0_ct : Ct Tryz.prog 30 [] [] (.bool true) [] := by
  have hΓ := gok_runK hmix publishKnownS0G_ok 60 publishKnownInl 20
  refine ct_of_sim (c := publishKnownS0C0) Tryz.func30 (by kernel_rfl) ?_
  refine Sim.kmany (n := 60) hmix hΓ 5 [0, 2, 3, 4, 6, 89, 124] publishKnownS0_k1 (Nat.zero_le _) ?_
  refine Sim.kmany (n := 60) hmix hΓ 1 [0, 1, 2, 3, 4, 5, 6] publishKnownS0_k2 (Nat.zero_le _) ?_
  refine Sim.kmany (n := 60) hmix hΓ 2 [0, 1, 2, 3, 5, 14, 104, 146] publishKnownS0_k3 (Nat.zero_le _) ?_
  refine Sim.kmany (n := 60) hmix hΓ 2 [0, 1, 2, 3, 4, 5, 6, 29, 59] publishKnownS0_k4 (Nat.zero_le _) ?_
  refine Sim.kmany (n := 60) hmix hΓ 4 [28, 30, 31, 32, 39, 41] publishKnownS0_k5 (Nat.zero_le _) ?_
  refine Sim.kmany (n := 60) hmix hΓ 2 [] publishKnownS0_k6 (Nat.zero_le _) ?_
  exact Sim.kret (n := 60) hmix hΓ publishKnownS0_end

theorem publishKnownS0_sound : Sound Tryz.prog 30 trueK := trueK_sound Tryz.func30 rfl (by decide) publishKnownS0_ct

def publishKnownG : Gam := gams [(30, trueK), (154, keysS), (153, sortedS), (152, mcloneS), (106, joinS2), (118, itoaS)]
theorem publishKnownG_ok : GOk Tryz.prog publishKnownG := goks_cons publishKnownS0_sound (goks_cons keys_sound (goks_cons sorted_sound (goks_cons mclone_sound (goks_cons join_sound2 (goks_cons itoa_sound goks_nil)))))
noncomputable abbrev publishKnownC0 : Code := bodyOf Tryz.f5
noncomputable abbrev publishKnownF0 : List AV := [] ++ List.replicate (Tryz.f5.ntmps - 0) undefA
abbrev publishKnownH0 : AHeap := []
noncomputable abbrev publishKnownC1 : Code := restC 6 publishKnownC0
def publishKnownF1 : List AV := [.bool false, .ptr 3 0, .int .i64 (2), .int .i64 (0), .int .i64 (0)] ++ List.replicate 9 (.tuple []) ++ List.replicate 13 .top ++ List.replicate 12 (.tuple []) ++ [.top, .tuple [], .top] ++ List.replicate 63 (.tuple [])
def publishKnownH1 : AHeap := [.map [(.str [120], .int .i64 (1))], .cells true [.map 0, .map 5, .nils, .int .i64 (1)], .map [(.int .i64 (1), .ptr 4 0)], .cells true [.ptr 1 0, .map 2, .int .i64 (100), .int .i64 (4), .int .i64 (0), .bool false], .cells true [.str [49], .nils, .str [49]], .map [(.str [120], .int .i64 (1))]]
theorem publishKnown_k1 : kendN 0 [0, 2, 3, 4, 33, 58] (acodeN Tryz.prog (runGK Tryz.prog publishKnownG 60 publishKnownInl 20) 60 true 6 publishKnownC0 publishKnownF0 publishKnownH0) publishKnownF1 publishKnownH1 = true := by kernel_rfl
noncomputable abbrev publishKnownC2 : Code := restC 4 publishKnownC1
def publishKnownF2 : List AV := [.bool false, .ptr 3 0, .int .i64 (2), .int .i64 (0), .int .i64 (0), .int .i64 (8), .int .i64 (9), .int .i64 (0), .int .i64 (2)] ++ List.replicate 5 (.tuple []) ++ List.replicate 24 .top ++ [.tuple [], .top, .tuple [], .top] ++ List.replicate 63 (.tuple [])
def publishKnownH2 : AHeap := [.map [(.str [120], .int .i64 (1))], .cells true [.map 0, .map 5, .slice 7 0 1 2 false, .int .i64 (1)], .map [(.int .i64 (1), .ptr 4 0)], .cells true [.ptr 1 0, .map 2, .int .i64 (100), .int .i64 (8), .int .i64 (0), .bool false], .cells true [.str [49], .nils, .str [49]], .map [], .cells true [.str [120]], .cells true [.str [114, 101, 109, 111, 118, 101], .func 189 [] [.ptr 6 0]]]
theorem publishKnown_k2 : kendN 0 [0, 1, 2, 3, 4, 5, 41, 44] (acodeN Tryz.prog (runGK Tryz.prog publishKnownG 60 publishKnownInl 20) 60 true 4 publishKnownC1 publishKnownF1 publishKnownH1) publishKnownF2 publishKnownH2 = true := by kernel_rfl
noncomputable abbrev publishKnownC3 : Code := restC 6 publishKnownC2
def publishKnownF3 : List AV := [.bool true] ++ List.replicate 104 .top
def publishKnownH3 : AHeap := []
theorem publishKnown_k3 : kendN 0 [] (acodeN Tryz.prog (runGK Tryz.prog publishKnownG 60 publishKnownInl 20) 60 true 6 publishKnownC2 publishKnownF2 publishKnownH2) publishKnownF3 publishKnownH3 = true := by kernel_rfl
theorem publishKnown_end : kretB Tryz.prog Tryz.f5.results.toList (acodeK Tryz.prog (runGK Tryz.prog publishKnownG 60 publishKnownInl 20) 60 true publishKnownC3 publishKnownF3 publishKnownH3) = true := by kernel_rfl
theorem publishKnown_ct : Ct Tryz.prog 5 [] [] (.bool true) [] := by
  have hΓ := gok_runK hmix publishKnownG_ok 60 publishKnownInl 20
  refine ct_of_sim (c := publishKnownC0) Tryz.func5 (by kernel_rfl) ?_
  refine Sim.kmany (n := 60) hmix hΓ 6 [0, 2, 3, 4, 33, 58] publishKnown_k1 (Nat.zero_le _) ?_
  refine Sim.kmany (n := 60) hmix hΓ 4 [0, 1, 2, 3, 4, 5, 41, 44] publishKnown_k2 (Nat.zero_le _) ?_
  refine Sim.kmany (n := 60) hmix hΓ 6 [] publishKnown_k3 (Nat.zero_le _) ?_
  exact Sim.kret (n := 60) hmix hΓ publishKnown_end

def publishKnown_shape : List (Bool × List CT) := []

theorem publishKnown_law : ∀ xs H, AbsArgs publishKnown_shape 0 xs H → ∃ H', Ct Tryz.prog 5 xs H (.bool true) H' := by
  intro xs H h0
  obtain ⟨rfl, rfl⟩ := absArgs_nil h0
  exact ⟨[], publishKnown_ct⟩

end Go.Proofs.YtgabbcljbdjfpaaGreatDoor
