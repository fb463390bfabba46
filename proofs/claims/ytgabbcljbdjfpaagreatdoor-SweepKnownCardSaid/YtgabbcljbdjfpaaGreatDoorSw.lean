/- What the closed law cedillalaw26.SweepKnown reaches, run by the kernel in parts. -/
import Derived.Test.YtgabbcljbdjfpaaGreatDoorIt
import Derived.Test.YtgabbcljbdjfpaaGreatDoorSa
import Derived.Test.YtgabbcljbdjfpaaGreatDoorLaj
import Derived.Test.YtgabbcljbdjfpaaGreatDoorGe
import Derived.Test.YtgabbcljbdjfpaaGreatDoorBz
namespace Go.Proofs.YtgabbcljbdjfpaaGreatDoor
open Go
set_option maxRecDepth 100000

def sweepKnownInl : List FuncId := [25, 57, 11, 87, 62, 129, 77, 24, 82, 34, 56, 113, 58, 99, 114, 189, 130, 98, 64, 112, 170, 171, 218, 172, 22, 61, 28, 27, 8, 20, 59, 63, 111, 29, 66, 120, 116, 117, 33, 191, 134, 128, 76, 81, 21, 70, 69, 26, 23, 121, 179, 224, 192, 227, 123, 183, 68, 72, 186, 65, 67, 225, 119, 115, 71, 209, 155, 173, 122, 137]

def trueK : Summ := pureS fun | [] => some (.bool true) | _ => none
theorem trueK_sound {f : FuncId} {fn : Func} (hf : Tryz.prog.funcs[f]? = some fn) (hb : fn.body.isSome = true) (hn : (fn.name == "runtime.NumGoroutine") = false) (h : Ct Tryz.prog f [] [] (.bool true) []) : Sound Tryz.prog f trueK := by
  refine sound_pure (enter_of hf hb hn) fun args v hv => ?_
  split at hv <;> cases hv
  exact ⟨h, rfl, rfl⟩

def sweepKnownS0G : Gam := gams [(154, keysS), (153, sortedS), (152, mcloneS), (106, joinS2), (118, itoaS), (169, atoiS)]
theorem sweepKnownS0G_ok : GOk Tryz.prog sweepKnownS0G := goks_cons keys_sound (goks_cons sorted_sound (goks_cons mclone_sound (goks_cons join_sound2 (goks_cons itoa_sound (goks_cons atoi_sound goks_nil)))))
noncomputable abbrev sweepKnownS0C0 : Code := bodyOf Tryz.f19
noncomputable abbrev sweepKnownS0F0 : List AV := [] ++ List.replicate (Tryz.f19.ntmps - 0) undefA
abbrev sweepKnownS0H0 : AHeap := []
noncomputable abbrev sweepKnownS0C1 : Code := restC 2 sweepKnownS0C0
def sweepKnownS0F1 : List AV := [.bool false, .ptr 3 0, .tuple [], .tuple []] ++ List.replicate 6 .top ++ List.replicate 37 (.tuple [])
def sweepKnownS0H1 : AHeap := [.map [(.str [115, 101, 103, 45, 52], .int .i64 (1)), (.str [115, 101, 103, 45, 53], .int .i64 (2)), (.str [119, 97, 108, 45, 49], .int .i64 (3)), (.str [120], .int .i64 (4))], .cells true [.map 0, .map 8, .nils, .int .i64 (4)], .map [(.int .i64 (1), .ptr 4 0), (.int .i64 (2), .ptr 5 0), (.int .i64 (3), .ptr 6 0), (.int .i64 (4), .ptr 7 0)], .cells true [.ptr 1 0, .map 2, .int .i64 (9), .int .i64 (0), .int .i64 (0), .bool false], .cells true [.str [], .nils, .str []], .cells true [.str [], .nils, .str []], .cells true [.str [], .nils, .str []], .cells true [.str [], .nils, .str []], .map [(.str [115, 101, 103, 45, 52], .int .i64 (1)), (.str [115, 101, 103, 45, 53], .int .i64 (2)), (.str [119, 97, 108, 45, 49], .int .i64 (3)), (.str [120], .int .i64 (4))]]
theorem sweepKnownS0_k1 : kendN 0 [1, 3, 4, 5, 12, 19, 26, 33, 38] (acodeN Tryz.prog (runGK Tryz.prog sweepKnownS0G 400 sweepKnownInl 30) 400 true 2 sweepKnownS0C0 sweepKnownS0F0 sweepKnownS0H0) sweepKnownS0F1 sweepKnownS0H1 = true := by kernel_rfl
noncomputable abbrev sweepKnownS0C2 : Code := restC 1 sweepKnownS0C1
def sweepKnownS0F2 : List AV := [.bool false, .ptr 3 0, .int .i64 (3), .int .i64 (0)] ++ List.replicate 12 .top ++ List.replicate 31 (.tuple [])
def sweepKnownS0H2 : AHeap := [.map [(.str [115, 101, 103, 45, 52], .int .i64 (1))], .cells true [.map 0, .map 8, .nils, .int .i64 (4)], .map [(.int .i64 (1), .ptr 4 0), (.int .i64 (2), .ptr 5 0), (.int .i64 (3), .ptr 6 0), (.int .i64 (4), .ptr 7 0)], .cells true [.ptr 1 0, .map 2, .int .i64 (9), .int .i64 (4), .int .i64 (0), .bool false], .cells true [.str [], .nils, .str []], .cells true [.str [], .nils, .str []], .cells true [.str [], .nils, .str []], .cells true [.str [], .nils, .str []], .map [(.str [115, 101, 103, 45, 52], .int .i64 (1))]]
theorem sweepKnownS0_k2 : kendN 0 [0, 1, 2, 3, 4, 5, 6, 7, 98] (acodeN Tryz.prog (runGK Tryz.prog sweepKnownS0G 400 sweepKnownInl 30) 400 true 1 sweepKnownS0C1 sweepKnownS0F1 sweepKnownS0H1) sweepKnownS0F2 sweepKnownS0H2 = true := by kernel_rfl
noncomputable abbrev sweepKnownS0C3 : Code := restC 1 sweepKnownS0C2
def sweepKnownS0F3 : List AV := [.bool true] ++ List.replicate 46 .top
def sweepKnownS0H3 : AHeap := []
theorem sweepKnownS0_k3 : kendN 0 [] (acodeN Tryz.prog (runGK Tryz.prog sweepKnownS0G 400 sweepKnownInl 30) 400 true 1 sweepKnownS0C2 sweepKnownS0F2 sweepKnownS0H2) sweepKnownS0F3 sweepKnownS0H3 = true := by kernel_rfl
theorem sweepKnownS0_end : kretB Tryz.prog Tryz.f19.results.toList (acodeK Tryz.prog (runGK Tryz.prog sweepKnownS0G 400 sweepKnownInl 30) 400 true sweepKnownS0C3 sweepKnownS0F3 sweepKnownS0H3) = true := by kernel_rfl
theorem sweepKnownS0_ct : Ct Tryz.prog 19 [] [] (.bool true) [] := by
  have hΓ := gok_runK hmix sweepKnownS0G_ok 400 sweepKnownInl 30
  refine ct_of_sim (c := sweepKnownS0C0) Tryz.func19 (by kernel_rfl) ?_
  refine Sim.kmany (n := 400) hmix hΓ 2 [1, 3, 4, 5, 12, 19, 26, 33, 38] sweepKnownS0_k1 (Nat.zero_le _) ?_
  refine Sim.kmany (n := 400) hmix hΓ 1 [0, 1, 2, 3, 4, 5, 6, 7, 98] sweepKnownS0_k2 (Nat.zero_le _) ?_
  refine Sim.kmany (n := 400) hmix hΓ 1 [] sweepKnownS0_k3 (Nat.zero_le _) ?_
  exact Sim.kret (n := 400) hmix hΓ sweepKnownS0_end

theorem sweepKnownS0_sound : Sound Tryz.prog 19 trueK := trueK_sound Tryz.func19 rfl (by decide) sweepKnownS0_ct

def sweepKnownG : Gam := gams [(19, trueK), (154, keysS), (153, sortedS), (152, mcloneS), (106, joinS2), (118, itoaS), (169, atoiS)]
theorem sweepKnownG_ok : GOk Tryz.prog sweepKnownG := goks_cons sweepKnownS0_sound (goks_cons keys_sound (goks_cons sorted_sound (goks_cons mclone_sound (goks_cons join_sound2 (goks_cons itoa_sound (goks_cons atoi_sound goks_nil))))))
noncomputable abbrev sweepKnownC0 : Code := bodyOf Tryz.f4
noncomputable abbrev sweepKnownF0 : List AV := [] ++ List.replicate (Tryz.f4.ntmps - 0) undefA
abbrev sweepKnownH0 : AHeap := []
noncomputable abbrev sweepKnownC1 : Code := restC 3 sweepKnownC0
def sweepKnownF1 : List AV := [.bool false, .ptr 3 0] ++ List.replicate 7 (.tuple []) ++ [.top, .tuple [], .top, .tuple [], .tuple []] ++ List.replicate 10 .top ++ List.replicate 12 (.tuple []) ++ [.top] ++ List.replicate 5 (.tuple []) ++ [.top] ++ List.replicate 77 (.tuple [])
def sweepKnownH1 : AHeap := [.map [(.str [109, 97, 110, 105, 102, 101, 115, 116], .int .i64 (1)), (.str [115, 101, 103, 45, 55], .int .i64 (2)), (.str [115, 101, 103, 45, 52], .int .i64 (3)), (.str [119, 97, 108, 45, 51], .int .i64 (4))], .cells true [.map 0, .map 8, .nils, .int .i64 (4)], .map [(.int .i64 (1), .ptr 4 0), (.int .i64 (2), .ptr 5 0), (.int .i64 (3), .ptr 6 0), (.int .i64 (4), .ptr 7 0)], .cells true [.ptr 1 0, .map 2, .int .i64 (9), .int .i64 (0), .int .i64 (0), .bool false], .cells true [.str [], .nils, .str []], .cells true [.str [], .nils, .str []], .cells true [.str [], .nils, .str []], .cells true [.str [], .nils, .str []], .map [(.str [109, 97, 110, 105, 102, 101, 115, 116], .int .i64 (1)), (.str [115, 101, 103, 45, 55], .int .i64 (2)), (.str [115, 101, 103, 45, 52], .int .i64 (3)), (.str [119, 97, 108, 45, 51], .int .i64 (4))]]
theorem sweepKnown_k1 : kendN 0 [1, 3, 4, 5, 12, 19, 26, 33, 38] (acodeN Tryz.prog (runGK Tryz.prog sweepKnownG 400 sweepKnownInl 30) 400 true 3 sweepKnownC0 sweepKnownF0 sweepKnownH0) sweepKnownF1 sweepKnownH1 = true := by kernel_rfl
noncomputable abbrev sweepKnownC2 : Code := restC 1 sweepKnownC1
def sweepKnownF2 : List AV := [.bool false, .ptr 3 0, .bool true] ++ List.replicate 6 (.tuple []) ++ [.top, .tuple [], .top, .tuple [], .tuple []] ++ List.replicate 13 .top ++ List.replicate 9 (.tuple []) ++ [.top] ++ List.replicate 5 (.tuple []) ++ [.top] ++ List.replicate 77 (.tuple [])
def sweepKnownH2 : AHeap := [.map [(.str [109, 97, 110, 105, 102, 101, 115, 116], .int .i64 (1)), (.str [115, 101, 103, 45, 55], .int .i64 (2)), (.str [115, 101, 103, 45, 52], .int .i64 (3)), (.str [119, 97, 108, 45, 51], .int .i64 (4))], .cells true [.map 0, .map 8, .nils, .int .i64 (4)], .map [(.int .i64 (1), .ptr 4 0), (.int .i64 (2), .ptr 5 0), (.int .i64 (3), .ptr 6 0), (.int .i64 (4), .ptr 7 0)], .cells true [.ptr 1 0, .map 2, .int .i64 (9), .int .i64 (0), .int .i64 (0), .bool false], .cells true [.str [], .nils, .str []], .cells true [.str [], .nils, .str []], .cells true [.str [], .nils, .str []], .cells true [.str [], .nils, .str []], .map [(.str [109, 97, 110, 105, 102, 101, 115, 116], .int .i64 (1)), (.str [115, 101, 103, 45, 55], .int .i64 (2)), (.str [115, 101, 103, 45, 52], .int .i64 (3)), (.str [119, 97, 108, 45, 51], .int .i64 (4))]]
theorem sweepKnown_k2 : kendN 0 [0, 1, 2, 3, 4, 5, 6, 7, 8] (acodeN Tryz.prog (runGK Tryz.prog sweepKnownG 400 sweepKnownInl 30) 400 true 1 sweepKnownC1 sweepKnownF1 sweepKnownH1) sweepKnownF2 sweepKnownH2 = true := by kernel_rfl
noncomputable abbrev sweepKnownC3 : Code := restC 1 sweepKnownC2
def sweepKnownF3 : List AV := [.bool false, .ptr 3 0, .bool true, .int .i64 (0), .int .i64 (0), .tuple [], .tuple [], .tuple [], .tuple [], .top, .tuple [], .top, .tuple [], .tuple []] ++ List.replicate 19 .top ++ [.tuple [], .tuple [], .tuple [], .top] ++ List.replicate 5 (.tuple []) ++ [.top] ++ List.replicate 77 (.tuple [])
def sweepKnownH3 : AHeap := [.map [(.str [109, 97, 110, 105, 102, 101, 115, 116], .int .i64 (1)), (.str [115, 101, 103, 45, 55], .int .i64 (2)), (.str [115, 101, 103, 45, 52], .int .i64 (3)), (.str [119, 97, 108, 45, 51], .int .i64 (4))], .cells true [.map 0, .map 8, .nils, .int .i64 (4)], .map [(.int .i64 (1), .ptr 4 0), (.int .i64 (2), .ptr 5 0), (.int .i64 (3), .ptr 6 0), (.int .i64 (4), .ptr 7 0)], .cells true [.ptr 1 0, .map 2, .int .i64 (9), .int .i64 (0), .int .i64 (0), .bool false], .cells true [.str [], .nils, .str []], .cells true [.str [], .nils, .str []], .cells true [.str [], .nils, .str []], .cells true [.str [], .nils, .str []], .map [(.str [109, 97, 110, 105, 102, 101, 115, 116], .int .i64 (1)), (.str [115, 101, 103, 45, 55], .int .i64 (2)), (.str [115, 101, 103, 45, 52], .int .i64 (3)), (.str [119, 97, 108, 45, 51], .int .i64 (4))]]
theorem sweepKnown_k3 : kendN 0 [0, 1, 2, 3, 4, 5, 6, 7, 8] (acodeN Tryz.prog (runGK Tryz.prog sweepKnownG 400 sweepKnownInl 30) 400 true 1 sweepKnownC2 sweepKnownF2 sweepKnownH2) sweepKnownF3 sweepKnownH3 = true := by kernel_rfl
noncomputable abbrev sweepKnownC4 : Code := restC 3 sweepKnownC3
def sweepKnownF4 : List AV := [.bool false, .ptr 3 0, .bool true, .int .i64 (0), .int .i64 (0), .int .i64 (0), .bool true, .tuple [], .tuple [], .top, .tuple [], .top, .tuple [], .tuple []] ++ List.replicate 27 .top ++ [.tuple [], .top] ++ List.replicate 77 (.tuple [])
def sweepKnownH4 : AHeap := [.map [(.str [109, 97, 110, 105, 102, 101, 115, 116], .int .i64 (1)), (.str [115, 101, 103, 45, 55], .int .i64 (2)), (.str [115, 101, 103, 45, 52], .int .i64 (3)), (.str [119, 97, 108, 45, 51], .int .i64 (4))], .cells true [.map 0, .map 8, .slice 11 0 1 2 false, .int .i64 (5)], .map [(.int .i64 (1), .ptr 4 0), (.int .i64 (2), .ptr 5 0), (.int .i64 (3), .ptr 6 0), (.int .i64 (4), .ptr 7 0), (.int .i64 (5), .ptr 12 0)], .cells true [.ptr 1 0, .map 2, .int .i64 (9), .int .i64 (1), .int .i64 (0), .bool false], .cells true [.str [], .nils, .str []], .cells true [.str [], .nils, .str []], .cells true [.str [], .nils, .str []], .cells true [.str [], .nils, .str []], .map [(.str [109, 97, 110, 105, 102, 101, 115, 116], .int .i64 (1)), (.str [115, 101, 103, 45, 55], .int .i64 (2)), (.str [115, 101, 103, 45, 52], .int .i64 (3)), (.str [119, 97, 108, 45, 51], .int .i64 (4)), (.str [115, 101, 103, 45, 48, 55], .int .i64 (5))], .cells true [.str [115, 101, 103, 45, 48, 55]], .cells true [.int .i64 (5)], .cells true [.str [99, 114, 101, 97, 116, 101], .func 113 [] [.ptr 10 0, .ptr 9 0]], .cells true [.str [], .nils, .str []]]
theorem sweepKnown_k4 : kendN 0 [0, 1, 2, 3, 4, 5, 6, 7, 8, 11, 12, 15, 16] (acodeN Tryz.prog (runGK Tryz.prog sweepKnownG 400 sweepKnownInl 30) 400 true 3 sweepKnownC3 sweepKnownF3 sweepKnownH3) sweepKnownF4 sweepKnownH4 = true := by kernel_rfl
noncomputable abbrev sweepKnownC5 : Code := restC 2 sweepKnownC4
def sweepKnownF5 : List AV := [.bool false, .ptr 3 0, .bool true, .int .i64 (0), .int .i64 (0), .int .i64 (0), .bool true, .int .i64 (1), .int .i64 (13), .top, .tuple [], .top, .tuple [], .tuple []] ++ List.replicate 35 .top ++ List.replicate 71 (.tuple [])
def sweepKnownH5 : AHeap := [.map [(.str [109, 97, 110, 105, 102, 101, 115, 116], .int .i64 (1)), (.str [115, 101, 103, 45, 55], .int .i64 (2)), (.str [115, 101, 103, 45, 52], .int .i64 (3)), (.str [119, 97, 108, 45, 51], .int .i64 (4))], .cells true [.map 0, .map 8, .slice 13 0 2 2 false, .int .i64 (5)], .map [(.int .i64 (1), .ptr 4 0), (.int .i64 (2), .ptr 5 0), (.int .i64 (3), .ptr 6 0), (.int .i64 (4), .ptr 7 0), (.int .i64 (5), .ptr 11 0)], .cells true [.ptr 1 0, .map 2, .int .i64 (9), .int .i64 (3), .int .i64 (0), .bool true], .cells true [.str [], .nils, .str []], .cells true [.str [], .nils, .str []], .cells true [.str [], .nils, .str []], .cells true [.str [], .nils, .str []], .map [(.str [109, 97, 110, 105, 102, 101, 115, 116], .int .i64 (1)), (.str [115, 101, 103, 45, 55], .int .i64 (2)), (.str [115, 101, 103, 45, 52], .int .i64 (3)), (.str [119, 97, 108, 45, 51], .int .i64 (4))], .cells true [.str [115, 101, 103, 45, 48, 55]], .cells true [.int .i64 (5)], .cells true [.str [], .nils, .str []], .cells true [.str [115, 101, 103, 45, 48, 55]], .cells true [.str [99, 114, 101, 97, 116, 101], .func 113 [] [.ptr 10 0, .ptr 9 0], .str [114, 101, 109, 111, 118, 101], .func 189 [] [.ptr 12 0]]]
theorem sweepKnown_k5 : kendN 0 [0, 1, 2, 3, 4, 5, 6, 7, 8, 9, 10, 12, 73, 76] (acodeN Tryz.prog (runGK Tryz.prog sweepKnownG 400 sweepKnownInl 30) 400 true 2 sweepKnownC4 sweepKnownF4 sweepKnownH4) sweepKnownF5 sweepKnownH5 = true := by kernel_rfl
noncomputable abbrev sweepKnownC6 : Code := restC 3 sweepKnownC5
def sweepKnownF6 : List AV := [.bool false, .top, .bool true, .int .i64 (0), .int .i64 (0), .int .i64 (0), .bool true, .int .i64 (1), .int .i64 (13), .top, .int .i64 (0), .top, .int .i64 (1), .slice 0 0 3 1 false] ++ List.replicate 49 .top ++ List.replicate 57 (.tuple [])
def sweepKnownH6 : AHeap := [.cells true [.str [], .str [97], .str [98], .str [], .str []]]
theorem sweepKnown_k6 : kendN 0 [26] (acodeN Tryz.prog (runGK Tryz.prog sweepKnownG 400 sweepKnownInl 30) 400 true 3 sweepKnownC5 sweepKnownF5 sweepKnownH5) sweepKnownF6 sweepKnownH6 = true := by kernel_rfl
noncomputable abbrev sweepKnownC7 : Code := restC 1 sweepKnownC6
def sweepKnownF7 : List AV := [.bool true] ++ List.replicate 119 .top
def sweepKnownH7 : AHeap := []
theorem sweepKnown_k7 : kendN 0 [] (acodeN Tryz.prog (runGK Tryz.prog sweepKnownG 400 sweepKnownInl 30) 400 true 1 sweepKnownC6 sweepKnownF6 sweepKnownH6) sweepKnownF7 sweepKnownH7 = true := by kernel_rfl
theorem sweepKnown_end : kretB Tryz.prog Tryz.f4.results.toList (acodeK Tryz.prog (runGK Tryz.prog sweepKnownG 400 sweepKnownInl 30) 400 true sweepKnownC7 sweepKnownF7 sweepKnownH7) = true := by kernel_rfl
theorem sweepKnown_ct : Ct Tryz.prog 4 [] [] (.bool true) [] := by
  have hΓ := gok_runK hmix sweepKnownG_ok 400 sweepKnownInl 30
  refine ct_of_sim (c := sweepKnownC0) Tryz.func4 (by kernel_rfl) ?_
  refine Sim.kmany (n := 400) hmix hΓ 3 [1, 3, 4, 5, 12, 19, 26, 33, 38] sweepKnown_k1 (Nat.zero_le _) ?_
  refine Sim.kmany (n := 400) hmix hΓ 1 [0, 1, 2, 3, 4, 5, 6, 7, 8] sweepKnown_k2 (Nat.zero_le _) ?_
  refine Sim.kmany (n := 400) hmix hΓ 1 [0, 1, 2, 3, 4, 5, 6, 7, 8] sweepKnown_k3 (Nat.zero_le _) ?_
  refine Sim.kmany (n := 400) hmix hΓ 3 [0, 1, 2, 3, 4, 5, 6, 7, 8, 11, 12, 15, 16] sweepKnown_k4 (Nat.zero_le _) ?_
  refine Sim.kmany (n := 400) hmix hΓ 2 [0, 1, 2, 3, 4, 5, 6, 7, 8, 9, 10, 12, 73, 76] sweepKnown_k5 (Nat.zero_le _) ?_
  refine Sim.kmany (n := 400) hmix hΓ 3 [26] sweepKnown_k6 (Nat.zero_le _) ?_
  refine Sim.kmany (n := 400) hmix hΓ 1 [] sweepKnown_k7 (Nat.zero_le _) ?_
  exact Sim.kret (n := 400) hmix hΓ sweepKnown_end

def sweepKnown_shape : List (Bool × List CT) := []

theorem sweepKnown_law : ∀ xs H, AbsArgs sweepKnown_shape 0 xs H → ∃ H', Ct Tryz.prog 4 xs H (.bool true) H' := by
  intro xs H h0
  obtain ⟨rfl, rfl⟩ := absArgs_nil h0
  exact ⟨[], sweepKnown_ct⟩

end Go.Proofs.YtgabbcljbdjfpaaGreatDoor
