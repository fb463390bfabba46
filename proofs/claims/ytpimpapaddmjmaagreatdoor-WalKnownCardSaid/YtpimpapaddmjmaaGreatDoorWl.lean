/- What the closed law cedillalaw10.WalKnown reaches, run by the kernel in parts. -/
import Derived.Test.YtpimpapaddmjmaaGreatDoorIt
import Derived.Test.YtpimpapaddmjmaaGreatDoorSc
import Derived.Test.YtpimpapaddmjmaaGreatDoorLaj
import Derived.Test.YtpimpapaddmjmaaGreatDoorGe
import Derived.Test.YtpimpapaddmjmaaGreatDoorBz
namespace Go.Proofs.YtpimpapaddmjmaaGreatDoor
open Go
set_option maxRecDepth 100000

def walKnownInl : List FuncId := [70, 35, 41, 9, 47, 28, 48, 31, 23, 94, 57, 141, 115, 72, 107, 69, 58, 40, 112, 73, 61, 59, 66, 95, 111, 102, 78, 42, 65, 64, 89, 63, 54, 77, 34, 8, 12, 14, 13, 15, 16, 11, 38, 114, 75, 37, 32, 36, 39, 44, 29, 30, 166, 106, 137, 201, 200, 6, 20, 96, 62, 67, 43, 101, 53, 76, 68, 105, 50, 83, 84, 104, 136, 7, 10, 33, 113, 74, 134, 103, 135, 165, 140, 133, 100]

def trueK : Summ := pureS fun | [] => some (.bool true) | _ => none
theorem trueK_sound {f : FuncId} {fn : Func} (hf : Tryz.prog.funcs[f]? = some fn) (hb : fn.body.isSome = true) (hn : (fn.name == "runtime.NumGoroutine") = false) (h : Ct Tryz.prog f [] [] (.bool true) []) : Sound Tryz.prog f trueK := by
  refine sound_pure (enter_of hf hb hn) fun args v hv => ?_
  split at hv <;> cases hv
  exact ⟨h, rfl, rfl⟩

def walKnownS0G : Gam := gams [(99, keysS), (98, sortedS), (97, mcloneS), (71, joinS2), (85, itoaS)]
theorem walKnownS0G_ok : GOk Tryz.prog walKnownS0G := goks_cons keys_sound (goks_cons sorted_sound (goks_cons mclone_sound (goks_cons join_sound2 (goks_cons itoa_sound goks_nil))))
noncomputable abbrev walKnownS0C0 : Code := bodyOf Tryz.f5
noncomputable abbrev walKnownS0F0 : List AV := [] ++ List.replicate (Tryz.f5.ntmps - 0) undefA
abbrev walKnownS0H0 : AHeap := []
noncomputable abbrev walKnownS0C1 : Code := restC 2 walKnownS0C0
def walKnownS0F1 : List AV := [.bool false, .ptr 3 0, .ptr 4 0] ++ List.replicate 7 (.tuple []) ++ [.top, .top, .top, .top] ++ List.replicate 55 (.tuple []) ++ [.top] ++ List.replicate 46 (.tuple [])
def walKnownS0H1 : AHeap := [.map [(.str [119, 97, 108, 45, 53], .int .i64 (1))], .cells true [.map 0, .map 6, .nils, .int .i64 (1)], .map [(.int .i64 (1), .ptr 5 0)], .cells true [.ptr 1 0, .map 2, .int .i64 (100), .int .i64 (4), .int .i64 (0), .bool false], .cells true [.ptr 3 0, .int .i64 (12), .int .i64 (5), .int .i64 (6), .int .i64 (2), .bool false], .cells true [.str [], .slice 9 0 2 1 false, .str [3, 1, 1, 97, 74, 122, 157, 17, 3, 1, 2, 98, 51, 120, 185, 163]], .map [(.str [119, 97, 108, 45, 53], .int .i64 (1))], .cells true [.str [3, 1, 1, 97, 74, 122, 157, 17]], .cells true [.str [3, 1, 2, 98, 51, 120, 185, 163]], .cells true [.func 112 [] [.ptr 7 0], .func 112 [] [.ptr 8 0]]]
theorem walKnownS0_k1 : kendM 0 (acodeN Tryz.prog (runGK Tryz.prog walKnownS0G 400 walKnownInl 30) 400 true 2 walKnownS0C0 walKnownS0F0 walKnownS0H0) walKnownS0F1 walKnownS0H1 = true := by kernel_rfl
noncomputable abbrev walKnownS0C2 : Code := restC 4 walKnownS0C1
def walKnownS0F2 : List AV := [.bool false, .ptr 3 0, .top, .top, .int .i64 (0)] ++ List.replicate 5 (.tuple []) ++ List.replicate 58 .top ++ [.tuple [], .top] ++ List.replicate 46 (.tuple [])
def walKnownS0H2 : AHeap := [.map [(.str [119, 97, 108, 45, 53], .int .i64 (1)), (.str [119, 97, 108, 45, 54], .int .i64 (2))], .cells true [.map 0, .map 6, .nils, .int .i64 (2)], .map [(.int .i64 (1), .ptr 4 0), (.int .i64 (2), .ptr 5 0)], .cells true [.ptr 1 0, .map 2, .int .i64 (100), .int .i64 (9), .int .i64 (0), .bool false], .cells true [.str [3, 1, 1, 97, 74, 122, 157, 17, 3, 1, 2, 98, 51, 120, 185, 163], .nils, .str [3, 1, 1, 97, 74, 122, 157, 17, 3, 1, 2, 98, 51, 120, 185, 163]], .cells true [.str [3, 1, 3, 99, 228, 121, 165, 205], .nils, .str [3, 1, 3, 99, 228, 121, 165, 205]], .map [(.str [119, 97, 108, 45, 53], .int .i64 (1)), (.str [119, 97, 108, 45, 54], .int .i64 (2))]]
theorem walKnownS0_k2 : kendM 0 (acodeN Tryz.prog (runGK Tryz.prog walKnownS0G 400 walKnownInl 30) 400 true 4 walKnownS0C1 walKnownS0F1 walKnownS0H1) walKnownS0F2 walKnownS0H2 = true := by kernel_rfl
noncomputable abbrev walKnownS0C3 : Code := restC 6 walKnownS0C2
def walKnownS0F3 : List AV := [.bool true] ++ List.replicate 115 .top
def walKnownS0H3 : AHeap := []
theorem walKnownS0_k3 : kendM 0 (acodeN Tryz.prog (runGK Tryz.prog walKnownS0G 400 walKnownInl 30) 400 true 6 walKnownS0C2 walKnownS0F2 walKnownS0H2) walKnownS0F3 walKnownS0H3 = true := by kernel_rfl
theorem walKnownS0_end : kretB Tryz.prog Tryz.f5.results.toList (acodeK Tryz.prog (runGK Tryz.prog walKnownS0G 400 walKnownInl 30) 400 true walKnownS0C3 walKnownS0F3 walKnownS0H3) = true := by kernel_rfl
theorem walKnownS0_ct : Ct Tryz.prog 5 [] [] (.bool true) [] := by
  have hΓ := gok_runK hmix walKnownS0G_ok 400 walKnownInl 30
  refine ct_of_sim (c := walKnownS0C0) Tryz.func5 (by kernel_rfl) ?_
  refine Sim.kmanyM (n := 400) hmix hΓ 2 walKnownS0_k1 (Nat.zero_le _) ?_
  refine Sim.kmanyM (n := 400) hmix hΓ 4 walKnownS0_k2 (Nat.zero_le _) ?_
  refine Sim.kmanyM (n := 400) hmix hΓ 6 walKnownS0_k3 (Nat.zero_le _) ?_
  exact Sim.kret (n := 400) hmix hΓ walKnownS0_end

theorem walKnownS0_sound : Sound Tryz.prog 5 trueK := trueK_sound Tryz.func5 rfl (by decide) walKnownS0_ct

def walKnownG : Gam := gams [(5, trueK), (99, keysS), (98, sortedS), (97, mcloneS), (71, joinS2), (85, itoaS)]
theorem walKnownG_ok : GOk Tryz.prog walKnownG := goks_cons walKnownS0_sound (goks_cons keys_sound (goks_cons sorted_sound (goks_cons mclone_sound (goks_cons join_sound2 (goks_cons itoa_sound goks_nil)))))
noncomputable abbrev walKnownC0 : Code := bodyOf Tryz.f3
noncomputable abbrev walKnownF0 : List AV := [] ++ List.replicate (Tryz.f3.ntmps - 0) undefA
abbrev walKnownH0 : AHeap := []
noncomputable abbrev walKnownC1 : Code := restC 9 walKnownC0
def walKnownF1 : List AV := [.bool false, .nilp, .ptr 3 0, .ptr 4 0, .int .i64 (0), .int .i64 (17), .int .i64 (11), .ptr 10 0] ++ List.replicate 8 (.tuple []) ++ List.replicate 22 .top ++ List.replicate 164 (.tuple [])
def walKnownH1 : AHeap := [.map [(.str [119, 97, 108, 45, 49, 48, 48, 48, 48, 48, 48, 48, 48, 48], .int .i64 (1))], .cells true [.map 0, .map 6, .nils, .int .i64 (1)], .map [(.int .i64 (1), .ptr 5 0)], .cells true [.ptr 1 0, .map 2, .int .i64 (1000), .int .i64 (4), .int .i64 (0), .bool false], .cells true [.ptr 3 0, .int .i64 (1), .int .i64 (1000000000), .int .i64 (1000000001), .int .i64 (1), .bool true], .cells true [.str [3, 1, 0, 97, 11, 75, 134, 8], .nils, .str [3, 1, 0, 97, 11, 75, 134, 8]], .map [(.str [119, 97, 108, 45, 49, 48, 48, 48, 48, 48, 48, 48, 48, 48], .int .i64 (1))], .map [], .cells true [.map 7, .map 11, .slice 14 0 1 2 false, .int .i64 (1)], .map [(.int .i64 (1), .ptr 15 0)], .cells true [.ptr 8 0, .map 9, .int .i64 (1000), .int .i64 (1), .int .i64 (0), .bool false], .map [(.str [119, 97, 108, 45, 50], .int .i64 (1))], .cells true [.str [119, 97, 108, 45, 50]], .cells true [.int .i64 (1)], .cells true [.str [99, 114, 101, 97, 116, 101], .func 78 [] [.ptr 13 0, .ptr 12 0]], .cells true [.str [], .nils, .str []]]
theorem walKnown_k1 : kendM 0 (acodeN Tryz.prog (runGK Tryz.prog walKnownG 400 walKnownInl 30) 400 true 9 walKnownC0 walKnownF0 walKnownH0) walKnownF1 walKnownH1 = true := by kernel_rfl
noncomputable abbrev walKnownC2 : Code := restC 5 walKnownC1
def walKnownF2 : List AV := [.bool false, .nilp, .ptr 3 0, .ptr 4 0, .int .i64 (0), .int .i64 (17), .int .i64 (11), .ptr 10 0, .ptr 16 0, .int .i64 (0), .int .i64 (8), .ptr 17 0, .int .i64 (7), .int .i64 (0), .tuple [], .tuple []] ++ List.replicate 41 .top ++ List.replicate 145 (.tuple [])
def walKnownH2 : AHeap := [.map [(.str [119, 97, 108, 45, 49, 48, 48, 48, 48, 48, 48, 48, 48, 48], .int .i64 (1))], .cells true [.map 0, .map 6, .nils, .int .i64 (1)], .map [(.int .i64 (1), .ptr 5 0)], .cells true [.ptr 1 0, .map 2, .int .i64 (1000), .int .i64 (4), .int .i64 (0), .bool false], .cells true [.ptr 3 0, .int .i64 (1), .int .i64 (1000000000), .int .i64 (1000000001), .int .i64 (1), .bool true], .cells true [.str [3, 1, 0, 97, 11, 75, 134, 8], .nils, .str [3, 1, 0, 97, 11, 75, 134, 8]], .map [(.str [119, 97, 108, 45, 49, 48, 48, 48, 48, 48, 48, 48, 48, 48], .int .i64 (1))], .map [], .cells true [.map 7, .map 11, .slice 14 0 1 2 false, .int .i64 (1)], .map [(.int .i64 (1), .ptr 15 0)], .cells true [.ptr 8 0, .map 9, .int .i64 (1000), .int .i64 (4), .int .i64 (0), .bool false], .map [(.str [119, 97, 108, 45, 50], .int .i64 (1))], .cells true [.str [119, 97, 108, 45, 50]], .cells true [.int .i64 (1)], .cells true [.str [99, 114, 101, 97, 116, 101], .func 78 [] [.ptr 13 0, .ptr 12 0]], .cells true [.str [], .slice 20 0 2 1 false, .str [5, 1, 249, 44, 1, 120, 70, 55, 147, 81, 2, 2, 121, 102, 166, 42, 231]], .cells true [.ptr 10 0, .int .i64 (9), .int .i64 (0), .int .i64 (2), .int .i64 (0), .bool true], .cells true [.ptr 10 0, .int .i64 (99), .int .i64 (2), .int .i64 (3), .int .i64 (2), .bool false], .cells true [.str [5, 1, 249, 44, 1, 120, 70, 55, 147, 81]], .cells true [.str [2, 2, 121, 102, 166, 42, 231]], .cells true [.func 112 [] [.ptr 18 0], .func 112 [] [.ptr 19 0]]]
theorem walKnown_k2 : kendM 0 (acodeN Tryz.prog (runGK Tryz.prog walKnownG 400 walKnownInl 30) 400 true 5 walKnownC1 walKnownF1 walKnownH1) walKnownF2 walKnownH2 = true := by kernel_rfl
noncomputable abbrev walKnownC3 : Code := restC 3 walKnownC2
def walKnownF3 : List AV := [.bool true] ++ List.replicate 201 .top
def walKnownH3 : AHeap := []
theorem walKnown_k3 : kendM 0 (acodeN Tryz.prog (runGK Tryz.prog walKnownG 400 walKnownInl 30) 400 true 3 walKnownC2 walKnownF2 walKnownH2) walKnownF3 walKnownH3 = true := by kernel_rfl
theorem walKnown_end : kretB Tryz.prog Tryz.f3.results.toList (acodeK Tryz.prog (runGK Tryz.prog walKnownG 400 walKnownInl 30) 400 true walKnownC3 walKnownF3 walKnownH3) = true := by kernel_rfl
theorem walKnown_ct : Ct Tryz.prog 3 [] [] (.bool true) [] := by
  have hΓ := gok_runK hmix walKnownG_ok 400 walKnownInl 30
  refine ct_of_sim (c := walKnownC0) Tryz.func3 (by kernel_rfl) ?_
  refine Sim.kmanyM (n := 400) hmix hΓ 9 walKnown_k1 (Nat.zero_le _) ?_
  refine Sim.kmanyM (n := 400) hmix hΓ 5 walKnown_k2 (Nat.zero_le _) ?_
  refine Sim.kmanyM (n := 400) hmix hΓ 3 walKnown_k3 (Nat.zero_le _) ?_
  exact Sim.kret (n := 400) hmix hΓ walKnown_end

def walKnown_shape : List (Bool × List CT) := []

theorem walKnown_law : ∀ xs H, AbsArgs walKnown_shape 0 xs H → ∃ H', Ct Tryz.prog 3 xs H (.bool true) H' := by
  intro xs H h0
  obtain ⟨rfl, rfl⟩ := absArgs_nil h0
  exact ⟨[], walKnown_ct⟩

end Go.Proofs.YtpimpapaddmjmaaGreatDoor
