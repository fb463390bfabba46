/- What the closed law cedillalaw08.DiskKnown reaches, run by the kernel in parts. -/
import Derived.Test.YtpimpapaddmjmaaGreatDc
import Derived.Test.YtpimpapaddmjmaaGreatLaj
import Derived.Test.YtpimpapaddmjmaaGreatGe
import Derived.Test.YtpimpapaddmjmaaGreatBz
namespace Go.Proofs.YtpimpapaddmjmaaGreat
open Go
set_option maxRecDepth 100000

def diskKnownInl : List FuncId := [5, 6, 7, 8, 9, 11, 12, 13, 14, 15, 16, 17, 18, 19, 20, 21, 22, 23, 24, 25, 26, 27, 28, 29, 30, 31, 32, 33, 34, 36, 37, 38, 39, 40, 41, 45, 46, 47, 48, 49, 50, 51, 52, 53, 54, 55, 56, 57, 58, 59, 60, 61, 62, 63, 64, 65, 69, 70, 71, 72, 73, 75, 79, 80, 83, 84, 85, 88, 92, 131, 132]

def trueK : Summ := pureS fun | [] => some (.bool true) | _ => none
theorem trueK_sound {f : FuncId} {fn : Func} (hf : Tryz.prog.funcs[f]? = some fn) (hb : fn.body.isSome = true) (hn : (fn.name == "runtime.NumGoroutine") = false) (h : Ct Tryz.prog f [] [] (.bool true) []) : Sound Tryz.prog f trueK := by
  refine sound_pure (enter_of hf hb hn) fun args v hv => ?_
  split at hv <;> cases hv
  exact ⟨h, rfl, rfl⟩

noncomputable def diskKnownS0G : Gam := gams [(82, keysS), (81, sortedS), (74, mcloneS), (35, joinS2), (10, dcopyS)]
theorem diskKnownS0G_ok : GOk Tryz.prog diskKnownS0G := goks_cons keys_sound (goks_cons sorted_sound (goks_cons mclone_sound (goks_cons join_sound2 (goks_cons dcopy_sound goks_nil))))
noncomputable abbrev diskKnownS0C0 : Code := bodyOf Tryz.f4
noncomputable abbrev diskKnownS0F0 : List AV := [] ++ List.replicate (Tryz.f4.ntmps - 0) undefA
abbrev diskKnownS0H0 : AHeap := []
noncomputable abbrev diskKnownS0C1 : Code := restC 6 diskKnownS0C0
def diskKnownS0F1 : List AV := [.bool false, .ptr 2 0, .int .i64 (0), .int .i64 (0), .int .i64 (10), .bool true, .ptr 8 0, .ptr 16 0, .tuple [], .tuple [], .tuple [], .tuple []] ++ List.replicate 16 .top ++ [.tuple [], .tuple [], .top, .tuple [], .tuple [], .top, .tuple [], .tuple [], .top] ++ List.replicate 51 (.tuple [])
def diskKnownS0H1 : AHeap := [.map [], .cells true [.map 0, .map 3, .nils, .int .i64 (1)], .cells true [.ptr 1 0, .map 4, .int .i64 (10), .int .i64 (3), .int .i64 (0), .bool false], .map [], .map [], .map [(.str [97], .int .i64 (1))], .cells true [.map 5, .map 10, .nils, .int .i64 (1)], .map [(.int .i64 (1), .ptr 9 0)], .cells true [.ptr 6 0, .map 7, .int .i64 (10), .int .i64 (5), .int .i64 (0), .bool false], .cells true [.str [120, 121], .slice 12 0 1 1 false, .str [120, 121, 122]], .map [(.str [97], .int .i64 (1))], .cells true [.str [122]], .cells true [.func 70 [] [.ptr 11 0]], .map [(.str [97], .int .i64 (1))], .cells true [.map 13, .map 18, .nils, .int .i64 (1)], .map [(.int .i64 (1), .ptr 17 0)], .cells true [.ptr 14 0, .map 15, .int .i64 (10), .int .i64 (5), .int .i64 (0), .bool false], .cells true [.str [120, 121], .slice 20 0 1 1 false, .str [120, 121, 122]], .map [(.str [97], .int .i64 (1))], .cells true [.str [122]], .cells true [.func 70 [] [.ptr 19 0]]]
theorem diskKnownS0_k1 : kendM 0 (acodeN Tryz.prog (runGK Tryz.prog diskKnownS0G 400 diskKnownInl 30) 400 true 6 diskKnownS0C0 diskKnownS0F0 diskKnownS0H0) diskKnownS0F1 diskKnownS0H1 = true := by kernel_rfl
noncomputable abbrev diskKnownS0C2 : Code := restC 6 diskKnownS0C1
def diskKnownS0F2 : List AV := [.bool true] ++ List.replicate 87 .top
def diskKnownS0H2 : AHeap := []
theorem diskKnownS0_k2 : kendM 0 (acodeN Tryz.prog (runGK Tryz.prog diskKnownS0G 400 diskKnownInl 30) 400 true 6 diskKnownS0C1 diskKnownS0F1 diskKnownS0H1) diskKnownS0F2 diskKnownS0H2 = true := by kernel_rfl
theorem diskKnownS0_end : kretB Tryz.prog Tryz.f4.results.toList (acodeK Tryz.prog (runGK Tryz.prog diskKnownS0G 400 diskKnownInl 30) 400 true diskKnownS0C2 diskKnownS0F2 diskKnownS0H2) = true := by kernel_rfl
theorem diskKnownS0_ct : Ct Tryz.prog 4 [] [] (.bool true) [] := by
  have hΓ := gok_runK hmix diskKnownS0G_ok 400 diskKnownInl 30
  refine ct_of_sim (c := diskKnownS0C0) Tryz.func4 (by kernel_rfl) ?_
  refine Sim.kmanyM (n := 400) hmix hΓ 6 diskKnownS0_k1 (Nat.zero_le _) ?_
  refine Sim.kmanyM (n := 400) hmix hΓ 6 diskKnownS0_k2 (Nat.zero_le _) ?_
  exact Sim.kret (n := 400) hmix hΓ diskKnownS0_end

theorem diskKnownS0_sound : Sound Tryz.prog 4 trueK := trueK_sound Tryz.func4 rfl (by decide) diskKnownS0_ct

noncomputable def diskKnownG : Gam := gams [(4, trueK), (82, keysS), (81, sortedS), (74, mcloneS), (35, joinS2), (10, dcopyS)]
theorem diskKnownG_ok : GOk Tryz.prog diskKnownG := goks_cons diskKnownS0_sound (goks_cons keys_sound (goks_cons sorted_sound (goks_cons mclone_sound (goks_cons join_sound2 (goks_cons dcopy_sound goks_nil)))))
noncomputable abbrev diskKnownC0 : Code := bodyOf Tryz.f3
noncomputable abbrev diskKnownF0 : List AV := [] ++ List.replicate (Tryz.f3.ntmps - 0) undefA
abbrev diskKnownH0 : AHeap := []
noncomputable abbrev diskKnownC1 : Code := restC 11 diskKnownC0
def diskKnownF1 : List AV := [.bool false, .nilp, .ptr 3 0, .int .i64 (0), .int .i64 (0), .int .i64 (0), .int .i64 (0), .ptr 14 0, .ptr 22 0, .tuple [], .tuple [], .top, .tuple [], .top] ++ List.replicate 7 (.tuple []) ++ List.replicate 29 .top ++ [.tuple [], .tuple [], .tuple [], .top] ++ List.replicate 216 (.tuple [])
def diskKnownH1 : AHeap := [.map [(.str [98], .int .i64 (1)), (.str [97], .int .i64 (2))], .cells true [.map 0, .map 6, .slice 13 0 2 2 false, .int .i64 (3)], .map [(.int .i64 (1), .ptr 4 0), (.int .i64 (2), .ptr 5 0), (.int .i64 (3), .ptr 9 0)], .cells true [.ptr 1 0, .map 2, .int .i64 (9), .int .i64 (4), .int .i64 (0), .bool false], .cells true [.str [111, 108, 100], .nils, .str [111, 108, 100]], .cells true [.str [120], .nils, .str [120]], .map [(.str [98], .int .i64 (3)), (.str [97], .int .i64 (2))], .cells true [.str [116]], .cells true [.int .i64 (3)], .cells true [.str [110, 101, 119, 101, 114], .nils, .str [110, 101, 119, 101, 114]], .cells true [.str [116]], .cells true [.str [98]], .cells true [.int .i64 (3)], .cells true [.str [99, 114, 101, 97, 116, 101], .func 63 [] [.ptr 8 0, .ptr 7 0], .str [114, 101, 110, 97, 109, 101], .func 73 [] [.ptr 10 0, .ptr 12 0, .ptr 11 0]], .cells true [.ptr 16 0, .map 21, .int .i64 (9), .int .i64 (4), .int .i64 (0), .bool false], .map [(.str [98], .int .i64 (1)), (.str [97], .int .i64 (2)), (.str [116], .int .i64 (3))], .cells true [.map 15, .map 20, .nils, .int .i64 (3)], .cells true [.str [111, 108, 100], .nils, .str [111, 108, 100]], .cells true [.str [120], .nils, .str [120]], .cells true [.str [110, 101, 119, 101, 114], .nils, .str [110, 101, 119, 101, 114]], .map [(.str [98], .int .i64 (1)), (.str [97], .int .i64 (2)), (.str [116], .int .i64 (3))], .map [(.int .i64 (2), .ptr 18 0), (.int .i64 (1), .ptr 17 0), (.int .i64 (3), .ptr 19 0)], .cells true [.ptr 24 0, .map 28, .int .i64 (9), .int .i64 (4), .int .i64 (0), .bool false], .map [(.str [98], .int .i64 (3)), (.str [97], .int .i64 (2))], .cells true [.map 23, .map 27, .nils, .int .i64 (3)], .cells true [.str [120], .nils, .str [120]], .cells true [.str [110, 101, 119, 101, 114], .nils, .str [110, 101, 119, 101, 114]], .map [(.str [98], .int .i64 (3)), (.str [97], .int .i64 (2))], .map [(.int .i64 (2), .ptr 25 0), (.int .i64 (3), .ptr 26 0)]]
theorem diskKnown_k1 : kendM 0 (acodeN Tryz.prog (runGK Tryz.prog diskKnownG 400 diskKnownInl 30) 400 true 11 diskKnownC0 diskKnownF0 diskKnownH0) diskKnownF1 diskKnownH1 = true := by kernel_rfl
noncomputable abbrev diskKnownC2 : Code := restC 7 diskKnownC1
def diskKnownF2 : List AV := [.bool false, .nilp, .ptr 3 0, .int .i64 (0), .int .i64 (0), .int .i64 (0), .int .i64 (0), .top, .top, .top, .bool true, .top, .int .i64 (9), .top, .int .i64 (17), .int .i64 (5), .int .i64 (0), .ptr 17 0, .tuple [], .tuple [], .tuple []] ++ List.replicate 74 .top ++ List.replicate 175 (.tuple [])
def diskKnownH2 : AHeap := [.map [(.str [98], .int .i64 (1)), (.str [97], .int .i64 (2))], .cells true [.map 0, .map 6, .slice 13 0 2 2 false, .int .i64 (3)], .map [(.int .i64 (1), .ptr 4 0), (.int .i64 (2), .ptr 5 0), (.int .i64 (3), .ptr 9 0)], .cells true [.ptr 1 0, .map 2, .int .i64 (9), .int .i64 (4), .int .i64 (0), .bool false], .cells true [.str [111, 108, 100], .nils, .str [111, 108, 100]], .cells true [.str [120], .nils, .str [120]], .map [(.str [98], .int .i64 (3)), (.str [97], .int .i64 (2))], .cells true [.str [116]], .cells true [.int .i64 (3)], .cells true [.str [110, 101, 119, 101, 114], .nils, .str [110, 101, 119, 101, 114]], .cells true [.str [116]], .cells true [.str [98]], .cells true [.int .i64 (3)], .cells true [.str [99, 114, 101, 97, 116, 101], .func 63 [] [.ptr 8 0, .ptr 7 0], .str [114, 101, 110, 97, 109, 101], .func 73 [] [.ptr 10 0, .ptr 12 0, .ptr 11 0]], .map [(.str [122], .int .i64 (1))], .cells true [.map 14, .map 19, .nils, .int .i64 (1)], .map [(.int .i64 (1), .ptr 18 0)], .cells true [.ptr 15 0, .map 16, .int .i64 (3), .int .i64 (0), .int .i64 (0), .bool false], .cells true [.str [49, 50, 51, 52, 53], .nils, .str [49, 50, 51, 52, 53]], .map [(.str [122], .int .i64 (1))]]
theorem diskKnown_k2 : kendM 0 (acodeN Tryz.prog (runGK Tryz.prog diskKnownG 400 diskKnownInl 30) 400 true 7 diskKnownC1 diskKnownF1 diskKnownH1) diskKnownF2 diskKnownH2 = true := by kernel_rfl
noncomputable abbrev diskKnownC3 : Code := restC 4 diskKnownC2
def diskKnownF3 : List AV := [.bool true] ++ List.replicate 269 .top
def diskKnownH3 : AHeap := []
theorem diskKnown_k3 : kendM 0 (acodeN Tryz.prog (runGK Tryz.prog diskKnownG 400 diskKnownInl 30) 400 true 4 diskKnownC2 diskKnownF2 diskKnownH2) diskKnownF3 diskKnownH3 = true := by kernel_rfl
theorem diskKnown_end : kretB Tryz.prog Tryz.f3.results.toList (acodeK Tryz.prog (runGK Tryz.prog diskKnownG 400 diskKnownInl 30) 400 true diskKnownC3 diskKnownF3 diskKnownH3) = true := by kernel_rfl
theorem diskKnown_ct : Ct Tryz.prog 3 [] [] (.bool true) [] := by
  have hΓ := gok_runK hmix diskKnownG_ok 400 diskKnownInl 30
  refine ct_of_sim (c := diskKnownC0) Tryz.func3 (by kernel_rfl) ?_
  refine Sim.kmanyM (n := 400) hmix hΓ 11 diskKnown_k1 (Nat.zero_le _) ?_
  refine Sim.kmanyM (n := 400) hmix hΓ 7 diskKnown_k2 (Nat.zero_le _) ?_
  refine Sim.kmanyM (n := 400) hmix hΓ 4 diskKnown_k3 (Nat.zero_le _) ?_
  exact Sim.kret (n := 400) hmix hΓ diskKnown_end

def diskKnown_shape : List (Bool × List CT) := []

theorem diskKnown_law : ∀ xs H, AbsArgs diskKnown_shape 0 xs H → ∃ H', Ct Tryz.prog 3 xs H (.bool true) H' := by
  intro xs H h0
  obtain ⟨rfl, rfl⟩ := absArgs_nil h0
  exact ⟨[], diskKnown_ct⟩

end Go.Proofs.YtpimpapaddmjmaaGreat
