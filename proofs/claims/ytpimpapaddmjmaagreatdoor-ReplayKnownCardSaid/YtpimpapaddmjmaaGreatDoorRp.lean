/- What the closed law cedillalaw11.ReplayKnown reaches, run by the kernel in parts. -/
import Derived.Test.YtpimpapaddmjmaaGreatDoorIt
import Derived.Test.YtpimpapaddmjmaaGreatDoorSa
import Derived.Test.YtpimpapaddmjmaaGreatDoorLaj
import Derived.Test.YtpimpapaddmjmaaGreatDoorGe
import Derived.Test.YtpimpapaddmjmaaGreatDoorBz
namespace Go.Proofs.YtpimpapaddmjmaaGreatDoor
open Go
set_option maxRecDepth 100000

def replayKnownInl : List FuncId := [19, 9, 47, 28, 48, 51, 23, 26, 94, 57, 92, 56, 107, 69, 58, 40, 61, 128, 93, 59, 86, 95, 111, 102, 78, 42, 65, 64, 89, 63, 54, 77, 25, 21, 127, 162, 190, 161, 189, 126, 91, 125, 159, 90, 60, 27, 55, 166, 157, 106, 137, 201, 200, 6, 20, 88, 43, 53, 76, 150, 151, 152, 153, 154, 155, 156, 123, 148, 105, 188, 149, 50, 45, 79, 83, 84, 80, 17, 49, 18, 22, 52, 122, 87, 124, 134, 103, 135, 81, 120, 142, 169, 146, 165, 46, 140, 119, 118, 133, 100, 175, 82, 145, 116]

def trueK : Summ := pureS fun | [] => some (.bool true) | _ => none
theorem trueK_sound {f : FuncId} {fn : Func} (hf : Tryz.prog.funcs[f]? = some fn) (hb : fn.body.isSome = true) (hn : (fn.name == "runtime.NumGoroutine") = false) (h : Ct Tryz.prog f [] [] (.bool true) []) : Sound Tryz.prog f trueK := by
  refine sound_pure (enter_of hf hb hn) fun args v hv => ?_
  split at hv <;> cases hv
  exact ⟨h, rfl, rfl⟩

def replayKnownS0G : Gam := gams [(99, keysS), (98, sortedS), (97, mcloneS), (71, joinS2), (85, itoaS), (117, atoiS)]
theorem replayKnownS0G_ok : GOk Tryz.prog replayKnownS0G := goks_cons keys_sound (goks_cons sorted_sound (goks_cons mclone_sound (goks_cons join_sound2 (goks_cons itoa_sound (goks_cons atoi_sound goks_nil)))))
noncomputable abbrev replayKnownS0C0 : Code := bodyOf Tryz.f24
noncomputable abbrev replayKnownS0F0 : List AV := [] ++ List.replicate (Tryz.f24.ntmps - 0) undefA
abbrev replayKnownS0H0 : AHeap := []
noncomputable abbrev replayKnownS0C1 : Code := restC 3 replayKnownS0C0
def replayKnownS0F1 : List AV := [.bool false, .slice 0 0 2 3 true, .slice 1 0 2 3 false, .int .i64 (15), .tuple [], .tuple [], .top] ++ List.replicate 9 (.tuple []) ++ List.replicate 10 .top ++ List.replicate 99 (.tuple [])
def replayKnownS0H1 : AHeap := [.cells true [.str [97], .int .u32 (1), .bool false, .str [98], .int .u32 (0), .bool true], .cells true [.str [97], .int .u32 (1), .bool false, .str [98], .int .u32 (0), .bool true]]
theorem replayKnownS0_k1 : kendM 0 (acodeN Tryz.prog (runGK Tryz.prog replayKnownS0G 400 replayKnownInl 30) 400 true 3 replayKnownS0C0 replayKnownS0F0 replayKnownS0H0) replayKnownS0F1 replayKnownS0H1 = true := by kernel_rfl
noncomputable abbrev replayKnownS0C2 : Code := restC 4 replayKnownS0C1
def replayKnownS0F2 : List AV := [.bool false, .slice 0 0 2 3 true, .slice 1 0 2 3 false, .int .i64 (15), .slice 2 1 2 1 false, .int .i64 (0), .top, .int .i64 (12), .nils, .int .i64 (0), .slice 3 0 2 2 true] ++ List.replicate 5 (.tuple []) ++ List.replicate 31 .top ++ List.replicate 78 (.tuple [])
def replayKnownS0H2 : AHeap := [.cells true [.str [97], .int .u32 (1), .bool false, .str [98], .int .u32 (0), .bool true], .cells true [.str [97], .int .u32 (1), .bool false, .str [98], .int .u32 (0), .bool true], .cells true [.int .i64 (1), .int .i64 (2), .int .i64 (3)], .cells true [.str [119, 97, 108, 45, 49], .str [3, 1, 1, 97, 74, 122, 157, 17], .str [119, 97, 108, 45, 50], .str [3, 1, 2, 98, 51, 120, 185, 163, 120, 121]]]
theorem replayKnownS0_k2 : kendM 0 (acodeN Tryz.prog (runGK Tryz.prog replayKnownS0G 400 replayKnownInl 30) 400 true 4 replayKnownS0C1 replayKnownS0F1 replayKnownS0H1) replayKnownS0F2 replayKnownS0H2 = true := by kernel_rfl
noncomputable abbrev replayKnownS0C3 : Code := restC 2 replayKnownS0C2
def replayKnownS0F3 : List AV := [.bool false, .slice 0 0 2 3 true, .slice 1 0 2 3 false, .int .i64 (15), .slice 2 1 2 1 false, .int .i64 (0), .top, .int .i64 (12), .nils, .int .i64 (0), .top, .slice 3 0 2 2 true, .ptr 6 0, .int .i64 (0), .tuple [], .tuple []] ++ List.replicate 43 .top ++ List.replicate 66 (.tuple [])
def replayKnownS0H3 : AHeap := [.cells true [.str [97], .int .u32 (1), .bool false, .str [98], .int .u32 (0), .bool true], .cells true [.str [97], .int .u32 (1), .bool false, .str [98], .int .u32 (0), .bool true], .cells true [.int .i64 (1), .int .i64 (2), .int .i64 (3)], .cells true [.str [119, 97, 108, 45, 49], .str [3, 1, 1, 97, 74, 122, 157, 17, 120, 121], .str [119, 97, 108, 45, 50], .str [3, 1, 2, 98, 51, 120, 185, 163]], .cells true [.int .i64 (1), .int .i64 (2)], .cells true [.str [97], .int .u32 (1), .bool false, .str [98], .int .u32 (2), .bool false], .cells true [.slice 4 0 2 1 false, .slice 5 0 2 3 false, .int .i64 (8), .bool true]]
theorem replayKnownS0_k3 : kendM 0 (acodeN Tryz.prog (runGK Tryz.prog replayKnownS0G 400 replayKnownInl 30) 400 true 2 replayKnownS0C2 replayKnownS0F2 replayKnownS0H2) replayKnownS0F3 replayKnownS0H3 = true := by kernel_rfl
noncomputable abbrev replayKnownS0C4 : Code := restC 2 replayKnownS0C3
def replayKnownS0F4 : List AV := [.bool true] ++ List.replicate 124 .top
def replayKnownS0H4 : AHeap := []
theorem replayKnownS0_k4 : kendM 0 (acodeN Tryz.prog (runGK Tryz.prog replayKnownS0G 400 replayKnownInl 30) 400 true 2 replayKnownS0C3 replayKnownS0F3 replayKnownS0H3) replayKnownS0F4 replayKnownS0H4 = true := by kernel_rfl
theorem replayKnownS0_end : kretB Tryz.prog Tryz.f24.results.toList (acodeK Tryz.prog (runGK Tryz.prog replayKnownS0G 400 replayKnownInl 30) 400 true replayKnownS0C4 replayKnownS0F4 replayKnownS0H4) = true := by kernel_rfl
theorem replayKnownS0_ct : Ct Tryz.prog 24 [] [] (.bool true) [] := by
  have hΓ := gok_runK hmix replayKnownS0G_ok 400 replayKnownInl 30
  refine ct_of_sim (c := replayKnownS0C0) Tryz.func24 (by kernel_rfl) ?_
  refine Sim.kmanyM (n := 400) hmix hΓ 3 replayKnownS0_k1 (Nat.zero_le _) ?_
  refine Sim.kmanyM (n := 400) hmix hΓ 4 replayKnownS0_k2 (Nat.zero_le _) ?_
  refine Sim.kmanyM (n := 400) hmix hΓ 2 replayKnownS0_k3 (Nat.zero_le _) ?_
  refine Sim.kmanyM (n := 400) hmix hΓ 2 replayKnownS0_k4 (Nat.zero_le _) ?_
  exact Sim.kret (n := 400) hmix hΓ replayKnownS0_end

theorem replayKnownS0_sound : Sound Tryz.prog 24 trueK := trueK_sound Tryz.func24 rfl (by decide) replayKnownS0_ct

def replayKnownG : Gam := gams [(24, trueK), (99, keysS), (98, sortedS), (97, mcloneS), (71, joinS2), (85, itoaS), (117, atoiS)]
theorem replayKnownG_ok : GOk Tryz.prog replayKnownG := goks_cons replayKnownS0_sound (goks_cons keys_sound (goks_cons sorted_sound (goks_cons mclone_sound (goks_cons join_sound2 (goks_cons itoa_sound (goks_cons atoi_sound goks_nil))))))
noncomputable abbrev replayKnownC0 : Code := bodyOf Tryz.f4
noncomputable abbrev replayKnownF0 : List AV := [] ++ List.replicate (Tryz.f4.ntmps - 0) undefA
abbrev replayKnownH0 : AHeap := []
noncomputable abbrev replayKnownC1 : Code := restC 12 replayKnownC0
def replayKnownF1 : List AV := [.bool false, .top, .int .i64 (2), .top, .int .i64 (2), .slice 0 0 1 1 false, .int .i64 (0), .top, .int .i64 (12), .top, .int .i64 (12), .top, .int .i64 (1), .ptr 4 0, .top, .int .i64 (13), .top, .int .i64 (2)] ++ List.replicate 7 (.tuple []) ++ List.replicate 43 .top ++ List.replicate 142 (.tuple [])
def replayKnownH1 : AHeap := [.cells true [.int .i64 (900000000)], .map [], .cells true [.map 1, .map 5, .nils, .int .i64 (0)], .map [], .cells true [.ptr 2 0, .map 3, .int .i64 (9), .int .i64 (1), .int .i64 (0), .bool true], .map []]
theorem replayKnown_k1 : kendM 0 (acodeN Tryz.prog (runGK Tryz.prog replayKnownG 400 replayKnownInl 30) 400 true 12 replayKnownC0 replayKnownF0 replayKnownH0) replayKnownF1 replayKnownH1 = true := by kernel_rfl
noncomputable abbrev replayKnownC2 : Code := restC 2 replayKnownC1
def replayKnownF2 : List AV := [.bool false, .top, .int .i64 (2), .top, .int .i64 (2), .slice 0 0 1 1 false, .int .i64 (0), .top, .int .i64 (12), .top, .int .i64 (12), .top, .int .i64 (1), .ptr 4 0, .top, .int .i64 (13), .top, .int .i64 (2), .ptr 6 0, .int .i64 (0), .ptr 10 0, .tuple [], .tuple [], .tuple [], .tuple []] ++ List.replicate 57 .top ++ List.replicate 128 (.tuple [])
def replayKnownH2 : AHeap := [.cells true [.int .i64 (900000000)], .map [], .cells true [.map 1, .map 5, .nils, .int .i64 (0)], .map [], .cells true [.ptr 2 0, .map 3, .int .i64 (9), .int .i64 (1), .int .i64 (0), .bool true], .map [], .cells true [.nils, .nils, .int .i64 (0), .bool false], .map [(.str [119, 97, 108, 45, 51], .int .i64 (1)), (.str [119, 97, 108, 45, 50], .int .i64 (2))], .cells true [.map 7, .map 13, .nils, .int .i64 (2)], .map [(.int .i64 (1), .ptr 11 0), (.int .i64 (2), .ptr 12 0)], .cells true [.ptr 8 0, .map 9, .int .i64 (99), .int .i64 (0), .int .i64 (0), .bool false], .cells true [.str [3, 1, 1, 97, 74, 122, 157, 17, 1, 3, 0, 0, 0, 0, 3, 1, 1, 98, 240, 43, 148, 136], .nils, .str [3, 1, 1, 97, 74, 122, 157, 17, 1, 3, 0, 0, 0, 0, 3, 1, 1, 98, 240, 43, 148, 136]], .cells true [.str [111, 108, 100], .nils, .str [111, 108, 100]], .map [(.str [119, 97, 108, 45, 51], .int .i64 (1)), (.str [119, 97, 108, 45, 50], .int .i64 (2))]]
theorem replayKnown_k2 : kendM 0 (acodeN Tryz.prog (runGK Tryz.prog replayKnownG 400 replayKnownInl 30) 400 true 2 replayKnownC1 replayKnownF1 replayKnownH1) replayKnownF2 replayKnownH2 = true := by kernel_rfl
noncomputable abbrev replayKnownC3 : Code := restC 2 replayKnownC2
def replayKnownF3 : List AV := [.bool false, .top, .int .i64 (2), .top, .int .i64 (2), .slice 0 0 1 1 false, .int .i64 (0), .top, .int .i64 (12), .top, .int .i64 (12), .top, .int .i64 (1), .ptr 4 0, .top, .int .i64 (13), .top, .int .i64 (2), .ptr 6 0, .int .i64 (0), .ptr 10 0, .ptr 16 0, .int .i64 (0), .int .i64 (0), .tuple []] ++ List.replicate 65 .top ++ List.replicate 120 (.tuple [])
def replayKnownH3 : AHeap := [.cells true [.int .i64 (900000000)], .map [], .cells true [.map 1, .map 5, .nils, .int .i64 (0)], .map [], .cells true [.ptr 2 0, .map 3, .int .i64 (9), .int .i64 (1), .int .i64 (0), .bool true], .map [], .cells true [.nils, .nils, .int .i64 (0), .bool false], .map [(.str [119, 97, 108, 45, 51], .int .i64 (1)), (.str [119, 97, 108, 45, 50], .int .i64 (2))], .cells true [.map 7, .map 13, .nils, .int .i64 (2)], .map [(.int .i64 (1), .ptr 11 0), (.int .i64 (2), .ptr 12 0)], .cells true [.ptr 8 0, .map 9, .int .i64 (99), .int .i64 (2), .int .i64 (0), .bool false], .cells true [.str [3, 1, 1, 97, 74, 122, 157, 17], .nils, .str [3, 1, 1, 97, 74, 122, 157, 17]], .cells true [.str [111, 108, 100], .nils, .str [111, 108, 100]], .map [(.str [119, 97, 108, 45, 51], .int .i64 (1)), (.str [119, 97, 108, 45, 50], .int .i64 (2))], .cells true [.int .i64 (2), .int .i64 (3)], .cells true [.str [97], .int .u32 (1), .bool false], .cells true [.slice 14 1 1 1 false, .slice 15 0 1 3 false, .int .i64 (8), .bool true]]
theorem replayKnown_k3 : kendM 0 (acodeN Tryz.prog (runGK Tryz.prog replayKnownG 400 replayKnownInl 30) 400 true 2 replayKnownC2 replayKnownF2 replayKnownH2) replayKnownF3 replayKnownH3 = true := by kernel_rfl
noncomputable abbrev replayKnownC4 : Code := restC 2 replayKnownC3
def replayKnownF4 : List AV := [.bool true] ++ List.replicate 209 .top
def replayKnownH4 : AHeap := []
theorem replayKnown_k4 : kendM 0 (acodeN Tryz.prog (runGK Tryz.prog replayKnownG 400 replayKnownInl 30) 400 true 2 replayKnownC3 replayKnownF3 replayKnownH3) replayKnownF4 replayKnownH4 = true := by kernel_rfl
theorem replayKnown_end : kretB Tryz.prog Tryz.f4.results.toList (acodeK Tryz.prog (runGK Tryz.prog replayKnownG 400 replayKnownInl 30) 400 true replayKnownC4 replayKnownF4 replayKnownH4) = true := by kernel_rfl
theorem replayKnown_ct : Ct Tryz.prog 4 [] [] (.bool true) [] := by
  have hΓ := gok_runK hmix replayKnownG_ok 400 replayKnownInl 30
  refine ct_of_sim (c := replayKnownC0) Tryz.func4 (by kernel_rfl) ?_
  refine Sim.kmanyM (n := 400) hmix hΓ 12 replayKnown_k1 (Nat.zero_le _) ?_
  refine Sim.kmanyM (n := 400) hmix hΓ 2 replayKnown_k2 (Nat.zero_le _) ?_
  refine Sim.kmanyM (n := 400) hmix hΓ 2 replayKnown_k3 (Nat.zero_le _) ?_
  refine Sim.kmanyM (n := 400) hmix hΓ 2 replayKnown_k4 (Nat.zero_le _) ?_
  exact Sim.kret (n := 400) hmix hΓ replayKnown_end

def replayKnown_shape : List (Bool × List CT) := []

theorem replayKnown_law : ∀ xs H, AbsArgs replayKnown_shape 0 xs H → ∃ H', Ct Tryz.prog 4 xs H (.bool true) H' := by
  intro xs H h0
  obtain ⟨rfl, rfl⟩ := absArgs_nil h0
  exact ⟨[], replayKnown_ct⟩

end Go.Proofs.YtpimpapaddmjmaaGreatDoor
