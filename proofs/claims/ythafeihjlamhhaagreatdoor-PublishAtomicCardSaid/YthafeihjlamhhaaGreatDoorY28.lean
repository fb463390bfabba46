/- Parts of the proof of PublishAtomic: lemmas, each with its own conditions. -/
import Derived.Test.YthafeihjlamhhaaGreatDoorY24
set_option maxHeartbeats 64000000
open List renaming replicate → qbZ
open Nat renaming zero_le → qqZ
namespace Go.Proofs.YthafeihjlamhhaaGreatDoor
open _root_.Go.Proofs.Tryz renaming prog → Pz
set_option maxRecDepth 100000
section
open Go
def pubWInl : List FuncId := [148, 75, 33, 122, 54, 34, 24, 36, 41, 182, 115, 185, 118, 35, 37, 40, 209, 144, 165, 99, 53, 211, 147, 81, 121, 216, 150, 82, 105, 107, 104, 210, 215, 172, 163, 95, 103, 102, 164, 245, 183, 246, 186, 101, 97, 162, 56, 52, 244, 240, 112, 179, 285, 284, 17, 31, 166, 100, 96, 171, 94, 161, 109, 176, 50, 111, 120, 282, 242, 58, 124, 125, 98, 55, 110, 117, 51, 247, 187, 184, 116, 181, 114, 119, 174, 113, 241, 180, 302, 281, 219, 123, 303, 283, 268, 178, 106, 188, 243, 173, 236, 170, 153]
def trueK_U4 : Summ := pureS fun | [] => some (.bool true) | _ => none
theorem trueK_sound_U4 {f : FuncId} {fn : Func} (hf : Tryz.prog.funcs[f]? = some fn) (hb : fn.body.isSome = true) (hn : (fn.name == "runtime.NumGoroutine") = false) (h : Ct Pz f [] [] (.bool true) []) : Sound Pz f trueK_U4 := by
 refine sound_pure (enter_of hf hb hn) fun args v hv => ?_
 split at hv <;> cases hv
 exact ⟨h, rfl, rfl⟩
def pubWS0G : Gam := gams [(169, keysS), (168, sortedS), (167, mcloneS), (149, joinS2), (126, itoaS)]
theorem pubWS0G_ok : GOk Pz pubWS0G := goks_cons keys_sound (goks_cons sorted_sound (goks_cons mclone_sound (goks_cons join_sound2 (goks_cons itoa_sound goks_nil))))
noncomputable abbrev pubWS0C0 : Code := bodyOf Tryz.f48
noncomputable abbrev pubWS0F0 : List AV := [] ++ qbZ (Tryz.f48.ntmps - 0) undefA
abbrev pubWS0H0 : AHeap := []
noncomputable abbrev pubWS0C1 : Code := restC 5 pubWS0C0
def pubWS0F1 : List AV := [.bool false, .ptr 3 0, .ptr 4 0, .bool true, .int .i64 (0)] ++ qbZ 10 (.tuple []) ++ qbZ 8 .top ++ qbZ 34 (.tuple []) ++ [.top] ++ qbZ 42 (.tuple [])
def pubWS0H1 : AHeap := [.map [(.str [109, 97, 110, 105, 102, 101, 115, 116], .int .i64 (1))], .cells true [.map 0, .map 6, .nils, .int .i64 (1)], .map [(.int .i64 (1), .ptr 5 0)], .cells true [.ptr 1 0, .map 2, .int .i64 (500), .int .i64 (5), .int .i64 (0), .bool false], .cells true [.int .i64 (1), .int .i64 (2), .int .i64 (1), .nils], .cells true [.str [67, 77, 1, 1, 2, 1, 0, 210, 2, 10, 196], .nils, .str [67, 77, 1, 1, 2, 1, 0, 210, 2, 10, 196]], .map [(.str [109, 97, 110, 105, 102, 101, 115, 116], .int .i64 (1))]]
theorem pubWS0_k1 : kendN 0 [0, 2, 3, 4, 6, 89, 124] (acodeN Pz (runGK Pz pubWS0G 60 pubWInl 20) 60 true 5 pubWS0C0 pubWS0F0 pubWS0H0) pubWS0F1 pubWS0H1 = true := by kernel_rfl
noncomputable abbrev pubWS0C2 : Code := restC 1 pubWS0C1
def pubWS0F2 : List AV := [.bool false, .ptr 3 0, .ptr 4 0, .top, .top] ++ qbZ 10 (.tuple []) ++ qbZ 29 .top ++ qbZ 13 (.tuple []) ++ [.top] ++ qbZ 42 (.tuple [])
def pubWS0H2 : AHeap := [.map [(.str [109, 97, 110, 105, 102, 101, 115, 116], .int .i64 (1))], .cells true [.map 0, .map 6, .nils, .int .i64 (1)], .map [(.int .i64 (1), .ptr 5 0)], .cells true [.ptr 1 0, .map 2, .int .i64 (500), .int .i64 (5), .int .i64 (0), .bool false], .cells true [.int .i64 (1), .int .i64 (2), .int .i64 (1), .nils], .cells true [.str [67, 77, 1, 1, 2, 1, 0, 210, 2, 10, 196], .nils, .str [67, 77, 1, 1, 2, 1, 0, 210, 2, 10, 196]], .map [(.str [109, 97, 110, 105, 102, 101, 115, 116], .int .i64 (1))]]
theorem pubWS0_k2 : kendN 0 [0, 1, 2, 3, 4, 5, 6] (acodeN Pz (runGK Pz pubWS0G 60 pubWInl 20) 60 true 1 pubWS0C1 pubWS0F1 pubWS0H1) pubWS0F2 pubWS0H2 = true := by kernel_rfl
noncomputable abbrev pubWS0C3 : Code := restC 2 pubWS0C2
def pubWS0F3 : List AV := [.bool false, .ptr 3 0, .top, .top, .top, .int .i64 (0), .int .i64 (0)] ++ qbZ 8 (.tuple []) ++ qbZ 34 .top ++ qbZ 8 (.tuple []) ++ [.top] ++ qbZ 42 (.tuple [])
def pubWS0H3 : AHeap := [.map [(.str [109, 97, 110, 105, 102, 101, 115, 116], .int .i64 (3))], .cells true [.map 0, .map 7, .nils, .int .i64 (3)], .map [(.int .i64 (1), .ptr 4 0), (.int .i64 (2), .ptr 5 0), (.int .i64 (3), .ptr 6 0)], .cells true [.ptr 1 0, .map 2, .int .i64 (500), .int .i64 (12), .int .i64 (0), .bool false], .cells true [.str [67, 77, 1, 1, 2, 1, 0, 210, 2, 10, 196], .nils, .str [67, 77, 1, 1, 2, 1, 0, 210, 2, 10, 196]], .cells true [.str [], .nils, .str []], .cells true [.str [67, 77, 1, 1, 2, 1, 0, 210, 2, 10, 196], .nils, .str [67, 77, 1, 1, 2, 1, 0, 210, 2, 10, 196]], .map [(.str [109, 97, 110, 105, 102, 101, 115, 116], .int .i64 (3))]]
theorem pubWS0_k3 : kendN 0 [0, 1, 2, 3, 5, 14, 104, 146] (acodeN Pz (runGK Pz pubWS0G 60 pubWInl 20) 60 true 2 pubWS0C2 pubWS0F2 pubWS0H2) pubWS0F3 pubWS0H3 = true := by kernel_rfl
noncomputable abbrev pubWS0C4 : Code := restC 2 pubWS0C3
def pubWS0F4 : List AV := [.bool false, .ptr 3 0, .top, .top, .top, .int .i64 (0), .int .i64 (0), .int .i64 (12), .int .i64 (0)] ++ qbZ 6 (.tuple []) ++ qbZ 39 .top ++ [.tuple [], .tuple [], .tuple [], .top] ++ qbZ 42 (.tuple [])
def pubWS0H4 : AHeap := [.map [(.str [109, 97, 110, 105, 102, 101, 115, 116], .int .i64 (3)), (.str [115, 101, 103, 45, 49], .int .i64 (4))], .cells true [.map 0, .map 8, .nils, .int .i64 (4)], .map [(.int .i64 (1), .ptr 4 0), (.int .i64 (2), .ptr 5 0), (.int .i64 (3), .ptr 6 0), (.int .i64 (4), .ptr 7 0)], .cells true [.ptr 1 0, .map 2, .int .i64 (500), .int .i64 (16), .int .i64 (0), .bool false], .cells true [.str [67, 77, 1, 1, 2, 1, 0, 210, 2, 10, 196], .nils, .str [67, 77, 1, 1, 2, 1, 0, 210, 2, 10, 196]], .cells true [.str [], .nils, .str []], .cells true [.str [67, 77, 1, 1, 2, 1, 0, 210, 2, 10, 196], .nils, .str [67, 77, 1, 1, 2, 1, 0, 210, 2, 10, 196]], .cells true [.str [97, 98, 99], .nils, .str [97, 98, 99]], .map [(.str [109, 97, 110, 105, 102, 101, 115, 116], .int .i64 (3)), (.str [115, 101, 103, 45, 49], .int .i64 (4))]]
theorem pubWS0_k4 : kendN 0 [0, 1, 2, 3, 4, 5, 6, 29, 59] (acodeN Pz (runGK Pz pubWS0G 60 pubWInl 20) 60 true 2 pubWS0C3 pubWS0F3 pubWS0H3) pubWS0F4 pubWS0H4 = true := by kernel_rfl
noncomputable abbrev pubWS0C5 : Code := restC 4 pubWS0C4
def pubWS0F5 : List AV := [.bool false, .top, .top, .top, .top, .int .i64 (0), .int .i64 (0), .int .i64 (12), .int .i64 (0), .int .i64 (16), .str [97, 98, 99], .bool true, .ptr 3 0, .tuple [], .tuple []] ++ qbZ 51 .top ++ qbZ 34 (.tuple [])
def pubWS0H5 : AHeap := [.map [(.str [109, 97, 110, 105, 102, 101, 115, 116], .int .i64 (1))], .cells true [.map 0, .map 5, .nils, .int .i64 (1)], .map [(.int .i64 (1), .ptr 4 0)], .cells true [.ptr 1 0, .map 2, .int .i64 (9), .int .i64 (0), .int .i64 (0), .bool false], .cells true [.str [110, 111], .nils, .str [110, 111]], .map [(.str [109, 97, 110, 105, 102, 101, 115, 116], .int .i64 (1))]]
theorem pubWS0_k5 : kendN 0 [28, 30, 31, 32, 39, 41] (acodeN Pz (runGK Pz pubWS0G 60 pubWInl 20) 60 true 4 pubWS0C4 pubWS0F4 pubWS0H4) pubWS0F5 pubWS0H5 = true := by kernel_rfl
noncomputable abbrev pubWS0C6 : Code := restC 2 pubWS0C5
def pubWS0F6 : List AV := [.bool true] ++ qbZ 99 .top
def pubWS0H6 : AHeap := []
theorem pubWS0_k6 : kendN 0 [] (acodeN Pz (runGK Pz pubWS0G 60 pubWInl 20) 60 true 2 pubWS0C5 pubWS0F5 pubWS0H5) pubWS0F6 pubWS0H6 = true := by kernel_rfl
theorem pubWS0_end : kretB Pz Tryz.f48.results.toList (acodeK Pz (runGK Pz pubWS0G 60 pubWInl 20) 60 true pubWS0C6 pubWS0F6 pubWS0H6) = true := by kernel_rfl
theorem pubWS0_ct : Ct Pz 48 [] [] (.bool true) [] := by
 have hΓ := gok_runK hmix pubWS0G_ok 60 pubWInl 20
 refine ct_of_sim (c := pubWS0C0) Tryz.func48 (by kernel_rfl) ?_
 refine Sim.kmany (n := 60) hmix hΓ 5 [0, 2, 3, 4, 6, 89, 124] pubWS0_k1 (qqZ _) ?_; refine Sim.kmany (n := 60) hmix hΓ 1 [0, 1, 2, 3, 4, 5, 6] pubWS0_k2 (qqZ _) ?_; refine Sim.kmany (n := 60) hmix hΓ 2 [0, 1, 2, 3, 5, 14, 104, 146] pubWS0_k3 (qqZ _) ?_; refine Sim.kmany (n := 60) hmix hΓ 2 [0, 1, 2, 3, 4, 5, 6, 29, 59] pubWS0_k4 (qqZ _) ?_; refine Sim.kmany (n := 60) hmix hΓ 4 [28, 30, 31, 32, 39, 41] pubWS0_k5 (qqZ _) ?_; refine Sim.kmany (n := 60) hmix hΓ 2 [] pubWS0_k6 (qqZ _) ?_; exact Sim.kret (n := 60) hmix hΓ pubWS0_end
theorem pubWS0_sound : Sound Pz 48 trueK_U4 := trueK_sound_U4 Tryz.func48 rfl (by decide) pubWS0_ct
end
end Go.Proofs.YthafeihjlamhhaaGreatDoor
