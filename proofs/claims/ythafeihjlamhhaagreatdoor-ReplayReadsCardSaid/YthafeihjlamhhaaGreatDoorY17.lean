/- Parts of the proof of ReplayReads: lemmas, each with its own conditions. -/
import Derived.Test.YthafeihjlamhhaaGreatDoorY16
import Derived.Test.YthafeihjlamhhaaGreatDoorShelf
import Derived.Test.YthafeihjlamhhaaGreatDoorY15
import Derived.Test.YthafeihjlamhhaaGreatDoorY7
import Derived.Test.YthafeihjlamhhaaGreatDoorY6
namespace Go.Proofs.YthafeihjlamhhaaGreatDoor
open Go
def joinU (a : List (List UInt8)) (sep : List UInt8) : List UInt8 := match a with
  | [] => []
  | x :: r => x ++ (r.map (sep ++ ·)).flatten
theorem join_u (a : List (List UInt8)) (sep : List UInt8) : Lib.join a sep = joinU a sep := by
  cases a with
  | nil => rfl
  | cons x r => rw [Lib.join_cons]; rfl
def joinS2 : Summ := readS fun args H => match args with
  | [x, .str sep] => match rowStrs H x with
    | some a => if (joinU a sep).length ≤ 140737488355328 ∧ a.length ≤ 140737488355328 then some (.str (joinU a sep)) else none
    | none => none
  | _ => none
theorem join_sound2 : Sound Tryz.prog 149 joinS2 := by
  refine sound_read (enter_of Tryz.func149 rfl (by decide)) fun args H v h => ?_
  split at h
  rotate_left
  · cases h
  rename_i x sep
  split at h
  rotate_left
  · cases h
  rename_i a ha
  split at h <;> cases h
  rename_i hc
  refine ct_of_world rfl fun j w cargs hR hargs => ?_
  simp only [VRs] at hargs
  obtain ⟨cx, ws, e1, hx, cs, ws2, e2, hs, rfl⟩ := hargs
  subst e2
  simp only [VR] at hs
  subst hs
  have ec : cargs = #[cx, .string ⟨sep.toArray⟩] := by apply Array.ext'; rw [e1]
  subst ec
  rcases rowStrs_world hR ha hx with ⟨rfl, rfl⟩ | ⟨ad, cap, rfl, hcap, hb⟩
  · refine (Tryz.strings_Join_none none 0 ⟨sep.toArray⟩ w).mono ?_
    rintro e w' ⟨rfl, rfl⟩
    exact ⟨_, rfl, rfl, RowKit.Below.refl _ _⟩
  · rcases hb with rfl | ⟨bk, o, rfl, hbk, hcell⟩
    · refine (Tryz.strings_Join_none (some ad) cap ⟨sep.toArray⟩ w).mono ?_
      rintro e w' ⟨rfl, rfl⟩
      exact ⟨_, rfl, rfl, RowKit.Below.refl _ _⟩
    · have key := Tryz.strings_Join bk o cap (a.map fun s => ⟨s.toArray⟩) ⟨sep.toArray⟩ w (fun i x hi => by
        rw [List.getElem?_map] at hi
        obtain ⟨s, hs, rfl⟩ := Option.map_eq_some_iff.1 hi
        exact hcell i s hs) hbk (by simpa using hc.2) (by simpa using hcap)
      have em : (a.map fun s => (⟨s.toArray⟩ : ByteArray)).map (·.data.toList) = a := by
        rw [List.map_map]
        exact List.map_id'' (fun s => by simp) a
      rw [em] at key
      have ej : Lib.join a (ByteArray.mk sep.toArray).data.toList = joinU a sep := join_u a sep
      rw [ej] at key
      simp only [List.length_map] at key
      refine (key hc.1).mono ?_
      rintro e w' ⟨rfl, hb⟩
      exact ⟨_, rfl, rfl, hb⟩
end Go.Proofs.YthafeihjlamhhaaGreatDoor
namespace Go.Proofs.YthafeihjlamhhaaGreatDoor
open Go
set_option maxRecDepth 100000
def rplWInl : List FuncId := [33, 54, 34, 24, 36, 41, 37, 40, 209, 144, 207, 143, 211, 147, 81, 121, 82, 265, 208, 105, 107, 210, 215, 172, 163, 95, 103, 102, 164, 101, 97, 162, 69, 140, 200, 261, 292, 260, 291, 199, 135, 198, 258, 134, 46, 62, 244, 240, 112, 179, 285, 284, 17, 31, 108, 96, 94, 161, 251, 252, 253, 254, 255, 256, 257, 191, 249, 192, 290, 250, 58, 204, 87, 124, 125, 262, 139, 142, 67, 68, 63, 201, 136, 174, 238, 175, 239, 263, 295, 219, 123, 160, 233, 205, 268, 294, 293, 236, 170, 313, 264, 308, 153]
def trueK_U1 : Summ := pureS fun | [] => some (.bool true) | _ => none
theorem trueK_sound_U1 {f : FuncId} {fn : Func} (hf : Tryz.prog.funcs[f]? = some fn) (hb : fn.body.isSome = true) (hn : (fn.name == "runtime.NumGoroutine") = false) (h : Ct Tryz.prog f [] [] (.bool true) []) : Sound Tryz.prog f trueK_U1 := by
  refine sound_pure (enter_of hf hb hn) fun args v hv => ?_
  split at hv <;> cases hv
  exact ⟨h, rfl, rfl⟩
def rplWS0G : Gam := gams [(169, keysS), (168, sortedS), (167, mcloneS), (149, joinS2), (126, itoaS), (154, atoiS)]
theorem rplWS0G_ok : GOk Tryz.prog rplWS0G := goks_cons keys_sound (goks_cons sorted_sound (goks_cons mclone_sound (goks_cons join_sound2 (goks_cons itoa_sound (goks_cons atoi_sound goks_nil)))))
noncomputable abbrev rplWS0C0 : Code := bodyOf Tryz.f65
noncomputable abbrev rplWS0F0 : List AV := [] ++ List.replicate (Tryz.f65.ntmps - 0) undefA
abbrev rplWS0H0 : AHeap := []
noncomputable abbrev rplWS0C1 : Code := restC 3 rplWS0C0
def rplWS0F1 : List AV := [.bool false, .slice 0 0 2 3 true, .slice 1 0 2 3 false, .int .i64 (15), .tuple [], .tuple [], .top] ++ List.replicate 9 (.tuple []) ++ List.replicate 10 .top ++ List.replicate 99 (.tuple [])
def rplWS0H1 : AHeap := [.cells true [.str [97], .int .u32 (1), .bool false, .str [98], .int .u32 (0), .bool true], .cells true [.str [97], .int .u32 (1), .bool false, .str [98], .int .u32 (0), .bool true]]
theorem rplWS0_k1 : kendM 0 (acodeN Tryz.prog (runGK Tryz.prog rplWS0G 400 rplWInl 30) 400 true 3 rplWS0C0 rplWS0F0 rplWS0H0) rplWS0F1 rplWS0H1 = true := by kernel_rfl
noncomputable abbrev rplWS0C2 : Code := restC 4 rplWS0C1
def rplWS0F2 : List AV := [.bool false, .slice 0 0 2 3 true, .slice 1 0 2 3 false, .int .i64 (15), .slice 2 1 2 1 false, .int .i64 (0), .top, .int .i64 (12), .nils, .int .i64 (0), .slice 3 0 2 2 true] ++ List.replicate 5 (.tuple []) ++ List.replicate 31 .top ++ List.replicate 78 (.tuple [])
def rplWS0H2 : AHeap := [.cells true [.str [97], .int .u32 (1), .bool false, .str [98], .int .u32 (0), .bool true], .cells true [.str [97], .int .u32 (1), .bool false, .str [98], .int .u32 (0), .bool true], .cells true [.int .i64 (1), .int .i64 (2), .int .i64 (3)], .cells true [.str [119, 97, 108, 45, 49], .str [3, 1, 1, 97, 74, 122, 157, 17], .str [119, 97, 108, 45, 50], .str [3, 1, 2, 98, 51, 120, 185, 163, 120, 121]]]
theorem rplWS0_k2 : kendM 0 (acodeN Tryz.prog (runGK Tryz.prog rplWS0G 400 rplWInl 30) 400 true 4 rplWS0C1 rplWS0F1 rplWS0H1) rplWS0F2 rplWS0H2 = true := by kernel_rfl
noncomputable abbrev rplWS0C3 : Code := restC 2 rplWS0C2
def rplWS0F3 : List AV := [.bool false, .slice 0 0 2 3 true, .slice 1 0 2 3 false, .int .i64 (15), .slice 2 1 2 1 false, .int .i64 (0), .top, .int .i64 (12), .nils, .int .i64 (0), .top, .slice 3 0 2 2 true, .ptr 6 0, .int .i64 (0), .tuple [], .tuple []] ++ List.replicate 43 .top ++ List.replicate 66 (.tuple [])
def rplWS0H3 : AHeap := [.cells true [.str [97], .int .u32 (1), .bool false, .str [98], .int .u32 (0), .bool true], .cells true [.str [97], .int .u32 (1), .bool false, .str [98], .int .u32 (0), .bool true], .cells true [.int .i64 (1), .int .i64 (2), .int .i64 (3)], .cells true [.str [119, 97, 108, 45, 49], .str [3, 1, 1, 97, 74, 122, 157, 17, 120, 121], .str [119, 97, 108, 45, 50], .str [3, 1, 2, 98, 51, 120, 185, 163]], .cells true [.int .i64 (1), .int .i64 (2)], .cells true [.str [97], .int .u32 (1), .bool false, .str [98], .int .u32 (2), .bool false], .cells true [.slice 4 0 2 1 false, .slice 5 0 2 3 false, .int .i64 (8), .bool true]]
theorem rplWS0_k3 : kendM 0 (acodeN Tryz.prog (runGK Tryz.prog rplWS0G 400 rplWInl 30) 400 true 2 rplWS0C2 rplWS0F2 rplWS0H2) rplWS0F3 rplWS0H3 = true := by kernel_rfl
noncomputable abbrev rplWS0C4 : Code := restC 2 rplWS0C3
def rplWS0F4 : List AV := [.bool true] ++ List.replicate 124 .top
def rplWS0H4 : AHeap := []
theorem rplWS0_k4 : kendM 0 (acodeN Tryz.prog (runGK Tryz.prog rplWS0G 400 rplWInl 30) 400 true 2 rplWS0C3 rplWS0F3 rplWS0H3) rplWS0F4 rplWS0H4 = true := by kernel_rfl
theorem rplWS0_end : kretB Tryz.prog Tryz.f65.results.toList (acodeK Tryz.prog (runGK Tryz.prog rplWS0G 400 rplWInl 30) 400 true rplWS0C4 rplWS0F4 rplWS0H4) = true := by kernel_rfl
theorem rplWS0_ct : Ct Tryz.prog 65 [] [] (.bool true) [] := by
  have hΓ := gok_runK hmix rplWS0G_ok 400 rplWInl 30
  refine ct_of_sim (c := rplWS0C0) Tryz.func65 (by kernel_rfl) ?_
  refine Sim.kmanyM (n := 400) hmix hΓ 3 rplWS0_k1 (Nat.zero_le _) ?_
  refine Sim.kmanyM (n := 400) hmix hΓ 4 rplWS0_k2 (Nat.zero_le _) ?_
  refine Sim.kmanyM (n := 400) hmix hΓ 2 rplWS0_k3 (Nat.zero_le _) ?_
  refine Sim.kmanyM (n := 400) hmix hΓ 2 rplWS0_k4 (Nat.zero_le _) ?_
  exact Sim.kret (n := 400) hmix hΓ rplWS0_end
theorem rplWS0_sound : Sound Tryz.prog 65 trueK_U1 := trueK_sound_U1 Tryz.func65 rfl (by decide) rplWS0_ct
end Go.Proofs.YthafeihjlamhhaaGreatDoor
