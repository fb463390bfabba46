/- The types of the translation: their sizes and their zeros, as facts (printed by wip/tools/types.lean). -/
import Derived.Test.YthafeihjlamhhaaGreatDoorY3
import Derived.Test.YthafeihjlamhhaaGreatDoorProg
namespace Go.Proofs.YthafeihjlamhhaaGreatDoor
open _root_.Go.Proofs.Tryz renaming prog → Pz
open Go
theorem hmix : Tryz.prog.follows .mixedOrders = true := by kernel_rfl
@[simp] theorem z0 : zD Pz 0 = some 1 /\ zB Pz 0 = some 0 /\ zF Pz 0 = some (.tuple []) := ⟨by kernel_rfl, by kernel_rfl, by kernel_rfl⟩
@[simp] theorem z1 : zD Pz 1 = some 1 /\ zB Pz 1 = some 8 /\ zF Pz 1 = some (.nilf) := ⟨by kernel_rfl, by kernel_rfl, by kernel_rfl⟩
@[simp] theorem z2 : zD Pz 2 = some 1 /\ zB Pz 2 = some 8 /\ zF Pz 2 = some (.int .i64 (0)) := ⟨by kernel_rfl, by kernel_rfl, by kernel_rfl⟩
@[simp] theorem z3 : zD Pz 3 = some 1 /\ zB Pz 3 = some 8 /\ zF Pz 3 = some (.int .i64 (0)) := ⟨by kernel_rfl, by kernel_rfl, by kernel_rfl⟩
@[simp] theorem z4 : zD Pz 4 = some 1 /\ zB Pz 4 = some 1 /\ zF Pz 4 = some (.bool false) := ⟨by kernel_rfl, by kernel_rfl, by kernel_rfl⟩
@[simp] theorem z5 : zD Pz 5 = some 1 /\ zB Pz 5 = some 1 /\ zF Pz 5 = some (.int .u8 (0)) := ⟨by kernel_rfl, by kernel_rfl, by kernel_rfl⟩
@[simp] theorem z6 : zD Pz 6 = some 1 /\ zB Pz 6 = some 1 /\ zF Pz 6 = some (.int .u8 (0)) := ⟨by kernel_rfl, by kernel_rfl, by kernel_rfl⟩
@[simp] theorem z7 : zD Pz 7 = some 4 /\ zB Pz 7 = some 24 /\ zF Pz 7 = some (.agg [.int .i64 (0), .int .i64 (0), .bool false, .int .u8 (0)]) := ⟨by kernel_rfl, by kernel_rfl, by kernel_rfl⟩
@[simp] theorem z8 : zD Pz 8 = some 4 /\ zB Pz 8 = some 24 /\ zF Pz 8 = some (.agg [.int .i64 (0), .int .i64 (0), .bool false, .int .u8 (0)]) := ⟨by kernel_rfl, by kernel_rfl, by kernel_rfl⟩
@[simp] theorem z9 : zD Pz 9 = some 1 /\ zB Pz 9 = some 16 /\ zF Pz 9 = some (.str []) := ⟨by kernel_rfl, by kernel_rfl, by kernel_rfl⟩
@[simp] theorem z10 : zD Pz 10 = some 1 /\ zB Pz 10 = some 16 /\ zF Pz 10 = some (.str []) := ⟨by kernel_rfl, by kernel_rfl, by kernel_rfl⟩
@[simp] theorem z11 : zD Pz 11 = some 1 /\ zB Pz 11 = some 16 /\ zF Pz 11 = some (.str []) := ⟨by kernel_rfl, by kernel_rfl, by kernel_rfl⟩
@[simp] theorem z12 : zD Pz 12 = some 1 /\ zB Pz 12 = some 8 /\ zF Pz 12 = some (.int .u64 (0)) := ⟨by kernel_rfl, by kernel_rfl, by kernel_rfl⟩
@[simp] theorem z16 : zD Pz 16 = some 1 /\ zB Pz 16 = some 8 /\ zF Pz 16 = some (.nilp) := ⟨by kernel_rfl, by kernel_rfl, by kernel_rfl⟩
@[simp] theorem z17 : zD Pz 17 = some 1 /\ zB Pz 17 = some 8 /\ zF Pz 17 = some (.nilp) := ⟨by kernel_rfl, by kernel_rfl, by kernel_rfl⟩
@[simp] theorem z18 : zD Pz 18 = some 1 /\ zB Pz 18 = some 8 /\ zF Pz 18 = some (.agg [.nilp]) := ⟨by kernel_rfl, by kernel_rfl, by kernel_rfl⟩
@[simp] theorem z19 : zD Pz 19 = some 1 /\ zB Pz 19 = some 8 /\ zF Pz 19 = some (.agg [.nilp]) := ⟨by kernel_rfl, by kernel_rfl, by kernel_rfl⟩
@[simp] theorem z20 : zD Pz 20 = some 1 /\ zB Pz 20 = some 16 /\ zF Pz 20 = some (.top) := ⟨by kernel_rfl, by kernel_rfl, by kernel_rfl⟩
@[simp] theorem z21 : zD Pz 21 = some 1 /\ zB Pz 21 = some 4 /\ zF Pz 21 = some (.int .i32 (0)) := ⟨by kernel_rfl, by kernel_rfl, by kernel_rfl⟩
@[simp] theorem z22 : zD Pz 22 = some 1 /\ zB Pz 22 = some 24 /\ zF Pz 22 = some (.nils) := ⟨by kernel_rfl, by kernel_rfl, by kernel_rfl⟩
@[simp] theorem z23 : zD Pz 23 = some 1 /\ zB Pz 23 = some 8 /\ zF Pz 23 = some (.nilf) := ⟨by kernel_rfl, by kernel_rfl, by kernel_rfl⟩
@[simp] theorem z24 : zD Pz 24 = some 1 /\ zB Pz 24 = some 24 /\ zF Pz 24 = some (.nils) := ⟨by kernel_rfl, by kernel_rfl, by kernel_rfl⟩
@[simp] theorem z25 : zD Pz 25 = some 1 /\ zB Pz 25 = some 8 /\ zF Pz 25 = some (.nilf) := ⟨by kernel_rfl, by kernel_rfl, by kernel_rfl⟩
@[simp] theorem z26 : zD Pz 26 = some 1 /\ zB Pz 26 = some 8 /\ zF Pz 26 = some (.nilp) := ⟨by kernel_rfl, by kernel_rfl, by kernel_rfl⟩
@[simp] theorem z27 : zD Pz 27 = some 1 /\ zB Pz 27 = some 8 /\ zF Pz 27 = some (.nilf) := ⟨by kernel_rfl, by kernel_rfl, by kernel_rfl⟩
@[simp] theorem z28 : zD Pz 28 = some 1 /\ zB Pz 28 = some 8 /\ zF Pz 28 = some (.nilp) := ⟨by kernel_rfl, by kernel_rfl, by kernel_rfl⟩
@[simp] theorem z30 : zD Pz 30 = some 1 /\ zB Pz 30 = some 8 /\ zF Pz 30 = some (.int .i64 (0)) := ⟨by kernel_rfl, by kernel_rfl, by kernel_rfl⟩
@[simp] theorem z31 : zD Pz 31 = some 1 /\ zB Pz 31 = some 8 /\ zF Pz 31 = some (.nilf) := ⟨by kernel_rfl, by kernel_rfl, by kernel_rfl⟩
@[simp] theorem z32 : zD Pz 32 = some 1 /\ zB Pz 32 = some 8 /\ zF Pz 32 = some (.nilf) := ⟨by kernel_rfl, by kernel_rfl, by kernel_rfl⟩
@[simp] theorem z33 : zD Pz 33 = some 1 /\ zB Pz 33 = some 8 /\ zF Pz 33 = some (.nilf) := ⟨by kernel_rfl, by kernel_rfl, by kernel_rfl⟩
@[simp] theorem z34 : zD Pz 34 = some 1 /\ zB Pz 34 = some 24 /\ zF Pz 34 = some (.nils) := ⟨by kernel_rfl, by kernel_rfl, by kernel_rfl⟩
@[simp] theorem z35 : zD Pz 35 = some 1 /\ zB Pz 35 = some 8 /\ zF Pz 35 = some (.nilf) := ⟨by kernel_rfl, by kernel_rfl, by kernel_rfl⟩
@[simp] theorem z36 : zD Pz 36 = some 2 /\ zB Pz 36 = some 32 /\ zF Pz 36 = some (.agg [.str [], .str []]) := ⟨by kernel_rfl, by kernel_rfl, by kernel_rfl⟩
@[simp] theorem z37 : zD Pz 37 = some 2 /\ zB Pz 37 = some 32 /\ zF Pz 37 = some (.agg [.str [], .str []]) := ⟨by kernel_rfl, by kernel_rfl, by kernel_rfl⟩
@[simp] theorem z39 : zD Pz 39 = some 1 /\ zB Pz 39 = some 24 /\ zF Pz 39 = some (.nils) := ⟨by kernel_rfl, by kernel_rfl, by kernel_rfl⟩
@[simp] theorem z40 : zD Pz 40 = some 1 /\ zB Pz 40 = some 24 /\ zF Pz 40 = some (.nils) := ⟨by kernel_rfl, by kernel_rfl, by kernel_rfl⟩
@[simp] theorem z41 : zD Pz 41 = some 3 /\ zB Pz 41 = some 56 /\ zF Pz 41 = some (.agg [.int .u8 (0), .nils, .nils]) := ⟨by kernel_rfl, by kernel_rfl, by kernel_rfl⟩
@[simp] theorem z42 : zD Pz 42 = some 3 /\ zB Pz 42 = some 56 /\ zF Pz 42 = some (.agg [.int .u8 (0), .nils, .nils]) := ⟨by kernel_rfl, by kernel_rfl, by kernel_rfl⟩
@[simp] theorem z43 : zD Pz 43 = some 1 /\ zB Pz 43 = some 24 /\ zF Pz 43 = some (.nils) := ⟨by kernel_rfl, by kernel_rfl, by kernel_rfl⟩
@[simp] theorem z44 : zD Pz 44 = some 4 /\ zB Pz 44 = some 48 /\ zF Pz 44 = some (.agg [.int .i64 (0), .int .i64 (0), .int .i64 (0), .nils]) := ⟨by kernel_rfl, by kernel_rfl, by kernel_rfl⟩
@[simp] theorem z45 : zD Pz 45 = some 4 /\ zB Pz 45 = some 48 /\ zF Pz 45 = some (.agg [.int .i64 (0), .int .i64 (0), .int .i64 (0), .nils]) := ⟨by kernel_rfl, by kernel_rfl, by kernel_rfl⟩
@[simp] theorem z46 : zD Pz 46 = some 1 /\ zB Pz 46 = some 8 /\ zF Pz 46 = some (.nilf) := ⟨by kernel_rfl, by kernel_rfl, by kernel_rfl⟩
@[simp] theorem z47 : zD Pz 47 = some 1 /\ zB Pz 47 = some 24 /\ zF Pz 47 = some (.nils) := ⟨by kernel_rfl, by kernel_rfl, by kernel_rfl⟩
@[simp] theorem z48 : zD Pz 48 = some 1 /\ zB Pz 48 = some 8 /\ zF Pz 48 = some (.nilf) := ⟨by kernel_rfl, by kernel_rfl, by kernel_rfl⟩
@[simp] theorem z49 : zD Pz 49 = some 1 /\ zB Pz 49 = some 8 /\ zF Pz 49 = some (.nilf) := ⟨by kernel_rfl, by kernel_rfl, by kernel_rfl⟩
@[simp] theorem z51 : zD Pz 51 = some 1 /\ zB Pz 51 = some 24 /\ zF Pz 51 = some (.nils) := ⟨by kernel_rfl, by kernel_rfl, by kernel_rfl⟩
@[simp] theorem z53 : zD Pz 53 = some 1 /\ zB Pz 53 = some 0 /\ zF Pz 53 = some (.tuple [.int .i64 (0), .int .i64 (0)]) := ⟨by kernel_rfl, by kernel_rfl, by kernel_rfl⟩
@[simp] theorem z54 : zD Pz 54 = some 1 /\ zB Pz 54 = some 8 /\ zF Pz 54 = some (.nilf) := ⟨by kernel_rfl, by kernel_rfl, by kernel_rfl⟩
@[simp] theorem z55 : zD Pz 55 = some 1 /\ zB Pz 55 = some 8 /\ zF Pz 55 = some (.nilf) := ⟨by kernel_rfl, by kernel_rfl, by kernel_rfl⟩
@[simp] theorem z56 : zD Pz 56 = some 1 /\ zB Pz 56 = some 8 /\ zF Pz 56 = some (.nilf) := ⟨by kernel_rfl, by kernel_rfl, by kernel_rfl⟩
@[simp] theorem z57 : zD Pz 57 = some 1 /\ zB Pz 57 = some 8 /\ zF Pz 57 = some (.nilf) := ⟨by kernel_rfl, by kernel_rfl, by kernel_rfl⟩
@[simp] theorem z58 : zD Pz 58 = some 1 /\ zB Pz 58 = some 8 /\ zF Pz 58 = some (.nilf) := ⟨by kernel_rfl, by kernel_rfl, by kernel_rfl⟩
@[simp] theorem z61 : zD Pz 61 = some 1 /\ zB Pz 61 = some 8 /\ zF Pz 61 = some (.nilf) := ⟨by kernel_rfl, by kernel_rfl, by kernel_rfl⟩
@[simp] theorem z62 : zD Pz 62 = some 1 /\ zB Pz 62 = some 0 /\ zF Pz 62 = some (.tuple [.str [], .int .i64 (0)]) := ⟨by kernel_rfl, by kernel_rfl, by kernel_rfl⟩
@[simp] theorem z63 : zD Pz 63 = some 1 /\ zB Pz 63 = some 8 /\ zF Pz 63 = some (.nilf) := ⟨by kernel_rfl, by kernel_rfl, by kernel_rfl⟩
@[simp] theorem z64 : zD Pz 64 = some 1 /\ zB Pz 64 = some 8 /\ zF Pz 64 = some (.nilf) := ⟨by kernel_rfl, by kernel_rfl, by kernel_rfl⟩
@[simp] theorem z65 : zD Pz 65 = some 1 /\ zB Pz 65 = some 24 /\ zF Pz 65 = some (.nils) := ⟨by kernel_rfl, by kernel_rfl, by kernel_rfl⟩
@[simp] theorem z66 : zD Pz 66 = some 4 /\ zB Pz 66 = some 56 /\ zF Pz 66 = some (.agg [.int .u8 (0), .int .u8 (0), .nils, .nils]) := ⟨by kernel_rfl, by kernel_rfl, by kernel_rfl⟩
@[simp] theorem z67 : zD Pz 67 = some 4 /\ zB Pz 67 = some 56 /\ zF Pz 67 = some (.agg [.int .u8 (0), .int .u8 (0), .nils, .nils]) := ⟨by kernel_rfl, by kernel_rfl, by kernel_rfl⟩
@[simp] theorem z68 : zD Pz 68 = some 4 /\ zB Pz 68 = some 56 /\ zF Pz 68 = some (.agg [.int .u8 (0), .int .u8 (0), .nils, .nils]) := ⟨by kernel_rfl, by kernel_rfl, by kernel_rfl⟩
@[simp] theorem z69 : zD Pz 69 = some 4 /\ zB Pz 69 = some 56 /\ zF Pz 69 = some (.agg [.int .u8 (0), .int .u8 (0), .nils, .nils]) := ⟨by kernel_rfl, by kernel_rfl, by kernel_rfl⟩
@[simp] theorem z70 : zD Pz 70 = some 1 /\ zB Pz 70 = some 8 /\ zF Pz 70 = some (.nilf) := ⟨by kernel_rfl, by kernel_rfl, by kernel_rfl⟩
@[simp] theorem z71 : zD Pz 71 = some 1 /\ zB Pz 71 = some 0 /\ zF Pz 71 = some (.tuple [.nils, .bool false]) := ⟨by kernel_rfl, by kernel_rfl, by kernel_rfl⟩
@[simp] theorem z72 : zD Pz 72 = some 1 /\ zB Pz 72 = some 8 /\ zF Pz 72 = some (.nilf) := ⟨by kernel_rfl, by kernel_rfl, by kernel_rfl⟩
@[simp] theorem z75 : zD Pz 75 = some 1 /\ zB Pz 75 = some 8 /\ zF Pz 75 = some (.nilf) := ⟨by kernel_rfl, by kernel_rfl, by kernel_rfl⟩
@[simp] theorem z76 : zD Pz 76 = some 4 /\ zB Pz 76 = some 40 /\ zF Pz 76 = some (.agg [.int .u8 (0), .int .u8 (0), .nils, .bool false]) := ⟨by kernel_rfl, by kernel_rfl, by kernel_rfl⟩
@[simp] theorem z77 : zD Pz 77 = some 4 /\ zB Pz 77 = some 40 /\ zF Pz 77 = some (.agg [.int .u8 (0), .int .u8 (0), .nils, .bool false]) := ⟨by kernel_rfl, by kernel_rfl, by kernel_rfl⟩
@[simp] theorem z78 : zD Pz 78 = some 8 /\ zB Pz 78 = some 80 /\ zF Pz 78 = some (.agg [.int .u8 (0), .int .u8 (0), .nils, .bool false, .int .u8 (0), .int .u8 (0), .nils, .bool false]) := ⟨by kernel_rfl, by kernel_rfl, by kernel_rfl⟩
@[simp] theorem z79 : zD Pz 79 = some 1 /\ zB Pz 79 = some 2 /\ zF Pz 79 = some (.int .u16 (0)) := ⟨by kernel_rfl, by kernel_rfl, by kernel_rfl⟩
@[simp] theorem z80 : zD Pz 80 = some 1 /\ zB Pz 80 = some 8 /\ zF Pz 80 = some (.nilf) := ⟨by kernel_rfl, by kernel_rfl, by kernel_rfl⟩
@[simp] theorem z81 : zD Pz 81 = some 1 /\ zB Pz 81 = some 8 /\ zF Pz 81 = some (.nilf) := ⟨by kernel_rfl, by kernel_rfl, by kernel_rfl⟩
@[simp] theorem z82 : zD Pz 82 = some 1 /\ zB Pz 82 = some 8 /\ zF Pz 82 = some (.nilf) := ⟨by kernel_rfl, by kernel_rfl, by kernel_rfl⟩
@[simp] theorem z83 : zD Pz 83 = some 1 /\ zB Pz 83 = some 8 /\ zF Pz 83 = some (.nilf) := ⟨by kernel_rfl, by kernel_rfl, by kernel_rfl⟩
@[simp] theorem z86 : zD Pz 86 = some 1 /\ zB Pz 86 = some 0 /\ zF Pz 86 = some (.tuple [.str [], .bool false]) := ⟨by kernel_rfl, by kernel_rfl, by kernel_rfl⟩
@[simp] theorem z94 : zD Pz 94 = some 1 /\ zB Pz 94 = some 8 /\ zF Pz 94 = some (.nilf) := ⟨by kernel_rfl, by kernel_rfl, by kernel_rfl⟩
@[simp] theorem z95 : zD Pz 95 = some 1 /\ zB Pz 95 = some 8 /\ zF Pz 95 = some (.nilf) := ⟨by kernel_rfl, by kernel_rfl, by kernel_rfl⟩
@[simp] theorem z96 : zD Pz 96 = some 4 /\ zB Pz 96 = some 16 /\ zF Pz 96 = some (.agg [.int .u16 (0), .int .u16 (0), .int .u8 (0), .int .i64 (0)]) := ⟨by kernel_rfl, by kernel_rfl, by kernel_rfl⟩
@[simp] theorem z97 : zD Pz 97 = some 4 /\ zB Pz 97 = some 16 /\ zF Pz 97 = some (.agg [.int .u16 (0), .int .u16 (0), .int .u8 (0), .int .i64 (0)]) := ⟨by kernel_rfl, by kernel_rfl, by kernel_rfl⟩
@[simp] theorem z99 : zD Pz 99 = some 5 /\ zB Pz 99 = some 80 /\ zF Pz 99 = some (.agg [.str [], .str [], .str [], .str [], .str []]) := ⟨by kernel_rfl, by kernel_rfl, by kernel_rfl⟩
@[simp] theorem z100 : zD Pz 100 = some 1 /\ zB Pz 100 = some 0 /\ zF Pz 100 = some (.tuple [.nils, .int .i64 (0)]) := ⟨by kernel_rfl, by kernel_rfl, by kernel_rfl⟩
@[simp] theorem z101 : zD Pz 101 = some 1 /\ zB Pz 101 = some 8 /\ zF Pz 101 = some (.nilf) := ⟨by kernel_rfl, by kernel_rfl, by kernel_rfl⟩
@[simp] theorem z102 : zD Pz 102 = some 1 /\ zB Pz 102 = some 8 /\ zF Pz 102 = some (.nilf) := ⟨by kernel_rfl, by kernel_rfl, by kernel_rfl⟩
@[simp] theorem z103 : zD Pz 103 = some 1 /\ zB Pz 103 = some 24 /\ zF Pz 103 = some (.nils) := ⟨by kernel_rfl, by kernel_rfl, by kernel_rfl⟩
@[simp] theorem z104 : zD Pz 104 = some 4 /\ zB Pz 104 = some 64 /\ zF Pz 104 = some (.agg [.int .u8 (0), .nils, .str [], .str []]) := ⟨by kernel_rfl, by kernel_rfl, by kernel_rfl⟩
@[simp] theorem z105 : zD Pz 105 = some 4 /\ zB Pz 105 = some 64 /\ zF Pz 105 = some (.agg [.int .u8 (0), .nils, .str [], .str []]) := ⟨by kernel_rfl, by kernel_rfl, by kernel_rfl⟩
@[simp] theorem z106 : zD Pz 106 = some 1 /\ zB Pz 106 = some 24 /\ zF Pz 106 = some (.nils) := ⟨by kernel_rfl, by kernel_rfl, by kernel_rfl⟩
@[simp] theorem z107 : zD Pz 107 = some 4 /\ zB Pz 107 = some 64 /\ zF Pz 107 = some (.agg [.nils, .nils, .int .i64 (0), .bool false]) := ⟨by kernel_rfl, by kernel_rfl, by kernel_rfl⟩
@[simp] theorem z108 : zD Pz 108 = some 4 /\ zB Pz 108 = some 64 /\ zF Pz 108 = some (.agg [.nils, .nils, .int .i64 (0), .bool false]) := ⟨by kernel_rfl, by kernel_rfl, by kernel_rfl⟩
@[simp] theorem z109 : zD Pz 109 = some 1 /\ zB Pz 109 = some 0 /\ zF Pz 109 = some (.tuple [.top, .int .i64 (0)]) := ⟨by kernel_rfl, by kernel_rfl, by kernel_rfl⟩
@[simp] theorem z112 : zD Pz 112 = some 1 /\ zB Pz 112 = some 8 /\ zF Pz 112 = some (.nilf) := ⟨by kernel_rfl, by kernel_rfl, by kernel_rfl⟩
@[simp] theorem z114 : zD Pz 114 = some 3 /\ zB Pz 114 = some 72 /\ zF Pz 114 = some (.agg [.nils, .nils, .nils]) := ⟨by kernel_rfl, by kernel_rfl, by kernel_rfl⟩
@[simp] theorem z115 : zD Pz 115 = some 6 /\ zB Pz 115 = some 112 /\ zF Pz 115 = some (.agg [.int .u8 (0), .nils, .int .u8 (0), .nils, .nils, .nils]) := ⟨by kernel_rfl, by kernel_rfl, by kernel_rfl⟩
@[simp] theorem z116 : zD Pz 116 = some 6 /\ zB Pz 116 = some 112 /\ zF Pz 116 = some (.agg [.int .u8 (0), .nils, .int .u8 (0), .nils, .nils, .nils]) := ⟨by kernel_rfl, by kernel_rfl, by kernel_rfl⟩
@[simp] theorem z118 : zD Pz 118 = some 1 /\ zB Pz 118 = some 0 /\ zF Pz 118 = some (.tuple [.nilp, .nilp]) := ⟨by kernel_rfl, by kernel_rfl, by kernel_rfl⟩
@[simp] theorem z120 : zD Pz 120 = some 1 /\ zB Pz 120 = some 4 /\ zF Pz 120 = some (.int .u32 (0)) := ⟨by kernel_rfl, by kernel_rfl, by kernel_rfl⟩
@[simp] theorem z121 : zD Pz 121 = some 3 /\ zB Pz 121 = some 24 /\ zF Pz 121 = some (.agg [.str [], .int .u32 (0), .bool false]) := ⟨by kernel_rfl, by kernel_rfl, by kernel_rfl⟩
@[simp] theorem z122 : zD Pz 122 = some 3 /\ zB Pz 122 = some 24 /\ zF Pz 122 = some (.agg [.str [], .int .u32 (0), .bool false]) := ⟨by kernel_rfl, by kernel_rfl, by kernel_rfl⟩
@[simp] theorem z123 : zD Pz 123 = some 3 /\ zB Pz 123 = some 32 /\ zF Pz 123 = some (.agg [.nils, .int .u32 (0), .bool false]) := ⟨by kernel_rfl, by kernel_rfl, by kernel_rfl⟩
@[simp] theorem z124 : zD Pz 124 = some 3 /\ zB Pz 124 = some 32 /\ zF Pz 124 = some (.agg [.nils, .int .u32 (0), .bool false]) := ⟨by kernel_rfl, by kernel_rfl, by kernel_rfl⟩
@[simp] theorem z125 : zD Pz 125 = some 1 /\ zB Pz 125 = some 8 /\ zF Pz 125 = some (.nilf) := ⟨by kernel_rfl, by kernel_rfl, by kernel_rfl⟩
@[simp] theorem z126 : zD Pz 126 = some 6 /\ zB Pz 126 = some 48 /\ zF Pz 126 = some (.agg [.nilp, .int .i64 (0), .int .i64 (0), .int .i64 (0), .int .i64 (0), .bool false]) := ⟨by kernel_rfl, by kernel_rfl, by kernel_rfl⟩
@[simp] theorem z127 : zD Pz 127 = some 6 /\ zB Pz 127 = some 48 /\ zF Pz 127 = some (.agg [.nilp, .int .i64 (0), .int .i64 (0), .int .i64 (0), .int .i64 (0), .bool false]) := ⟨by kernel_rfl, by kernel_rfl, by kernel_rfl⟩
@[simp] theorem z128 : zD Pz 128 = some 1 /\ zB Pz 128 = some 0 /\ zF Pz 128 = some (.tuple [.nils, .int .i64 (0)]) := ⟨by kernel_rfl, by kernel_rfl, by kernel_rfl⟩
@[simp] theorem z129 : zD Pz 129 = some 1 /\ zB Pz 129 = some 8 /\ zF Pz 129 = some (.nilf) := ⟨by kernel_rfl, by kernel_rfl, by kernel_rfl⟩
@[simp] theorem z130 : zD Pz 130 = some 1 /\ zB Pz 130 = some 8 /\ zF Pz 130 = some (.nilf) := ⟨by kernel_rfl, by kernel_rfl, by kernel_rfl⟩
@[simp] theorem z131 : zD Pz 131 = some 1 /\ zB Pz 131 = some 8 /\ zF Pz 131 = some (.nilf) := ⟨by kernel_rfl, by kernel_rfl, by kernel_rfl⟩
@[simp] theorem z132 : zD Pz 132 = some 1 /\ zB Pz 132 = some 8 /\ zF Pz 132 = some (.nilf) := ⟨by kernel_rfl, by kernel_rfl, by kernel_rfl⟩
@[simp] theorem z133 : zD Pz 133 = some 1 /\ zB Pz 133 = some 8 /\ zF Pz 133 = some (.nilf) := ⟨by kernel_rfl, by kernel_rfl, by kernel_rfl⟩
@[simp] theorem z134 : zD Pz 134 = some 1 /\ zB Pz 134 = some 8 /\ zF Pz 134 = some (.nilp) := ⟨by kernel_rfl, by kernel_rfl, by kernel_rfl⟩
@[simp] theorem z135 : zD Pz 135 = some 1 /\ zB Pz 135 = some 0 /\ zF Pz 135 = some (.tuple [.nilp, .int .i64 (0)]) := ⟨by kernel_rfl, by kernel_rfl, by kernel_rfl⟩
@[simp] theorem z136 : zD Pz 136 = some 1 /\ zB Pz 136 = some 8 /\ zF Pz 136 = some (.nilf) := ⟨by kernel_rfl, by kernel_rfl, by kernel_rfl⟩
@[simp] theorem z137 : zD Pz 137 = some 1 /\ zB Pz 137 = some 8 /\ zF Pz 137 = some (.nilf) := ⟨by kernel_rfl, by kernel_rfl, by kernel_rfl⟩
@[simp] theorem z139 : zD Pz 139 = some 3 /\ zB Pz 139 = some 24 /\ zF Pz 139 = some (.agg [.int .i64 (0), .int .i64 (0), .int .i64 (0)]) := ⟨by kernel_rfl, by kernel_rfl, by kernel_rfl⟩
@[simp] theorem z140 : zD Pz 140 = some 3 /\ zB Pz 140 = some 24 /\ zF Pz 140 = some (.agg [.int .i64 (0), .int .i64 (0), .int .i64 (0)]) := ⟨by kernel_rfl, by kernel_rfl, by kernel_rfl⟩
@[simp] theorem z141 : zD Pz 141 = some 3 /\ zB Pz 141 = some 24 /\ zF Pz 141 = some (.agg [.int .u8 (0), .int .u8 (0), .str []]) := ⟨by kernel_rfl, by kernel_rfl, by kernel_rfl⟩
@[simp] theorem z142 : zD Pz 142 = some 3 /\ zB Pz 142 = some 24 /\ zF Pz 142 = some (.agg [.int .u8 (0), .int .u8 (0), .str []]) := ⟨by kernel_rfl, by kernel_rfl, by kernel_rfl⟩
@[simp] theorem z143 : zD Pz 143 = some 1 /\ zB Pz 143 = some 0 /\ zF Pz 143 = some (.tuple [.int .i64 (0), .int .i64 (0)]) := ⟨by kernel_rfl, by kernel_rfl, by kernel_rfl⟩
@[simp] theorem z144 : zD Pz 144 = some 1 /\ zB Pz 144 = some 8 /\ zF Pz 144 = some (.nilf) := ⟨by kernel_rfl, by kernel_rfl, by kernel_rfl⟩
@[simp] theorem z145 : zD Pz 145 = some 1 /\ zB Pz 145 = some 8 /\ zF Pz 145 = some (.nilf) := ⟨by kernel_rfl, by kernel_rfl, by kernel_rfl⟩
@[simp] theorem z147 : zD Pz 147 = some 1 /\ zB Pz 147 = some 8 /\ zF Pz 147 = some (.nilm) := ⟨by kernel_rfl, by kernel_rfl, by kernel_rfl⟩
@[simp] theorem z149 : zD Pz 149 = some 4 /\ zB Pz 149 = some 48 /\ zF Pz 149 = some (.agg [.int .i64 (0), .int .i64 (0), .int .i64 (0), .nils]) := ⟨by kernel_rfl, by kernel_rfl, by kernel_rfl⟩
@[simp] theorem z150 : zD Pz 150 = some 4 /\ zB Pz 150 = some 48 /\ zF Pz 150 = some (.agg [.int .i64 (0), .int .i64 (0), .int .i64 (0), .nils]) := ⟨by kernel_rfl, by kernel_rfl, by kernel_rfl⟩
@[simp] theorem z152 : zD Pz 152 = some 1 /\ zB Pz 152 = some 8 /\ zF Pz 152 = some (.nilf) := ⟨by kernel_rfl, by kernel_rfl, by kernel_rfl⟩
@[simp] theorem z153 : zD Pz 153 = some 1 /\ zB Pz 153 = some 8 /\ zF Pz 153 = some (.nilf) := ⟨by kernel_rfl, by kernel_rfl, by kernel_rfl⟩
@[simp] theorem z155 : zD Pz 155 = some 1 /\ zB Pz 155 = some 8 /\ zF Pz 155 = some (.nilp) := ⟨by kernel_rfl, by kernel_rfl, by kernel_rfl⟩
@[simp] theorem z156 : zD Pz 156 = some 1 /\ zB Pz 156 = some 8 /\ zF Pz 156 = some (.nilf) := ⟨by kernel_rfl, by kernel_rfl, by kernel_rfl⟩
@[simp] theorem z157 : zD Pz 157 = some 1 /\ zB Pz 157 = some 8 /\ zF Pz 157 = some (.nilm) := ⟨by kernel_rfl, by kernel_rfl, by kernel_rfl⟩
@[simp] theorem z158 : zD Pz 158 = some 6 /\ zB Pz 158 = some 48 /\ zF Pz 158 = some (.agg [.nilp, .nilm, .int .i64 (0), .int .i64 (0), .int .i64 (0), .bool false]) := ⟨by kernel_rfl, by kernel_rfl, by kernel_rfl⟩
@[simp] theorem z159 : zD Pz 159 = some 6 /\ zB Pz 159 = some 48 /\ zF Pz 159 = some (.agg [.nilp, .nilm, .int .i64 (0), .int .i64 (0), .int .i64 (0), .bool false]) := ⟨by kernel_rfl, by kernel_rfl, by kernel_rfl⟩
@[simp] theorem z160 : zD Pz 160 = some 1 /\ zB Pz 160 = some 8 /\ zF Pz 160 = some (.nilf) := ⟨by kernel_rfl, by kernel_rfl, by kernel_rfl⟩
@[simp] theorem z162 : zD Pz 162 = some 1 /\ zB Pz 162 = some 8 /\ zF Pz 162 = some (.agg [.nilf]) := ⟨by kernel_rfl, by kernel_rfl, by kernel_rfl⟩
@[simp] theorem z163 : zD Pz 163 = some 1 /\ zB Pz 163 = some 8 /\ zF Pz 163 = some (.agg [.nilf]) := ⟨by kernel_rfl, by kernel_rfl, by kernel_rfl⟩
@[simp] theorem z164 : zD Pz 164 = some 1 /\ zB Pz 164 = some 8 /\ zF Pz 164 = some (.nilf) := ⟨by kernel_rfl, by kernel_rfl, by kernel_rfl⟩
@[simp] theorem z165 : zD Pz 165 = some 1 /\ zB Pz 165 = some 0 /\ zF Pz 165 = some (.tuple [.int .i64 (0), .bool false]) := ⟨by kernel_rfl, by kernel_rfl, by kernel_rfl⟩
@[simp] theorem z166 : zD Pz 166 = some 1 /\ zB Pz 166 = some 8 /\ zF Pz 166 = some (.nilf) := ⟨by kernel_rfl, by kernel_rfl, by kernel_rfl⟩
@[simp] theorem z167 : zD Pz 167 = some 2 /\ zB Pz 167 = some 16 /\ zF Pz 167 = some (.agg [.int .i64 (0), .int .i64 (0)]) := ⟨by kernel_rfl, by kernel_rfl, by kernel_rfl⟩
@[simp] theorem z168 : zD Pz 168 = some 2 /\ zB Pz 168 = some 16 /\ zF Pz 168 = some (.agg [.int .i64 (0), .int .i64 (0)]) := ⟨by kernel_rfl, by kernel_rfl, by kernel_rfl⟩
@[simp] theorem z169 : zD Pz 169 = some 1 /\ zB Pz 169 = some 8 /\ zF Pz 169 = some (.nilf) := ⟨by kernel_rfl, by kernel_rfl, by kernel_rfl⟩
@[simp] theorem z171 : zD Pz 171 = some 1 /\ zB Pz 171 = some 8 /\ zF Pz 171 = some (.nilf) := ⟨by kernel_rfl, by kernel_rfl, by kernel_rfl⟩
@[simp] theorem z172 : zD Pz 172 = some 1 /\ zB Pz 172 = some 0 /\ zF Pz 172 = some (.tuple [.top, .int .i64 (0)]) := ⟨by kernel_rfl, by kernel_rfl, by kernel_rfl⟩
@[simp] theorem z177 : zD Pz 177 = some 1 /\ zB Pz 177 = some 8 /\ zF Pz 177 = some (.int .u64 (0)) := ⟨by kernel_rfl, by kernel_rfl, by kernel_rfl⟩
@[simp] theorem z178 : zD Pz 178 = some 1 /\ zB Pz 178 = some 24 /\ zF Pz 178 = some (.nils) := ⟨by kernel_rfl, by kernel_rfl, by kernel_rfl⟩
@[simp] theorem z181 : zD Pz 181 = some 1 /\ zB Pz 181 = some 24 /\ zF Pz 181 = some (.nils) := ⟨by kernel_rfl, by kernel_rfl, by kernel_rfl⟩
@[simp] theorem z182 : zD Pz 182 = some 1 /\ zB Pz 182 = some 8 /\ zF Pz 182 = some (.nilf) := ⟨by kernel_rfl, by kernel_rfl, by kernel_rfl⟩
@[simp] theorem z183 : zD Pz 183 = some 1 /\ zB Pz 183 = some 8 /\ zF Pz 183 = some (.nilf) := ⟨by kernel_rfl, by kernel_rfl, by kernel_rfl⟩
@[simp] theorem z185 : zD Pz 185 = some 1 /\ zB Pz 185 = some 8 /\ zF Pz 185 = some (.nilf) := ⟨by kernel_rfl, by kernel_rfl, by kernel_rfl⟩
@[simp] theorem z186 : zD Pz 186 = some 1 /\ zB Pz 186 = some 8 /\ zF Pz 186 = some (.nilf) := ⟨by kernel_rfl, by kernel_rfl, by kernel_rfl⟩
@[simp] theorem z188 : zD Pz 188 = some 1 /\ zB Pz 188 = some 8 /\ zF Pz 188 = some (.nilf) := ⟨by kernel_rfl, by kernel_rfl, by kernel_rfl⟩
@[simp] theorem z190 : zD Pz 190 = some 1 /\ zB Pz 190 = some 8 /\ zF Pz 190 = some (.nilf) := ⟨by kernel_rfl, by kernel_rfl, by kernel_rfl⟩
@[simp] theorem z191 : zD Pz 191 = some 1 /\ zB Pz 191 = some 8 /\ zF Pz 191 = some (.nilf) := ⟨by kernel_rfl, by kernel_rfl, by kernel_rfl⟩
@[simp] theorem z192 : zD Pz 192 = some 1 /\ zB Pz 192 = some 8 /\ zF Pz 192 = some (.nilf) := ⟨by kernel_rfl, by kernel_rfl, by kernel_rfl⟩
@[simp] theorem z201 : zD Pz 201 = some 1 /\ zB Pz 201 = some 8 /\ zF Pz 201 = some (.nilf) := ⟨by kernel_rfl, by kernel_rfl, by kernel_rfl⟩
@[simp] theorem z204 : zD Pz 204 = some 1 /\ zB Pz 204 = some 0 /\ zF Pz 204 = some (.tuple [.str [], .int .i64 (0), .int .i64 (0)]) := ⟨by kernel_rfl, by kernel_rfl, by kernel_rfl⟩
@[simp] theorem z206 : zD Pz 206 = some 1 /\ zB Pz 206 = some 0 /\ zF Pz 206 = some (.tuple [.nils, .int .i64 (0)]) := ⟨by kernel_rfl, by kernel_rfl, by kernel_rfl⟩
@[simp] theorem z208 : zD Pz 208 = some 1 /\ zB Pz 208 = some 8 /\ zF Pz 208 = some (.nilf) := ⟨by kernel_rfl, by kernel_rfl, by kernel_rfl⟩
@[simp] theorem z209 : zD Pz 209 = some 3 /\ zB Pz 209 = some 48 /\ zF Pz 209 = some (.agg [.int .u8 (0), .nils, .str []]) := ⟨by kernel_rfl, by kernel_rfl, by kernel_rfl⟩
@[simp] theorem z210 : zD Pz 210 = some 3 /\ zB Pz 210 = some 48 /\ zF Pz 210 = some (.agg [.int .u8 (0), .nils, .str []]) := ⟨by kernel_rfl, by kernel_rfl, by kernel_rfl⟩
@[simp] theorem z211 : zD Pz 211 = some 1 /\ zB Pz 211 = some 8 /\ zF Pz 211 = some (.nilf) := ⟨by kernel_rfl, by kernel_rfl, by kernel_rfl⟩
@[simp] theorem z212 : zD Pz 212 = some 1 /\ zB Pz 212 = some 8 /\ zF Pz 212 = some (.nilf) := ⟨by kernel_rfl, by kernel_rfl, by kernel_rfl⟩
@[simp] theorem z213 : zD Pz 213 = some 1 /\ zB Pz 213 = some 8 /\ zF Pz 213 = some (.nilf) := ⟨by kernel_rfl, by kernel_rfl, by kernel_rfl⟩
@[simp] theorem z214 : zD Pz 214 = some 1 /\ zB Pz 214 = some 8 /\ zF Pz 214 = some (.nilf) := ⟨by kernel_rfl, by kernel_rfl, by kernel_rfl⟩
@[simp] theorem z215 : zD Pz 215 = some 1 /\ zB Pz 215 = some 8 /\ zF Pz 215 = some (.nilf) := ⟨by kernel_rfl, by kernel_rfl, by kernel_rfl⟩
@[simp] theorem z216 : zD Pz 216 = some 1 /\ zB Pz 216 = some 8 /\ zF Pz 216 = some (.nilf) := ⟨by kernel_rfl, by kernel_rfl, by kernel_rfl⟩
@[simp] theorem z217 : zD Pz 217 = some 1 /\ zB Pz 217 = some 8 /\ zF Pz 217 = some (.nilf) := ⟨by kernel_rfl, by kernel_rfl, by kernel_rfl⟩
@[simp] theorem z218 : zD Pz 218 = some 1 /\ zB Pz 218 = some 24 /\ zF Pz 218 = some (.nils) := ⟨by kernel_rfl, by kernel_rfl, by kernel_rfl⟩
@[simp] theorem z219 : zD Pz 219 = some 1 /\ zB Pz 219 = some 8 /\ zF Pz 219 = some (.nilf) := ⟨by kernel_rfl, by kernel_rfl, by kernel_rfl⟩
@[simp] theorem z220 : zD Pz 220 = some 1 /\ zB Pz 220 = some 8 /\ zF Pz 220 = some (.nilf) := ⟨by kernel_rfl, by kernel_rfl, by kernel_rfl⟩
@[simp] theorem z222 : zD Pz 222 = some 1 /\ zB Pz 222 = some 24 /\ zF Pz 222 = some (.nils) := ⟨by kernel_rfl, by kernel_rfl, by kernel_rfl⟩
@[simp] theorem z223 : zD Pz 223 = some 3 /\ zB Pz 223 = some 56 /\ zF Pz 223 = some (.agg [.str [], .nils, .str []]) := ⟨by kernel_rfl, by kernel_rfl, by kernel_rfl⟩
@[simp] theorem z224 : zD Pz 224 = some 3 /\ zB Pz 224 = some 56 /\ zF Pz 224 = some (.agg [.str [], .nils, .str []]) := ⟨by kernel_rfl, by kernel_rfl, by kernel_rfl⟩
@[simp] theorem z226 : zD Pz 226 = some 1 /\ zB Pz 226 = some 16 /\ zF Pz 226 = some (.top) := ⟨by kernel_rfl, by kernel_rfl, by kernel_rfl⟩
@[simp] theorem z227 : zD Pz 227 = some 1 /\ zB Pz 227 = some 16 /\ zF Pz 227 = some (.top) := ⟨by kernel_rfl, by kernel_rfl, by kernel_rfl⟩
@[simp] theorem z228 : zD Pz 228 = some 1 /\ zB Pz 228 = some 0 /\ zF Pz 228 = some (.tuple [.int .i64 (0), .top]) := ⟨by kernel_rfl, by kernel_rfl, by kernel_rfl⟩
@[simp] theorem z229 : zD Pz 229 = some 1 /\ zB Pz 229 = some 8 /\ zF Pz 229 = some (.nilf) := ⟨by kernel_rfl, by kernel_rfl, by kernel_rfl⟩
@[simp] theorem z233 : zD Pz 233 = some 1 /\ zB Pz 233 = some 8 /\ zF Pz 233 = some (.int .u64 (0)) := ⟨by kernel_rfl, by kernel_rfl, by kernel_rfl⟩
@[simp] theorem z234 : zD Pz 234 = some 1 /\ zB Pz 234 = some 8 /\ zF Pz 234 = some (.nilm) := ⟨by kernel_rfl, by kernel_rfl, by kernel_rfl⟩
@[simp] theorem z235 : zD Pz 235 = some 1 /\ zB Pz 235 = some 8 /\ zF Pz 235 = some (.nilm) := ⟨by kernel_rfl, by kernel_rfl, by kernel_rfl⟩
@[simp] theorem z236 : zD Pz 236 = some 1 /\ zB Pz 236 = some 24 /\ zF Pz 236 = some (.nils) := ⟨by kernel_rfl, by kernel_rfl, by kernel_rfl⟩
@[simp] theorem z237 : zD Pz 237 = some 4 /\ zB Pz 237 = some 48 /\ zF Pz 237 = some (.agg [.nilm, .nilm, .nils, .int .i64 (0)]) := ⟨by kernel_rfl, by kernel_rfl, by kernel_rfl⟩
@[simp] theorem z238 : zD Pz 238 = some 4 /\ zB Pz 238 = some 48 /\ zF Pz 238 = some (.agg [.nilm, .nilm, .nils, .int .i64 (0)]) := ⟨by kernel_rfl, by kernel_rfl, by kernel_rfl⟩
@[simp] theorem z239 : zD Pz 239 = some 1 /\ zB Pz 239 = some 8 /\ zF Pz 239 = some (.nilf) := ⟨by kernel_rfl, by kernel_rfl, by kernel_rfl⟩
@[simp] theorem z240 : zD Pz 240 = some 1 /\ zB Pz 240 = some 8 /\ zF Pz 240 = some (.nilf) := ⟨by kernel_rfl, by kernel_rfl, by kernel_rfl⟩
@[simp] theorem z241 : zD Pz 241 = some 2 /\ zB Pz 241 = some 24 /\ zF Pz 241 = some (.agg [.str [], .nilf]) := ⟨by kernel_rfl, by kernel_rfl, by kernel_rfl⟩
@[simp] theorem z242 : zD Pz 242 = some 2 /\ zB Pz 242 = some 24 /\ zF Pz 242 = some (.agg [.str [], .nilf]) := ⟨by kernel_rfl, by kernel_rfl, by kernel_rfl⟩
@[simp] theorem z245 : zD Pz 245 = some 1 /\ zB Pz 245 = some 8 /\ zF Pz 245 = some (.nilf) := ⟨by kernel_rfl, by kernel_rfl, by kernel_rfl⟩
@[simp] theorem z246 : zD Pz 246 = some 1 /\ zB Pz 246 = some 8 /\ zF Pz 246 = some (.nilf) := ⟨by kernel_rfl, by kernel_rfl, by kernel_rfl⟩
@[simp] theorem z250 : zD Pz 250 = some 1 /\ zB Pz 250 = some 8 /\ zF Pz 250 = some (.nilf) := ⟨by kernel_rfl, by kernel_rfl, by kernel_rfl⟩
@[simp] theorem z251 : zD Pz 251 = some 1 /\ zB Pz 251 = some 8 /\ zF Pz 251 = some (.nilf) := ⟨by kernel_rfl, by kernel_rfl, by kernel_rfl⟩
@[simp] theorem z252 : zD Pz 252 = some 1 /\ zB Pz 252 = some 8 /\ zF Pz 252 = some (.nilf) := ⟨by kernel_rfl, by kernel_rfl, by kernel_rfl⟩
@[simp] theorem z254 : zD Pz 254 = some 1 /\ zB Pz 254 = some 0 /\ zF Pz 254 = some (.tuple [.int .u64 (0), .int .i64 (0), .int .i64 (0)]) := ⟨by kernel_rfl, by kernel_rfl, by kernel_rfl⟩
@[simp] theorem z261 : zD Pz 261 = some 9 /\ zB Pz 261 = some 9 /\ zF Pz 261 = some (.agg [.int .u8 (0), .int .u8 (0), .int .u8 (0), .int .u8 (0), .int .u8 (0), .int .u8 (0), .int .u8 (0), .int .u8 (0), .int .u8 (0)]) := ⟨by kernel_rfl, by kernel_rfl, by kernel_rfl⟩
@[simp] theorem z262 : zD Pz 262 = some 10 /\ zB Pz 262 = some 24 /\ zF Pz 262 = some (.agg [.int .u8 (0), .int .u8 (0), .int .u8 (0), .int .u8 (0), .int .u8 (0), .int .u8 (0), .int .u8 (0), .int .u8 (0), .int .u8 (0), .int .i64 (0)]) := ⟨by kernel_rfl, by kernel_rfl, by kernel_rfl⟩
@[simp] theorem z263 : zD Pz 263 = some 10 /\ zB Pz 263 = some 24 /\ zF Pz 263 = some (.agg [.int .u8 (0), .int .u8 (0), .int .u8 (0), .int .u8 (0), .int .u8 (0), .int .u8 (0), .int .u8 (0), .int .u8 (0), .int .u8 (0), .int .i64 (0)]) := ⟨by kernel_rfl, by kernel_rfl, by kernel_rfl⟩
@[simp] theorem z266 : zD Pz 266 = some 1 /\ zB Pz 266 = some 8 /\ zF Pz 266 = some (.nilf) := ⟨by kernel_rfl, by kernel_rfl, by kernel_rfl⟩
@[simp] theorem z267 : zD Pz 267 = some 1 /\ zB Pz 267 = some 8 /\ zF Pz 267 = some (.nilf) := ⟨by kernel_rfl, by kernel_rfl, by kernel_rfl⟩
@[simp] theorem z276 : zD Pz 276 = some 1 /\ zB Pz 276 = some 8 /\ zF Pz 276 = some (.nilf) := ⟨by kernel_rfl, by kernel_rfl, by kernel_rfl⟩
@[simp] theorem z277 : zD Pz 277 = some 1 /\ zB Pz 277 = some 8 /\ zF Pz 277 = some (.nilp) := ⟨by kernel_rfl, by kernel_rfl, by kernel_rfl⟩
@[simp] theorem z278 : zD Pz 278 = some 2 /\ zB Pz 278 = some 32 /\ zF Pz 278 = some (.agg [.nilp, .nils]) := ⟨by kernel_rfl, by kernel_rfl, by kernel_rfl⟩
@[simp] theorem z279 : zD Pz 279 = some 2 /\ zB Pz 279 = some 32 /\ zF Pz 279 = some (.agg [.nilp, .nils]) := ⟨by kernel_rfl, by kernel_rfl, by kernel_rfl⟩
@[simp] theorem z280 : zD Pz 280 = some 1 /\ zB Pz 280 = some 8 /\ zF Pz 280 = some (.nilf) := ⟨by kernel_rfl, by kernel_rfl, by kernel_rfl⟩
@[simp] theorem z281 : zD Pz 281 = some 1 /\ zB Pz 281 = some 8 /\ zF Pz 281 = some (.nilf) := ⟨by kernel_rfl, by kernel_rfl, by kernel_rfl⟩
@[simp] theorem z282 : zD Pz 282 = some 1 /\ zB Pz 282 = some 8 /\ zF Pz 282 = some (.nilf) := ⟨by kernel_rfl, by kernel_rfl, by kernel_rfl⟩
@[simp] theorem z285 : zD Pz 285 = some 1 /\ zB Pz 285 = some 8 /\ zF Pz 285 = some (.int .i64 (0)) := ⟨by kernel_rfl, by kernel_rfl, by kernel_rfl⟩
@[simp] theorem z286 : zD Pz 286 = some 1 /\ zB Pz 286 = some 0 /\ zF Pz 286 = some (.tuple [.int .i64 (0), .int .i64 (0)]) := ⟨by kernel_rfl, by kernel_rfl, by kernel_rfl⟩
@[simp] theorem z301 : zD Pz 301 = some 1 /\ zB Pz 301 = some 8 /\ zF Pz 301 = some (.nilf) := ⟨by kernel_rfl, by kernel_rfl, by kernel_rfl⟩
@[simp] theorem z306 : zD Pz 306 = some 1 /\ zB Pz 306 = some 8 /\ zF Pz 306 = some (.nilp) := ⟨by kernel_rfl, by kernel_rfl, by kernel_rfl⟩
@[simp] theorem z307 : zD Pz 307 = some 1 /\ zB Pz 307 = some 8 /\ zF Pz 307 = some (.int .i64 (0)) := ⟨by kernel_rfl, by kernel_rfl, by kernel_rfl⟩
@[simp] theorem z308 : zD Pz 308 = some 1 /\ zB Pz 308 = some 0 /\ zF Pz 308 = some (.tuple [.int .i64 (0), .top]) := ⟨by kernel_rfl, by kernel_rfl, by kernel_rfl⟩
@[simp] theorem z310 : zD Pz 310 = some 1 /\ zB Pz 310 = some 8 /\ zF Pz 310 = some (.nilp) := ⟨by kernel_rfl, by kernel_rfl, by kernel_rfl⟩
@[simp] theorem z313 : zD Pz 313 = some 1 /\ zB Pz 313 = some 8 /\ zF Pz 313 = some (.int .u64 (0)) := ⟨by kernel_rfl, by kernel_rfl, by kernel_rfl⟩
@[simp] theorem z315 : zD Pz 315 = some 1 /\ zB Pz 315 = some 8 /\ zF Pz 315 = some (.nilf) := ⟨by kernel_rfl, by kernel_rfl, by kernel_rfl⟩
@[simp] theorem z317 : zD Pz 317 = some 1 /\ zB Pz 317 = some 8 /\ zF Pz 317 = some (.nilp) := ⟨by kernel_rfl, by kernel_rfl, by kernel_rfl⟩
@[simp] theorem z325 : zD Pz 325 = some 1 /\ zB Pz 325 = some 8 /\ zF Pz 325 = some (.nilf) := ⟨by kernel_rfl, by kernel_rfl, by kernel_rfl⟩
@[simp] theorem z326 : zD Pz 326 = some 1 /\ zB Pz 326 = some 8 /\ zF Pz 326 = some (.nilf) := ⟨by kernel_rfl, by kernel_rfl, by kernel_rfl⟩
@[simp] theorem z327 : zD Pz 327 = some 1 /\ zB Pz 327 = some 8 /\ zF Pz 327 = some (.nilf) := ⟨by kernel_rfl, by kernel_rfl, by kernel_rfl⟩
@[simp] theorem z328 : zD Pz 328 = some 16 /\ zB Pz 328 = some 64 /\ zF Pz 328 = some (.agg [.int .u32 (0), .int .u32 (0), .int .u32 (0), .int .u32 (0), .int .u32 (0), .int .u32 (0), .int .u32 (0), .int .u32 (0), .int .u32 (0), .int .u32 (0), .int .u32 (0), .int .u32 (0), .int .u32 (0), .int .u32 (0), .int .u32 (0), .int .u32 (0)]) := ⟨by kernel_rfl, by kernel_rfl, by kernel_rfl⟩
@[simp] theorem z329 : zD Pz 329 = some 1 /\ zB Pz 329 = some 8 /\ zF Pz 329 = some (.nilf) := ⟨by kernel_rfl, by kernel_rfl, by kernel_rfl⟩
@[simp] theorem z330 : zD Pz 330 = some 1 /\ zB Pz 330 = some 8 /\ zF Pz 330 = some (.nilf) := ⟨by kernel_rfl, by kernel_rfl, by kernel_rfl⟩
@[simp] theorem z331 : zD Pz 331 = some 24 /\ zB Pz 331 = some 24 /\ zF Pz 331 = some (.agg [.int .u8 (0), .int .u8 (0), .int .u8 (0), .int .u8 (0), .int .u8 (0), .int .u8 (0), .int .u8 (0), .int .u8 (0), .int .u8 (0), .int .u8 (0), .int .u8 (0), .int .u8 (0), .int .u8 (0), .int .u8 (0), .int .u8 (0), .int .u8 (0), .int .u8 (0), .int .u8 (0), .int .u8 (0), .int .u8 (0), .int .u8 (0), .int .u8 (0), .int .u8 (0), .int .u8 (0)]) := ⟨by kernel_rfl, by kernel_rfl, by kernel_rfl⟩
@[simp] theorem z333 : zD Pz 333 = some 1 /\ zB Pz 333 = some 0 /\ zF Pz 333 = some (.tuple [.nils, .str []]) := ⟨by kernel_rfl, by kernel_rfl, by kernel_rfl⟩
@[simp] theorem z335 : zD Pz 335 = some 1 /\ zB Pz 335 = some 24 /\ zF Pz 335 = some (.nils) := ⟨by kernel_rfl, by kernel_rfl, by kernel_rfl⟩
@[simp] theorem z336 : zD Pz 336 = some 1 /\ zB Pz 336 = some 8 /\ zF Pz 336 = some (.nilf) := ⟨by kernel_rfl, by kernel_rfl, by kernel_rfl⟩
@[simp] theorem z337 : zD Pz 337 = some 1 /\ zB Pz 337 = some 8 /\ zF Pz 337 = some (.nilf) := ⟨by kernel_rfl, by kernel_rfl, by kernel_rfl⟩
@[simp] theorem z338 : zD Pz 338 = some 1 /\ zB Pz 338 = some 8 /\ zF Pz 338 = some (.nilf) := ⟨by kernel_rfl, by kernel_rfl, by kernel_rfl⟩
@[simp] theorem z339 : zD Pz 339 = some 1 /\ zB Pz 339 = some 8 /\ zF Pz 339 = some (.nilp) := ⟨by kernel_rfl, by kernel_rfl, by kernel_rfl⟩
@[simp] theorem z340 : zD Pz 340 = some 1 /\ zB Pz 340 = some 8 /\ zF Pz 340 = some (.nilf) := ⟨by kernel_rfl, by kernel_rfl, by kernel_rfl⟩
@[simp] theorem z341 : zD Pz 341 = some 1 /\ zB Pz 341 = some 8 /\ zF Pz 341 = some (.nilf) := ⟨by kernel_rfl, by kernel_rfl, by kernel_rfl⟩
@[simp] theorem z342 : zD Pz 342 = some 1 /\ zB Pz 342 = some 0 /\ zF Pz 342 = some (.tuple [.int .u64 (0), .top]) := ⟨by kernel_rfl, by kernel_rfl, by kernel_rfl⟩
@[simp] theorem z343 : zD Pz 343 = some 1 /\ zB Pz 343 = some 8 /\ zF Pz 343 = some (.nilf) := ⟨by kernel_rfl, by kernel_rfl, by kernel_rfl⟩
@[simp] theorem z344 : zD Pz 344 = some 3 /\ zB Pz 344 = some 48 /\ zF Pz 344 = some (.agg [.str [], .str [], .top]) := ⟨by kernel_rfl, by kernel_rfl, by kernel_rfl⟩
@[simp] theorem z345 : zD Pz 345 = some 3 /\ zB Pz 345 = some 48 /\ zF Pz 345 = some (.agg [.str [], .str [], .top]) := ⟨by kernel_rfl, by kernel_rfl, by kernel_rfl⟩
@[simp] theorem z346 : zD Pz 346 = some 1 /\ zB Pz 346 = some 8 /\ zF Pz 346 = some (.nilf) := ⟨by kernel_rfl, by kernel_rfl, by kernel_rfl⟩
@[simp] theorem z347 : zD Pz 347 = some 1 /\ zB Pz 347 = some 8 /\ zF Pz 347 = some (.nilp) := ⟨by kernel_rfl, by kernel_rfl, by kernel_rfl⟩
@[simp] theorem z350 : zD Pz 350 = some 1 /\ zB Pz 350 = some 8 /\ zF Pz 350 = some (.nilf) := ⟨by kernel_rfl, by kernel_rfl, by kernel_rfl⟩
@[simp] theorem z353 : zD Pz 353 = some 20 /\ zB Pz 353 = some 160 /\ zF Pz 353 = some (.agg [.int .u64 (0), .int .u64 (0), .int .u64 (0), .int .u64 (0), .int .u64 (0), .int .u64 (0), .int .u64 (0), .int .u64 (0), .int .u64 (0), .int .u64 (0), .int .u64 (0), .int .u64 (0), .int .u64 (0), .int .u64 (0), .int .u64 (0), .int .u64 (0), .int .u64 (0), .int .u64 (0), .int .u64 (0), .int .u64 (0)]) := ⟨by kernel_rfl, by kernel_rfl, by kernel_rfl⟩
@[simp] theorem z357 : zD Pz 357 = some 1 /\ zB Pz 357 = some 8 /\ zF Pz 357 = some (.nilp) := ⟨by kernel_rfl, by kernel_rfl, by kernel_rfl⟩
@[simp] theorem z358 : zD Pz 358 = some 1 /\ zB Pz 358 = some 16 /\ zF Pz 358 = some (.agg [.str []]) := ⟨by kernel_rfl, by kernel_rfl, by kernel_rfl⟩
@[simp] theorem z359 : zD Pz 359 = some 1 /\ zB Pz 359 = some 16 /\ zF Pz 359 = some (.agg [.str []]) := ⟨by kernel_rfl, by kernel_rfl, by kernel_rfl⟩
@[simp] theorem z365 : zD Pz 365 = some 32 /\ zB Pz 365 = some 32 /\ zF Pz 365 = some (.agg [.int .u8 (0), .int .u8 (0), .int .u8 (0), .int .u8 (0), .int .u8 (0), .int .u8 (0), .int .u8 (0), .int .u8 (0), .int .u8 (0), .int .u8 (0), .int .u8 (0), .int .u8 (0), .int .u8 (0), .int .u8 (0), .int .u8 (0), .int .u8 (0), .int .u8 (0), .int .u8 (0), .int .u8 (0), .int .u8 (0), .int .u8 (0), .int .u8 (0), .int .u8 (0), .int .u8 (0), .int .u8 (0), .int .u8 (0), .int .u8 (0), .int .u8 (0), .int .u8 (0), .int .u8 (0), .int .u8 (0), .int .u8 (0)]) := ⟨by kernel_rfl, by kernel_rfl, by kernel_rfl⟩
@[simp] theorem z366 : zD Pz 366 = some 64 /\ zB Pz 366 = some 64 /\ zF Pz 366 = some (.agg [.int .u8 (0), .int .u8 (0), .int .u8 (0), .int .u8 (0), .int .u8 (0), .int .u8 (0), .int .u8 (0), .int .u8 (0), .int .u8 (0), .int .u8 (0), .int .u8 (0), .int .u8 (0), .int .u8 (0), .int .u8 (0), .int .u8 (0), .int .u8 (0), .int .u8 (0), .int .u8 (0), .int .u8 (0), .int .u8 (0), .int .u8 (0), .int .u8 (0), .int .u8 (0), .int .u8 (0), .int .u8 (0), .int .u8 (0), .int .u8 (0), .int .u8 (0), .int .u8 (0), .int .u8 (0), .int .u8 (0), .int .u8 (0), .int .u8 (0), .int .u8 (0), .int .u8 (0), .int .u8 (0), .int .u8 (0), .int .u8 (0), .int .u8 (0), .int .u8 (0), .int .u8 (0), .int .u8 (0), .int .u8 (0), .int .u8 (0), .int .u8 (0), .int .u8 (0), .int .u8 (0), .int .u8 (0), .int .u8 (0), .int .u8 (0), .int .u8 (0), .int .u8 (0), .int .u8 (0), .int .u8 (0), .int .u8 (0), .int .u8 (0), .int .u8 (0), .int .u8 (0), .int .u8 (0), .int .u8 (0), .int .u8 (0), .int .u8 (0), .int .u8 (0), .int .u8 (0)]) := ⟨by kernel_rfl, by kernel_rfl, by kernel_rfl⟩
@[simp] theorem z372 : zD Pz 372 = some 0 /\ zB Pz 372 = some 0 /\ zF Pz 372 = some (.agg []) := ⟨by kernel_rfl, by kernel_rfl, by kernel_rfl⟩
@[simp] theorem z373 : zD Pz 373 = some 0 /\ zB Pz 373 = some 0 /\ zF Pz 373 = some (.agg []) := ⟨by kernel_rfl, by kernel_rfl, by kernel_rfl⟩
@[simp] theorem z374 : zD Pz 374 = some 0 /\ zB Pz 374 = some 0 /\ zF Pz 374 = some (.agg []) := ⟨by kernel_rfl, by kernel_rfl, by kernel_rfl⟩
@[simp] theorem z375 : zD Pz 375 = some 1 /\ zB Pz 375 = some 1 /\ zF Pz 375 = some (.int .u8 (0)) := ⟨by kernel_rfl, by kernel_rfl, by kernel_rfl⟩
@[simp] theorem z376 : zD Pz 376 = some 1 /\ zB Pz 376 = some 1 /\ zF Pz 376 = some (.int .u8 (0)) := ⟨by kernel_rfl, by kernel_rfl, by kernel_rfl⟩
@[simp] theorem z377 : zD Pz 377 = some 1 /\ zB Pz 377 = some 8 /\ zF Pz 377 = some (.nilf) := ⟨by kernel_rfl, by kernel_rfl, by kernel_rfl⟩
@[simp] theorem z378 : zD Pz 378 = some 1 /\ zB Pz 378 = some 4 /\ zF Pz 378 = some (.int .i32 (0)) := ⟨by kernel_rfl, by kernel_rfl, by kernel_rfl⟩
@[simp] theorem z379 : zD Pz 379 = some 1 /\ zB Pz 379 = some 4 /\ zF Pz 379 = some (.int .i32 (0)) := ⟨by kernel_rfl, by kernel_rfl, by kernel_rfl⟩
@[simp] theorem z380 : zD Pz 380 = some 11 /\ zB Pz 380 = some 48 /\ zF Pz 380 = some (.agg [.int .u64 (0), .int .u64 (0), .int .u32 (0), .int .u8 (0), .int .u8 (0), .int .u8 (0), .int .u8 (0), .nilf, .nilp, .int .i32 (0), .int .i32 (0)]) := ⟨by kernel_rfl, by kernel_rfl, by kernel_rfl⟩
@[simp] theorem z381 : zD Pz 381 = some 11 /\ zB Pz 381 = some 48 /\ zF Pz 381 = some (.agg [.int .u64 (0), .int .u64 (0), .int .u32 (0), .int .u8 (0), .int .u8 (0), .int .u8 (0), .int .u8 (0), .nilf, .nilp, .int .i32 (0), .int .i32 (0)]) := ⟨by kernel_rfl, by kernel_rfl, by kernel_rfl⟩
@[simp] theorem fe7 : Z4 Pz 7 = some 4 := by kernel_rfl
@[simp] theorem fe8 : Z4 Pz 8 = some 4 := by kernel_rfl
@[simp] theorem fe36 : Z4 Pz 36 = some 2 := by kernel_rfl
@[simp] theorem fe37 : Z4 Pz 37 = some 2 := by kernel_rfl
@[simp] theorem fe96 : Z4 Pz 96 = some 4 := by kernel_rfl
@[simp] theorem fe97 : Z4 Pz 97 = some 4 := by kernel_rfl
@[simp] theorem fe121 : Z4 Pz 121 = some 3 := by kernel_rfl
@[simp] theorem fe122 : Z4 Pz 122 = some 3 := by kernel_rfl
@[simp] theorem fe139 : Z4 Pz 139 = some 3 := by kernel_rfl
@[simp] theorem fe140 : Z4 Pz 140 = some 3 := by kernel_rfl
@[simp] theorem fe141 : Z4 Pz 141 = some 3 := by kernel_rfl
@[simp] theorem fe142 : Z4 Pz 142 = some 3 := by kernel_rfl
@[simp] theorem fe167 : Z4 Pz 167 = some 2 := by kernel_rfl
@[simp] theorem fe168 : Z4 Pz 168 = some 2 := by kernel_rfl
@[simp] theorem fe358 : Z4 Pz 358 = some 1 := by kernel_rfl
@[simp] theorem fe359 : Z4 Pz 359 = some 1 := by kernel_rfl
@[simp] theorem fn2 : zH Pz 2 = some Tryz.f2 := Tryz.func2
@[simp] theorem fn3 : zH Pz 3 = some Tryz.f3 := Tryz.func3
@[simp] theorem fn4 : zH Pz 4 = some Tryz.f4 := Tryz.func4
@[simp] theorem fn5 : zH Pz 5 = some Tryz.f5 := Tryz.func5
@[simp] theorem fn6 : zH Pz 6 = some Tryz.f6 := Tryz.func6
@[simp] theorem fn7 : zH Pz 7 = some Tryz.f7 := Tryz.func7
@[simp] theorem fn8 : zH Pz 8 = some Tryz.f8 := Tryz.func8
@[simp] theorem fn9 : zH Pz 9 = some Tryz.f9 := Tryz.func9
@[simp] theorem fn10 : zH Pz 10 = some Tryz.f10 := Tryz.func10
@[simp] theorem fn11 : zH Pz 11 = some Tryz.f11 := Tryz.func11
@[simp] theorem fn12 : zH Pz 12 = some Tryz.f12 := Tryz.func12
@[simp] theorem fn13 : zH Pz 13 = some Tryz.f13 := Tryz.func13
@[simp] theorem fn14 : zH Pz 14 = some Tryz.f14 := Tryz.func14
@[simp] theorem fn15 : zH Pz 15 = some Tryz.f15 := Tryz.func15
@[simp] theorem fn16 : zH Pz 16 = some Tryz.f16 := Tryz.func16
@[simp] theorem fn17 : zH Pz 17 = some Tryz.f17 := Tryz.func17
@[simp] theorem fn18 : zH Pz 18 = some Tryz.f18 := Tryz.func18
@[simp] theorem fn19 : zH Pz 19 = some Tryz.f19 := Tryz.func19
@[simp] theorem fn20 : zH Pz 20 = some Tryz.f20 := Tryz.func20
@[simp] theorem fn21 : zH Pz 21 = some Tryz.f21 := Tryz.func21
@[simp] theorem fn22 : zH Pz 22 = some Tryz.f22 := Tryz.func22
@[simp] theorem fn23 : zH Pz 23 = some Tryz.f23 := Tryz.func23
@[simp] theorem fn24 : zH Pz 24 = some Tryz.f24 := Tryz.func24
@[simp] theorem fn25 : zH Pz 25 = some Tryz.f25 := Tryz.func25
@[simp] theorem fn26 : zH Pz 26 = some Tryz.f26 := Tryz.func26
@[simp] theorem fn27 : zH Pz 27 = some Tryz.f27 := Tryz.func27
@[simp] theorem fn28 : zH Pz 28 = some Tryz.f28 := Tryz.func28
@[simp] theorem fn29 : zH Pz 29 = some Tryz.f29 := Tryz.func29
@[simp] theorem fn30 : zH Pz 30 = some Tryz.f30 := Tryz.func30
@[simp] theorem fn31 : zH Pz 31 = some Tryz.f31 := Tryz.func31
@[simp] theorem fn32 : zH Pz 32 = some Tryz.f32 := Tryz.func32
@[simp] theorem fn33 : zH Pz 33 = some Tryz.f33 := Tryz.func33
@[simp] theorem fn34 : zH Pz 34 = some Tryz.f34 := Tryz.func34
@[simp] theorem fn35 : zH Pz 35 = some Tryz.f35 := Tryz.func35
@[simp] theorem fn36 : zH Pz 36 = some Tryz.f36 := Tryz.func36
@[simp] theorem fn37 : zH Pz 37 = some Tryz.f37 := Tryz.func37
@[simp] theorem fn38 : zH Pz 38 = some Tryz.f38 := Tryz.func38
@[simp] theorem fn39 : zH Pz 39 = some Tryz.f39 := Tryz.func39
@[simp] theorem fn40 : zH Pz 40 = some Tryz.f40 := Tryz.func40
@[simp] theorem fn41 : zH Pz 41 = some Tryz.f41 := Tryz.func41
@[simp] theorem fn42 : zH Pz 42 = some Tryz.f42 := Tryz.func42
@[simp] theorem fn43 : zH Pz 43 = some Tryz.f43 := Tryz.func43
@[simp] theorem fn44 : zH Pz 44 = some Tryz.f44 := Tryz.func44
@[simp] theorem fn45 : zH Pz 45 = some Tryz.f45 := Tryz.func45
@[simp] theorem fn46 : zH Pz 46 = some Tryz.f46 := Tryz.func46
@[simp] theorem fn47 : zH Pz 47 = some Tryz.f47 := Tryz.func47
@[simp] theorem fn48 : zH Pz 48 = some Tryz.f48 := Tryz.func48
@[simp] theorem fn49 : zH Pz 49 = some Tryz.f49 := Tryz.func49
@[simp] theorem fn50 : zH Pz 50 = some Tryz.f50 := Tryz.func50
@[simp] theorem fn51 : zH Pz 51 = some Tryz.f51 := Tryz.func51
@[simp] theorem fn52 : zH Pz 52 = some Tryz.f52 := Tryz.func52
@[simp] theorem fn53 : zH Pz 53 = some Tryz.f53 := Tryz.func53
@[simp] theorem fn54 : zH Pz 54 = some Tryz.f54 := Tryz.func54
@[simp] theorem fn55 : zH Pz 55 = some Tryz.f55 := Tryz.func55
@[simp] theorem fn56 : zH Pz 56 = some Tryz.f56 := Tryz.func56
@[simp] theorem fn57 : zH Pz 57 = some Tryz.f57 := Tryz.func57
@[simp] theorem fn58 : zH Pz 58 = some Tryz.f58 := Tryz.func58
@[simp] theorem fn59 : zH Pz 59 = some Tryz.f59 := Tryz.func59
@[simp] theorem fn60 : zH Pz 60 = some Tryz.f60 := Tryz.func60
@[simp] theorem fn61 : zH Pz 61 = some Tryz.f61 := Tryz.func61
@[simp] theorem fn62 : zH Pz 62 = some Tryz.f62 := Tryz.func62
@[simp] theorem fn63 : zH Pz 63 = some Tryz.f63 := Tryz.func63
@[simp] theorem fn64 : zH Pz 64 = some Tryz.f64 := Tryz.func64
@[simp] theorem fn65 : zH Pz 65 = some Tryz.f65 := Tryz.func65
@[simp] theorem fn66 : zH Pz 66 = some Tryz.f66 := Tryz.func66
@[simp] theorem fn67 : zH Pz 67 = some Tryz.f67 := Tryz.func67
@[simp] theorem fn68 : zH Pz 68 = some Tryz.f68 := Tryz.func68
@[simp] theorem fn69 : zH Pz 69 = some Tryz.f69 := Tryz.func69
@[simp] theorem fn70 : zH Pz 70 = some Tryz.f70 := Tryz.func70
@[simp] theorem fn71 : zH Pz 71 = some Tryz.f71 := Tryz.func71
@[simp] theorem fn72 : zH Pz 72 = some Tryz.f72 := Tryz.func72
@[simp] theorem fn73 : zH Pz 73 = some Tryz.f73 := Tryz.func73
@[simp] theorem fn74 : zH Pz 74 = some Tryz.f74 := Tryz.func74
@[simp] theorem fn75 : zH Pz 75 = some Tryz.f75 := Tryz.func75
@[simp] theorem fn76 : zH Pz 76 = some Tryz.f76 := Tryz.func76
@[simp] theorem fn77 : zH Pz 77 = some Tryz.f77 := Tryz.func77
@[simp] theorem fn78 : zH Pz 78 = some Tryz.f78 := Tryz.func78
@[simp] theorem fn79 : zH Pz 79 = some Tryz.f79 := Tryz.func79
@[simp] theorem fn80 : zH Pz 80 = some Tryz.f80 := Tryz.func80
@[simp] theorem fn81 : zH Pz 81 = some Tryz.f81 := Tryz.func81
@[simp] theorem fn82 : zH Pz 82 = some Tryz.f82 := Tryz.func82
@[simp] theorem fn83 : zH Pz 83 = some Tryz.f83 := Tryz.func83
@[simp] theorem fn84 : zH Pz 84 = some Tryz.f84 := Tryz.func84
@[simp] theorem fn85 : zH Pz 85 = some Tryz.f85 := Tryz.func85
@[simp] theorem fn86 : zH Pz 86 = some Tryz.f86 := Tryz.func86
@[simp] theorem fn87 : zH Pz 87 = some Tryz.f87 := Tryz.func87
@[simp] theorem fn88 : zH Pz 88 = some Tryz.f88 := Tryz.func88
@[simp] theorem fn89 : zH Pz 89 = some Tryz.f89 := Tryz.func89
@[simp] theorem fn90 : zH Pz 90 = some Tryz.f90 := Tryz.func90
@[simp] theorem fn91 : zH Pz 91 = some Tryz.f91 := Tryz.func91
@[simp] theorem fn92 : zH Pz 92 = some Tryz.f92 := Tryz.func92
@[simp] theorem fn93 : zH Pz 93 = some Tryz.f93 := Tryz.func93
@[simp] theorem fn94 : zH Pz 94 = some Tryz.f94 := Tryz.func94
@[simp] theorem fn95 : zH Pz 95 = some Tryz.f95 := Tryz.func95
@[simp] theorem fn96 : zH Pz 96 = some Tryz.f96 := Tryz.func96
@[simp] theorem fn97 : zH Pz 97 = some Tryz.f97 := Tryz.func97
@[simp] theorem fn98 : zH Pz 98 = some Tryz.f98 := Tryz.func98
@[simp] theorem fn99 : zH Pz 99 = some Tryz.f99 := Tryz.func99
@[simp] theorem fn100 : zH Pz 100 = some Tryz.f100 := Tryz.func100
@[simp] theorem fn101 : zH Pz 101 = some Tryz.f101 := Tryz.func101
@[simp] theorem fn102 : zH Pz 102 = some Tryz.f102 := Tryz.func102
@[simp] theorem fn103 : zH Pz 103 = some Tryz.f103 := Tryz.func103
@[simp] theorem fn104 : zH Pz 104 = some Tryz.f104 := Tryz.func104
@[simp] theorem fn105 : zH Pz 105 = some Tryz.f105 := Tryz.func105
@[simp] theorem fn106 : zH Pz 106 = some Tryz.f106 := Tryz.func106
@[simp] theorem fn107 : zH Pz 107 = some Tryz.f107 := Tryz.func107
@[simp] theorem fn108 : zH Pz 108 = some Tryz.f108 := Tryz.func108
@[simp] theorem fn109 : zH Pz 109 = some Tryz.f109 := Tryz.func109
@[simp] theorem fn110 : zH Pz 110 = some Tryz.f110 := Tryz.func110
@[simp] theorem fn111 : zH Pz 111 = some Tryz.f111 := Tryz.func111
@[simp] theorem fn112 : zH Pz 112 = some Tryz.f112 := Tryz.func112
@[simp] theorem fn113 : zH Pz 113 = some Tryz.f113 := Tryz.func113
@[simp] theorem fn114 : zH Pz 114 = some Tryz.f114 := Tryz.func114
@[simp] theorem fn115 : zH Pz 115 = some Tryz.f115 := Tryz.func115
@[simp] theorem fn116 : zH Pz 116 = some Tryz.f116 := Tryz.func116
@[simp] theorem fn117 : zH Pz 117 = some Tryz.f117 := Tryz.func117
@[simp] theorem fn118 : zH Pz 118 = some Tryz.f118 := Tryz.func118
@[simp] theorem fn119 : zH Pz 119 = some Tryz.f119 := Tryz.func119
@[simp] theorem fn120 : zH Pz 120 = some Tryz.f120 := Tryz.func120
@[simp] theorem fn121 : zH Pz 121 = some Tryz.f121 := Tryz.func121
@[simp] theorem fn122 : zH Pz 122 = some Tryz.f122 := Tryz.func122
@[simp] theorem fn123 : zH Pz 123 = some Tryz.f123 := Tryz.func123
@[simp] theorem fn124 : zH Pz 124 = some Tryz.f124 := Tryz.func124
@[simp] theorem fn125 : zH Pz 125 = some Tryz.f125 := Tryz.func125
@[simp] theorem fn126 : zH Pz 126 = some Tryz.f126 := Tryz.func126
@[simp] theorem fn127 : zH Pz 127 = some Tryz.f127 := Tryz.func127
@[simp] theorem fn128 : zH Pz 128 = some Tryz.f128 := Tryz.func128
@[simp] theorem fn129 : zH Pz 129 = some Tryz.f129 := Tryz.func129
@[simp] theorem fn130 : zH Pz 130 = some Tryz.f130 := Tryz.func130
@[simp] theorem fn131 : zH Pz 131 = some Tryz.f131 := Tryz.func131
@[simp] theorem fn132 : zH Pz 132 = some Tryz.f132 := Tryz.func132
@[simp] theorem fn133 : zH Pz 133 = some Tryz.f133 := Tryz.func133
@[simp] theorem fn134 : zH Pz 134 = some Tryz.f134 := Tryz.func134
@[simp] theorem fn135 : zH Pz 135 = some Tryz.f135 := Tryz.func135
@[simp] theorem fn136 : zH Pz 136 = some Tryz.f136 := Tryz.func136
@[simp] theorem fn137 : zH Pz 137 = some Tryz.f137 := Tryz.func137
@[simp] theorem fn138 : zH Pz 138 = some Tryz.f138 := Tryz.func138
@[simp] theorem fn139 : zH Pz 139 = some Tryz.f139 := Tryz.func139
@[simp] theorem fn140 : zH Pz 140 = some Tryz.f140 := Tryz.func140
@[simp] theorem fn141 : zH Pz 141 = some Tryz.f141 := Tryz.func141
@[simp] theorem fn142 : zH Pz 142 = some Tryz.f142 := Tryz.func142
@[simp] theorem fn143 : zH Pz 143 = some Tryz.f143 := Tryz.func143
@[simp] theorem fn144 : zH Pz 144 = some Tryz.f144 := Tryz.func144
@[simp] theorem fn145 : zH Pz 145 = some Tryz.f145 := Tryz.func145
@[simp] theorem fn146 : zH Pz 146 = some Tryz.f146 := Tryz.func146
@[simp] theorem fn147 : zH Pz 147 = some Tryz.f147 := Tryz.func147
@[simp] theorem fn148 : zH Pz 148 = some Tryz.f148 := Tryz.func148
@[simp] theorem fn149 : zH Pz 149 = some Tryz.f149 := Tryz.func149
@[simp] theorem fn150 : zH Pz 150 = some Tryz.f150 := Tryz.func150
@[simp] theorem fn151 : zH Pz 151 = some Tryz.f151 := Tryz.func151
@[simp] theorem fn152 : zH Pz 152 = some Tryz.f152 := Tryz.func152
@[simp] theorem fn153 : zH Pz 153 = some Tryz.f153 := Tryz.func153
@[simp] theorem fn154 : zH Pz 154 = some Tryz.f154 := Tryz.func154
@[simp] theorem fn155 : zH Pz 155 = some Tryz.f155 := Tryz.func155
@[simp] theorem fn156 : zH Pz 156 = some Tryz.f156 := Tryz.func156
@[simp] theorem fn157 : zH Pz 157 = some Tryz.f157 := Tryz.func157
@[simp] theorem fn158 : zH Pz 158 = some Tryz.f158 := Tryz.func158
@[simp] theorem fn159 : zH Pz 159 = some Tryz.f159 := Tryz.func159
@[simp] theorem fn160 : zH Pz 160 = some Tryz.f160 := Tryz.func160
@[simp] theorem fn161 : zH Pz 161 = some Tryz.f161 := Tryz.func161
@[simp] theorem fn162 : zH Pz 162 = some Tryz.f162 := Tryz.func162
@[simp] theorem fn163 : zH Pz 163 = some Tryz.f163 := Tryz.func163
@[simp] theorem fn164 : zH Pz 164 = some Tryz.f164 := Tryz.func164
@[simp] theorem fn165 : zH Pz 165 = some Tryz.f165 := Tryz.func165
@[simp] theorem fn166 : zH Pz 166 = some Tryz.f166 := Tryz.func166
@[simp] theorem fn167 : zH Pz 167 = some Tryz.f167 := Tryz.func167
@[simp] theorem fn168 : zH Pz 168 = some Tryz.f168 := Tryz.func168
@[simp] theorem fn169 : zH Pz 169 = some Tryz.f169 := Tryz.func169
@[simp] theorem fn170 : zH Pz 170 = some Tryz.f170 := Tryz.func170
@[simp] theorem fn171 : zH Pz 171 = some Tryz.f171 := Tryz.func171
@[simp] theorem fn172 : zH Pz 172 = some Tryz.f172 := Tryz.func172
@[simp] theorem fn173 : zH Pz 173 = some Tryz.f173 := Tryz.func173
@[simp] theorem fn174 : zH Pz 174 = some Tryz.f174 := Tryz.func174
@[simp] theorem fn175 : zH Pz 175 = some Tryz.f175 := Tryz.func175
@[simp] theorem fn176 : zH Pz 176 = some Tryz.f176 := Tryz.func176
@[simp] theorem fn177 : zH Pz 177 = some Tryz.f177 := Tryz.func177
@[simp] theorem fn178 : zH Pz 178 = some Tryz.f178 := Tryz.func178
@[simp] theorem fn179 : zH Pz 179 = some Tryz.f179 := Tryz.func179
@[simp] theorem fn180 : zH Pz 180 = some Tryz.f180 := Tryz.func180
@[simp] theorem fn181 : zH Pz 181 = some Tryz.f181 := Tryz.func181
@[simp] theorem fn182 : zH Pz 182 = some Tryz.f182 := Tryz.func182
@[simp] theorem fn183 : zH Pz 183 = some Tryz.f183 := Tryz.func183
@[simp] theorem fn184 : zH Pz 184 = some Tryz.f184 := Tryz.func184
@[simp] theorem fn185 : zH Pz 185 = some Tryz.f185 := Tryz.func185
@[simp] theorem fn186 : zH Pz 186 = some Tryz.f186 := Tryz.func186
@[simp] theorem fn187 : zH Pz 187 = some Tryz.f187 := Tryz.func187
@[simp] theorem fn188 : zH Pz 188 = some Tryz.f188 := Tryz.func188
@[simp] theorem fn189 : zH Pz 189 = some Tryz.f189 := Tryz.func189
@[simp] theorem fn190 : zH Pz 190 = some Tryz.f190 := Tryz.func190
@[simp] theorem fn191 : zH Pz 191 = some Tryz.f191 := Tryz.func191
@[simp] theorem fn192 : zH Pz 192 = some Tryz.f192 := Tryz.func192
@[simp] theorem fn193 : zH Pz 193 = some Tryz.f193 := Tryz.func193
@[simp] theorem fn195 : zH Pz 195 = some Tryz.f195 := Tryz.func195
@[simp] theorem fn196 : zH Pz 196 = some Tryz.f196 := Tryz.func196
@[simp] theorem fn197 : zH Pz 197 = some Tryz.f197 := Tryz.func197
@[simp] theorem fn198 : zH Pz 198 = some Tryz.f198 := Tryz.func198
@[simp] theorem fn199 : zH Pz 199 = some Tryz.f199 := Tryz.func199
@[simp] theorem fn200 : zH Pz 200 = some Tryz.f200 := Tryz.func200
@[simp] theorem fn201 : zH Pz 201 = some Tryz.f201 := Tryz.func201
@[simp] theorem fn202 : zH Pz 202 = some Tryz.f202 := Tryz.func202
@[simp] theorem fn203 : zH Pz 203 = some Tryz.f203 := Tryz.func203
@[simp] theorem fn204 : zH Pz 204 = some Tryz.f204 := Tryz.func204
@[simp] theorem fn205 : zH Pz 205 = some Tryz.f205 := Tryz.func205
@[simp] theorem fn206 : zH Pz 206 = some Tryz.f206 := Tryz.func206
@[simp] theorem fn207 : zH Pz 207 = some Tryz.f207 := Tryz.func207
@[simp] theorem fn208 : zH Pz 208 = some Tryz.f208 := Tryz.func208
@[simp] theorem fn209 : zH Pz 209 = some Tryz.f209 := Tryz.func209
@[simp] theorem fn210 : zH Pz 210 = some Tryz.f210 := Tryz.func210
@[simp] theorem fn211 : zH Pz 211 = some Tryz.f211 := Tryz.func211
@[simp] theorem fn212 : zH Pz 212 = some Tryz.f212 := Tryz.func212
@[simp] theorem fn213 : zH Pz 213 = some Tryz.f213 := Tryz.func213
@[simp] theorem fn214 : zH Pz 214 = some Tryz.f214 := Tryz.func214
@[simp] theorem fn215 : zH Pz 215 = some Tryz.f215 := Tryz.func215
@[simp] theorem fn216 : zH Pz 216 = some Tryz.f216 := Tryz.func216
@[simp] theorem fn217 : zH Pz 217 = some Tryz.f217 := Tryz.func217
@[simp] theorem fn218 : zH Pz 218 = some Tryz.f218 := Tryz.func218
@[simp] theorem fn219 : zH Pz 219 = some Tryz.f219 := Tryz.func219
@[simp] theorem fn220 : zH Pz 220 = some Tryz.f220 := Tryz.func220
@[simp] theorem fn221 : zH Pz 221 = some Tryz.f221 := Tryz.func221
@[simp] theorem fn222 : zH Pz 222 = some Tryz.f222 := Tryz.func222
@[simp] theorem fn223 : zH Pz 223 = some Tryz.f223 := Tryz.func223
@[simp] theorem fn224 : zH Pz 224 = some Tryz.f224 := Tryz.func224
@[simp] theorem fn225 : zH Pz 225 = some Tryz.f225 := Tryz.func225
@[simp] theorem fn226 : zH Pz 226 = some Tryz.f226 := Tryz.func226
@[simp] theorem fn227 : zH Pz 227 = some Tryz.f227 := Tryz.func227
@[simp] theorem fn228 : zH Pz 228 = some Tryz.f228 := Tryz.func228
@[simp] theorem fn229 : zH Pz 229 = some Tryz.f229 := Tryz.func229
@[simp] theorem fn230 : zH Pz 230 = some Tryz.f230 := Tryz.func230
@[simp] theorem fn231 : zH Pz 231 = some Tryz.f231 := Tryz.func231
@[simp] theorem fn232 : zH Pz 232 = some Tryz.f232 := Tryz.func232
@[simp] theorem fn233 : zH Pz 233 = some Tryz.f233 := Tryz.func233
@[simp] theorem fn234 : zH Pz 234 = some Tryz.f234 := Tryz.func234
@[simp] theorem fn235 : zH Pz 235 = some Tryz.f235 := Tryz.func235
@[simp] theorem fn236 : zH Pz 236 = some Tryz.f236 := Tryz.func236
@[simp] theorem fn237 : zH Pz 237 = some Tryz.f237 := Tryz.func237
@[simp] theorem fn238 : zH Pz 238 = some Tryz.f238 := Tryz.func238
@[simp] theorem fn239 : zH Pz 239 = some Tryz.f239 := Tryz.func239
@[simp] theorem fn240 : zH Pz 240 = some Tryz.f240 := Tryz.func240
@[simp] theorem fn241 : zH Pz 241 = some Tryz.f241 := Tryz.func241
@[simp] theorem fn242 : zH Pz 242 = some Tryz.f242 := Tryz.func242
@[simp] theorem fn243 : zH Pz 243 = some Tryz.f243 := Tryz.func243
@[simp] theorem fn244 : zH Pz 244 = some Tryz.f244 := Tryz.func244
@[simp] theorem fn245 : zH Pz 245 = some Tryz.f245 := Tryz.func245
@[simp] theorem fn246 : zH Pz 246 = some Tryz.f246 := Tryz.func246
@[simp] theorem fn247 : zH Pz 247 = some Tryz.f247 := Tryz.func247
@[simp] theorem fn248 : zH Pz 248 = some Tryz.f248 := Tryz.func248
@[simp] theorem fn249 : zH Pz 249 = some Tryz.f249 := Tryz.func249
@[simp] theorem fn250 : zH Pz 250 = some Tryz.f250 := Tryz.func250
@[simp] theorem fn251 : zH Pz 251 = some Tryz.f251 := Tryz.func251
@[simp] theorem fn252 : zH Pz 252 = some Tryz.f252 := Tryz.func252
@[simp] theorem fn253 : zH Pz 253 = some Tryz.f253 := Tryz.func253
@[simp] theorem fn254 : zH Pz 254 = some Tryz.f254 := Tryz.func254
@[simp] theorem fn255 : zH Pz 255 = some Tryz.f255 := Tryz.func255
@[simp] theorem fn256 : zH Pz 256 = some Tryz.f256 := Tryz.func256
@[simp] theorem fn257 : zH Pz 257 = some Tryz.f257 := Tryz.func257
@[simp] theorem fn258 : zH Pz 258 = some Tryz.f258 := Tryz.func258
@[simp] theorem fn259 : zH Pz 259 = some Tryz.f259 := Tryz.func259
@[simp] theorem fn260 : zH Pz 260 = some Tryz.f260 := Tryz.func260
@[simp] theorem fn261 : zH Pz 261 = some Tryz.f261 := Tryz.func261
@[simp] theorem fn262 : zH Pz 262 = some Tryz.f262 := Tryz.func262
@[simp] theorem fn263 : zH Pz 263 = some Tryz.f263 := Tryz.func263
@[simp] theorem fn264 : zH Pz 264 = some Tryz.f264 := Tryz.func264
@[simp] theorem fn265 : zH Pz 265 = some Tryz.f265 := Tryz.func265
@[simp] theorem fn266 : zH Pz 266 = some Tryz.f266 := Tryz.func266
@[simp] theorem fn267 : zH Pz 267 = some Tryz.f267 := Tryz.func267
@[simp] theorem fn268 : zH Pz 268 = some Tryz.f268 := Tryz.func268
@[simp] theorem fn269 : zH Pz 269 = some Tryz.f269 := Tryz.func269
@[simp] theorem fn270 : zH Pz 270 = some Tryz.f270 := Tryz.func270
@[simp] theorem fn271 : zH Pz 271 = some Tryz.f271 := Tryz.func271
@[simp] theorem fn272 : zH Pz 272 = some Tryz.f272 := Tryz.func272
@[simp] theorem fn273 : zH Pz 273 = some Tryz.f273 := Tryz.func273
@[simp] theorem fn274 : zH Pz 274 = some Tryz.f274 := Tryz.func274
@[simp] theorem fn275 : zH Pz 275 = some Tryz.f275 := Tryz.func275
@[simp] theorem fn276 : zH Pz 276 = some Tryz.f276 := Tryz.func276
@[simp] theorem fn277 : zH Pz 277 = some Tryz.f277 := Tryz.func277
@[simp] theorem fn278 : zH Pz 278 = some Tryz.f278 := Tryz.func278
@[simp] theorem fn279 : zH Pz 279 = some Tryz.f279 := Tryz.func279
@[simp] theorem fn280 : zH Pz 280 = some Tryz.f280 := Tryz.func280
@[simp] theorem fn281 : zH Pz 281 = some Tryz.f281 := Tryz.func281
@[simp] theorem fn282 : zH Pz 282 = some Tryz.f282 := Tryz.func282
@[simp] theorem fn283 : zH Pz 283 = some Tryz.f283 := Tryz.func283
@[simp] theorem fn284 : zH Pz 284 = some Tryz.f284 := Tryz.func284
@[simp] theorem fn285 : zH Pz 285 = some Tryz.f285 := Tryz.func285
@[simp] theorem fn286 : zH Pz 286 = some Tryz.f286 := Tryz.func286
@[simp] theorem fn287 : zH Pz 287 = some Tryz.f287 := Tryz.func287
@[simp] theorem fn288 : zH Pz 288 = some Tryz.f288 := Tryz.func288
@[simp] theorem fn289 : zH Pz 289 = some Tryz.f289 := Tryz.func289
@[simp] theorem fn290 : zH Pz 290 = some Tryz.f290 := Tryz.func290
@[simp] theorem fn291 : zH Pz 291 = some Tryz.f291 := Tryz.func291
@[simp] theorem fn292 : zH Pz 292 = some Tryz.f292 := Tryz.func292
@[simp] theorem fn293 : zH Pz 293 = some Tryz.f293 := Tryz.func293
@[simp] theorem fn294 : zH Pz 294 = some Tryz.f294 := Tryz.func294
@[simp] theorem fn295 : zH Pz 295 = some Tryz.f295 := Tryz.func295
@[simp] theorem fn298 : zH Pz 298 = some Tryz.f298 := Tryz.func298
@[simp] theorem fn299 : zH Pz 299 = some Tryz.f299 := Tryz.func299
@[simp] theorem fn300 : zH Pz 300 = some Tryz.f300 := Tryz.func300
@[simp] theorem fn301 : zH Pz 301 = some Tryz.f301 := Tryz.func301
@[simp] theorem fn302 : zH Pz 302 = some Tryz.f302 := Tryz.func302
@[simp] theorem fn303 : zH Pz 303 = some Tryz.f303 := Tryz.func303
@[simp] theorem fn304 : zH Pz 304 = some Tryz.f304 := Tryz.func304
@[simp] theorem fn305 : zH Pz 305 = some Tryz.f305 := Tryz.func305
@[simp] theorem fn306 : zH Pz 306 = some Tryz.f306 := Tryz.func306
@[simp] theorem fn307 : zH Pz 307 = some Tryz.f307 := Tryz.func307
@[simp] theorem fn308 : zH Pz 308 = some Tryz.f308 := Tryz.func308
@[simp] theorem fn309 : zH Pz 309 = some Tryz.f309 := Tryz.func309
@[simp] theorem fn310 : zH Pz 310 = some Tryz.f310 := Tryz.func310
@[simp] theorem fn311 : zH Pz 311 = some Tryz.f311 := Tryz.func311
@[simp] theorem fn312 : zH Pz 312 = some Tryz.f312 := Tryz.func312
@[simp] theorem fn313 : zH Pz 313 = some Tryz.f313 := Tryz.func313
@[simp] theorem fn314 : zH Pz 314 = some Tryz.f314 := Tryz.func314
@[simp] theorem fn315 : zH Pz 315 = some Tryz.f315 := Tryz.func315
@[simp] theorem fn316 : zH Pz 316 = some Tryz.f316 := Tryz.func316
@[simp] theorem fn317 : zH Pz 317 = some Tryz.f317 := Tryz.func317
@[simp] theorem fn318 : zH Pz 318 = some Tryz.f318 := Tryz.func318
@[simp] theorem fn319 : zH Pz 319 = some Tryz.f319 := Tryz.func319
@[simp] theorem fn320 : zH Pz 320 = some Tryz.f320 := Tryz.func320
@[simp] theorem fn321 : zH Pz 321 = some Tryz.f321 := Tryz.func321
@[simp] theorem fn322 : zH Pz 322 = some Tryz.f322 := Tryz.func322
@[simp] theorem fn323 : zH Pz 323 = some Tryz.f323 := Tryz.func323
@[simp] theorem fn324 : zH Pz 324 = some Tryz.f324 := Tryz.func324
@[simp] theorem fn354 : zH Pz 354 = some Tryz.f354 := Tryz.func354
attribute [simp] Tryz.underlying0 Tryz.underlying1 Tryz.underlying2 Tryz.underlying3 Tryz.underlying4 Tryz.underlying5 Tryz.underlying6 Tryz.underlying7 Tryz.underlying8 Tryz.underlying9 Tryz.underlying10 Tryz.underlying11 Tryz.underlying12 Tryz.underlying16 Tryz.underlying17 Tryz.underlying18 Tryz.underlying19 Tryz.underlying20 Tryz.underlying21 Tryz.underlying22 Tryz.underlying23 Tryz.underlying24 Tryz.underlying25 Tryz.underlying26 Tryz.underlying27 Tryz.underlying28 Tryz.underlying30 Tryz.underlying31 Tryz.underlying32 Tryz.underlying33 Tryz.underlying34 Tryz.underlying35 Tryz.underlying36 Tryz.underlying37 Tryz.underlying39 Tryz.underlying40 Tryz.underlying41 Tryz.underlying42 Tryz.underlying43 Tryz.underlying44 Tryz.underlying45 Tryz.underlying46 Tryz.underlying47 Tryz.underlying48 Tryz.underlying49 Tryz.underlying51 Tryz.underlying53 Tryz.underlying54 Tryz.underlying55 Tryz.underlying56 Tryz.underlying57 Tryz.underlying58 Tryz.underlying61 Tryz.underlying62 Tryz.underlying63 Tryz.underlying64 Tryz.underlying65 Tryz.underlying66 Tryz.underlying67 Tryz.underlying68 Tryz.underlying69 Tryz.underlying70 Tryz.underlying71 Tryz.underlying72 Tryz.underlying75 Tryz.underlying76 Tryz.underlying77 Tryz.underlying78 Tryz.underlying79 Tryz.underlying80 Tryz.underlying81 Tryz.underlying82 Tryz.underlying83 Tryz.underlying86 Tryz.underlying94 Tryz.underlying95 Tryz.underlying96 Tryz.underlying97 Tryz.underlying99 Tryz.underlying100 Tryz.underlying101 Tryz.underlying102 Tryz.underlying103 Tryz.underlying104 Tryz.underlying105 Tryz.underlying106 Tryz.underlying107 Tryz.underlying108 Tryz.underlying109 Tryz.underlying112 Tryz.underlying114 Tryz.underlying115 Tryz.underlying116 Tryz.underlying118 Tryz.underlying120 Tryz.underlying121 Tryz.underlying122 Tryz.underlying123 Tryz.underlying124 Tryz.underlying125 Tryz.underlying126 Tryz.underlying127 Tryz.underlying128 Tryz.underlying129 Tryz.underlying130 Tryz.underlying131 Tryz.underlying132 Tryz.underlying133 Tryz.underlying134 Tryz.underlying135 Tryz.underlying136 Tryz.underlying137 Tryz.underlying139 Tryz.underlying140 Tryz.underlying141 Tryz.underlying142 Tryz.underlying143 Tryz.underlying144 Tryz.underlying145 Tryz.underlying147 Tryz.underlying149 Tryz.underlying150 Tryz.underlying152 Tryz.underlying153 Tryz.underlying155 Tryz.underlying156 Tryz.underlying157 Tryz.underlying158 Tryz.underlying159 Tryz.underlying160 Tryz.underlying162 Tryz.underlying163 Tryz.underlying164 Tryz.underlying165 Tryz.underlying166 Tryz.underlying167 Tryz.underlying168 Tryz.underlying169 Tryz.underlying171 Tryz.underlying172 Tryz.underlying177 Tryz.underlying178 Tryz.underlying181 Tryz.underlying182 Tryz.underlying183 Tryz.underlying185 Tryz.underlying186 Tryz.underlying188 Tryz.underlying190 Tryz.underlying191 Tryz.underlying192 Tryz.underlying201 Tryz.underlying204 Tryz.underlying206 Tryz.underlying208 Tryz.underlying209 Tryz.underlying210 Tryz.underlying211 Tryz.underlying212 Tryz.underlying213 Tryz.underlying214 Tryz.underlying215 Tryz.underlying216 Tryz.underlying217 Tryz.underlying218 Tryz.underlying219 Tryz.underlying220 Tryz.underlying222 Tryz.underlying223 Tryz.underlying224 Tryz.underlying226 Tryz.underlying227 Tryz.underlying228 Tryz.underlying229 Tryz.underlying233 Tryz.underlying234 Tryz.underlying235 Tryz.underlying236 Tryz.underlying237 Tryz.underlying238 Tryz.underlying239 Tryz.underlying240 Tryz.underlying241 Tryz.underlying242 Tryz.underlying245 Tryz.underlying246 Tryz.underlying250 Tryz.underlying251 Tryz.underlying252 Tryz.underlying254 Tryz.underlying261 Tryz.underlying262 Tryz.underlying263 Tryz.underlying266 Tryz.underlying267 Tryz.underlying276 Tryz.underlying277 Tryz.underlying278 Tryz.underlying279 Tryz.underlying280 Tryz.underlying281 Tryz.underlying282 Tryz.underlying285 Tryz.underlying286 Tryz.underlying301 Tryz.underlying306 Tryz.underlying307 Tryz.underlying308 Tryz.underlying310 Tryz.underlying313 Tryz.underlying315 Tryz.underlying317 Tryz.underlying325 Tryz.underlying326 Tryz.underlying327 Tryz.underlying328 Tryz.underlying329 Tryz.underlying330 Tryz.underlying331 Tryz.underlying333 Tryz.underlying335 Tryz.underlying336 Tryz.underlying337 Tryz.underlying338 Tryz.underlying339 Tryz.underlying340 Tryz.underlying341 Tryz.underlying342 Tryz.underlying343 Tryz.underlying344 Tryz.underlying345 Tryz.underlying346 Tryz.underlying347 Tryz.underlying350 Tryz.underlying353 Tryz.underlying354 Tryz.underlying357 Tryz.underlying358 Tryz.underlying359 Tryz.underlying365 Tryz.underlying366 Tryz.underlying372 Tryz.underlying373 Tryz.underlying374 Tryz.underlying375 Tryz.underlying376 Tryz.underlying377 Tryz.underlying378 Tryz.underlying379 Tryz.underlying380 Tryz.underlying381
end Go.Proofs.YthafeihjlamhhaaGreatDoor
