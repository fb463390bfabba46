/- The types of the translation: their sizes and their zeros, as facts (printed by wip/tools/types.lean). -/
import Derived.Test.YtfhidaoiofeooaaGreatY3
import Derived.Test.YtfhidaoiofeooaaGreatProg
namespace Go.Proofs.YtfhidaoiofeooaaGreat
open _root_.Go.Proofs.Tryz renaming prog → Pz
open Go
theorem hmix : Tryz.prog.follows .mixedOrders = true := by kernel_rfl
@[simp] theorem z0 : zF Pz 0 = some 1 /\ zD Pz 0 = some 0 /\ zH Pz 0 = some (.tuple []) := ⟨by kernel_rfl, by kernel_rfl, by kernel_rfl⟩
@[simp] theorem z1 : zF Pz 1 = some 1 /\ zD Pz 1 = some 8 /\ zH Pz 1 = some (.nilf) := ⟨by kernel_rfl, by kernel_rfl, by kernel_rfl⟩
@[simp] theorem z2 : zF Pz 2 = some 1 /\ zD Pz 2 = some 8 /\ zH Pz 2 = some (.int .i64 (0)) := ⟨by kernel_rfl, by kernel_rfl, by kernel_rfl⟩
@[simp] theorem z3 : zF Pz 3 = some 1 /\ zD Pz 3 = some 8 /\ zH Pz 3 = some (.int .i64 (0)) := ⟨by kernel_rfl, by kernel_rfl, by kernel_rfl⟩
@[simp] theorem z4 : zF Pz 4 = some 1 /\ zD Pz 4 = some 1 /\ zH Pz 4 = some (.bool false) := ⟨by kernel_rfl, by kernel_rfl, by kernel_rfl⟩
@[simp] theorem z5 : zF Pz 5 = some 1 /\ zD Pz 5 = some 1 /\ zH Pz 5 = some (.int .u8 (0)) := ⟨by kernel_rfl, by kernel_rfl, by kernel_rfl⟩
@[simp] theorem z6 : zF Pz 6 = some 1 /\ zD Pz 6 = some 1 /\ zH Pz 6 = some (.int .u8 (0)) := ⟨by kernel_rfl, by kernel_rfl, by kernel_rfl⟩
@[simp] theorem z7 : zF Pz 7 = some 4 /\ zD Pz 7 = some 24 /\ zH Pz 7 = some (.agg [.int .i64 (0), .int .i64 (0), .bool false, .int .u8 (0)]) := ⟨by kernel_rfl, by kernel_rfl, by kernel_rfl⟩
@[simp] theorem z8 : zF Pz 8 = some 4 /\ zD Pz 8 = some 24 /\ zH Pz 8 = some (.agg [.int .i64 (0), .int .i64 (0), .bool false, .int .u8 (0)]) := ⟨by kernel_rfl, by kernel_rfl, by kernel_rfl⟩
@[simp] theorem z9 : zF Pz 9 = some 1 /\ zD Pz 9 = some 16 /\ zH Pz 9 = some (.str []) := ⟨by kernel_rfl, by kernel_rfl, by kernel_rfl⟩
@[simp] theorem z10 : zF Pz 10 = some 1 /\ zD Pz 10 = some 16 /\ zH Pz 10 = some (.str []) := ⟨by kernel_rfl, by kernel_rfl, by kernel_rfl⟩
@[simp] theorem z11 : zF Pz 11 = some 1 /\ zD Pz 11 = some 16 /\ zH Pz 11 = some (.str []) := ⟨by kernel_rfl, by kernel_rfl, by kernel_rfl⟩
@[simp] theorem z12 : zF Pz 12 = some 1 /\ zD Pz 12 = some 8 /\ zH Pz 12 = some (.int .u64 (0)) := ⟨by kernel_rfl, by kernel_rfl, by kernel_rfl⟩
@[simp] theorem z15 : zF Pz 15 = some 1 /\ zD Pz 15 = some 8 /\ zH Pz 15 = some (.nilp) := ⟨by kernel_rfl, by kernel_rfl, by kernel_rfl⟩
@[simp] theorem z16 : zF Pz 16 = some 1 /\ zD Pz 16 = some 8 /\ zH Pz 16 = some (.nilp) := ⟨by kernel_rfl, by kernel_rfl, by kernel_rfl⟩
@[simp] theorem z17 : zF Pz 17 = some 1 /\ zD Pz 17 = some 8 /\ zH Pz 17 = some (.nilp) := ⟨by kernel_rfl, by kernel_rfl, by kernel_rfl⟩
@[simp] theorem z18 : zF Pz 18 = some 1 /\ zD Pz 18 = some 8 /\ zH Pz 18 = some (.agg [.nilp]) := ⟨by kernel_rfl, by kernel_rfl, by kernel_rfl⟩
@[simp] theorem z19 : zF Pz 19 = some 1 /\ zD Pz 19 = some 8 /\ zH Pz 19 = some (.agg [.nilp]) := ⟨by kernel_rfl, by kernel_rfl, by kernel_rfl⟩
@[simp] theorem z20 : zF Pz 20 = some 1 /\ zD Pz 20 = some 16 /\ zH Pz 20 = some (.top) := ⟨by kernel_rfl, by kernel_rfl, by kernel_rfl⟩
@[simp] theorem z21 : zF Pz 21 = some 1 /\ zD Pz 21 = some 4 /\ zH Pz 21 = some (.int .i32 (0)) := ⟨by kernel_rfl, by kernel_rfl, by kernel_rfl⟩
@[simp] theorem z22 : zF Pz 22 = some 1 /\ zD Pz 22 = some 24 /\ zH Pz 22 = some (.nils) := ⟨by kernel_rfl, by kernel_rfl, by kernel_rfl⟩
@[simp] theorem z23 : zF Pz 23 = some 1 /\ zD Pz 23 = some 2 /\ zH Pz 23 = some (.int .i16 (0)) := ⟨by kernel_rfl, by kernel_rfl, by kernel_rfl⟩
@[simp] theorem z24 : zF Pz 24 = some 1 /\ zD Pz 24 = some 24 /\ zH Pz 24 = some (.nils) := ⟨by kernel_rfl, by kernel_rfl, by kernel_rfl⟩
@[simp] theorem z25 : zF Pz 25 = some 2 /\ zD Pz 25 = some 32 /\ zH Pz 25 = some (.agg [.str [], .str []]) := ⟨by kernel_rfl, by kernel_rfl, by kernel_rfl⟩
@[simp] theorem z26 : zF Pz 26 = some 2 /\ zD Pz 26 = some 32 /\ zH Pz 26 = some (.agg [.str [], .str []]) := ⟨by kernel_rfl, by kernel_rfl, by kernel_rfl⟩
@[simp] theorem z27 : zF Pz 27 = some 1 /\ zD Pz 27 = some 8 /\ zH Pz 27 = some (.nilp) := ⟨by kernel_rfl, by kernel_rfl, by kernel_rfl⟩
@[simp] theorem z29 : zF Pz 29 = some 1 /\ zD Pz 29 = some 8 /\ zH Pz 29 = some (.nilp) := ⟨by kernel_rfl, by kernel_rfl, by kernel_rfl⟩
@[simp] theorem z32 : zF Pz 32 = some 1 /\ zD Pz 32 = some 8 /\ zH Pz 32 = some (.nilf) := ⟨by kernel_rfl, by kernel_rfl, by kernel_rfl⟩
@[simp] theorem z33 : zF Pz 33 = some 1 /\ zD Pz 33 = some 24 /\ zH Pz 33 = some (.nils) := ⟨by kernel_rfl, by kernel_rfl, by kernel_rfl⟩
@[simp] theorem z34 : zF Pz 34 = some 6 /\ zD Pz 34 = some 56 /\ zH Pz 34 = some (.agg [.int .u8 (0), .int .u8 (0), .int .u8 (0), .str [], .int .i16 (0), .nils]) := ⟨by kernel_rfl, by kernel_rfl, by kernel_rfl⟩
@[simp] theorem z35 : zF Pz 35 = some 6 /\ zD Pz 35 = some 56 /\ zH Pz 35 = some (.agg [.int .u8 (0), .int .u8 (0), .int .u8 (0), .str [], .int .i16 (0), .nils]) := ⟨by kernel_rfl, by kernel_rfl, by kernel_rfl⟩
@[simp] theorem z36 : zF Pz 36 = some 1 /\ zD Pz 36 = some 8 /\ zH Pz 36 = some (.nilf) := ⟨by kernel_rfl, by kernel_rfl, by kernel_rfl⟩
@[simp] theorem z37 : zF Pz 37 = some 1 /\ zD Pz 37 = some 8 /\ zH Pz 37 = some (.int .i64 (0)) := ⟨by kernel_rfl, by kernel_rfl, by kernel_rfl⟩
@[simp] theorem z38 : zF Pz 38 = some 1 /\ zD Pz 38 = some 8 /\ zH Pz 38 = some (.nilf) := ⟨by kernel_rfl, by kernel_rfl, by kernel_rfl⟩
@[simp] theorem z39 : zF Pz 39 = some 1 /\ zD Pz 39 = some 8 /\ zH Pz 39 = some (.nilf) := ⟨by kernel_rfl, by kernel_rfl, by kernel_rfl⟩
@[simp] theorem z40 : zF Pz 40 = some 1 /\ zD Pz 40 = some 8 /\ zH Pz 40 = some (.nilf) := ⟨by kernel_rfl, by kernel_rfl, by kernel_rfl⟩
@[simp] theorem z41 : zF Pz 41 = some 1 /\ zD Pz 41 = some 8 /\ zH Pz 41 = some (.nilf) := ⟨by kernel_rfl, by kernel_rfl, by kernel_rfl⟩
@[simp] theorem z42 : zF Pz 42 = some 1 /\ zD Pz 42 = some 8 /\ zH Pz 42 = some (.nilf) := ⟨by kernel_rfl, by kernel_rfl, by kernel_rfl⟩
@[simp] theorem z43 : zF Pz 43 = some 1 /\ zD Pz 43 = some 8 /\ zH Pz 43 = some (.nilf) := ⟨by kernel_rfl, by kernel_rfl, by kernel_rfl⟩
@[simp] theorem z44 : zF Pz 44 = some 1 /\ zD Pz 44 = some 8 /\ zH Pz 44 = some (.nilp) := ⟨by kernel_rfl, by kernel_rfl, by kernel_rfl⟩
@[simp] theorem z45 : zF Pz 45 = some 1 /\ zD Pz 45 = some 8 /\ zH Pz 45 = some (.nilf) := ⟨by kernel_rfl, by kernel_rfl, by kernel_rfl⟩
@[simp] theorem z46 : zF Pz 46 = some 1 /\ zD Pz 46 = some 8 /\ zH Pz 46 = some (.nilm) := ⟨by kernel_rfl, by kernel_rfl, by kernel_rfl⟩
@[simp] theorem z47 : zF Pz 47 = some 6 /\ zD Pz 47 = some 48 /\ zH Pz 47 = some (.agg [.nilp, .nilm, .int .i64 (0), .int .i64 (0), .int .i64 (0), .bool false]) := ⟨by kernel_rfl, by kernel_rfl, by kernel_rfl⟩
@[simp] theorem z48 : zF Pz 48 = some 6 /\ zD Pz 48 = some 48 /\ zH Pz 48 = some (.agg [.nilp, .nilm, .int .i64 (0), .int .i64 (0), .int .i64 (0), .bool false]) := ⟨by kernel_rfl, by kernel_rfl, by kernel_rfl⟩
@[simp] theorem z49 : zF Pz 49 = some 1 /\ zD Pz 49 = some 0 /\ zH Pz 49 = some (.tuple [.int .i64 (0), .int .i64 (0)]) := ⟨by kernel_rfl, by kernel_rfl, by kernel_rfl⟩
@[simp] theorem z50 : zF Pz 50 = some 1 /\ zD Pz 50 = some 8 /\ zH Pz 50 = some (.nilf) := ⟨by kernel_rfl, by kernel_rfl, by kernel_rfl⟩
@[simp] theorem z51 : zF Pz 51 = some 1 /\ zD Pz 51 = some 8 /\ zH Pz 51 = some (.nilp) := ⟨by kernel_rfl, by kernel_rfl, by kernel_rfl⟩
@[simp] theorem z52 : zF Pz 52 = some 1 /\ zD Pz 52 = some 8 /\ zH Pz 52 = some (.nilf) := ⟨by kernel_rfl, by kernel_rfl, by kernel_rfl⟩
@[simp] theorem z53 : zF Pz 53 = some 1 /\ zD Pz 53 = some 8 /\ zH Pz 53 = some (.nilp) := ⟨by kernel_rfl, by kernel_rfl, by kernel_rfl⟩
@[simp] theorem z54 : zF Pz 54 = some 1 /\ zD Pz 54 = some 24 /\ zH Pz 54 = some (.nils) := ⟨by kernel_rfl, by kernel_rfl, by kernel_rfl⟩
@[simp] theorem z55 : zF Pz 55 = some 6 /\ zD Pz 55 = some 64 /\ zH Pz 55 = some (.agg [.nilp, .nils, .int .i64 (0), .int .i64 (0), .int .i64 (0), .bool false]) := ⟨by kernel_rfl, by kernel_rfl, by kernel_rfl⟩
@[simp] theorem z56 : zF Pz 56 = some 6 /\ zD Pz 56 = some 64 /\ zH Pz 56 = some (.agg [.nilp, .nils, .int .i64 (0), .int .i64 (0), .int .i64 (0), .bool false]) := ⟨by kernel_rfl, by kernel_rfl, by kernel_rfl⟩
@[simp] theorem z57 : zF Pz 57 = some 1 /\ zD Pz 57 = some 8 /\ zH Pz 57 = some (.nilp) := ⟨by kernel_rfl, by kernel_rfl, by kernel_rfl⟩
@[simp] theorem z58 : zF Pz 58 = some 1 /\ zD Pz 58 = some 24 /\ zH Pz 58 = some (.nils) := ⟨by kernel_rfl, by kernel_rfl, by kernel_rfl⟩
@[simp] theorem z59 : zF Pz 59 = some 2 /\ zD Pz 59 = some 40 /\ zH Pz 59 = some (.agg [.str [], .nils]) := ⟨by kernel_rfl, by kernel_rfl, by kernel_rfl⟩
@[simp] theorem z60 : zF Pz 60 = some 2 /\ zD Pz 60 = some 40 /\ zH Pz 60 = some (.agg [.str [], .nils]) := ⟨by kernel_rfl, by kernel_rfl, by kernel_rfl⟩
@[simp] theorem z61 : zF Pz 61 = some 1 /\ zD Pz 61 = some 8 /\ zH Pz 61 = some (.nilf) := ⟨by kernel_rfl, by kernel_rfl, by kernel_rfl⟩
@[simp] theorem z62 : zF Pz 62 = some 1 /\ zD Pz 62 = some 8 /\ zH Pz 62 = some (.nilf) := ⟨by kernel_rfl, by kernel_rfl, by kernel_rfl⟩
@[simp] theorem z64 : zF Pz 64 = some 1 /\ zD Pz 64 = some 24 /\ zH Pz 64 = some (.nils) := ⟨by kernel_rfl, by kernel_rfl, by kernel_rfl⟩
@[simp] theorem z66 : zF Pz 66 = some 1 /\ zD Pz 66 = some 8 /\ zH Pz 66 = some (.nilf) := ⟨by kernel_rfl, by kernel_rfl, by kernel_rfl⟩
@[simp] theorem z67 : zF Pz 67 = some 1 /\ zD Pz 67 = some 8 /\ zH Pz 67 = some (.nilf) := ⟨by kernel_rfl, by kernel_rfl, by kernel_rfl⟩
@[simp] theorem z68 : zF Pz 68 = some 1 /\ zD Pz 68 = some 8 /\ zH Pz 68 = some (.nilf) := ⟨by kernel_rfl, by kernel_rfl, by kernel_rfl⟩
@[simp] theorem z69 : zF Pz 69 = some 1 /\ zD Pz 69 = some 8 /\ zH Pz 69 = some (.nilf) := ⟨by kernel_rfl, by kernel_rfl, by kernel_rfl⟩
@[simp] theorem z70 : zF Pz 70 = some 1 /\ zD Pz 70 = some 8 /\ zH Pz 70 = some (.nilf) := ⟨by kernel_rfl, by kernel_rfl, by kernel_rfl⟩
@[simp] theorem z71 : zF Pz 71 = some 1 /\ zD Pz 71 = some 8 /\ zH Pz 71 = some (.nilf) := ⟨by kernel_rfl, by kernel_rfl, by kernel_rfl⟩
@[simp] theorem z72 : zF Pz 72 = some 1 /\ zD Pz 72 = some 24 /\ zH Pz 72 = some (.nils) := ⟨by kernel_rfl, by kernel_rfl, by kernel_rfl⟩
@[simp] theorem z73 : zF Pz 73 = some 1 /\ zD Pz 73 = some 8 /\ zH Pz 73 = some (.nilf) := ⟨by kernel_rfl, by kernel_rfl, by kernel_rfl⟩
@[simp] theorem z75 : zF Pz 75 = some 1 /\ zD Pz 75 = some 8 /\ zH Pz 75 = some (.nilf) := ⟨by kernel_rfl, by kernel_rfl, by kernel_rfl⟩
@[simp] theorem z76 : zF Pz 76 = some 1 /\ zD Pz 76 = some 8 /\ zH Pz 76 = some (.nilf) := ⟨by kernel_rfl, by kernel_rfl, by kernel_rfl⟩
@[simp] theorem z77 : zF Pz 77 = some 1 /\ zD Pz 77 = some 8 /\ zH Pz 77 = some (.nilf) := ⟨by kernel_rfl, by kernel_rfl, by kernel_rfl⟩
@[simp] theorem z78 : zF Pz 78 = some 1 /\ zD Pz 78 = some 8 /\ zH Pz 78 = some (.agg [.nilf]) := ⟨by kernel_rfl, by kernel_rfl, by kernel_rfl⟩
@[simp] theorem z79 : zF Pz 79 = some 1 /\ zD Pz 79 = some 8 /\ zH Pz 79 = some (.agg [.nilf]) := ⟨by kernel_rfl, by kernel_rfl, by kernel_rfl⟩
@[simp] theorem z80 : zF Pz 80 = some 1 /\ zD Pz 80 = some 8 /\ zH Pz 80 = some (.nilf) := ⟨by kernel_rfl, by kernel_rfl, by kernel_rfl⟩
@[simp] theorem z81 : zF Pz 81 = some 1 /\ zD Pz 81 = some 8 /\ zH Pz 81 = some (.nilf) := ⟨by kernel_rfl, by kernel_rfl, by kernel_rfl⟩
@[simp] theorem z82 : zF Pz 82 = some 1 /\ zD Pz 82 = some 0 /\ zH Pz 82 = some (.tuple [.int .i64 (0), .bool false]) := ⟨by kernel_rfl, by kernel_rfl, by kernel_rfl⟩
@[simp] theorem z83 : zF Pz 83 = some 1 /\ zD Pz 83 = some 8 /\ zH Pz 83 = some (.nilf) := ⟨by kernel_rfl, by kernel_rfl, by kernel_rfl⟩
@[simp] theorem z84 : zF Pz 84 = some 2 /\ zD Pz 84 = some 16 /\ zH Pz 84 = some (.agg [.int .i64 (0), .int .i64 (0)]) := ⟨by kernel_rfl, by kernel_rfl, by kernel_rfl⟩
@[simp] theorem z85 : zF Pz 85 = some 2 /\ zD Pz 85 = some 16 /\ zH Pz 85 = some (.agg [.int .i64 (0), .int .i64 (0)]) := ⟨by kernel_rfl, by kernel_rfl, by kernel_rfl⟩
@[simp] theorem z86 : zF Pz 86 = some 1 /\ zD Pz 86 = some 8 /\ zH Pz 86 = some (.nilf) := ⟨by kernel_rfl, by kernel_rfl, by kernel_rfl⟩
@[simp] theorem z87 : zF Pz 87 = some 1 /\ zD Pz 87 = some 8 /\ zH Pz 87 = some (.nilf) := ⟨by kernel_rfl, by kernel_rfl, by kernel_rfl⟩
@[simp] theorem z88 : zF Pz 88 = some 1 /\ zD Pz 88 = some 8 /\ zH Pz 88 = some (.nilf) := ⟨by kernel_rfl, by kernel_rfl, by kernel_rfl⟩
@[simp] theorem z89 : zF Pz 89 = some 1 /\ zD Pz 89 = some 8 /\ zH Pz 89 = some (.nilf) := ⟨by kernel_rfl, by kernel_rfl, by kernel_rfl⟩
@[simp] theorem z90 : zF Pz 90 = some 1 /\ zD Pz 90 = some 0 /\ zH Pz 90 = some (.tuple [.str [], .int .i64 (0)]) := ⟨by kernel_rfl, by kernel_rfl, by kernel_rfl⟩
@[simp] theorem z91 : zF Pz 91 = some 1 /\ zD Pz 91 = some 8 /\ zH Pz 91 = some (.nilf) := ⟨by kernel_rfl, by kernel_rfl, by kernel_rfl⟩
@[simp] theorem z92 : zF Pz 92 = some 1 /\ zD Pz 92 = some 8 /\ zH Pz 92 = some (.nilf) := ⟨by kernel_rfl, by kernel_rfl, by kernel_rfl⟩
@[simp] theorem z94 : zF Pz 94 = some 1 /\ zD Pz 94 = some 8 /\ zH Pz 94 = some (.nilf) := ⟨by kernel_rfl, by kernel_rfl, by kernel_rfl⟩
@[simp] theorem z98 : zF Pz 98 = some 1 /\ zD Pz 98 = some 2 /\ zH Pz 98 = some (.int .u16 (0)) := ⟨by kernel_rfl, by kernel_rfl, by kernel_rfl⟩
@[simp] theorem z99 : zF Pz 99 = some 1 /\ zD Pz 99 = some 8 /\ zH Pz 99 = some (.nilm) := ⟨by kernel_rfl, by kernel_rfl, by kernel_rfl⟩
@[simp] theorem z100 : zF Pz 100 = some 1 /\ zD Pz 100 = some 8 /\ zH Pz 100 = some (.nilm) := ⟨by kernel_rfl, by kernel_rfl, by kernel_rfl⟩
@[simp] theorem z101 : zF Pz 101 = some 1 /\ zD Pz 101 = some 24 /\ zH Pz 101 = some (.nils) := ⟨by kernel_rfl, by kernel_rfl, by kernel_rfl⟩
@[simp] theorem z102 : zF Pz 102 = some 4 /\ zD Pz 102 = some 48 /\ zH Pz 102 = some (.agg [.nilm, .nilm, .nils, .int .i64 (0)]) := ⟨by kernel_rfl, by kernel_rfl, by kernel_rfl⟩
@[simp] theorem z103 : zF Pz 103 = some 4 /\ zD Pz 103 = some 48 /\ zH Pz 103 = some (.agg [.nilm, .nilm, .nils, .int .i64 (0)]) := ⟨by kernel_rfl, by kernel_rfl, by kernel_rfl⟩
@[simp] theorem z104 : zF Pz 104 = some 1 /\ zD Pz 104 = some 8 /\ zH Pz 104 = some (.nilf) := ⟨by kernel_rfl, by kernel_rfl, by kernel_rfl⟩
@[simp] theorem z105 : zF Pz 105 = some 1 /\ zD Pz 105 = some 8 /\ zH Pz 105 = some (.nilf) := ⟨by kernel_rfl, by kernel_rfl, by kernel_rfl⟩
@[simp] theorem z106 : zF Pz 106 = some 1 /\ zD Pz 106 = some 8 /\ zH Pz 106 = some (.nilf) := ⟨by kernel_rfl, by kernel_rfl, by kernel_rfl⟩
@[simp] theorem z107 : zF Pz 107 = some 1 /\ zD Pz 107 = some 24 /\ zH Pz 107 = some (.nils) := ⟨by kernel_rfl, by kernel_rfl, by kernel_rfl⟩
@[simp] theorem z108 : zF Pz 108 = some 3 /\ zD Pz 108 = some 56 /\ zH Pz 108 = some (.agg [.str [], .nils, .str []]) := ⟨by kernel_rfl, by kernel_rfl, by kernel_rfl⟩
@[simp] theorem z109 : zF Pz 109 = some 3 /\ zD Pz 109 = some 56 /\ zH Pz 109 = some (.agg [.str [], .nils, .str []]) := ⟨by kernel_rfl, by kernel_rfl, by kernel_rfl⟩
@[simp] theorem z110 : zF Pz 110 = some 1 /\ zD Pz 110 = some 24 /\ zH Pz 110 = some (.nils) := ⟨by kernel_rfl, by kernel_rfl, by kernel_rfl⟩
@[simp] theorem z111 : zF Pz 111 = some 2 /\ zD Pz 111 = some 32 /\ zH Pz 111 = some (.agg [.nils, .int .i64 (0)]) := ⟨by kernel_rfl, by kernel_rfl, by kernel_rfl⟩
@[simp] theorem z112 : zF Pz 112 = some 2 /\ zD Pz 112 = some 32 /\ zH Pz 112 = some (.agg [.nils, .int .i64 (0)]) := ⟨by kernel_rfl, by kernel_rfl, by kernel_rfl⟩
@[simp] theorem z113 : zF Pz 113 = some 1 /\ zD Pz 113 = some 8 /\ zH Pz 113 = some (.nilf) := ⟨by kernel_rfl, by kernel_rfl, by kernel_rfl⟩
@[simp] theorem z114 : zF Pz 114 = some 1 /\ zD Pz 114 = some 24 /\ zH Pz 114 = some (.nils) := ⟨by kernel_rfl, by kernel_rfl, by kernel_rfl⟩
@[simp] theorem z115 : zF Pz 115 = some 1 /\ zD Pz 115 = some 8 /\ zH Pz 115 = some (.nilf) := ⟨by kernel_rfl, by kernel_rfl, by kernel_rfl⟩
@[simp] theorem z116 : zF Pz 116 = some 1 /\ zD Pz 116 = some 8 /\ zH Pz 116 = some (.nilf) := ⟨by kernel_rfl, by kernel_rfl, by kernel_rfl⟩
@[simp] theorem z117 : zF Pz 117 = some 2 /\ zD Pz 117 = some 24 /\ zH Pz 117 = some (.agg [.str [], .int .i64 (0)]) := ⟨by kernel_rfl, by kernel_rfl, by kernel_rfl⟩
@[simp] theorem z118 : zF Pz 118 = some 2 /\ zD Pz 118 = some 24 /\ zH Pz 118 = some (.agg [.str [], .int .i64 (0)]) := ⟨by kernel_rfl, by kernel_rfl, by kernel_rfl⟩
@[simp] theorem z119 : zF Pz 119 = some 1 /\ zD Pz 119 = some 8 /\ zH Pz 119 = some (.nilf) := ⟨by kernel_rfl, by kernel_rfl, by kernel_rfl⟩
@[simp] theorem z121 : zF Pz 121 = some 2 /\ zD Pz 121 = some 24 /\ zH Pz 121 = some (.agg [.str [], .nilf]) := ⟨by kernel_rfl, by kernel_rfl, by kernel_rfl⟩
@[simp] theorem z122 : zF Pz 122 = some 2 /\ zD Pz 122 = some 24 /\ zH Pz 122 = some (.agg [.str [], .nilf]) := ⟨by kernel_rfl, by kernel_rfl, by kernel_rfl⟩
@[simp] theorem z123 : zF Pz 123 = some 1 /\ zD Pz 123 = some 8 /\ zH Pz 123 = some (.nilf) := ⟨by kernel_rfl, by kernel_rfl, by kernel_rfl⟩
@[simp] theorem z124 : zF Pz 124 = some 1 /\ zD Pz 124 = some 8 /\ zH Pz 124 = some (.nilf) := ⟨by kernel_rfl, by kernel_rfl, by kernel_rfl⟩
@[simp] theorem z125 : zF Pz 125 = some 1 /\ zD Pz 125 = some 8 /\ zH Pz 125 = some (.nilf) := ⟨by kernel_rfl, by kernel_rfl, by kernel_rfl⟩
@[simp] theorem z126 : zF Pz 126 = some 1 /\ zD Pz 126 = some 8 /\ zH Pz 126 = some (.nilf) := ⟨by kernel_rfl, by kernel_rfl, by kernel_rfl⟩
@[simp] theorem z127 : zF Pz 127 = some 1 /\ zD Pz 127 = some 8 /\ zH Pz 127 = some (.nilf) := ⟨by kernel_rfl, by kernel_rfl, by kernel_rfl⟩
@[simp] theorem z128 : zF Pz 128 = some 1 /\ zD Pz 128 = some 8 /\ zH Pz 128 = some (.nilf) := ⟨by kernel_rfl, by kernel_rfl, by kernel_rfl⟩
@[simp] theorem z129 : zF Pz 129 = some 1 /\ zD Pz 129 = some 8 /\ zH Pz 129 = some (.nilp) := ⟨by kernel_rfl, by kernel_rfl, by kernel_rfl⟩
@[simp] theorem z130 : zF Pz 130 = some 1 /\ zD Pz 130 = some 24 /\ zH Pz 130 = some (.nils) := ⟨by kernel_rfl, by kernel_rfl, by kernel_rfl⟩
@[simp] theorem z131 : zF Pz 131 = some 2 /\ zD Pz 131 = some 32 /\ zH Pz 131 = some (.agg [.nilp, .nils]) := ⟨by kernel_rfl, by kernel_rfl, by kernel_rfl⟩
@[simp] theorem z132 : zF Pz 132 = some 2 /\ zD Pz 132 = some 32 /\ zH Pz 132 = some (.agg [.nilp, .nils]) := ⟨by kernel_rfl, by kernel_rfl, by kernel_rfl⟩
@[simp] theorem z133 : zF Pz 133 = some 1 /\ zD Pz 133 = some 16 /\ zH Pz 133 = some (.top) := ⟨by kernel_rfl, by kernel_rfl, by kernel_rfl⟩
@[simp] theorem z134 : zF Pz 134 = some 1 /\ zD Pz 134 = some 16 /\ zH Pz 134 = some (.top) := ⟨by kernel_rfl, by kernel_rfl, by kernel_rfl⟩
@[simp] theorem z135 : zF Pz 135 = some 1 /\ zD Pz 135 = some 0 /\ zH Pz 135 = some (.tuple [.int .i64 (0), .top]) := ⟨by kernel_rfl, by kernel_rfl, by kernel_rfl⟩
@[simp] theorem z136 : zF Pz 136 = some 1 /\ zD Pz 136 = some 8 /\ zH Pz 136 = some (.nilf) := ⟨by kernel_rfl, by kernel_rfl, by kernel_rfl⟩
@[simp] theorem z137 : zF Pz 137 = some 1 /\ zD Pz 137 = some 8 /\ zH Pz 137 = some (.nilf) := ⟨by kernel_rfl, by kernel_rfl, by kernel_rfl⟩
@[simp] theorem z138 : zF Pz 138 = some 1 /\ zD Pz 138 = some 8 /\ zH Pz 138 = some (.nilf) := ⟨by kernel_rfl, by kernel_rfl, by kernel_rfl⟩
@[simp] theorem z141 : zF Pz 141 = some 1 /\ zD Pz 141 = some 8 /\ zH Pz 141 = some (.nilf) := ⟨by kernel_rfl, by kernel_rfl, by kernel_rfl⟩
@[simp] theorem z142 : zF Pz 142 = some 1 /\ zD Pz 142 = some 8 /\ zH Pz 142 = some (.nilf) := ⟨by kernel_rfl, by kernel_rfl, by kernel_rfl⟩
@[simp] theorem z145 : zF Pz 145 = some 1 /\ zD Pz 145 = some 8 /\ zH Pz 145 = some (.nilf) := ⟨by kernel_rfl, by kernel_rfl, by kernel_rfl⟩
@[simp] theorem z146 : zF Pz 146 = some 1 /\ zD Pz 146 = some 8 /\ zH Pz 146 = some (.nilf) := ⟨by kernel_rfl, by kernel_rfl, by kernel_rfl⟩
@[simp] theorem z147 : zF Pz 147 = some 1 /\ zD Pz 147 = some 8 /\ zH Pz 147 = some (.nilf) := ⟨by kernel_rfl, by kernel_rfl, by kernel_rfl⟩
@[simp] theorem z148 : zF Pz 148 = some 1 /\ zD Pz 148 = some 0 /\ zH Pz 148 = some (.tuple [.nilp, .int .i64 (0)]) := ⟨by kernel_rfl, by kernel_rfl, by kernel_rfl⟩
@[simp] theorem z149 : zF Pz 149 = some 1 /\ zD Pz 149 = some 8 /\ zH Pz 149 = some (.nilf) := ⟨by kernel_rfl, by kernel_rfl, by kernel_rfl⟩
@[simp] theorem z150 : zF Pz 150 = some 1 /\ zD Pz 150 = some 8 /\ zH Pz 150 = some (.nilf) := ⟨by kernel_rfl, by kernel_rfl, by kernel_rfl⟩
@[simp] theorem z152 : zF Pz 152 = some 1 /\ zD Pz 152 = some 8 /\ zH Pz 152 = some (.nilp) := ⟨by kernel_rfl, by kernel_rfl, by kernel_rfl⟩
@[simp] theorem z153 : zF Pz 153 = some 1 /\ zD Pz 153 = some 8 /\ zH Pz 153 = some (.nilf) := ⟨by kernel_rfl, by kernel_rfl, by kernel_rfl⟩
@[simp] theorem z154 : zF Pz 154 = some 2 /\ zD Pz 154 = some 16 /\ zH Pz 154 = some (.agg [.int .i64 (0), .int .i64 (0)]) := ⟨by kernel_rfl, by kernel_rfl, by kernel_rfl⟩
@[simp] theorem z155 : zF Pz 155 = some 1 /\ zD Pz 155 = some 8 /\ zH Pz 155 = some (.nilf) := ⟨by kernel_rfl, by kernel_rfl, by kernel_rfl⟩
@[simp] theorem z156 : zF Pz 156 = some 1 /\ zD Pz 156 = some 8 /\ zH Pz 156 = some (.nilp) := ⟨by kernel_rfl, by kernel_rfl, by kernel_rfl⟩
@[simp] theorem z157 : zF Pz 157 = some 3 /\ zD Pz 157 = some 32 /\ zH Pz 157 = some (.agg [.bool false, .int .i64 (0), .str []]) := ⟨by kernel_rfl, by kernel_rfl, by kernel_rfl⟩
@[simp] theorem z158 : zF Pz 158 = some 3 /\ zD Pz 158 = some 32 /\ zH Pz 158 = some (.agg [.bool false, .int .i64 (0), .str []]) := ⟨by kernel_rfl, by kernel_rfl, by kernel_rfl⟩
@[simp] theorem z161 : zF Pz 161 = some 1 /\ zD Pz 161 = some 8 /\ zH Pz 161 = some (.nilf) := ⟨by kernel_rfl, by kernel_rfl, by kernel_rfl⟩
@[simp] theorem z162 : zF Pz 162 = some 1 /\ zD Pz 162 = some 8 /\ zH Pz 162 = some (.nilp) := ⟨by kernel_rfl, by kernel_rfl, by kernel_rfl⟩
@[simp] theorem z163 : zF Pz 163 = some 1 /\ zD Pz 163 = some 8 /\ zH Pz 163 = some (.nilf) := ⟨by kernel_rfl, by kernel_rfl, by kernel_rfl⟩
@[simp] theorem z164 : zF Pz 164 = some 1 /\ zD Pz 164 = some 8 /\ zH Pz 164 = some (.nilf) := ⟨by kernel_rfl, by kernel_rfl, by kernel_rfl⟩
@[simp] theorem z165 : zF Pz 165 = some 1 /\ zD Pz 165 = some 8 /\ zH Pz 165 = some (.nilf) := ⟨by kernel_rfl, by kernel_rfl, by kernel_rfl⟩
@[simp] theorem z166 : zF Pz 166 = some 1 /\ zD Pz 166 = some 8 /\ zH Pz 166 = some (.nilf) := ⟨by kernel_rfl, by kernel_rfl, by kernel_rfl⟩
@[simp] theorem z168 : zF Pz 168 = some 1 /\ zD Pz 168 = some 8 /\ zH Pz 168 = some (.int .u64 (0)) := ⟨by kernel_rfl, by kernel_rfl, by kernel_rfl⟩
@[simp] theorem z169 : zF Pz 169 = some 1 /\ zD Pz 169 = some 8 /\ zH Pz 169 = some (.nilf) := ⟨by kernel_rfl, by kernel_rfl, by kernel_rfl⟩
@[simp] theorem z170 : zF Pz 170 = some 1 /\ zD Pz 170 = some 8 /\ zH Pz 170 = some (.int .i64 (0)) := ⟨by kernel_rfl, by kernel_rfl, by kernel_rfl⟩
@[simp] theorem z171 : zF Pz 171 = some 1 /\ zD Pz 171 = some 0 /\ zH Pz 171 = some (.tuple [.int .i64 (0), .int .i64 (0)]) := ⟨by kernel_rfl, by kernel_rfl, by kernel_rfl⟩
@[simp] theorem z172 : zF Pz 172 = some 1 /\ zD Pz 172 = some 8 /\ zH Pz 172 = some (.nilf) := ⟨by kernel_rfl, by kernel_rfl, by kernel_rfl⟩
@[simp] theorem z173 : zF Pz 173 = some 1 /\ zD Pz 173 = some 8 /\ zH Pz 173 = some (.nilf) := ⟨by kernel_rfl, by kernel_rfl, by kernel_rfl⟩
@[simp] theorem z174 : zF Pz 174 = some 1 /\ zD Pz 174 = some 8 /\ zH Pz 174 = some (.nilf) := ⟨by kernel_rfl, by kernel_rfl, by kernel_rfl⟩
@[simp] theorem z175 : zF Pz 175 = some 1 /\ zD Pz 175 = some 8 /\ zH Pz 175 = some (.nilf) := ⟨by kernel_rfl, by kernel_rfl, by kernel_rfl⟩
@[simp] theorem z176 : zF Pz 176 = some 1 /\ zD Pz 176 = some 8 /\ zH Pz 176 = some (.nilf) := ⟨by kernel_rfl, by kernel_rfl, by kernel_rfl⟩
@[simp] theorem z177 : zF Pz 177 = some 1 /\ zD Pz 177 = some 8 /\ zH Pz 177 = some (.nilf) := ⟨by kernel_rfl, by kernel_rfl, by kernel_rfl⟩
@[simp] theorem z178 : zF Pz 178 = some 1 /\ zD Pz 178 = some 4 /\ zH Pz 178 = some (.int .u32 (0)) := ⟨by kernel_rfl, by kernel_rfl, by kernel_rfl⟩
@[simp] theorem z179 : zF Pz 179 = some 1 /\ zD Pz 179 = some 8 /\ zH Pz 179 = some (.nilf) := ⟨by kernel_rfl, by kernel_rfl, by kernel_rfl⟩
@[simp] theorem z180 : zF Pz 180 = some 1 /\ zD Pz 180 = some 8 /\ zH Pz 180 = some (.int .u64 (0)) := ⟨by kernel_rfl, by kernel_rfl, by kernel_rfl⟩
@[simp] theorem z181 : zF Pz 181 = some 1 /\ zD Pz 181 = some 8 /\ zH Pz 181 = some (.int .u64 (0)) := ⟨by kernel_rfl, by kernel_rfl, by kernel_rfl⟩
@[simp] theorem z183 : zF Pz 183 = some 1 /\ zD Pz 183 = some 8 /\ zH Pz 183 = some (.nilf) := ⟨by kernel_rfl, by kernel_rfl, by kernel_rfl⟩
@[simp] theorem z186 : zF Pz 186 = some 1 /\ zD Pz 186 = some 8 /\ zH Pz 186 = some (.nilp) := ⟨by kernel_rfl, by kernel_rfl, by kernel_rfl⟩
@[simp] theorem z187 : zF Pz 187 = some 1 /\ zD Pz 187 = some 0 /\ zH Pz 187 = some (.tuple [.int .i64 (0), .int .i64 (0)]) := ⟨by kernel_rfl, by kernel_rfl, by kernel_rfl⟩
@[simp] theorem z189 : zF Pz 189 = some 4 /\ zD Pz 189 = some 40 /\ zH Pz 189 = some (.agg [.nilp, .nilp, .nilp, .str []]) := ⟨by kernel_rfl, by kernel_rfl, by kernel_rfl⟩
@[simp] theorem z190 : zF Pz 190 = some 4 /\ zD Pz 190 = some 40 /\ zH Pz 190 = some (.agg [.nilp, .nilp, .nilp, .str []]) := ⟨by kernel_rfl, by kernel_rfl, by kernel_rfl⟩
@[simp] theorem z191 : zF Pz 191 = some 0 /\ zD Pz 191 = some 0 /\ zH Pz 191 = some (.agg []) := ⟨by kernel_rfl, by kernel_rfl, by kernel_rfl⟩
@[simp] theorem z192 : zF Pz 192 = some 0 /\ zD Pz 192 = some 0 /\ zH Pz 192 = some (.agg []) := ⟨by kernel_rfl, by kernel_rfl, by kernel_rfl⟩
@[simp] theorem z193 : zF Pz 193 = some 0 /\ zD Pz 193 = some 0 /\ zH Pz 193 = some (.agg []) := ⟨by kernel_rfl, by kernel_rfl, by kernel_rfl⟩
@[simp] theorem z194 : zF Pz 194 = some 1 /\ zD Pz 194 = some 1 /\ zH Pz 194 = some (.int .u8 (0)) := ⟨by kernel_rfl, by kernel_rfl, by kernel_rfl⟩
@[simp] theorem z195 : zF Pz 195 = some 1 /\ zD Pz 195 = some 1 /\ zH Pz 195 = some (.int .u8 (0)) := ⟨by kernel_rfl, by kernel_rfl, by kernel_rfl⟩
@[simp] theorem z196 : zF Pz 196 = some 1 /\ zD Pz 196 = some 8 /\ zH Pz 196 = some (.nilf) := ⟨by kernel_rfl, by kernel_rfl, by kernel_rfl⟩
@[simp] theorem z197 : zF Pz 197 = some 1 /\ zD Pz 197 = some 4 /\ zH Pz 197 = some (.int .i32 (0)) := ⟨by kernel_rfl, by kernel_rfl, by kernel_rfl⟩
@[simp] theorem z198 : zF Pz 198 = some 1 /\ zD Pz 198 = some 4 /\ zH Pz 198 = some (.int .i32 (0)) := ⟨by kernel_rfl, by kernel_rfl, by kernel_rfl⟩
@[simp] theorem z199 : zF Pz 199 = some 11 /\ zD Pz 199 = some 48 /\ zH Pz 199 = some (.agg [.int .u64 (0), .int .u64 (0), .int .u32 (0), .int .u8 (0), .int .u8 (0), .int .u8 (0), .int .u8 (0), .nilf, .nilp, .int .i32 (0), .int .i32 (0)]) := ⟨by kernel_rfl, by kernel_rfl, by kernel_rfl⟩
@[simp] theorem z200 : zF Pz 200 = some 11 /\ zD Pz 200 = some 48 /\ zH Pz 200 = some (.agg [.int .u64 (0), .int .u64 (0), .int .u32 (0), .int .u8 (0), .int .u8 (0), .int .u8 (0), .int .u8 (0), .nilf, .nilp, .int .i32 (0), .int .i32 (0)]) := ⟨by kernel_rfl, by kernel_rfl, by kernel_rfl⟩
@[simp] theorem fe7 : zBV Pz 7 = some 4 := by kernel_rfl
@[simp] theorem fe8 : zBV Pz 8 = some 4 := by kernel_rfl
@[simp] theorem fe25 : zBV Pz 25 = some 2 := by kernel_rfl
@[simp] theorem fe26 : zBV Pz 26 = some 2 := by kernel_rfl
@[simp] theorem fe84 : zBV Pz 84 = some 2 := by kernel_rfl
@[simp] theorem fe85 : zBV Pz 85 = some 2 := by kernel_rfl
@[simp] theorem fe117 : zBV Pz 117 = some 2 := by kernel_rfl
@[simp] theorem fe118 : zBV Pz 118 = some 2 := by kernel_rfl
@[simp] theorem fe154 : zBV Pz 154 = some 2 := by kernel_rfl
@[simp] theorem fe157 : zBV Pz 157 = some 3 := by kernel_rfl
@[simp] theorem fe158 : zBV Pz 158 = some 3 := by kernel_rfl
@[simp] theorem fn2 : zL Pz 2 = some Tryz.f2 := Tryz.func2
@[simp] theorem fn3 : zL Pz 3 = some Tryz.f3 := Tryz.func3
@[simp] theorem fn4 : zL Pz 4 = some Tryz.f4 := Tryz.func4
@[simp] theorem fn5 : zL Pz 5 = some Tryz.f5 := Tryz.func5
@[simp] theorem fn6 : zL Pz 6 = some Tryz.f6 := Tryz.func6
@[simp] theorem fn7 : zL Pz 7 = some Tryz.f7 := Tryz.func7
@[simp] theorem fn8 : zL Pz 8 = some Tryz.f8 := Tryz.func8
@[simp] theorem fn9 : zL Pz 9 = some Tryz.f9 := Tryz.func9
@[simp] theorem fn10 : zL Pz 10 = some Tryz.f10 := Tryz.func10
@[simp] theorem fn11 : zL Pz 11 = some Tryz.f11 := Tryz.func11
@[simp] theorem fn12 : zL Pz 12 = some Tryz.f12 := Tryz.func12
@[simp] theorem fn13 : zL Pz 13 = some Tryz.f13 := Tryz.func13
@[simp] theorem fn14 : zL Pz 14 = some Tryz.f14 := Tryz.func14
@[simp] theorem fn15 : zL Pz 15 = some Tryz.f15 := Tryz.func15
@[simp] theorem fn16 : zL Pz 16 = some Tryz.f16 := Tryz.func16
@[simp] theorem fn17 : zL Pz 17 = some Tryz.f17 := Tryz.func17
@[simp] theorem fn18 : zL Pz 18 = some Tryz.f18 := Tryz.func18
@[simp] theorem fn19 : zL Pz 19 = some Tryz.f19 := Tryz.func19
@[simp] theorem fn20 : zL Pz 20 = some Tryz.f20 := Tryz.func20
@[simp] theorem fn21 : zL Pz 21 = some Tryz.f21 := Tryz.func21
@[simp] theorem fn22 : zL Pz 22 = some Tryz.f22 := Tryz.func22
@[simp] theorem fn23 : zL Pz 23 = some Tryz.f23 := Tryz.func23
@[simp] theorem fn24 : zL Pz 24 = some Tryz.f24 := Tryz.func24
@[simp] theorem fn25 : zL Pz 25 = some Tryz.f25 := Tryz.func25
@[simp] theorem fn26 : zL Pz 26 = some Tryz.f26 := Tryz.func26
@[simp] theorem fn27 : zL Pz 27 = some Tryz.f27 := Tryz.func27
@[simp] theorem fn28 : zL Pz 28 = some Tryz.f28 := Tryz.func28
@[simp] theorem fn29 : zL Pz 29 = some Tryz.f29 := Tryz.func29
@[simp] theorem fn30 : zL Pz 30 = some Tryz.f30 := Tryz.func30
@[simp] theorem fn31 : zL Pz 31 = some Tryz.f31 := Tryz.func31
@[simp] theorem fn32 : zL Pz 32 = some Tryz.f32 := Tryz.func32
@[simp] theorem fn33 : zL Pz 33 = some Tryz.f33 := Tryz.func33
@[simp] theorem fn34 : zL Pz 34 = some Tryz.f34 := Tryz.func34
@[simp] theorem fn35 : zL Pz 35 = some Tryz.f35 := Tryz.func35
@[simp] theorem fn36 : zL Pz 36 = some Tryz.f36 := Tryz.func36
@[simp] theorem fn37 : zL Pz 37 = some Tryz.f37 := Tryz.func37
@[simp] theorem fn38 : zL Pz 38 = some Tryz.f38 := Tryz.func38
@[simp] theorem fn39 : zL Pz 39 = some Tryz.f39 := Tryz.func39
@[simp] theorem fn40 : zL Pz 40 = some Tryz.f40 := Tryz.func40
@[simp] theorem fn41 : zL Pz 41 = some Tryz.f41 := Tryz.func41
@[simp] theorem fn42 : zL Pz 42 = some Tryz.f42 := Tryz.func42
@[simp] theorem fn43 : zL Pz 43 = some Tryz.f43 := Tryz.func43
@[simp] theorem fn44 : zL Pz 44 = some Tryz.f44 := Tryz.func44
@[simp] theorem fn45 : zL Pz 45 = some Tryz.f45 := Tryz.func45
@[simp] theorem fn46 : zL Pz 46 = some Tryz.f46 := Tryz.func46
@[simp] theorem fn47 : zL Pz 47 = some Tryz.f47 := Tryz.func47
@[simp] theorem fn48 : zL Pz 48 = some Tryz.f48 := Tryz.func48
@[simp] theorem fn49 : zL Pz 49 = some Tryz.f49 := Tryz.func49
@[simp] theorem fn50 : zL Pz 50 = some Tryz.f50 := Tryz.func50
@[simp] theorem fn51 : zL Pz 51 = some Tryz.f51 := Tryz.func51
@[simp] theorem fn52 : zL Pz 52 = some Tryz.f52 := Tryz.func52
@[simp] theorem fn53 : zL Pz 53 = some Tryz.f53 := Tryz.func53
@[simp] theorem fn54 : zL Pz 54 = some Tryz.f54 := Tryz.func54
@[simp] theorem fn55 : zL Pz 55 = some Tryz.f55 := Tryz.func55
@[simp] theorem fn56 : zL Pz 56 = some Tryz.f56 := Tryz.func56
@[simp] theorem fn57 : zL Pz 57 = some Tryz.f57 := Tryz.func57
@[simp] theorem fn58 : zL Pz 58 = some Tryz.f58 := Tryz.func58
@[simp] theorem fn59 : zL Pz 59 = some Tryz.f59 := Tryz.func59
@[simp] theorem fn60 : zL Pz 60 = some Tryz.f60 := Tryz.func60
@[simp] theorem fn61 : zL Pz 61 = some Tryz.f61 := Tryz.func61
@[simp] theorem fn62 : zL Pz 62 = some Tryz.f62 := Tryz.func62
@[simp] theorem fn63 : zL Pz 63 = some Tryz.f63 := Tryz.func63
@[simp] theorem fn64 : zL Pz 64 = some Tryz.f64 := Tryz.func64
@[simp] theorem fn65 : zL Pz 65 = some Tryz.f65 := Tryz.func65
@[simp] theorem fn66 : zL Pz 66 = some Tryz.f66 := Tryz.func66
@[simp] theorem fn67 : zL Pz 67 = some Tryz.f67 := Tryz.func67
@[simp] theorem fn68 : zL Pz 68 = some Tryz.f68 := Tryz.func68
@[simp] theorem fn69 : zL Pz 69 = some Tryz.f69 := Tryz.func69
@[simp] theorem fn70 : zL Pz 70 = some Tryz.f70 := Tryz.func70
@[simp] theorem fn71 : zL Pz 71 = some Tryz.f71 := Tryz.func71
@[simp] theorem fn72 : zL Pz 72 = some Tryz.f72 := Tryz.func72
@[simp] theorem fn73 : zL Pz 73 = some Tryz.f73 := Tryz.func73
@[simp] theorem fn74 : zL Pz 74 = some Tryz.f74 := Tryz.func74
@[simp] theorem fn75 : zL Pz 75 = some Tryz.f75 := Tryz.func75
@[simp] theorem fn76 : zL Pz 76 = some Tryz.f76 := Tryz.func76
@[simp] theorem fn77 : zL Pz 77 = some Tryz.f77 := Tryz.func77
@[simp] theorem fn78 : zL Pz 78 = some Tryz.f78 := Tryz.func78
@[simp] theorem fn79 : zL Pz 79 = some Tryz.f79 := Tryz.func79
@[simp] theorem fn80 : zL Pz 80 = some Tryz.f80 := Tryz.func80
@[simp] theorem fn81 : zL Pz 81 = some Tryz.f81 := Tryz.func81
@[simp] theorem fn82 : zL Pz 82 = some Tryz.f82 := Tryz.func82
@[simp] theorem fn83 : zL Pz 83 = some Tryz.f83 := Tryz.func83
@[simp] theorem fn85 : zL Pz 85 = some Tryz.f85 := Tryz.func85
@[simp] theorem fn86 : zL Pz 86 = some Tryz.f86 := Tryz.func86
@[simp] theorem fn87 : zL Pz 87 = some Tryz.f87 := Tryz.func87
@[simp] theorem fn88 : zL Pz 88 = some Tryz.f88 := Tryz.func88
@[simp] theorem fn89 : zL Pz 89 = some Tryz.f89 := Tryz.func89
@[simp] theorem fn90 : zL Pz 90 = some Tryz.f90 := Tryz.func90
@[simp] theorem fn91 : zL Pz 91 = some Tryz.f91 := Tryz.func91
@[simp] theorem fn92 : zL Pz 92 = some Tryz.f92 := Tryz.func92
@[simp] theorem fn93 : zL Pz 93 = some Tryz.f93 := Tryz.func93
@[simp] theorem fn94 : zL Pz 94 = some Tryz.f94 := Tryz.func94
@[simp] theorem fn95 : zL Pz 95 = some Tryz.f95 := Tryz.func95
@[simp] theorem fn96 : zL Pz 96 = some Tryz.f96 := Tryz.func96
@[simp] theorem fn97 : zL Pz 97 = some Tryz.f97 := Tryz.func97
@[simp] theorem fn98 : zL Pz 98 = some Tryz.f98 := Tryz.func98
@[simp] theorem fn99 : zL Pz 99 = some Tryz.f99 := Tryz.func99
@[simp] theorem fn100 : zL Pz 100 = some Tryz.f100 := Tryz.func100
@[simp] theorem fn101 : zL Pz 101 = some Tryz.f101 := Tryz.func101
@[simp] theorem fn102 : zL Pz 102 = some Tryz.f102 := Tryz.func102
@[simp] theorem fn103 : zL Pz 103 = some Tryz.f103 := Tryz.func103
@[simp] theorem fn104 : zL Pz 104 = some Tryz.f104 := Tryz.func104
@[simp] theorem fn105 : zL Pz 105 = some Tryz.f105 := Tryz.func105
@[simp] theorem fn106 : zL Pz 106 = some Tryz.f106 := Tryz.func106
@[simp] theorem fn107 : zL Pz 107 = some Tryz.f107 := Tryz.func107
@[simp] theorem fn108 : zL Pz 108 = some Tryz.f108 := Tryz.func108
@[simp] theorem fn109 : zL Pz 109 = some Tryz.f109 := Tryz.func109
@[simp] theorem fn110 : zL Pz 110 = some Tryz.f110 := Tryz.func110
@[simp] theorem fn111 : zL Pz 111 = some Tryz.f111 := Tryz.func111
@[simp] theorem fn112 : zL Pz 112 = some Tryz.f112 := Tryz.func112
@[simp] theorem fn113 : zL Pz 113 = some Tryz.f113 := Tryz.func113
@[simp] theorem fn114 : zL Pz 114 = some Tryz.f114 := Tryz.func114
@[simp] theorem fn115 : zL Pz 115 = some Tryz.f115 := Tryz.func115
@[simp] theorem fn116 : zL Pz 116 = some Tryz.f116 := Tryz.func116
@[simp] theorem fn117 : zL Pz 117 = some Tryz.f117 := Tryz.func117
@[simp] theorem fn118 : zL Pz 118 = some Tryz.f118 := Tryz.func118
@[simp] theorem fn119 : zL Pz 119 = some Tryz.f119 := Tryz.func119
@[simp] theorem fn120 : zL Pz 120 = some Tryz.f120 := Tryz.func120
@[simp] theorem fn121 : zL Pz 121 = some Tryz.f121 := Tryz.func121
@[simp] theorem fn122 : zL Pz 122 = some Tryz.f122 := Tryz.func122
@[simp] theorem fn123 : zL Pz 123 = some Tryz.f123 := Tryz.func123
@[simp] theorem fn124 : zL Pz 124 = some Tryz.f124 := Tryz.func124
@[simp] theorem fn125 : zL Pz 125 = some Tryz.f125 := Tryz.func125
@[simp] theorem fn126 : zL Pz 126 = some Tryz.f126 := Tryz.func126
@[simp] theorem fn127 : zL Pz 127 = some Tryz.f127 := Tryz.func127
@[simp] theorem fn128 : zL Pz 128 = some Tryz.f128 := Tryz.func128
@[simp] theorem fn129 : zL Pz 129 = some Tryz.f129 := Tryz.func129
@[simp] theorem fn130 : zL Pz 130 = some Tryz.f130 := Tryz.func130
@[simp] theorem fn131 : zL Pz 131 = some Tryz.f131 := Tryz.func131
@[simp] theorem fn132 : zL Pz 132 = some Tryz.f132 := Tryz.func132
@[simp] theorem fn133 : zL Pz 133 = some Tryz.f133 := Tryz.func133
@[simp] theorem fn134 : zL Pz 134 = some Tryz.f134 := Tryz.func134
@[simp] theorem fn135 : zL Pz 135 = some Tryz.f135 := Tryz.func135
@[simp] theorem fn136 : zL Pz 136 = some Tryz.f136 := Tryz.func136
@[simp] theorem fn137 : zL Pz 137 = some Tryz.f137 := Tryz.func137
@[simp] theorem fn140 : zL Pz 140 = some Tryz.f140 := Tryz.func140
@[simp] theorem fn141 : zL Pz 141 = some Tryz.f141 := Tryz.func141
@[simp] theorem fn142 : zL Pz 142 = some Tryz.f142 := Tryz.func142
@[simp] theorem fn143 : zL Pz 143 = some Tryz.f143 := Tryz.func143
@[simp] theorem fn144 : zL Pz 144 = some Tryz.f144 := Tryz.func144
@[simp] theorem fn145 : zL Pz 145 = some Tryz.f145 := Tryz.func145
@[simp] theorem fn146 : zL Pz 146 = some Tryz.f146 := Tryz.func146
@[simp] theorem fn147 : zL Pz 147 = some Tryz.f147 := Tryz.func147
@[simp] theorem fn148 : zL Pz 148 = some Tryz.f148 := Tryz.func148
@[simp] theorem fn149 : zL Pz 149 = some Tryz.f149 := Tryz.func149
@[simp] theorem fn150 : zL Pz 150 = some Tryz.f150 := Tryz.func150
@[simp] theorem fn151 : zL Pz 151 = some Tryz.f151 := Tryz.func151
@[simp] theorem fn152 : zL Pz 152 = some Tryz.f152 := Tryz.func152
@[simp] theorem fn153 : zL Pz 153 = some Tryz.f153 := Tryz.func153
@[simp] theorem fn154 : zL Pz 154 = some Tryz.f154 := Tryz.func154
@[simp] theorem fn155 : zL Pz 155 = some Tryz.f155 := Tryz.func155
@[simp] theorem fn156 : zL Pz 156 = some Tryz.f156 := Tryz.func156
@[simp] theorem fn157 : zL Pz 157 = some Tryz.f157 := Tryz.func157
@[simp] theorem fn158 : zL Pz 158 = some Tryz.f158 := Tryz.func158
@[simp] theorem fn159 : zL Pz 159 = some Tryz.f159 := Tryz.func159
@[simp] theorem fn160 : zL Pz 160 = some Tryz.f160 := Tryz.func160
attribute [simp] Tryz.underlying0 Tryz.underlying1 Tryz.underlying2 Tryz.underlying3 Tryz.underlying4 Tryz.underlying5 Tryz.underlying6 Tryz.underlying7 Tryz.underlying8 Tryz.underlying9 Tryz.underlying10 Tryz.underlying11 Tryz.underlying12 Tryz.underlying15 Tryz.underlying16 Tryz.underlying17 Tryz.underlying18 Tryz.underlying19 Tryz.underlying20 Tryz.underlying21 Tryz.underlying22 Tryz.underlying23 Tryz.underlying24 Tryz.underlying25 Tryz.underlying26 Tryz.underlying27 Tryz.underlying29 Tryz.underlying32 Tryz.underlying33 Tryz.underlying34 Tryz.underlying35 Tryz.underlying36 Tryz.underlying37 Tryz.underlying38 Tryz.underlying39 Tryz.underlying40 Tryz.underlying41 Tryz.underlying42 Tryz.underlying43 Tryz.underlying44 Tryz.underlying45 Tryz.underlying46 Tryz.underlying47 Tryz.underlying48 Tryz.underlying49 Tryz.underlying50 Tryz.underlying51 Tryz.underlying52 Tryz.underlying53 Tryz.underlying54 Tryz.underlying55 Tryz.underlying56 Tryz.underlying57 Tryz.underlying58 Tryz.underlying59 Tryz.underlying60 Tryz.underlying61 Tryz.underlying62 Tryz.underlying64 Tryz.underlying66 Tryz.underlying67 Tryz.underlying68 Tryz.underlying69 Tryz.underlying70 Tryz.underlying71 Tryz.underlying72 Tryz.underlying73 Tryz.underlying75 Tryz.underlying76 Tryz.underlying77 Tryz.underlying78 Tryz.underlying79 Tryz.underlying80 Tryz.underlying81 Tryz.underlying82 Tryz.underlying83 Tryz.underlying84 Tryz.underlying85 Tryz.underlying86 Tryz.underlying87 Tryz.underlying88 Tryz.underlying89 Tryz.underlying90 Tryz.underlying91 Tryz.underlying92 Tryz.underlying94 Tryz.underlying98 Tryz.underlying99 Tryz.underlying100 Tryz.underlying101 Tryz.underlying102 Tryz.underlying103 Tryz.underlying104 Tryz.underlying105 Tryz.underlying106 Tryz.underlying107 Tryz.underlying108 Tryz.underlying109 Tryz.underlying110 Tryz.underlying111 Tryz.underlying112 Tryz.underlying113 Tryz.underlying114 Tryz.underlying115 Tryz.underlying116 Tryz.underlying117 Tryz.underlying118 Tryz.underlying119 Tryz.underlying121 Tryz.underlying122 Tryz.underlying123 Tryz.underlying124 Tryz.underlying125 Tryz.underlying126 Tryz.underlying127 Tryz.underlying128 Tryz.underlying129 Tryz.underlying130 Tryz.underlying131 Tryz.underlying132 Tryz.underlying133 Tryz.underlying134 Tryz.underlying135 Tryz.underlying136 Tryz.underlying137 Tryz.underlying138 Tryz.underlying141 Tryz.underlying142 Tryz.underlying145 Tryz.underlying146 Tryz.underlying147 Tryz.underlying148 Tryz.underlying149 Tryz.underlying150 Tryz.underlying152 Tryz.underlying153 Tryz.underlying154 Tryz.underlying155 Tryz.underlying156 Tryz.underlying157 Tryz.underlying158 Tryz.underlying161 Tryz.underlying162 Tryz.underlying163 Tryz.underlying164 Tryz.underlying165 Tryz.underlying166 Tryz.underlying168 Tryz.underlying169 Tryz.underlying170 Tryz.underlying171 Tryz.underlying172 Tryz.underlying173 Tryz.underlying174 Tryz.underlying175 Tryz.underlying176 Tryz.underlying177 Tryz.underlying178 Tryz.underlying179 Tryz.underlying180 Tryz.underlying181 Tryz.underlying183 Tryz.underlying186 Tryz.underlying187 Tryz.underlying189 Tryz.underlying190 Tryz.underlying191 Tryz.underlying192 Tryz.underlying193 Tryz.underlying194 Tryz.underlying195 Tryz.underlying196 Tryz.underlying197 Tryz.underlying198 Tryz.underlying199 Tryz.underlying200
end Go.Proofs.YtfhidaoiofeooaaGreat
