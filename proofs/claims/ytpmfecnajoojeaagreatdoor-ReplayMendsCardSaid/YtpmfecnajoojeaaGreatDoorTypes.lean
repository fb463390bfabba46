/- The types of the translation: their sizes and their zeros, as facts (printed by wip/tools/types.lean). -/
import Derived.Test.YtpmfecnajoojeaaGreatDoorY3
import Derived.Test.YtpmfecnajoojeaaGreatDoorProg
namespace Go.Proofs.YtpmfecnajoojeaaGreatDoor
open _root_.Go.Proofs.Tryz renaming prog → Pz
open Go
theorem hmix : Tryz.prog.follows .mixedOrders = true := by kernel_rfl
@[simp] theorem z0 : zE Pz 0 = some 1 /\ zB Pz 0 = some 0 /\ zF Pz 0 = some (.tuple []) := ⟨by kernel_rfl, by kernel_rfl, by kernel_rfl⟩
@[simp] theorem z1 : zE Pz 1 = some 1 /\ zB Pz 1 = some 8 /\ zF Pz 1 = some (.nilf) := ⟨by kernel_rfl, by kernel_rfl, by kernel_rfl⟩
@[simp] theorem z2 : zE Pz 2 = some 1 /\ zB Pz 2 = some 8 /\ zF Pz 2 = some (.int .i64 (0)) := ⟨by kernel_rfl, by kernel_rfl, by kernel_rfl⟩
@[simp] theorem z3 : zE Pz 3 = some 1 /\ zB Pz 3 = some 8 /\ zF Pz 3 = some (.int .i64 (0)) := ⟨by kernel_rfl, by kernel_rfl, by kernel_rfl⟩
@[simp] theorem z4 : zE Pz 4 = some 1 /\ zB Pz 4 = some 1 /\ zF Pz 4 = some (.bool false) := ⟨by kernel_rfl, by kernel_rfl, by kernel_rfl⟩
@[simp] theorem z5 : zE Pz 5 = some 1 /\ zB Pz 5 = some 1 /\ zF Pz 5 = some (.int .u8 (0)) := ⟨by kernel_rfl, by kernel_rfl, by kernel_rfl⟩
@[simp] theorem z6 : zE Pz 6 = some 1 /\ zB Pz 6 = some 1 /\ zF Pz 6 = some (.int .u8 (0)) := ⟨by kernel_rfl, by kernel_rfl, by kernel_rfl⟩
@[simp] theorem z7 : zE Pz 7 = some 4 /\ zB Pz 7 = some 24 /\ zF Pz 7 = some (.agg [.int .i64 (0), .int .i64 (0), .bool false, .int .u8 (0)]) := ⟨by kernel_rfl, by kernel_rfl, by kernel_rfl⟩
@[simp] theorem z8 : zE Pz 8 = some 4 /\ zB Pz 8 = some 24 /\ zF Pz 8 = some (.agg [.int .i64 (0), .int .i64 (0), .bool false, .int .u8 (0)]) := ⟨by kernel_rfl, by kernel_rfl, by kernel_rfl⟩
@[simp] theorem z9 : zE Pz 9 = some 1 /\ zB Pz 9 = some 16 /\ zF Pz 9 = some (.str []) := ⟨by kernel_rfl, by kernel_rfl, by kernel_rfl⟩
@[simp] theorem z10 : zE Pz 10 = some 1 /\ zB Pz 10 = some 16 /\ zF Pz 10 = some (.str []) := ⟨by kernel_rfl, by kernel_rfl, by kernel_rfl⟩
@[simp] theorem z11 : zE Pz 11 = some 1 /\ zB Pz 11 = some 16 /\ zF Pz 11 = some (.str []) := ⟨by kernel_rfl, by kernel_rfl, by kernel_rfl⟩
@[simp] theorem z12 : zE Pz 12 = some 1 /\ zB Pz 12 = some 8 /\ zF Pz 12 = some (.int .u64 (0)) := ⟨by kernel_rfl, by kernel_rfl, by kernel_rfl⟩
@[simp] theorem z15 : zE Pz 15 = some 1 /\ zB Pz 15 = some 8 /\ zF Pz 15 = some (.nilp) := ⟨by kernel_rfl, by kernel_rfl, by kernel_rfl⟩
@[simp] theorem z16 : zE Pz 16 = some 1 /\ zB Pz 16 = some 8 /\ zF Pz 16 = some (.nilp) := ⟨by kernel_rfl, by kernel_rfl, by kernel_rfl⟩
@[simp] theorem z17 : zE Pz 17 = some 1 /\ zB Pz 17 = some 8 /\ zF Pz 17 = some (.nilp) := ⟨by kernel_rfl, by kernel_rfl, by kernel_rfl⟩
@[simp] theorem z18 : zE Pz 18 = some 1 /\ zB Pz 18 = some 8 /\ zF Pz 18 = some (.agg [.nilp]) := ⟨by kernel_rfl, by kernel_rfl, by kernel_rfl⟩
@[simp] theorem z19 : zE Pz 19 = some 1 /\ zB Pz 19 = some 8 /\ zF Pz 19 = some (.agg [.nilp]) := ⟨by kernel_rfl, by kernel_rfl, by kernel_rfl⟩
@[simp] theorem z20 : zE Pz 20 = some 1 /\ zB Pz 20 = some 16 /\ zF Pz 20 = some (.top) := ⟨by kernel_rfl, by kernel_rfl, by kernel_rfl⟩
@[simp] theorem z21 : zE Pz 21 = some 1 /\ zB Pz 21 = some 4 /\ zF Pz 21 = some (.int .i32 (0)) := ⟨by kernel_rfl, by kernel_rfl, by kernel_rfl⟩
@[simp] theorem z22 : zE Pz 22 = some 1 /\ zB Pz 22 = some 24 /\ zF Pz 22 = some (.nils) := ⟨by kernel_rfl, by kernel_rfl, by kernel_rfl⟩
@[simp] theorem z23 : zE Pz 23 = some 1 /\ zB Pz 23 = some 24 /\ zF Pz 23 = some (.nils) := ⟨by kernel_rfl, by kernel_rfl, by kernel_rfl⟩
@[simp] theorem z24 : zE Pz 24 = some 3 /\ zB Pz 24 = some 56 /\ zF Pz 24 = some (.agg [.int .u8 (0), .nils, .nils]) := ⟨by kernel_rfl, by kernel_rfl, by kernel_rfl⟩
@[simp] theorem z25 : zE Pz 25 = some 3 /\ zB Pz 25 = some 56 /\ zF Pz 25 = some (.agg [.int .u8 (0), .nils, .nils]) := ⟨by kernel_rfl, by kernel_rfl, by kernel_rfl⟩
@[simp] theorem z26 : zE Pz 26 = some 1 /\ zB Pz 26 = some 8 /\ zF Pz 26 = some (.nilf) := ⟨by kernel_rfl, by kernel_rfl, by kernel_rfl⟩
@[simp] theorem z27 : zE Pz 27 = some 1 /\ zB Pz 27 = some 24 /\ zF Pz 27 = some (.nils) := ⟨by kernel_rfl, by kernel_rfl, by kernel_rfl⟩
@[simp] theorem z28 : zE Pz 28 = some 4 /\ zB Pz 28 = some 48 /\ zF Pz 28 = some (.agg [.int .i64 (0), .int .i64 (0), .int .i64 (0), .nils]) := ⟨by kernel_rfl, by kernel_rfl, by kernel_rfl⟩
@[simp] theorem z29 : zE Pz 29 = some 4 /\ zB Pz 29 = some 48 /\ zF Pz 29 = some (.agg [.int .i64 (0), .int .i64 (0), .int .i64 (0), .nils]) := ⟨by kernel_rfl, by kernel_rfl, by kernel_rfl⟩
@[simp] theorem z30 : zE Pz 30 = some 1 /\ zB Pz 30 = some 8 /\ zF Pz 30 = some (.nilf) := ⟨by kernel_rfl, by kernel_rfl, by kernel_rfl⟩
@[simp] theorem z31 : zE Pz 31 = some 1 /\ zB Pz 31 = some 24 /\ zF Pz 31 = some (.nils) := ⟨by kernel_rfl, by kernel_rfl, by kernel_rfl⟩
@[simp] theorem z32 : zE Pz 32 = some 1 /\ zB Pz 32 = some 8 /\ zF Pz 32 = some (.nilf) := ⟨by kernel_rfl, by kernel_rfl, by kernel_rfl⟩
@[simp] theorem z33 : zE Pz 33 = some 1 /\ zB Pz 33 = some 24 /\ zF Pz 33 = some (.nils) := ⟨by kernel_rfl, by kernel_rfl, by kernel_rfl⟩
@[simp] theorem z34 : zE Pz 34 = some 2 /\ zB Pz 34 = some 32 /\ zF Pz 34 = some (.agg [.str [], .str []]) := ⟨by kernel_rfl, by kernel_rfl, by kernel_rfl⟩
@[simp] theorem z35 : zE Pz 35 = some 2 /\ zB Pz 35 = some 32 /\ zF Pz 35 = some (.agg [.str [], .str []]) := ⟨by kernel_rfl, by kernel_rfl, by kernel_rfl⟩
@[simp] theorem z36 : zE Pz 36 = some 1 /\ zB Pz 36 = some 8 /\ zF Pz 36 = some (.nilf) := ⟨by kernel_rfl, by kernel_rfl, by kernel_rfl⟩
@[simp] theorem z37 : zE Pz 37 = some 1 /\ zB Pz 37 = some 8 /\ zF Pz 37 = some (.nilf) := ⟨by kernel_rfl, by kernel_rfl, by kernel_rfl⟩
@[simp] theorem z39 : zE Pz 39 = some 1 /\ zB Pz 39 = some 24 /\ zF Pz 39 = some (.nils) := ⟨by kernel_rfl, by kernel_rfl, by kernel_rfl⟩
@[simp] theorem z40 : zE Pz 40 = some 1 /\ zB Pz 40 = some 24 /\ zF Pz 40 = some (.nils) := ⟨by kernel_rfl, by kernel_rfl, by kernel_rfl⟩
@[simp] theorem z43 : zE Pz 43 = some 1 /\ zB Pz 43 = some 8 /\ zF Pz 43 = some (.nilp) := ⟨by kernel_rfl, by kernel_rfl, by kernel_rfl⟩
@[simp] theorem z44 : zE Pz 44 = some 1 /\ zB Pz 44 = some 8 /\ zF Pz 44 = some (.nilf) := ⟨by kernel_rfl, by kernel_rfl, by kernel_rfl⟩
@[simp] theorem z45 : zE Pz 45 = some 1 /\ zB Pz 45 = some 8 /\ zF Pz 45 = some (.nilp) := ⟨by kernel_rfl, by kernel_rfl, by kernel_rfl⟩
@[simp] theorem z47 : zE Pz 47 = some 1 /\ zB Pz 47 = some 8 /\ zF Pz 47 = some (.nilf) := ⟨by kernel_rfl, by kernel_rfl, by kernel_rfl⟩
@[simp] theorem z48 : zE Pz 48 = some 1 /\ zB Pz 48 = some 24 /\ zF Pz 48 = some (.nils) := ⟨by kernel_rfl, by kernel_rfl, by kernel_rfl⟩
@[simp] theorem z49 : zE Pz 49 = some 1 /\ zB Pz 49 = some 24 /\ zF Pz 49 = some (.nils) := ⟨by kernel_rfl, by kernel_rfl, by kernel_rfl⟩
@[simp] theorem z50 : zE Pz 50 = some 4 /\ zB Pz 50 = some 56 /\ zF Pz 50 = some (.agg [.int .u8 (0), .int .u8 (0), .nils, .nils]) := ⟨by kernel_rfl, by kernel_rfl, by kernel_rfl⟩
@[simp] theorem z51 : zE Pz 51 = some 4 /\ zB Pz 51 = some 56 /\ zF Pz 51 = some (.agg [.int .u8 (0), .int .u8 (0), .nils, .nils]) := ⟨by kernel_rfl, by kernel_rfl, by kernel_rfl⟩
@[simp] theorem z52 : zE Pz 52 = some 1 /\ zB Pz 52 = some 8 /\ zF Pz 52 = some (.int .i64 (0)) := ⟨by kernel_rfl, by kernel_rfl, by kernel_rfl⟩
@[simp] theorem z53 : zE Pz 53 = some 1 /\ zB Pz 53 = some 8 /\ zF Pz 53 = some (.nilf) := ⟨by kernel_rfl, by kernel_rfl, by kernel_rfl⟩
@[simp] theorem z54 : zE Pz 54 = some 1 /\ zB Pz 54 = some 8 /\ zF Pz 54 = some (.nilf) := ⟨by kernel_rfl, by kernel_rfl, by kernel_rfl⟩
@[simp] theorem z55 : zE Pz 55 = some 1 /\ zB Pz 55 = some 8 /\ zF Pz 55 = some (.nilf) := ⟨by kernel_rfl, by kernel_rfl, by kernel_rfl⟩
@[simp] theorem z56 : zE Pz 56 = some 1 /\ zB Pz 56 = some 8 /\ zF Pz 56 = some (.nilf) := ⟨by kernel_rfl, by kernel_rfl, by kernel_rfl⟩
@[simp] theorem z57 : zE Pz 57 = some 1 /\ zB Pz 57 = some 8 /\ zF Pz 57 = some (.nilf) := ⟨by kernel_rfl, by kernel_rfl, by kernel_rfl⟩
@[simp] theorem z58 : zE Pz 58 = some 1 /\ zB Pz 58 = some 0 /\ zF Pz 58 = some (.tuple [.nils, .bool false]) := ⟨by kernel_rfl, by kernel_rfl, by kernel_rfl⟩
@[simp] theorem z59 : zE Pz 59 = some 1 /\ zB Pz 59 = some 8 /\ zF Pz 59 = some (.nilf) := ⟨by kernel_rfl, by kernel_rfl, by kernel_rfl⟩
@[simp] theorem z60 : zE Pz 60 = some 1 /\ zB Pz 60 = some 8 /\ zF Pz 60 = some (.nilf) := ⟨by kernel_rfl, by kernel_rfl, by kernel_rfl⟩
@[simp] theorem z61 : zE Pz 61 = some 1 /\ zB Pz 61 = some 8 /\ zF Pz 61 = some (.nilf) := ⟨by kernel_rfl, by kernel_rfl, by kernel_rfl⟩
@[simp] theorem z62 : zE Pz 62 = some 1 /\ zB Pz 62 = some 8 /\ zF Pz 62 = some (.nilf) := ⟨by kernel_rfl, by kernel_rfl, by kernel_rfl⟩
@[simp] theorem z64 : zE Pz 64 = some 4 /\ zB Pz 64 = some 40 /\ zF Pz 64 = some (.agg [.int .u8 (0), .int .u8 (0), .nils, .bool false]) := ⟨by kernel_rfl, by kernel_rfl, by kernel_rfl⟩
@[simp] theorem z65 : zE Pz 65 = some 4 /\ zB Pz 65 = some 40 /\ zF Pz 65 = some (.agg [.int .u8 (0), .int .u8 (0), .nils, .bool false]) := ⟨by kernel_rfl, by kernel_rfl, by kernel_rfl⟩
@[simp] theorem z66 : zE Pz 66 = some 8 /\ zB Pz 66 = some 80 /\ zF Pz 66 = some (.agg [.int .u8 (0), .int .u8 (0), .nils, .bool false, .int .u8 (0), .int .u8 (0), .nils, .bool false]) := ⟨by kernel_rfl, by kernel_rfl, by kernel_rfl⟩
@[simp] theorem z67 : zE Pz 67 = some 1 /\ zB Pz 67 = some 2 /\ zF Pz 67 = some (.int .u16 (0)) := ⟨by kernel_rfl, by kernel_rfl, by kernel_rfl⟩
@[simp] theorem z68 : zE Pz 68 = some 1 /\ zB Pz 68 = some 0 /\ zF Pz 68 = some (.tuple [.str [], .int .i64 (0)]) := ⟨by kernel_rfl, by kernel_rfl, by kernel_rfl⟩
@[simp] theorem z69 : zE Pz 69 = some 1 /\ zB Pz 69 = some 8 /\ zF Pz 69 = some (.nilf) := ⟨by kernel_rfl, by kernel_rfl, by kernel_rfl⟩
@[simp] theorem z71 : zE Pz 71 = some 1 /\ zB Pz 71 = some 8 /\ zF Pz 71 = some (.nilf) := ⟨by kernel_rfl, by kernel_rfl, by kernel_rfl⟩
@[simp] theorem z72 : zE Pz 72 = some 1 /\ zB Pz 72 = some 8 /\ zF Pz 72 = some (.nilf) := ⟨by kernel_rfl, by kernel_rfl, by kernel_rfl⟩
@[simp] theorem z73 : zE Pz 73 = some 1 /\ zB Pz 73 = some 24 /\ zF Pz 73 = some (.nils) := ⟨by kernel_rfl, by kernel_rfl, by kernel_rfl⟩
@[simp] theorem z74 : zE Pz 74 = some 4 /\ zB Pz 74 = some 64 /\ zF Pz 74 = some (.agg [.int .u8 (0), .nils, .str [], .str []]) := ⟨by kernel_rfl, by kernel_rfl, by kernel_rfl⟩
@[simp] theorem z75 : zE Pz 75 = some 4 /\ zB Pz 75 = some 64 /\ zF Pz 75 = some (.agg [.int .u8 (0), .nils, .str [], .str []]) := ⟨by kernel_rfl, by kernel_rfl, by kernel_rfl⟩
@[simp] theorem z77 : zE Pz 77 = some 1 /\ zB Pz 77 = some 24 /\ zF Pz 77 = some (.nils) := ⟨by kernel_rfl, by kernel_rfl, by kernel_rfl⟩
@[simp] theorem z78 : zE Pz 78 = some 4 /\ zB Pz 78 = some 64 /\ zF Pz 78 = some (.agg [.nils, .nils, .int .i64 (0), .bool false]) := ⟨by kernel_rfl, by kernel_rfl, by kernel_rfl⟩
@[simp] theorem z79 : zE Pz 79 = some 4 /\ zB Pz 79 = some 64 /\ zF Pz 79 = some (.agg [.nils, .nils, .int .i64 (0), .bool false]) := ⟨by kernel_rfl, by kernel_rfl, by kernel_rfl⟩
@[simp] theorem z80 : zE Pz 80 = some 1 /\ zB Pz 80 = some 0 /\ zF Pz 80 = some (.tuple [.top, .int .i64 (0)]) := ⟨by kernel_rfl, by kernel_rfl, by kernel_rfl⟩
@[simp] theorem z81 : zE Pz 81 = some 1 /\ zB Pz 81 = some 8 /\ zF Pz 81 = some (.nilf) := ⟨by kernel_rfl, by kernel_rfl, by kernel_rfl⟩
@[simp] theorem z82 : zE Pz 82 = some 1 /\ zB Pz 82 = some 8 /\ zF Pz 82 = some (.nilf) := ⟨by kernel_rfl, by kernel_rfl, by kernel_rfl⟩
@[simp] theorem z86 : zE Pz 86 = some 1 /\ zB Pz 86 = some 0 /\ zF Pz 86 = some (.tuple [.int .i64 (0), .int .i64 (0)]) := ⟨by kernel_rfl, by kernel_rfl, by kernel_rfl⟩
@[simp] theorem z90 : zE Pz 90 = some 3 /\ zB Pz 90 = some 24 /\ zF Pz 90 = some (.agg [.int .i64 (0), .int .i64 (0), .int .i64 (0)]) := ⟨by kernel_rfl, by kernel_rfl, by kernel_rfl⟩
@[simp] theorem z91 : zE Pz 91 = some 3 /\ zB Pz 91 = some 24 /\ zF Pz 91 = some (.agg [.int .i64 (0), .int .i64 (0), .int .i64 (0)]) := ⟨by kernel_rfl, by kernel_rfl, by kernel_rfl⟩
@[simp] theorem z92 : zE Pz 92 = some 3 /\ zB Pz 92 = some 24 /\ zF Pz 92 = some (.agg [.int .u8 (0), .int .u8 (0), .str []]) := ⟨by kernel_rfl, by kernel_rfl, by kernel_rfl⟩
@[simp] theorem z93 : zE Pz 93 = some 3 /\ zB Pz 93 = some 24 /\ zF Pz 93 = some (.agg [.int .u8 (0), .int .u8 (0), .str []]) := ⟨by kernel_rfl, by kernel_rfl, by kernel_rfl⟩
@[simp] theorem z94 : zE Pz 94 = some 1 /\ zB Pz 94 = some 8 /\ zF Pz 94 = some (.nilf) := ⟨by kernel_rfl, by kernel_rfl, by kernel_rfl⟩
@[simp] theorem z95 : zE Pz 95 = some 1 /\ zB Pz 95 = some 0 /\ zF Pz 95 = some (.tuple [.int .i64 (0), .int .i64 (0)]) := ⟨by kernel_rfl, by kernel_rfl, by kernel_rfl⟩
@[simp] theorem z103 : zE Pz 103 = some 1 /\ zB Pz 103 = some 8 /\ zF Pz 103 = some (.nilf) := ⟨by kernel_rfl, by kernel_rfl, by kernel_rfl⟩
@[simp] theorem z105 : zE Pz 105 = some 1 /\ zB Pz 105 = some 8 /\ zF Pz 105 = some (.nilf) := ⟨by kernel_rfl, by kernel_rfl, by kernel_rfl⟩
@[simp] theorem z107 : zE Pz 107 = some 1 /\ zB Pz 107 = some 0 /\ zF Pz 107 = some (.tuple [.nilp, .nilp]) := ⟨by kernel_rfl, by kernel_rfl, by kernel_rfl⟩
@[simp] theorem z109 : zE Pz 109 = some 1 /\ zB Pz 109 = some 4 /\ zF Pz 109 = some (.int .u32 (0)) := ⟨by kernel_rfl, by kernel_rfl, by kernel_rfl⟩
@[simp] theorem z110 : zE Pz 110 = some 3 /\ zB Pz 110 = some 24 /\ zF Pz 110 = some (.agg [.str [], .int .u32 (0), .bool false]) := ⟨by kernel_rfl, by kernel_rfl, by kernel_rfl⟩
@[simp] theorem z111 : zE Pz 111 = some 3 /\ zB Pz 111 = some 24 /\ zF Pz 111 = some (.agg [.str [], .int .u32 (0), .bool false]) := ⟨by kernel_rfl, by kernel_rfl, by kernel_rfl⟩
@[simp] theorem z112 : zE Pz 112 = some 6 /\ zB Pz 112 = some 48 /\ zF Pz 112 = some (.agg [.nilp, .int .i64 (0), .int .i64 (0), .int .i64 (0), .int .i64 (0), .bool false]) := ⟨by kernel_rfl, by kernel_rfl, by kernel_rfl⟩
@[simp] theorem z113 : zE Pz 113 = some 6 /\ zB Pz 113 = some 48 /\ zF Pz 113 = some (.agg [.nilp, .int .i64 (0), .int .i64 (0), .int .i64 (0), .int .i64 (0), .bool false]) := ⟨by kernel_rfl, by kernel_rfl, by kernel_rfl⟩
@[simp] theorem z114 : zE Pz 114 = some 1 /\ zB Pz 114 = some 8 /\ zF Pz 114 = some (.nilp) := ⟨by kernel_rfl, by kernel_rfl, by kernel_rfl⟩
@[simp] theorem z115 : zE Pz 115 = some 1 /\ zB Pz 115 = some 8 /\ zF Pz 115 = some (.nilm) := ⟨by kernel_rfl, by kernel_rfl, by kernel_rfl⟩
@[simp] theorem z116 : zE Pz 116 = some 6 /\ zB Pz 116 = some 48 /\ zF Pz 116 = some (.agg [.nilp, .nilm, .int .i64 (0), .int .i64 (0), .int .i64 (0), .bool false]) := ⟨by kernel_rfl, by kernel_rfl, by kernel_rfl⟩
@[simp] theorem z117 : zE Pz 117 = some 6 /\ zB Pz 117 = some 48 /\ zF Pz 117 = some (.agg [.nilp, .nilm, .int .i64 (0), .int .i64 (0), .int .i64 (0), .bool false]) := ⟨by kernel_rfl, by kernel_rfl, by kernel_rfl⟩
@[simp] theorem z118 : zE Pz 118 = some 1 /\ zB Pz 118 = some 8 /\ zF Pz 118 = some (.nilf) := ⟨by kernel_rfl, by kernel_rfl, by kernel_rfl⟩
@[simp] theorem z122 : zE Pz 122 = some 1 /\ zB Pz 122 = some 8 /\ zF Pz 122 = some (.nilf) := ⟨by kernel_rfl, by kernel_rfl, by kernel_rfl⟩
@[simp] theorem z123 : zE Pz 123 = some 1 /\ zB Pz 123 = some 8 /\ zF Pz 123 = some (.nilf) := ⟨by kernel_rfl, by kernel_rfl, by kernel_rfl⟩
@[simp] theorem z124 : zE Pz 124 = some 1 /\ zB Pz 124 = some 8 /\ zF Pz 124 = some (.nilf) := ⟨by kernel_rfl, by kernel_rfl, by kernel_rfl⟩
@[simp] theorem z125 : zE Pz 125 = some 1 /\ zB Pz 125 = some 8 /\ zF Pz 125 = some (.agg [.nilf]) := ⟨by kernel_rfl, by kernel_rfl, by kernel_rfl⟩
@[simp] theorem z126 : zE Pz 126 = some 1 /\ zB Pz 126 = some 8 /\ zF Pz 126 = some (.agg [.nilf]) := ⟨by kernel_rfl, by kernel_rfl, by kernel_rfl⟩
@[simp] theorem z127 : zE Pz 127 = some 1 /\ zB Pz 127 = some 8 /\ zF Pz 127 = some (.nilf) := ⟨by kernel_rfl, by kernel_rfl, by kernel_rfl⟩
@[simp] theorem z128 : zE Pz 128 = some 1 /\ zB Pz 128 = some 0 /\ zF Pz 128 = some (.tuple [.int .i64 (0), .bool false]) := ⟨by kernel_rfl, by kernel_rfl, by kernel_rfl⟩
@[simp] theorem z129 : zE Pz 129 = some 1 /\ zB Pz 129 = some 8 /\ zF Pz 129 = some (.nilf) := ⟨by kernel_rfl, by kernel_rfl, by kernel_rfl⟩
@[simp] theorem z130 : zE Pz 130 = some 1 /\ zB Pz 130 = some 8 /\ zF Pz 130 = some (.nilp) := ⟨by kernel_rfl, by kernel_rfl, by kernel_rfl⟩
@[simp] theorem z131 : zE Pz 131 = some 2 /\ zB Pz 131 = some 16 /\ zF Pz 131 = some (.agg [.int .i64 (0), .int .i64 (0)]) := ⟨by kernel_rfl, by kernel_rfl, by kernel_rfl⟩
@[simp] theorem z132 : zE Pz 132 = some 2 /\ zB Pz 132 = some 16 /\ zF Pz 132 = some (.agg [.int .i64 (0), .int .i64 (0)]) := ⟨by kernel_rfl, by kernel_rfl, by kernel_rfl⟩
@[simp] theorem z133 : zE Pz 133 = some 1 /\ zB Pz 133 = some 8 /\ zF Pz 133 = some (.nilf) := ⟨by kernel_rfl, by kernel_rfl, by kernel_rfl⟩
@[simp] theorem z134 : zE Pz 134 = some 1 /\ zB Pz 134 = some 8 /\ zF Pz 134 = some (.nilf) := ⟨by kernel_rfl, by kernel_rfl, by kernel_rfl⟩
@[simp] theorem z135 : zE Pz 135 = some 1 /\ zB Pz 135 = some 8 /\ zF Pz 135 = some (.nilf) := ⟨by kernel_rfl, by kernel_rfl, by kernel_rfl⟩
@[simp] theorem z138 : zE Pz 138 = some 1 /\ zB Pz 138 = some 0 /\ zF Pz 138 = some (.tuple [.top, .int .i64 (0)]) := ⟨by kernel_rfl, by kernel_rfl, by kernel_rfl⟩
@[simp] theorem z140 : zE Pz 140 = some 1 /\ zB Pz 140 = some 8 /\ zF Pz 140 = some (.nilf) := ⟨by kernel_rfl, by kernel_rfl, by kernel_rfl⟩
@[simp] theorem z141 : zE Pz 141 = some 1 /\ zB Pz 141 = some 8 /\ zF Pz 141 = some (.nilf) := ⟨by kernel_rfl, by kernel_rfl, by kernel_rfl⟩
@[simp] theorem z142 : zE Pz 142 = some 1 /\ zB Pz 142 = some 8 /\ zF Pz 142 = some (.nilf) := ⟨by kernel_rfl, by kernel_rfl, by kernel_rfl⟩
@[simp] theorem z143 : zE Pz 143 = some 1 /\ zB Pz 143 = some 0 /\ zF Pz 143 = some (.tuple [.str [], .bool false]) := ⟨by kernel_rfl, by kernel_rfl, by kernel_rfl⟩
@[simp] theorem z148 : zE Pz 148 = some 1 /\ zB Pz 148 = some 8 /\ zF Pz 148 = some (.int .u64 (0)) := ⟨by kernel_rfl, by kernel_rfl, by kernel_rfl⟩
@[simp] theorem z149 : zE Pz 149 = some 1 /\ zB Pz 149 = some 24 /\ zF Pz 149 = some (.nils) := ⟨by kernel_rfl, by kernel_rfl, by kernel_rfl⟩
@[simp] theorem z157 : zE Pz 157 = some 1 /\ zB Pz 157 = some 8 /\ zF Pz 157 = some (.nilf) := ⟨by kernel_rfl, by kernel_rfl, by kernel_rfl⟩
@[simp] theorem z159 : zE Pz 159 = some 1 /\ zB Pz 159 = some 8 /\ zF Pz 159 = some (.nilf) := ⟨by kernel_rfl, by kernel_rfl, by kernel_rfl⟩
@[simp] theorem z160 : zE Pz 160 = some 1 /\ zB Pz 160 = some 0 /\ zF Pz 160 = some (.tuple [.nils, .int .i64 (0)]) := ⟨by kernel_rfl, by kernel_rfl, by kernel_rfl⟩
@[simp] theorem z162 : zE Pz 162 = some 1 /\ zB Pz 162 = some 8 /\ zF Pz 162 = some (.nilf) := ⟨by kernel_rfl, by kernel_rfl, by kernel_rfl⟩
@[simp] theorem z163 : zE Pz 163 = some 1 /\ zB Pz 163 = some 0 /\ zF Pz 163 = some (.tuple [.nils, .int .i64 (0)]) := ⟨by kernel_rfl, by kernel_rfl, by kernel_rfl⟩
@[simp] theorem z166 : zE Pz 166 = some 3 /\ zB Pz 166 = some 48 /\ zF Pz 166 = some (.agg [.int .u8 (0), .nils, .str []]) := ⟨by kernel_rfl, by kernel_rfl, by kernel_rfl⟩
@[simp] theorem z167 : zE Pz 167 = some 3 /\ zB Pz 167 = some 48 /\ zF Pz 167 = some (.agg [.int .u8 (0), .nils, .str []]) := ⟨by kernel_rfl, by kernel_rfl, by kernel_rfl⟩
@[simp] theorem z168 : zE Pz 168 = some 1 /\ zB Pz 168 = some 8 /\ zF Pz 168 = some (.nilf) := ⟨by kernel_rfl, by kernel_rfl, by kernel_rfl⟩
@[simp] theorem z170 : zE Pz 170 = some 1 /\ zB Pz 170 = some 8 /\ zF Pz 170 = some (.nilf) := ⟨by kernel_rfl, by kernel_rfl, by kernel_rfl⟩
@[simp] theorem z173 : zE Pz 173 = some 1 /\ zB Pz 173 = some 8 /\ zF Pz 173 = some (.nilf) := ⟨by kernel_rfl, by kernel_rfl, by kernel_rfl⟩
@[simp] theorem z174 : zE Pz 174 = some 1 /\ zB Pz 174 = some 8 /\ zF Pz 174 = some (.nilf) := ⟨by kernel_rfl, by kernel_rfl, by kernel_rfl⟩
@[simp] theorem z175 : zE Pz 175 = some 1 /\ zB Pz 175 = some 8 /\ zF Pz 175 = some (.nilf) := ⟨by kernel_rfl, by kernel_rfl, by kernel_rfl⟩
@[simp] theorem z176 : zE Pz 176 = some 1 /\ zB Pz 176 = some 8 /\ zF Pz 176 = some (.nilf) := ⟨by kernel_rfl, by kernel_rfl, by kernel_rfl⟩
@[simp] theorem z177 : zE Pz 177 = some 1 /\ zB Pz 177 = some 8 /\ zF Pz 177 = some (.nilf) := ⟨by kernel_rfl, by kernel_rfl, by kernel_rfl⟩
@[simp] theorem z178 : zE Pz 178 = some 1 /\ zB Pz 178 = some 0 /\ zF Pz 178 = some (.tuple [.nilp, .int .i64 (0)]) := ⟨by kernel_rfl, by kernel_rfl, by kernel_rfl⟩
@[simp] theorem z179 : zE Pz 179 = some 1 /\ zB Pz 179 = some 8 /\ zF Pz 179 = some (.nilf) := ⟨by kernel_rfl, by kernel_rfl, by kernel_rfl⟩
@[simp] theorem z181 : zE Pz 181 = some 5 /\ zB Pz 181 = some 80 /\ zF Pz 181 = some (.agg [.str [], .str [], .str [], .str [], .str []]) := ⟨by kernel_rfl, by kernel_rfl, by kernel_rfl⟩
@[simp] theorem z182 : zE Pz 182 = some 1 /\ zB Pz 182 = some 8 /\ zF Pz 182 = some (.nilf) := ⟨by kernel_rfl, by kernel_rfl, by kernel_rfl⟩
@[simp] theorem z184 : zE Pz 184 = some 1 /\ zB Pz 184 = some 16 /\ zF Pz 184 = some (.top) := ⟨by kernel_rfl, by kernel_rfl, by kernel_rfl⟩
@[simp] theorem z185 : zE Pz 185 = some 1 /\ zB Pz 185 = some 16 /\ zF Pz 185 = some (.top) := ⟨by kernel_rfl, by kernel_rfl, by kernel_rfl⟩
@[simp] theorem z186 : zE Pz 186 = some 1 /\ zB Pz 186 = some 0 /\ zF Pz 186 = some (.tuple [.int .i64 (0), .top]) := ⟨by kernel_rfl, by kernel_rfl, by kernel_rfl⟩
@[simp] theorem z188 : zE Pz 188 = some 1 /\ zB Pz 188 = some 8 /\ zF Pz 188 = some (.nilf) := ⟨by kernel_rfl, by kernel_rfl, by kernel_rfl⟩
@[simp] theorem z192 : zE Pz 192 = some 1 /\ zB Pz 192 = some 8 /\ zF Pz 192 = some (.int .u64 (0)) := ⟨by kernel_rfl, by kernel_rfl, by kernel_rfl⟩
@[simp] theorem z193 : zE Pz 193 = some 3 /\ zB Pz 193 = some 32 /\ zF Pz 193 = some (.agg [.nils, .int .u32 (0), .bool false]) := ⟨by kernel_rfl, by kernel_rfl, by kernel_rfl⟩
@[simp] theorem z194 : zE Pz 194 = some 3 /\ zB Pz 194 = some 32 /\ zF Pz 194 = some (.agg [.nils, .int .u32 (0), .bool false]) := ⟨by kernel_rfl, by kernel_rfl, by kernel_rfl⟩
@[simp] theorem z195 : zE Pz 195 = some 1 /\ zB Pz 195 = some 8 /\ zF Pz 195 = some (.nilf) := ⟨by kernel_rfl, by kernel_rfl, by kernel_rfl⟩
@[simp] theorem z198 : zE Pz 198 = some 1 /\ zB Pz 198 = some 8 /\ zF Pz 198 = some (.nilf) := ⟨by kernel_rfl, by kernel_rfl, by kernel_rfl⟩
@[simp] theorem z200 : zE Pz 200 = some 1 /\ zB Pz 200 = some 8 /\ zF Pz 200 = some (.nilf) := ⟨by kernel_rfl, by kernel_rfl, by kernel_rfl⟩
@[simp] theorem z201 : zE Pz 201 = some 1 /\ zB Pz 201 = some 8 /\ zF Pz 201 = some (.nilf) := ⟨by kernel_rfl, by kernel_rfl, by kernel_rfl⟩
@[simp] theorem z202 : zE Pz 202 = some 1 /\ zB Pz 202 = some 24 /\ zF Pz 202 = some (.nils) := ⟨by kernel_rfl, by kernel_rfl, by kernel_rfl⟩
@[simp] theorem z206 : zE Pz 206 = some 1 /\ zB Pz 206 = some 24 /\ zF Pz 206 = some (.nils) := ⟨by kernel_rfl, by kernel_rfl, by kernel_rfl⟩
@[simp] theorem z207 : zE Pz 207 = some 1 /\ zB Pz 207 = some 8 /\ zF Pz 207 = some (.nilm) := ⟨by kernel_rfl, by kernel_rfl, by kernel_rfl⟩
@[simp] theorem z208 : zE Pz 208 = some 1 /\ zB Pz 208 = some 8 /\ zF Pz 208 = some (.nilm) := ⟨by kernel_rfl, by kernel_rfl, by kernel_rfl⟩
@[simp] theorem z209 : zE Pz 209 = some 4 /\ zB Pz 209 = some 48 /\ zF Pz 209 = some (.agg [.nilm, .nilm, .nils, .int .i64 (0)]) := ⟨by kernel_rfl, by kernel_rfl, by kernel_rfl⟩
@[simp] theorem z210 : zE Pz 210 = some 4 /\ zB Pz 210 = some 48 /\ zF Pz 210 = some (.agg [.nilm, .nilm, .nils, .int .i64 (0)]) := ⟨by kernel_rfl, by kernel_rfl, by kernel_rfl⟩
@[simp] theorem z211 : zE Pz 211 = some 1 /\ zB Pz 211 = some 8 /\ zF Pz 211 = some (.nilf) := ⟨by kernel_rfl, by kernel_rfl, by kernel_rfl⟩
@[simp] theorem z212 : zE Pz 212 = some 2 /\ zB Pz 212 = some 24 /\ zF Pz 212 = some (.agg [.str [], .nilf]) := ⟨by kernel_rfl, by kernel_rfl, by kernel_rfl⟩
@[simp] theorem z213 : zE Pz 213 = some 2 /\ zB Pz 213 = some 24 /\ zF Pz 213 = some (.agg [.str [], .nilf]) := ⟨by kernel_rfl, by kernel_rfl, by kernel_rfl⟩
@[simp] theorem z216 : zE Pz 216 = some 1 /\ zB Pz 216 = some 8 /\ zF Pz 216 = some (.nilf) := ⟨by kernel_rfl, by kernel_rfl, by kernel_rfl⟩
@[simp] theorem z217 : zE Pz 217 = some 1 /\ zB Pz 217 = some 8 /\ zF Pz 217 = some (.nilf) := ⟨by kernel_rfl, by kernel_rfl, by kernel_rfl⟩
@[simp] theorem z220 : zE Pz 220 = some 1 /\ zB Pz 220 = some 24 /\ zF Pz 220 = some (.nils) := ⟨by kernel_rfl, by kernel_rfl, by kernel_rfl⟩
@[simp] theorem z221 : zE Pz 221 = some 3 /\ zB Pz 221 = some 56 /\ zF Pz 221 = some (.agg [.str [], .nils, .str []]) := ⟨by kernel_rfl, by kernel_rfl, by kernel_rfl⟩
@[simp] theorem z222 : zE Pz 222 = some 3 /\ zB Pz 222 = some 56 /\ zF Pz 222 = some (.agg [.str [], .nils, .str []]) := ⟨by kernel_rfl, by kernel_rfl, by kernel_rfl⟩
@[simp] theorem z224 : zE Pz 224 = some 1 /\ zB Pz 224 = some 8 /\ zF Pz 224 = some (.nilf) := ⟨by kernel_rfl, by kernel_rfl, by kernel_rfl⟩
@[simp] theorem z225 : zE Pz 225 = some 1 /\ zB Pz 225 = some 8 /\ zF Pz 225 = some (.nilf) := ⟨by kernel_rfl, by kernel_rfl, by kernel_rfl⟩
@[simp] theorem z226 : zE Pz 226 = some 1 /\ zB Pz 226 = some 8 /\ zF Pz 226 = some (.nilf) := ⟨by kernel_rfl, by kernel_rfl, by kernel_rfl⟩
@[simp] theorem z227 : zE Pz 227 = some 1 /\ zB Pz 227 = some 8 /\ zF Pz 227 = some (.nilf) := ⟨by kernel_rfl, by kernel_rfl, by kernel_rfl⟩
@[simp] theorem z228 : zE Pz 228 = some 1 /\ zB Pz 228 = some 8 /\ zF Pz 228 = some (.nilf) := ⟨by kernel_rfl, by kernel_rfl, by kernel_rfl⟩
@[simp] theorem z229 : zE Pz 229 = some 1 /\ zB Pz 229 = some 8 /\ zF Pz 229 = some (.nilf) := ⟨by kernel_rfl, by kernel_rfl, by kernel_rfl⟩
@[simp] theorem z232 : zE Pz 232 = some 1 /\ zB Pz 232 = some 0 /\ zF Pz 232 = some (.tuple [.int .u64 (0), .int .i64 (0), .int .i64 (0)]) := ⟨by kernel_rfl, by kernel_rfl, by kernel_rfl⟩
@[simp] theorem z234 : zE Pz 234 = some 1 /\ zB Pz 234 = some 8 /\ zF Pz 234 = some (.nilf) := ⟨by kernel_rfl, by kernel_rfl, by kernel_rfl⟩
@[simp] theorem z240 : zE Pz 240 = some 9 /\ zB Pz 240 = some 9 /\ zF Pz 240 = some (.agg [.int .u8 (0), .int .u8 (0), .int .u8 (0), .int .u8 (0), .int .u8 (0), .int .u8 (0), .int .u8 (0), .int .u8 (0), .int .u8 (0)]) := ⟨by kernel_rfl, by kernel_rfl, by kernel_rfl⟩
@[simp] theorem z241 : zE Pz 241 = some 10 /\ zB Pz 241 = some 24 /\ zF Pz 241 = some (.agg [.int .u8 (0), .int .u8 (0), .int .u8 (0), .int .u8 (0), .int .u8 (0), .int .u8 (0), .int .u8 (0), .int .u8 (0), .int .u8 (0), .int .i64 (0)]) := ⟨by kernel_rfl, by kernel_rfl, by kernel_rfl⟩
@[simp] theorem z242 : zE Pz 242 = some 10 /\ zB Pz 242 = some 24 /\ zF Pz 242 = some (.agg [.int .u8 (0), .int .u8 (0), .int .u8 (0), .int .u8 (0), .int .u8 (0), .int .u8 (0), .int .u8 (0), .int .u8 (0), .int .u8 (0), .int .i64 (0)]) := ⟨by kernel_rfl, by kernel_rfl, by kernel_rfl⟩
@[simp] theorem z243 : zE Pz 243 = some 1 /\ zB Pz 243 = some 8 /\ zF Pz 243 = some (.nilf) := ⟨by kernel_rfl, by kernel_rfl, by kernel_rfl⟩
@[simp] theorem z250 : zE Pz 250 = some 1 /\ zB Pz 250 = some 8 /\ zF Pz 250 = some (.nilf) := ⟨by kernel_rfl, by kernel_rfl, by kernel_rfl⟩
@[simp] theorem z257 : zE Pz 257 = some 1 /\ zB Pz 257 = some 8 /\ zF Pz 257 = some (.int .i64 (0)) := ⟨by kernel_rfl, by kernel_rfl, by kernel_rfl⟩
@[simp] theorem z258 : zE Pz 258 = some 1 /\ zB Pz 258 = some 0 /\ zF Pz 258 = some (.tuple [.int .i64 (0), .int .i64 (0)]) := ⟨by kernel_rfl, by kernel_rfl, by kernel_rfl⟩
@[simp] theorem z271 : zE Pz 271 = some 1 /\ zB Pz 271 = some 8 /\ zF Pz 271 = some (.nilf) := ⟨by kernel_rfl, by kernel_rfl, by kernel_rfl⟩
@[simp] theorem z273 : zE Pz 273 = some 1 /\ zB Pz 273 = some 8 /\ zF Pz 273 = some (.nilf) := ⟨by kernel_rfl, by kernel_rfl, by kernel_rfl⟩
@[simp] theorem z274 : zE Pz 274 = some 1 /\ zB Pz 274 = some 8 /\ zF Pz 274 = some (.nilf) := ⟨by kernel_rfl, by kernel_rfl, by kernel_rfl⟩
@[simp] theorem z275 : zE Pz 275 = some 1 /\ zB Pz 275 = some 0 /\ zF Pz 275 = some (.tuple [.str [], .int .i64 (0), .int .i64 (0)]) := ⟨by kernel_rfl, by kernel_rfl, by kernel_rfl⟩
@[simp] theorem z287 : zE Pz 287 = some 1 /\ zB Pz 287 = some 8 /\ zF Pz 287 = some (.int .i64 (0)) := ⟨by kernel_rfl, by kernel_rfl, by kernel_rfl⟩
@[simp] theorem z288 : zE Pz 288 = some 1 /\ zB Pz 288 = some 0 /\ zF Pz 288 = some (.tuple [.int .i64 (0), .top]) := ⟨by kernel_rfl, by kernel_rfl, by kernel_rfl⟩
@[simp] theorem z290 : zE Pz 290 = some 1 /\ zB Pz 290 = some 8 /\ zF Pz 290 = some (.nilp) := ⟨by kernel_rfl, by kernel_rfl, by kernel_rfl⟩
@[simp] theorem z293 : zE Pz 293 = some 1 /\ zB Pz 293 = some 8 /\ zF Pz 293 = some (.int .u64 (0)) := ⟨by kernel_rfl, by kernel_rfl, by kernel_rfl⟩
@[simp] theorem z295 : zE Pz 295 = some 1 /\ zB Pz 295 = some 8 /\ zF Pz 295 = some (.nilf) := ⟨by kernel_rfl, by kernel_rfl, by kernel_rfl⟩
@[simp] theorem z297 : zE Pz 297 = some 1 /\ zB Pz 297 = some 8 /\ zF Pz 297 = some (.nilp) := ⟨by kernel_rfl, by kernel_rfl, by kernel_rfl⟩
@[simp] theorem z299 : zE Pz 299 = some 1 /\ zB Pz 299 = some 8 /\ zF Pz 299 = some (.nilp) := ⟨by kernel_rfl, by kernel_rfl, by kernel_rfl⟩
@[simp] theorem z303 : zE Pz 303 = some 1 /\ zB Pz 303 = some 8 /\ zF Pz 303 = some (.nilf) := ⟨by kernel_rfl, by kernel_rfl, by kernel_rfl⟩
@[simp] theorem z308 : zE Pz 308 = some 3 /\ zB Pz 308 = some 24 /\ zF Pz 308 = some (.agg [.int .u64 (0), .int .i64 (0), .int .i64 (0)]) := ⟨by kernel_rfl, by kernel_rfl, by kernel_rfl⟩
@[simp] theorem z309 : zE Pz 309 = some 3 /\ zB Pz 309 = some 24 /\ zF Pz 309 = some (.agg [.int .u64 (0), .int .i64 (0), .int .i64 (0)]) := ⟨by kernel_rfl, by kernel_rfl, by kernel_rfl⟩
@[simp] theorem z310 : zE Pz 310 = some 1 /\ zB Pz 310 = some 8 /\ zF Pz 310 = some (.nilf) := ⟨by kernel_rfl, by kernel_rfl, by kernel_rfl⟩
@[simp] theorem z311 : zE Pz 311 = some 1 /\ zB Pz 311 = some 8 /\ zF Pz 311 = some (.nilf) := ⟨by kernel_rfl, by kernel_rfl, by kernel_rfl⟩
@[simp] theorem z312 : zE Pz 312 = some 1 /\ zB Pz 312 = some 8 /\ zF Pz 312 = some (.nilf) := ⟨by kernel_rfl, by kernel_rfl, by kernel_rfl⟩
@[simp] theorem z313 : zE Pz 313 = some 16 /\ zB Pz 313 = some 64 /\ zF Pz 313 = some (.agg [.int .u32 (0), .int .u32 (0), .int .u32 (0), .int .u32 (0), .int .u32 (0), .int .u32 (0), .int .u32 (0), .int .u32 (0), .int .u32 (0), .int .u32 (0), .int .u32 (0), .int .u32 (0), .int .u32 (0), .int .u32 (0), .int .u32 (0), .int .u32 (0)]) := ⟨by kernel_rfl, by kernel_rfl, by kernel_rfl⟩
@[simp] theorem z314 : zE Pz 314 = some 1 /\ zB Pz 314 = some 8 /\ zF Pz 314 = some (.nilf) := ⟨by kernel_rfl, by kernel_rfl, by kernel_rfl⟩
@[simp] theorem z317 : zE Pz 317 = some 1 /\ zB Pz 317 = some 8 /\ zF Pz 317 = some (.nilf) := ⟨by kernel_rfl, by kernel_rfl, by kernel_rfl⟩
@[simp] theorem z318 : zE Pz 318 = some 1 /\ zB Pz 318 = some 0 /\ zF Pz 318 = some (.tuple [.int .u64 (0), .top]) := ⟨by kernel_rfl, by kernel_rfl, by kernel_rfl⟩
@[simp] theorem z319 : zE Pz 319 = some 1 /\ zB Pz 319 = some 8 /\ zF Pz 319 = some (.nilf) := ⟨by kernel_rfl, by kernel_rfl, by kernel_rfl⟩
@[simp] theorem z320 : zE Pz 320 = some 3 /\ zB Pz 320 = some 48 /\ zF Pz 320 = some (.agg [.str [], .str [], .top]) := ⟨by kernel_rfl, by kernel_rfl, by kernel_rfl⟩
@[simp] theorem z321 : zE Pz 321 = some 3 /\ zB Pz 321 = some 48 /\ zF Pz 321 = some (.agg [.str [], .str [], .top]) := ⟨by kernel_rfl, by kernel_rfl, by kernel_rfl⟩
@[simp] theorem z322 : zE Pz 322 = some 1 /\ zB Pz 322 = some 8 /\ zF Pz 322 = some (.nilf) := ⟨by kernel_rfl, by kernel_rfl, by kernel_rfl⟩
@[simp] theorem z323 : zE Pz 323 = some 1 /\ zB Pz 323 = some 8 /\ zF Pz 323 = some (.nilp) := ⟨by kernel_rfl, by kernel_rfl, by kernel_rfl⟩
@[simp] theorem z324 : zE Pz 324 = some 1 /\ zB Pz 324 = some 8 /\ zF Pz 324 = some (.nilf) := ⟨by kernel_rfl, by kernel_rfl, by kernel_rfl⟩
@[simp] theorem z325 : zE Pz 325 = some 1 /\ zB Pz 325 = some 8 /\ zF Pz 325 = some (.nilp) := ⟨by kernel_rfl, by kernel_rfl, by kernel_rfl⟩
@[simp] theorem z327 : zE Pz 327 = some 1 /\ zB Pz 327 = some 8 /\ zF Pz 327 = some (.nilf) := ⟨by kernel_rfl, by kernel_rfl, by kernel_rfl⟩
@[simp] theorem z328 : zE Pz 328 = some 24 /\ zB Pz 328 = some 24 /\ zF Pz 328 = some (.agg [.int .u8 (0), .int .u8 (0), .int .u8 (0), .int .u8 (0), .int .u8 (0), .int .u8 (0), .int .u8 (0), .int .u8 (0), .int .u8 (0), .int .u8 (0), .int .u8 (0), .int .u8 (0), .int .u8 (0), .int .u8 (0), .int .u8 (0), .int .u8 (0), .int .u8 (0), .int .u8 (0), .int .u8 (0), .int .u8 (0), .int .u8 (0), .int .u8 (0), .int .u8 (0), .int .u8 (0)]) := ⟨by kernel_rfl, by kernel_rfl, by kernel_rfl⟩
@[simp] theorem z329 : zE Pz 329 = some 1 /\ zB Pz 329 = some 8 /\ zF Pz 329 = some (.nilf) := ⟨by kernel_rfl, by kernel_rfl, by kernel_rfl⟩
@[simp] theorem z330 : zE Pz 330 = some 1 /\ zB Pz 330 = some 0 /\ zF Pz 330 = some (.tuple [.nils, .str []]) := ⟨by kernel_rfl, by kernel_rfl, by kernel_rfl⟩
@[simp] theorem z332 : zE Pz 332 = some 1 /\ zB Pz 332 = some 24 /\ zF Pz 332 = some (.nils) := ⟨by kernel_rfl, by kernel_rfl, by kernel_rfl⟩
@[simp] theorem z334 : zE Pz 334 = some 1 /\ zB Pz 334 = some 8 /\ zF Pz 334 = some (.nilf) := ⟨by kernel_rfl, by kernel_rfl, by kernel_rfl⟩
@[simp] theorem z339 : zE Pz 339 = some 1 /\ zB Pz 339 = some 8 /\ zF Pz 339 = some (.nilp) := ⟨by kernel_rfl, by kernel_rfl, by kernel_rfl⟩
@[simp] theorem z340 : zE Pz 340 = some 1 /\ zB Pz 340 = some 16 /\ zF Pz 340 = some (.agg [.str []]) := ⟨by kernel_rfl, by kernel_rfl, by kernel_rfl⟩
@[simp] theorem z341 : zE Pz 341 = some 1 /\ zB Pz 341 = some 16 /\ zF Pz 341 = some (.agg [.str []]) := ⟨by kernel_rfl, by kernel_rfl, by kernel_rfl⟩
@[simp] theorem z344 : zE Pz 344 = some 20 /\ zB Pz 344 = some 160 /\ zF Pz 344 = some (.agg [.int .u64 (0), .int .u64 (0), .int .u64 (0), .int .u64 (0), .int .u64 (0), .int .u64 (0), .int .u64 (0), .int .u64 (0), .int .u64 (0), .int .u64 (0), .int .u64 (0), .int .u64 (0), .int .u64 (0), .int .u64 (0), .int .u64 (0), .int .u64 (0), .int .u64 (0), .int .u64 (0), .int .u64 (0), .int .u64 (0)]) := ⟨by kernel_rfl, by kernel_rfl, by kernel_rfl⟩
@[simp] theorem z353 : zE Pz 353 = some 32 /\ zB Pz 353 = some 32 /\ zF Pz 353 = some (.agg [.int .u8 (0), .int .u8 (0), .int .u8 (0), .int .u8 (0), .int .u8 (0), .int .u8 (0), .int .u8 (0), .int .u8 (0), .int .u8 (0), .int .u8 (0), .int .u8 (0), .int .u8 (0), .int .u8 (0), .int .u8 (0), .int .u8 (0), .int .u8 (0), .int .u8 (0), .int .u8 (0), .int .u8 (0), .int .u8 (0), .int .u8 (0), .int .u8 (0), .int .u8 (0), .int .u8 (0), .int .u8 (0), .int .u8 (0), .int .u8 (0), .int .u8 (0), .int .u8 (0), .int .u8 (0), .int .u8 (0), .int .u8 (0)]) := ⟨by kernel_rfl, by kernel_rfl, by kernel_rfl⟩
@[simp] theorem z354 : zE Pz 354 = some 64 /\ zB Pz 354 = some 64 /\ zF Pz 354 = some (.agg [.int .u8 (0), .int .u8 (0), .int .u8 (0), .int .u8 (0), .int .u8 (0), .int .u8 (0), .int .u8 (0), .int .u8 (0), .int .u8 (0), .int .u8 (0), .int .u8 (0), .int .u8 (0), .int .u8 (0), .int .u8 (0), .int .u8 (0), .int .u8 (0), .int .u8 (0), .int .u8 (0), .int .u8 (0), .int .u8 (0), .int .u8 (0), .int .u8 (0), .int .u8 (0), .int .u8 (0), .int .u8 (0), .int .u8 (0), .int .u8 (0), .int .u8 (0), .int .u8 (0), .int .u8 (0), .int .u8 (0), .int .u8 (0), .int .u8 (0), .int .u8 (0), .int .u8 (0), .int .u8 (0), .int .u8 (0), .int .u8 (0), .int .u8 (0), .int .u8 (0), .int .u8 (0), .int .u8 (0), .int .u8 (0), .int .u8 (0), .int .u8 (0), .int .u8 (0), .int .u8 (0), .int .u8 (0), .int .u8 (0), .int .u8 (0), .int .u8 (0), .int .u8 (0), .int .u8 (0), .int .u8 (0), .int .u8 (0), .int .u8 (0), .int .u8 (0), .int .u8 (0), .int .u8 (0), .int .u8 (0), .int .u8 (0), .int .u8 (0), .int .u8 (0), .int .u8 (0)]) := ⟨by kernel_rfl, by kernel_rfl, by kernel_rfl⟩
@[simp] theorem z356 : zE Pz 356 = some 4 /\ zB Pz 356 = some 40 /\ zF Pz 356 = some (.agg [.nilp, .nilp, .nilp, .str []]) := ⟨by kernel_rfl, by kernel_rfl, by kernel_rfl⟩
@[simp] theorem z357 : zE Pz 357 = some 4 /\ zB Pz 357 = some 40 /\ zF Pz 357 = some (.agg [.nilp, .nilp, .nilp, .str []]) := ⟨by kernel_rfl, by kernel_rfl, by kernel_rfl⟩
@[simp] theorem z358 : zE Pz 358 = some 0 /\ zB Pz 358 = some 0 /\ zF Pz 358 = some (.agg []) := ⟨by kernel_rfl, by kernel_rfl, by kernel_rfl⟩
@[simp] theorem z359 : zE Pz 359 = some 0 /\ zB Pz 359 = some 0 /\ zF Pz 359 = some (.agg []) := ⟨by kernel_rfl, by kernel_rfl, by kernel_rfl⟩
@[simp] theorem z360 : zE Pz 360 = some 0 /\ zB Pz 360 = some 0 /\ zF Pz 360 = some (.agg []) := ⟨by kernel_rfl, by kernel_rfl, by kernel_rfl⟩
@[simp] theorem z361 : zE Pz 361 = some 1 /\ zB Pz 361 = some 1 /\ zF Pz 361 = some (.int .u8 (0)) := ⟨by kernel_rfl, by kernel_rfl, by kernel_rfl⟩
@[simp] theorem z362 : zE Pz 362 = some 1 /\ zB Pz 362 = some 1 /\ zF Pz 362 = some (.int .u8 (0)) := ⟨by kernel_rfl, by kernel_rfl, by kernel_rfl⟩
@[simp] theorem z363 : zE Pz 363 = some 1 /\ zB Pz 363 = some 8 /\ zF Pz 363 = some (.nilf) := ⟨by kernel_rfl, by kernel_rfl, by kernel_rfl⟩
@[simp] theorem z364 : zE Pz 364 = some 1 /\ zB Pz 364 = some 4 /\ zF Pz 364 = some (.int .i32 (0)) := ⟨by kernel_rfl, by kernel_rfl, by kernel_rfl⟩
@[simp] theorem z365 : zE Pz 365 = some 1 /\ zB Pz 365 = some 4 /\ zF Pz 365 = some (.int .i32 (0)) := ⟨by kernel_rfl, by kernel_rfl, by kernel_rfl⟩
@[simp] theorem z366 : zE Pz 366 = some 11 /\ zB Pz 366 = some 48 /\ zF Pz 366 = some (.agg [.int .u64 (0), .int .u64 (0), .int .u32 (0), .int .u8 (0), .int .u8 (0), .int .u8 (0), .int .u8 (0), .nilf, .nilp, .int .i32 (0), .int .i32 (0)]) := ⟨by kernel_rfl, by kernel_rfl, by kernel_rfl⟩
@[simp] theorem z367 : zE Pz 367 = some 11 /\ zB Pz 367 = some 48 /\ zF Pz 367 = some (.agg [.int .u64 (0), .int .u64 (0), .int .u32 (0), .int .u8 (0), .int .u8 (0), .int .u8 (0), .int .u8 (0), .nilf, .nilp, .int .i32 (0), .int .i32 (0)]) := ⟨by kernel_rfl, by kernel_rfl, by kernel_rfl⟩
@[simp] theorem fe7 : Z2 Pz 7 = some 4 := by kernel_rfl
@[simp] theorem fe8 : Z2 Pz 8 = some 4 := by kernel_rfl
@[simp] theorem fe34 : Z2 Pz 34 = some 2 := by kernel_rfl
@[simp] theorem fe35 : Z2 Pz 35 = some 2 := by kernel_rfl
@[simp] theorem fe90 : Z2 Pz 90 = some 3 := by kernel_rfl
@[simp] theorem fe91 : Z2 Pz 91 = some 3 := by kernel_rfl
@[simp] theorem fe92 : Z2 Pz 92 = some 3 := by kernel_rfl
@[simp] theorem fe93 : Z2 Pz 93 = some 3 := by kernel_rfl
@[simp] theorem fe110 : Z2 Pz 110 = some 3 := by kernel_rfl
@[simp] theorem fe111 : Z2 Pz 111 = some 3 := by kernel_rfl
@[simp] theorem fe131 : Z2 Pz 131 = some 2 := by kernel_rfl
@[simp] theorem fe132 : Z2 Pz 132 = some 2 := by kernel_rfl
@[simp] theorem fe308 : Z2 Pz 308 = some 3 := by kernel_rfl
@[simp] theorem fe309 : Z2 Pz 309 = some 3 := by kernel_rfl
@[simp] theorem fe340 : Z2 Pz 340 = some 1 := by kernel_rfl
@[simp] theorem fe341 : Z2 Pz 341 = some 1 := by kernel_rfl
@[simp] theorem fn2 : zG Pz 2 = some Tryz.f2 := Tryz.func2
@[simp] theorem fn3 : zG Pz 3 = some Tryz.f3 := Tryz.func3
@[simp] theorem fn4 : zG Pz 4 = some Tryz.f4 := Tryz.func4
@[simp] theorem fn5 : zG Pz 5 = some Tryz.f5 := Tryz.func5
@[simp] theorem fn6 : zG Pz 6 = some Tryz.f6 := Tryz.func6
@[simp] theorem fn7 : zG Pz 7 = some Tryz.f7 := Tryz.func7
@[simp] theorem fn8 : zG Pz 8 = some Tryz.f8 := Tryz.func8
@[simp] theorem fn9 : zG Pz 9 = some Tryz.f9 := Tryz.func9
@[simp] theorem fn10 : zG Pz 10 = some Tryz.f10 := Tryz.func10
@[simp] theorem fn11 : zG Pz 11 = some Tryz.f11 := Tryz.func11
@[simp] theorem fn12 : zG Pz 12 = some Tryz.f12 := Tryz.func12
@[simp] theorem fn13 : zG Pz 13 = some Tryz.f13 := Tryz.func13
@[simp] theorem fn14 : zG Pz 14 = some Tryz.f14 := Tryz.func14
@[simp] theorem fn15 : zG Pz 15 = some Tryz.f15 := Tryz.func15
@[simp] theorem fn16 : zG Pz 16 = some Tryz.f16 := Tryz.func16
@[simp] theorem fn17 : zG Pz 17 = some Tryz.f17 := Tryz.func17
@[simp] theorem fn18 : zG Pz 18 = some Tryz.f18 := Tryz.func18
@[simp] theorem fn19 : zG Pz 19 = some Tryz.f19 := Tryz.func19
@[simp] theorem fn20 : zG Pz 20 = some Tryz.f20 := Tryz.func20
@[simp] theorem fn21 : zG Pz 21 = some Tryz.f21 := Tryz.func21
@[simp] theorem fn22 : zG Pz 22 = some Tryz.f22 := Tryz.func22
@[simp] theorem fn23 : zG Pz 23 = some Tryz.f23 := Tryz.func23
@[simp] theorem fn24 : zG Pz 24 = some Tryz.f24 := Tryz.func24
@[simp] theorem fn25 : zG Pz 25 = some Tryz.f25 := Tryz.func25
@[simp] theorem fn26 : zG Pz 26 = some Tryz.f26 := Tryz.func26
@[simp] theorem fn27 : zG Pz 27 = some Tryz.f27 := Tryz.func27
@[simp] theorem fn28 : zG Pz 28 = some Tryz.f28 := Tryz.func28
@[simp] theorem fn29 : zG Pz 29 = some Tryz.f29 := Tryz.func29
@[simp] theorem fn30 : zG Pz 30 = some Tryz.f30 := Tryz.func30
@[simp] theorem fn31 : zG Pz 31 = some Tryz.f31 := Tryz.func31
@[simp] theorem fn32 : zG Pz 32 = some Tryz.f32 := Tryz.func32
@[simp] theorem fn33 : zG Pz 33 = some Tryz.f33 := Tryz.func33
@[simp] theorem fn34 : zG Pz 34 = some Tryz.f34 := Tryz.func34
@[simp] theorem fn35 : zG Pz 35 = some Tryz.f35 := Tryz.func35
@[simp] theorem fn36 : zG Pz 36 = some Tryz.f36 := Tryz.func36
@[simp] theorem fn37 : zG Pz 37 = some Tryz.f37 := Tryz.func37
@[simp] theorem fn38 : zG Pz 38 = some Tryz.f38 := Tryz.func38
@[simp] theorem fn39 : zG Pz 39 = some Tryz.f39 := Tryz.func39
@[simp] theorem fn40 : zG Pz 40 = some Tryz.f40 := Tryz.func40
@[simp] theorem fn41 : zG Pz 41 = some Tryz.f41 := Tryz.func41
@[simp] theorem fn42 : zG Pz 42 = some Tryz.f42 := Tryz.func42
@[simp] theorem fn43 : zG Pz 43 = some Tryz.f43 := Tryz.func43
@[simp] theorem fn44 : zG Pz 44 = some Tryz.f44 := Tryz.func44
@[simp] theorem fn45 : zG Pz 45 = some Tryz.f45 := Tryz.func45
@[simp] theorem fn46 : zG Pz 46 = some Tryz.f46 := Tryz.func46
@[simp] theorem fn47 : zG Pz 47 = some Tryz.f47 := Tryz.func47
@[simp] theorem fn48 : zG Pz 48 = some Tryz.f48 := Tryz.func48
@[simp] theorem fn49 : zG Pz 49 = some Tryz.f49 := Tryz.func49
@[simp] theorem fn50 : zG Pz 50 = some Tryz.f50 := Tryz.func50
@[simp] theorem fn51 : zG Pz 51 = some Tryz.f51 := Tryz.func51
@[simp] theorem fn52 : zG Pz 52 = some Tryz.f52 := Tryz.func52
@[simp] theorem fn53 : zG Pz 53 = some Tryz.f53 := Tryz.func53
@[simp] theorem fn54 : zG Pz 54 = some Tryz.f54 := Tryz.func54
@[simp] theorem fn55 : zG Pz 55 = some Tryz.f55 := Tryz.func55
@[simp] theorem fn56 : zG Pz 56 = some Tryz.f56 := Tryz.func56
@[simp] theorem fn57 : zG Pz 57 = some Tryz.f57 := Tryz.func57
@[simp] theorem fn58 : zG Pz 58 = some Tryz.f58 := Tryz.func58
@[simp] theorem fn59 : zG Pz 59 = some Tryz.f59 := Tryz.func59
@[simp] theorem fn60 : zG Pz 60 = some Tryz.f60 := Tryz.func60
@[simp] theorem fn61 : zG Pz 61 = some Tryz.f61 := Tryz.func61
@[simp] theorem fn62 : zG Pz 62 = some Tryz.f62 := Tryz.func62
@[simp] theorem fn63 : zG Pz 63 = some Tryz.f63 := Tryz.func63
@[simp] theorem fn64 : zG Pz 64 = some Tryz.f64 := Tryz.func64
@[simp] theorem fn65 : zG Pz 65 = some Tryz.f65 := Tryz.func65
@[simp] theorem fn66 : zG Pz 66 = some Tryz.f66 := Tryz.func66
@[simp] theorem fn67 : zG Pz 67 = some Tryz.f67 := Tryz.func67
@[simp] theorem fn68 : zG Pz 68 = some Tryz.f68 := Tryz.func68
@[simp] theorem fn69 : zG Pz 69 = some Tryz.f69 := Tryz.func69
@[simp] theorem fn70 : zG Pz 70 = some Tryz.f70 := Tryz.func70
@[simp] theorem fn71 : zG Pz 71 = some Tryz.f71 := Tryz.func71
@[simp] theorem fn72 : zG Pz 72 = some Tryz.f72 := Tryz.func72
@[simp] theorem fn73 : zG Pz 73 = some Tryz.f73 := Tryz.func73
@[simp] theorem fn74 : zG Pz 74 = some Tryz.f74 := Tryz.func74
@[simp] theorem fn75 : zG Pz 75 = some Tryz.f75 := Tryz.func75
@[simp] theorem fn76 : zG Pz 76 = some Tryz.f76 := Tryz.func76
@[simp] theorem fn77 : zG Pz 77 = some Tryz.f77 := Tryz.func77
@[simp] theorem fn78 : zG Pz 78 = some Tryz.f78 := Tryz.func78
@[simp] theorem fn79 : zG Pz 79 = some Tryz.f79 := Tryz.func79
@[simp] theorem fn80 : zG Pz 80 = some Tryz.f80 := Tryz.func80
@[simp] theorem fn81 : zG Pz 81 = some Tryz.f81 := Tryz.func81
@[simp] theorem fn82 : zG Pz 82 = some Tryz.f82 := Tryz.func82
@[simp] theorem fn83 : zG Pz 83 = some Tryz.f83 := Tryz.func83
@[simp] theorem fn84 : zG Pz 84 = some Tryz.f84 := Tryz.func84
@[simp] theorem fn85 : zG Pz 85 = some Tryz.f85 := Tryz.func85
@[simp] theorem fn86 : zG Pz 86 = some Tryz.f86 := Tryz.func86
@[simp] theorem fn87 : zG Pz 87 = some Tryz.f87 := Tryz.func87
@[simp] theorem fn88 : zG Pz 88 = some Tryz.f88 := Tryz.func88
@[simp] theorem fn89 : zG Pz 89 = some Tryz.f89 := Tryz.func89
@[simp] theorem fn90 : zG Pz 90 = some Tryz.f90 := Tryz.func90
@[simp] theorem fn91 : zG Pz 91 = some Tryz.f91 := Tryz.func91
@[simp] theorem fn92 : zG Pz 92 = some Tryz.f92 := Tryz.func92
@[simp] theorem fn93 : zG Pz 93 = some Tryz.f93 := Tryz.func93
@[simp] theorem fn94 : zG Pz 94 = some Tryz.f94 := Tryz.func94
@[simp] theorem fn95 : zG Pz 95 = some Tryz.f95 := Tryz.func95
@[simp] theorem fn96 : zG Pz 96 = some Tryz.f96 := Tryz.func96
@[simp] theorem fn97 : zG Pz 97 = some Tryz.f97 := Tryz.func97
@[simp] theorem fn98 : zG Pz 98 = some Tryz.f98 := Tryz.func98
@[simp] theorem fn99 : zG Pz 99 = some Tryz.f99 := Tryz.func99
@[simp] theorem fn100 : zG Pz 100 = some Tryz.f100 := Tryz.func100
@[simp] theorem fn101 : zG Pz 101 = some Tryz.f101 := Tryz.func101
@[simp] theorem fn102 : zG Pz 102 = some Tryz.f102 := Tryz.func102
@[simp] theorem fn103 : zG Pz 103 = some Tryz.f103 := Tryz.func103
@[simp] theorem fn104 : zG Pz 104 = some Tryz.f104 := Tryz.func104
@[simp] theorem fn105 : zG Pz 105 = some Tryz.f105 := Tryz.func105
@[simp] theorem fn106 : zG Pz 106 = some Tryz.f106 := Tryz.func106
@[simp] theorem fn107 : zG Pz 107 = some Tryz.f107 := Tryz.func107
@[simp] theorem fn108 : zG Pz 108 = some Tryz.f108 := Tryz.func108
@[simp] theorem fn109 : zG Pz 109 = some Tryz.f109 := Tryz.func109
@[simp] theorem fn110 : zG Pz 110 = some Tryz.f110 := Tryz.func110
@[simp] theorem fn111 : zG Pz 111 = some Tryz.f111 := Tryz.func111
@[simp] theorem fn112 : zG Pz 112 = some Tryz.f112 := Tryz.func112
@[simp] theorem fn113 : zG Pz 113 = some Tryz.f113 := Tryz.func113
@[simp] theorem fn114 : zG Pz 114 = some Tryz.f114 := Tryz.func114
@[simp] theorem fn115 : zG Pz 115 = some Tryz.f115 := Tryz.func115
@[simp] theorem fn116 : zG Pz 116 = some Tryz.f116 := Tryz.func116
@[simp] theorem fn117 : zG Pz 117 = some Tryz.f117 := Tryz.func117
@[simp] theorem fn118 : zG Pz 118 = some Tryz.f118 := Tryz.func118
@[simp] theorem fn119 : zG Pz 119 = some Tryz.f119 := Tryz.func119
@[simp] theorem fn120 : zG Pz 120 = some Tryz.f120 := Tryz.func120
@[simp] theorem fn121 : zG Pz 121 = some Tryz.f121 := Tryz.func121
@[simp] theorem fn122 : zG Pz 122 = some Tryz.f122 := Tryz.func122
@[simp] theorem fn123 : zG Pz 123 = some Tryz.f123 := Tryz.func123
@[simp] theorem fn124 : zG Pz 124 = some Tryz.f124 := Tryz.func124
@[simp] theorem fn125 : zG Pz 125 = some Tryz.f125 := Tryz.func125
@[simp] theorem fn126 : zG Pz 126 = some Tryz.f126 := Tryz.func126
@[simp] theorem fn127 : zG Pz 127 = some Tryz.f127 := Tryz.func127
@[simp] theorem fn128 : zG Pz 128 = some Tryz.f128 := Tryz.func128
@[simp] theorem fn129 : zG Pz 129 = some Tryz.f129 := Tryz.func129
@[simp] theorem fn130 : zG Pz 130 = some Tryz.f130 := Tryz.func130
@[simp] theorem fn131 : zG Pz 131 = some Tryz.f131 := Tryz.func131
@[simp] theorem fn132 : zG Pz 132 = some Tryz.f132 := Tryz.func132
@[simp] theorem fn133 : zG Pz 133 = some Tryz.f133 := Tryz.func133
@[simp] theorem fn134 : zG Pz 134 = some Tryz.f134 := Tryz.func134
@[simp] theorem fn135 : zG Pz 135 = some Tryz.f135 := Tryz.func135
@[simp] theorem fn136 : zG Pz 136 = some Tryz.f136 := Tryz.func136
@[simp] theorem fn137 : zG Pz 137 = some Tryz.f137 := Tryz.func137
@[simp] theorem fn138 : zG Pz 138 = some Tryz.f138 := Tryz.func138
@[simp] theorem fn139 : zG Pz 139 = some Tryz.f139 := Tryz.func139
@[simp] theorem fn140 : zG Pz 140 = some Tryz.f140 := Tryz.func140
@[simp] theorem fn141 : zG Pz 141 = some Tryz.f141 := Tryz.func141
@[simp] theorem fn142 : zG Pz 142 = some Tryz.f142 := Tryz.func142
@[simp] theorem fn143 : zG Pz 143 = some Tryz.f143 := Tryz.func143
@[simp] theorem fn144 : zG Pz 144 = some Tryz.f144 := Tryz.func144
@[simp] theorem fn145 : zG Pz 145 = some Tryz.f145 := Tryz.func145
@[simp] theorem fn146 : zG Pz 146 = some Tryz.f146 := Tryz.func146
@[simp] theorem fn147 : zG Pz 147 = some Tryz.f147 := Tryz.func147
@[simp] theorem fn148 : zG Pz 148 = some Tryz.f148 := Tryz.func148
@[simp] theorem fn149 : zG Pz 149 = some Tryz.f149 := Tryz.func149
@[simp] theorem fn150 : zG Pz 150 = some Tryz.f150 := Tryz.func150
@[simp] theorem fn151 : zG Pz 151 = some Tryz.f151 := Tryz.func151
@[simp] theorem fn152 : zG Pz 152 = some Tryz.f152 := Tryz.func152
@[simp] theorem fn153 : zG Pz 153 = some Tryz.f153 := Tryz.func153
@[simp] theorem fn154 : zG Pz 154 = some Tryz.f154 := Tryz.func154
@[simp] theorem fn155 : zG Pz 155 = some Tryz.f155 := Tryz.func155
@[simp] theorem fn156 : zG Pz 156 = some Tryz.f156 := Tryz.func156
@[simp] theorem fn157 : zG Pz 157 = some Tryz.f157 := Tryz.func157
@[simp] theorem fn158 : zG Pz 158 = some Tryz.f158 := Tryz.func158
@[simp] theorem fn159 : zG Pz 159 = some Tryz.f159 := Tryz.func159
@[simp] theorem fn160 : zG Pz 160 = some Tryz.f160 := Tryz.func160
@[simp] theorem fn161 : zG Pz 161 = some Tryz.f161 := Tryz.func161
@[simp] theorem fn162 : zG Pz 162 = some Tryz.f162 := Tryz.func162
@[simp] theorem fn163 : zG Pz 163 = some Tryz.f163 := Tryz.func163
@[simp] theorem fn164 : zG Pz 164 = some Tryz.f164 := Tryz.func164
@[simp] theorem fn165 : zG Pz 165 = some Tryz.f165 := Tryz.func165
@[simp] theorem fn166 : zG Pz 166 = some Tryz.f166 := Tryz.func166
@[simp] theorem fn167 : zG Pz 167 = some Tryz.f167 := Tryz.func167
@[simp] theorem fn168 : zG Pz 168 = some Tryz.f168 := Tryz.func168
@[simp] theorem fn169 : zG Pz 169 = some Tryz.f169 := Tryz.func169
@[simp] theorem fn170 : zG Pz 170 = some Tryz.f170 := Tryz.func170
@[simp] theorem fn171 : zG Pz 171 = some Tryz.f171 := Tryz.func171
@[simp] theorem fn172 : zG Pz 172 = some Tryz.f172 := Tryz.func172
@[simp] theorem fn173 : zG Pz 173 = some Tryz.f173 := Tryz.func173
@[simp] theorem fn174 : zG Pz 174 = some Tryz.f174 := Tryz.func174
@[simp] theorem fn175 : zG Pz 175 = some Tryz.f175 := Tryz.func175
@[simp] theorem fn176 : zG Pz 176 = some Tryz.f176 := Tryz.func176
@[simp] theorem fn178 : zG Pz 178 = some Tryz.f178 := Tryz.func178
@[simp] theorem fn179 : zG Pz 179 = some Tryz.f179 := Tryz.func179
@[simp] theorem fn180 : zG Pz 180 = some Tryz.f180 := Tryz.func180
@[simp] theorem fn181 : zG Pz 181 = some Tryz.f181 := Tryz.func181
@[simp] theorem fn182 : zG Pz 182 = some Tryz.f182 := Tryz.func182
@[simp] theorem fn183 : zG Pz 183 = some Tryz.f183 := Tryz.func183
@[simp] theorem fn184 : zG Pz 184 = some Tryz.f184 := Tryz.func184
@[simp] theorem fn185 : zG Pz 185 = some Tryz.f185 := Tryz.func185
@[simp] theorem fn186 : zG Pz 186 = some Tryz.f186 := Tryz.func186
@[simp] theorem fn187 : zG Pz 187 = some Tryz.f187 := Tryz.func187
@[simp] theorem fn188 : zG Pz 188 = some Tryz.f188 := Tryz.func188
@[simp] theorem fn189 : zG Pz 189 = some Tryz.f189 := Tryz.func189
@[simp] theorem fn190 : zG Pz 190 = some Tryz.f190 := Tryz.func190
@[simp] theorem fn191 : zG Pz 191 = some Tryz.f191 := Tryz.func191
@[simp] theorem fn192 : zG Pz 192 = some Tryz.f192 := Tryz.func192
@[simp] theorem fn193 : zG Pz 193 = some Tryz.f193 := Tryz.func193
@[simp] theorem fn194 : zG Pz 194 = some Tryz.f194 := Tryz.func194
@[simp] theorem fn195 : zG Pz 195 = some Tryz.f195 := Tryz.func195
@[simp] theorem fn196 : zG Pz 196 = some Tryz.f196 := Tryz.func196
@[simp] theorem fn197 : zG Pz 197 = some Tryz.f197 := Tryz.func197
@[simp] theorem fn198 : zG Pz 198 = some Tryz.f198 := Tryz.func198
@[simp] theorem fn199 : zG Pz 199 = some Tryz.f199 := Tryz.func199
@[simp] theorem fn200 : zG Pz 200 = some Tryz.f200 := Tryz.func200
@[simp] theorem fn201 : zG Pz 201 = some Tryz.f201 := Tryz.func201
@[simp] theorem fn202 : zG Pz 202 = some Tryz.f202 := Tryz.func202
@[simp] theorem fn203 : zG Pz 203 = some Tryz.f203 := Tryz.func203
@[simp] theorem fn204 : zG Pz 204 = some Tryz.f204 := Tryz.func204
@[simp] theorem fn205 : zG Pz 205 = some Tryz.f205 := Tryz.func205
@[simp] theorem fn206 : zG Pz 206 = some Tryz.f206 := Tryz.func206
@[simp] theorem fn207 : zG Pz 207 = some Tryz.f207 := Tryz.func207
@[simp] theorem fn208 : zG Pz 208 = some Tryz.f208 := Tryz.func208
@[simp] theorem fn209 : zG Pz 209 = some Tryz.f209 := Tryz.func209
@[simp] theorem fn210 : zG Pz 210 = some Tryz.f210 := Tryz.func210
@[simp] theorem fn211 : zG Pz 211 = some Tryz.f211 := Tryz.func211
@[simp] theorem fn212 : zG Pz 212 = some Tryz.f212 := Tryz.func212
@[simp] theorem fn213 : zG Pz 213 = some Tryz.f213 := Tryz.func213
@[simp] theorem fn214 : zG Pz 214 = some Tryz.f214 := Tryz.func214
@[simp] theorem fn215 : zG Pz 215 = some Tryz.f215 := Tryz.func215
@[simp] theorem fn216 : zG Pz 216 = some Tryz.f216 := Tryz.func216
@[simp] theorem fn217 : zG Pz 217 = some Tryz.f217 := Tryz.func217
@[simp] theorem fn218 : zG Pz 218 = some Tryz.f218 := Tryz.func218
@[simp] theorem fn219 : zG Pz 219 = some Tryz.f219 := Tryz.func219
@[simp] theorem fn220 : zG Pz 220 = some Tryz.f220 := Tryz.func220
@[simp] theorem fn221 : zG Pz 221 = some Tryz.f221 := Tryz.func221
@[simp] theorem fn222 : zG Pz 222 = some Tryz.f222 := Tryz.func222
@[simp] theorem fn223 : zG Pz 223 = some Tryz.f223 := Tryz.func223
@[simp] theorem fn224 : zG Pz 224 = some Tryz.f224 := Tryz.func224
@[simp] theorem fn225 : zG Pz 225 = some Tryz.f225 := Tryz.func225
@[simp] theorem fn226 : zG Pz 226 = some Tryz.f226 := Tryz.func226
@[simp] theorem fn227 : zG Pz 227 = some Tryz.f227 := Tryz.func227
@[simp] theorem fn228 : zG Pz 228 = some Tryz.f228 := Tryz.func228
@[simp] theorem fn229 : zG Pz 229 = some Tryz.f229 := Tryz.func229
@[simp] theorem fn230 : zG Pz 230 = some Tryz.f230 := Tryz.func230
@[simp] theorem fn231 : zG Pz 231 = some Tryz.f231 := Tryz.func231
@[simp] theorem fn232 : zG Pz 232 = some Tryz.f232 := Tryz.func232
@[simp] theorem fn233 : zG Pz 233 = some Tryz.f233 := Tryz.func233
@[simp] theorem fn234 : zG Pz 234 = some Tryz.f234 := Tryz.func234
@[simp] theorem fn235 : zG Pz 235 = some Tryz.f235 := Tryz.func235
@[simp] theorem fn236 : zG Pz 236 = some Tryz.f236 := Tryz.func236
@[simp] theorem fn237 : zG Pz 237 = some Tryz.f237 := Tryz.func237
@[simp] theorem fn238 : zG Pz 238 = some Tryz.f238 := Tryz.func238
@[simp] theorem fn239 : zG Pz 239 = some Tryz.f239 := Tryz.func239
@[simp] theorem fn240 : zG Pz 240 = some Tryz.f240 := Tryz.func240
@[simp] theorem fn241 : zG Pz 241 = some Tryz.f241 := Tryz.func241
@[simp] theorem fn242 : zG Pz 242 = some Tryz.f242 := Tryz.func242
@[simp] theorem fn243 : zG Pz 243 = some Tryz.f243 := Tryz.func243
@[simp] theorem fn244 : zG Pz 244 = some Tryz.f244 := Tryz.func244
@[simp] theorem fn245 : zG Pz 245 = some Tryz.f245 := Tryz.func245
@[simp] theorem fn246 : zG Pz 246 = some Tryz.f246 := Tryz.func246
@[simp] theorem fn247 : zG Pz 247 = some Tryz.f247 := Tryz.func247
@[simp] theorem fn248 : zG Pz 248 = some Tryz.f248 := Tryz.func248
@[simp] theorem fn249 : zG Pz 249 = some Tryz.f249 := Tryz.func249
@[simp] theorem fn250 : zG Pz 250 = some Tryz.f250 := Tryz.func250
@[simp] theorem fn251 : zG Pz 251 = some Tryz.f251 := Tryz.func251
@[simp] theorem fn252 : zG Pz 252 = some Tryz.f252 := Tryz.func252
@[simp] theorem fn253 : zG Pz 253 = some Tryz.f253 := Tryz.func253
@[simp] theorem fn254 : zG Pz 254 = some Tryz.f254 := Tryz.func254
@[simp] theorem fn255 : zG Pz 255 = some Tryz.f255 := Tryz.func255
@[simp] theorem fn256 : zG Pz 256 = some Tryz.f256 := Tryz.func256
@[simp] theorem fn257 : zG Pz 257 = some Tryz.f257 := Tryz.func257
@[simp] theorem fn258 : zG Pz 258 = some Tryz.f258 := Tryz.func258
@[simp] theorem fn259 : zG Pz 259 = some Tryz.f259 := Tryz.func259
@[simp] theorem fn260 : zG Pz 260 = some Tryz.f260 := Tryz.func260
@[simp] theorem fn261 : zG Pz 261 = some Tryz.f261 := Tryz.func261
@[simp] theorem fn262 : zG Pz 262 = some Tryz.f262 := Tryz.func262
@[simp] theorem fn263 : zG Pz 263 = some Tryz.f263 := Tryz.func263
@[simp] theorem fn264 : zG Pz 264 = some Tryz.f264 := Tryz.func264
@[simp] theorem fn265 : zG Pz 265 = some Tryz.f265 := Tryz.func265
@[simp] theorem fn266 : zG Pz 266 = some Tryz.f266 := Tryz.func266
@[simp] theorem fn267 : zG Pz 267 = some Tryz.f267 := Tryz.func267
@[simp] theorem fn268 : zG Pz 268 = some Tryz.f268 := Tryz.func268
@[simp] theorem fn269 : zG Pz 269 = some Tryz.f269 := Tryz.func269
@[simp] theorem fn270 : zG Pz 270 = some Tryz.f270 := Tryz.func270
@[simp] theorem fn271 : zG Pz 271 = some Tryz.f271 := Tryz.func271
@[simp] theorem fn272 : zG Pz 272 = some Tryz.f272 := Tryz.func272
@[simp] theorem fn273 : zG Pz 273 = some Tryz.f273 := Tryz.func273
@[simp] theorem fn274 : zG Pz 274 = some Tryz.f274 := Tryz.func274
@[simp] theorem fn275 : zG Pz 275 = some Tryz.f275 := Tryz.func275
@[simp] theorem fn276 : zG Pz 276 = some Tryz.f276 := Tryz.func276
@[simp] theorem fn279 : zG Pz 279 = some Tryz.f279 := Tryz.func279
@[simp] theorem fn280 : zG Pz 280 = some Tryz.f280 := Tryz.func280
@[simp] theorem fn281 : zG Pz 281 = some Tryz.f281 := Tryz.func281
@[simp] theorem fn282 : zG Pz 282 = some Tryz.f282 := Tryz.func282
@[simp] theorem fn283 : zG Pz 283 = some Tryz.f283 := Tryz.func283
@[simp] theorem fn284 : zG Pz 284 = some Tryz.f284 := Tryz.func284
@[simp] theorem fn285 : zG Pz 285 = some Tryz.f285 := Tryz.func285
@[simp] theorem fn286 : zG Pz 286 = some Tryz.f286 := Tryz.func286
@[simp] theorem fn287 : zG Pz 287 = some Tryz.f287 := Tryz.func287
@[simp] theorem fn288 : zG Pz 288 = some Tryz.f288 := Tryz.func288
@[simp] theorem fn289 : zG Pz 289 = some Tryz.f289 := Tryz.func289
@[simp] theorem fn290 : zG Pz 290 = some Tryz.f290 := Tryz.func290
@[simp] theorem fn291 : zG Pz 291 = some Tryz.f291 := Tryz.func291
@[simp] theorem fn292 : zG Pz 292 = some Tryz.f292 := Tryz.func292
@[simp] theorem fn293 : zG Pz 293 = some Tryz.f293 := Tryz.func293
@[simp] theorem fn294 : zG Pz 294 = some Tryz.f294 := Tryz.func294
@[simp] theorem fn295 : zG Pz 295 = some Tryz.f295 := Tryz.func295
@[simp] theorem fn296 : zG Pz 296 = some Tryz.f296 := Tryz.func296
@[simp] theorem fn297 : zG Pz 297 = some Tryz.f297 := Tryz.func297
@[simp] theorem fn298 : zG Pz 298 = some Tryz.f298 := Tryz.func298
@[simp] theorem fn299 : zG Pz 299 = some Tryz.f299 := Tryz.func299
@[simp] theorem fn300 : zG Pz 300 = some Tryz.f300 := Tryz.func300
@[simp] theorem fn301 : zG Pz 301 = some Tryz.f301 := Tryz.func301
@[simp] theorem fn302 : zG Pz 302 = some Tryz.f302 := Tryz.func302
@[simp] theorem fn303 : zG Pz 303 = some Tryz.f303 := Tryz.func303
@[simp] theorem fn304 : zG Pz 304 = some Tryz.f304 := Tryz.func304
@[simp] theorem fn305 : zG Pz 305 = some Tryz.f305 := Tryz.func305
@[simp] theorem fn306 : zG Pz 306 = some Tryz.f306 := Tryz.func306
@[simp] theorem fn307 : zG Pz 307 = some Tryz.f307 := Tryz.func307
@[simp] theorem fn308 : zG Pz 308 = some Tryz.f308 := Tryz.func308
@[simp] theorem fn338 : zG Pz 338 = some Tryz.f338 := Tryz.func338
attribute [simp] Tryz.underlying0 Tryz.underlying1 Tryz.underlying2 Tryz.underlying3 Tryz.underlying4 Tryz.underlying5 Tryz.underlying6 Tryz.underlying7 Tryz.underlying8 Tryz.underlying9 Tryz.underlying10 Tryz.underlying11 Tryz.underlying12 Tryz.underlying15 Tryz.underlying16 Tryz.underlying17 Tryz.underlying18 Tryz.underlying19 Tryz.underlying20 Tryz.underlying21 Tryz.underlying22 Tryz.underlying23 Tryz.underlying24 Tryz.underlying25 Tryz.underlying26 Tryz.underlying27 Tryz.underlying28 Tryz.underlying29 Tryz.underlying30 Tryz.underlying31 Tryz.underlying32 Tryz.underlying33 Tryz.underlying34 Tryz.underlying35 Tryz.underlying36 Tryz.underlying37 Tryz.underlying39 Tryz.underlying40 Tryz.underlying43 Tryz.underlying44 Tryz.underlying45 Tryz.underlying47 Tryz.underlying48 Tryz.underlying49 Tryz.underlying50 Tryz.underlying51 Tryz.underlying52 Tryz.underlying53 Tryz.underlying54 Tryz.underlying55 Tryz.underlying56 Tryz.underlying57 Tryz.underlying58 Tryz.underlying59 Tryz.underlying60 Tryz.underlying61 Tryz.underlying62 Tryz.underlying64 Tryz.underlying65 Tryz.underlying66 Tryz.underlying67 Tryz.underlying68 Tryz.underlying69 Tryz.underlying71 Tryz.underlying72 Tryz.underlying73 Tryz.underlying74 Tryz.underlying75 Tryz.underlying77 Tryz.underlying78 Tryz.underlying79 Tryz.underlying80 Tryz.underlying81 Tryz.underlying82 Tryz.underlying86 Tryz.underlying90 Tryz.underlying91 Tryz.underlying92 Tryz.underlying93 Tryz.underlying94 Tryz.underlying95 Tryz.underlying103 Tryz.underlying105 Tryz.underlying107 Tryz.underlying109 Tryz.underlying110 Tryz.underlying111 Tryz.underlying112 Tryz.underlying113 Tryz.underlying114 Tryz.underlying115 Tryz.underlying116 Tryz.underlying117 Tryz.underlying118 Tryz.underlying122 Tryz.underlying123 Tryz.underlying124 Tryz.underlying125 Tryz.underlying126 Tryz.underlying127 Tryz.underlying128 Tryz.underlying129 Tryz.underlying130 Tryz.underlying131 Tryz.underlying132 Tryz.underlying133 Tryz.underlying134 Tryz.underlying135 Tryz.underlying138 Tryz.underlying140 Tryz.underlying141 Tryz.underlying142 Tryz.underlying143 Tryz.underlying148 Tryz.underlying149 Tryz.underlying157 Tryz.underlying159 Tryz.underlying160 Tryz.underlying162 Tryz.underlying163 Tryz.underlying166 Tryz.underlying167 Tryz.underlying168 Tryz.underlying170 Tryz.underlying173 Tryz.underlying174 Tryz.underlying175 Tryz.underlying176 Tryz.underlying177 Tryz.underlying178 Tryz.underlying179 Tryz.underlying181 Tryz.underlying182 Tryz.underlying184 Tryz.underlying185 Tryz.underlying186 Tryz.underlying188 Tryz.underlying192 Tryz.underlying193 Tryz.underlying194 Tryz.underlying195 Tryz.underlying198 Tryz.underlying200 Tryz.underlying201 Tryz.underlying202 Tryz.underlying206 Tryz.underlying207 Tryz.underlying208 Tryz.underlying209 Tryz.underlying210 Tryz.underlying211 Tryz.underlying212 Tryz.underlying213 Tryz.underlying216 Tryz.underlying217 Tryz.underlying220 Tryz.underlying221 Tryz.underlying222 Tryz.underlying224 Tryz.underlying225 Tryz.underlying226 Tryz.underlying227 Tryz.underlying228 Tryz.underlying229 Tryz.underlying232 Tryz.underlying234 Tryz.underlying240 Tryz.underlying241 Tryz.underlying242 Tryz.underlying243 Tryz.underlying250 Tryz.underlying257 Tryz.underlying258 Tryz.underlying271 Tryz.underlying273 Tryz.underlying274 Tryz.underlying275 Tryz.underlying287 Tryz.underlying288 Tryz.underlying290 Tryz.underlying293 Tryz.underlying295 Tryz.underlying297 Tryz.underlying299 Tryz.underlying303 Tryz.underlying308 Tryz.underlying309 Tryz.underlying310 Tryz.underlying311 Tryz.underlying312 Tryz.underlying313 Tryz.underlying314 Tryz.underlying317 Tryz.underlying318 Tryz.underlying319 Tryz.underlying320 Tryz.underlying321 Tryz.underlying322 Tryz.underlying323 Tryz.underlying324 Tryz.underlying325 Tryz.underlying327 Tryz.underlying328 Tryz.underlying329 Tryz.underlying330 Tryz.underlying332 Tryz.underlying334 Tryz.underlying339 Tryz.underlying340 Tryz.underlying341 Tryz.underlying344 Tryz.underlying345 Tryz.underlying353 Tryz.underlying354 Tryz.underlying356 Tryz.underlying357 Tryz.underlying358 Tryz.underlying359 Tryz.underlying360 Tryz.underlying361 Tryz.underlying362 Tryz.underlying363 Tryz.underlying364 Tryz.underlying365 Tryz.underlying366 Tryz.underlying367
end Go.Proofs.YtpmfecnajoojeaaGreatDoor
