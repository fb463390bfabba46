/- The types of the translation: their sizes and their zeros, as facts (printed by wip/tools/types.lean). -/
import Derived.Test.YtpmfecnajoojeaaGreatDoorY3
import Derived.Test.YtpmfecnajoojeaaGreatDoorProg
namespace Go.Proofs.YtpmfecnajoojeaaGreatDoor
open _root_.Go.Proofs.Tryz renaming prog → Pz
open Go
theorem hmix : Tryz.prog.follows .mixedOrders = true := by kernel_rfl
@[simp] theorem z0 : sizeA Pz 0 = some 1 ∧ bytesSz Pz 0 = some 0 ∧ zeroA Pz 0 = some (.tuple []) := ⟨by kernel_rfl, by kernel_rfl, by kernel_rfl⟩
@[simp] theorem z1 : sizeA Pz 1 = some 1 ∧ bytesSz Pz 1 = some 8 ∧ zeroA Pz 1 = some (.nilf) := ⟨by kernel_rfl, by kernel_rfl, by kernel_rfl⟩
@[simp] theorem z2 : sizeA Pz 2 = some 1 ∧ bytesSz Pz 2 = some 8 ∧ zeroA Pz 2 = some (.int .i64 (0)) := ⟨by kernel_rfl, by kernel_rfl, by kernel_rfl⟩
@[simp] theorem z3 : sizeA Pz 3 = some 1 ∧ bytesSz Pz 3 = some 8 ∧ zeroA Pz 3 = some (.int .i64 (0)) := ⟨by kernel_rfl, by kernel_rfl, by kernel_rfl⟩
@[simp] theorem z4 : sizeA Pz 4 = some 1 ∧ bytesSz Pz 4 = some 1 ∧ zeroA Pz 4 = some (.bool false) := ⟨by kernel_rfl, by kernel_rfl, by kernel_rfl⟩
@[simp] theorem z5 : sizeA Pz 5 = some 1 ∧ bytesSz Pz 5 = some 1 ∧ zeroA Pz 5 = some (.int .u8 (0)) := ⟨by kernel_rfl, by kernel_rfl, by kernel_rfl⟩
@[simp] theorem z6 : sizeA Pz 6 = some 1 ∧ bytesSz Pz 6 = some 1 ∧ zeroA Pz 6 = some (.int .u8 (0)) := ⟨by kernel_rfl, by kernel_rfl, by kernel_rfl⟩
@[simp] theorem z7 : sizeA Pz 7 = some 4 ∧ bytesSz Pz 7 = some 24 ∧ zeroA Pz 7 = some (.agg [.int .i64 (0), .int .i64 (0), .bool false, .int .u8 (0)]) := ⟨by kernel_rfl, by kernel_rfl, by kernel_rfl⟩
@[simp] theorem z8 : sizeA Pz 8 = some 4 ∧ bytesSz Pz 8 = some 24 ∧ zeroA Pz 8 = some (.agg [.int .i64 (0), .int .i64 (0), .bool false, .int .u8 (0)]) := ⟨by kernel_rfl, by kernel_rfl, by kernel_rfl⟩
@[simp] theorem z9 : sizeA Pz 9 = some 1 ∧ bytesSz Pz 9 = some 16 ∧ zeroA Pz 9 = some (.str []) := ⟨by kernel_rfl, by kernel_rfl, by kernel_rfl⟩
@[simp] theorem z10 : sizeA Pz 10 = some 1 ∧ bytesSz Pz 10 = some 16 ∧ zeroA Pz 10 = some (.str []) := ⟨by kernel_rfl, by kernel_rfl, by kernel_rfl⟩
@[simp] theorem z11 : sizeA Pz 11 = some 1 ∧ bytesSz Pz 11 = some 16 ∧ zeroA Pz 11 = some (.str []) := ⟨by kernel_rfl, by kernel_rfl, by kernel_rfl⟩
@[simp] theorem z12 : sizeA Pz 12 = some 1 ∧ bytesSz Pz 12 = some 8 ∧ zeroA Pz 12 = some (.int .u64 (0)) := ⟨by kernel_rfl, by kernel_rfl, by kernel_rfl⟩
@[simp] theorem z15 : sizeA Pz 15 = some 1 ∧ bytesSz Pz 15 = some 8 ∧ zeroA Pz 15 = some (.nilp) := ⟨by kernel_rfl, by kernel_rfl, by kernel_rfl⟩
@[simp] theorem z16 : sizeA Pz 16 = some 1 ∧ bytesSz Pz 16 = some 8 ∧ zeroA Pz 16 = some (.nilp) := ⟨by kernel_rfl, by kernel_rfl, by kernel_rfl⟩
@[simp] theorem z17 : sizeA Pz 17 = some 1 ∧ bytesSz Pz 17 = some 8 ∧ zeroA Pz 17 = some (.nilp) := ⟨by kernel_rfl, by kernel_rfl, by kernel_rfl⟩
@[simp] theorem z18 : sizeA Pz 18 = some 1 ∧ bytesSz Pz 18 = some 8 ∧ zeroA Pz 18 = some (.agg [.nilp]) := ⟨by kernel_rfl, by kernel_rfl, by kernel_rfl⟩
@[simp] theorem z19 : sizeA Pz 19 = some 1 ∧ bytesSz Pz 19 = some 8 ∧ zeroA Pz 19 = some (.agg [.nilp]) := ⟨by kernel_rfl, by kernel_rfl, by kernel_rfl⟩
@[simp] theorem z20 : sizeA Pz 20 = some 1 ∧ bytesSz Pz 20 = some 16 ∧ zeroA Pz 20 = some (.top) := ⟨by kernel_rfl, by kernel_rfl, by kernel_rfl⟩
@[simp] theorem z21 : sizeA Pz 21 = some 1 ∧ bytesSz Pz 21 = some 4 ∧ zeroA Pz 21 = some (.int .i32 (0)) := ⟨by kernel_rfl, by kernel_rfl, by kernel_rfl⟩
@[simp] theorem z22 : sizeA Pz 22 = some 1 ∧ bytesSz Pz 22 = some 24 ∧ zeroA Pz 22 = some (.nils) := ⟨by kernel_rfl, by kernel_rfl, by kernel_rfl⟩
@[simp] theorem z23 : sizeA Pz 23 = some 1 ∧ bytesSz Pz 23 = some 24 ∧ zeroA Pz 23 = some (.nils) := ⟨by kernel_rfl, by kernel_rfl, by kernel_rfl⟩
@[simp] theorem z24 : sizeA Pz 24 = some 3 ∧ bytesSz Pz 24 = some 56 ∧ zeroA Pz 24 = some (.agg [.int .u8 (0), .nils, .nils]) := ⟨by kernel_rfl, by kernel_rfl, by kernel_rfl⟩
@[simp] theorem z25 : sizeA Pz 25 = some 3 ∧ bytesSz Pz 25 = some 56 ∧ zeroA Pz 25 = some (.agg [.int .u8 (0), .nils, .nils]) := ⟨by kernel_rfl, by kernel_rfl, by kernel_rfl⟩
@[simp] theorem z26 : sizeA Pz 26 = some 1 ∧ bytesSz Pz 26 = some 8 ∧ zeroA Pz 26 = some (.nilf) := ⟨by kernel_rfl, by kernel_rfl, by kernel_rfl⟩
@[simp] theorem z27 : sizeA Pz 27 = some 1 ∧ bytesSz Pz 27 = some 24 ∧ zeroA Pz 27 = some (.nils) := ⟨by kernel_rfl, by kernel_rfl, by kernel_rfl⟩
@[simp] theorem z28 : sizeA Pz 28 = some 4 ∧ bytesSz Pz 28 = some 48 ∧ zeroA Pz 28 = some (.agg [.int .i64 (0), .int .i64 (0), .int .i64 (0), .nils]) := ⟨by kernel_rfl, by kernel_rfl, by kernel_rfl⟩
@[simp] theorem z29 : sizeA Pz 29 = some 4 ∧ bytesSz Pz 29 = some 48 ∧ zeroA Pz 29 = some (.agg [.int .i64 (0), .int .i64 (0), .int .i64 (0), .nils]) := ⟨by kernel_rfl, by kernel_rfl, by kernel_rfl⟩
@[simp] theorem z30 : sizeA Pz 30 = some 1 ∧ bytesSz Pz 30 = some 8 ∧ zeroA Pz 30 = some (.nilf) := ⟨by kernel_rfl, by kernel_rfl, by kernel_rfl⟩
@[simp] theorem z31 : sizeA Pz 31 = some 1 ∧ bytesSz Pz 31 = some 24 ∧ zeroA Pz 31 = some (.nils) := ⟨by kernel_rfl, by kernel_rfl, by kernel_rfl⟩
@[simp] theorem z32 : sizeA Pz 32 = some 1 ∧ bytesSz Pz 32 = some 8 ∧ zeroA Pz 32 = some (.nilf) := ⟨by kernel_rfl, by kernel_rfl, by kernel_rfl⟩
@[simp] theorem z33 : sizeA Pz 33 = some 1 ∧ bytesSz Pz 33 = some 24 ∧ zeroA Pz 33 = some (.nils) := ⟨by kernel_rfl, by kernel_rfl, by kernel_rfl⟩
@[simp] theorem z34 : sizeA Pz 34 = some 2 ∧ bytesSz Pz 34 = some 32 ∧ zeroA Pz 34 = some (.agg [.str [], .str []]) := ⟨by kernel_rfl, by kernel_rfl, by kernel_rfl⟩
@[simp] theorem z35 : sizeA Pz 35 = some 2 ∧ bytesSz Pz 35 = some 32 ∧ zeroA Pz 35 = some (.agg [.str [], .str []]) := ⟨by kernel_rfl, by kernel_rfl, by kernel_rfl⟩
@[simp] theorem z36 : sizeA Pz 36 = some 1 ∧ bytesSz Pz 36 = some 8 ∧ zeroA Pz 36 = some (.nilf) := ⟨by kernel_rfl, by kernel_rfl, by kernel_rfl⟩
@[simp] theorem z37 : sizeA Pz 37 = some 1 ∧ bytesSz Pz 37 = some 8 ∧ zeroA Pz 37 = some (.nilf) := ⟨by kernel_rfl, by kernel_rfl, by kernel_rfl⟩
@[simp] theorem z39 : sizeA Pz 39 = some 1 ∧ bytesSz Pz 39 = some 24 ∧ zeroA Pz 39 = some (.nils) := ⟨by kernel_rfl, by kernel_rfl, by kernel_rfl⟩
@[simp] theorem z40 : sizeA Pz 40 = some 1 ∧ bytesSz Pz 40 = some 24 ∧ zeroA Pz 40 = some (.nils) := ⟨by kernel_rfl, by kernel_rfl, by kernel_rfl⟩
@[simp] theorem z43 : sizeA Pz 43 = some 1 ∧ bytesSz Pz 43 = some 8 ∧ zeroA Pz 43 = some (.nilp) := ⟨by kernel_rfl, by kernel_rfl, by kernel_rfl⟩
@[simp] theorem z44 : sizeA Pz 44 = some 1 ∧ bytesSz Pz 44 = some 8 ∧ zeroA Pz 44 = some (.nilf) := ⟨by kernel_rfl, by kernel_rfl, by kernel_rfl⟩
@[simp] theorem z45 : sizeA Pz 45 = some 1 ∧ bytesSz Pz 45 = some 8 ∧ zeroA Pz 45 = some (.nilp) := ⟨by kernel_rfl, by kernel_rfl, by kernel_rfl⟩
@[simp] theorem z47 : sizeA Pz 47 = some 1 ∧ bytesSz Pz 47 = some 8 ∧ zeroA Pz 47 = some (.nilf) := ⟨by kernel_rfl, by kernel_rfl, by kernel_rfl⟩
@[simp] theorem z48 : sizeA Pz 48 = some 1 ∧ bytesSz Pz 48 = some 24 ∧ zeroA Pz 48 = some (.nils) := ⟨by kernel_rfl, by kernel_rfl, by kernel_rfl⟩
@[simp] theorem z49 : sizeA Pz 49 = some 1 ∧ bytesSz Pz 49 = some 24 ∧ zeroA Pz 49 = some (.nils) := ⟨by kernel_rfl, by kernel_rfl, by kernel_rfl⟩
@[simp] theorem z50 : sizeA Pz 50 = some 4 ∧ bytesSz Pz 50 = some 56 ∧ zeroA Pz 50 = some (.agg [.int .u8 (0), .int .u8 (0), .nils, .nils]) := ⟨by kernel_rfl, by kernel_rfl, by kernel_rfl⟩
@[simp] theorem z51 : sizeA Pz 51 = some 4 ∧ bytesSz Pz 51 = some 56 ∧ zeroA Pz 51 = some (.agg [.int .u8 (0), .int .u8 (0), .nils, .nils]) := ⟨by kernel_rfl, by kernel_rfl, by kernel_rfl⟩
@[simp] theorem z52 : sizeA Pz 52 = some 1 ∧ bytesSz Pz 52 = some 8 ∧ zeroA Pz 52 = some (.int .i64 (0)) := ⟨by kernel_rfl, by kernel_rfl, by kernel_rfl⟩
@[simp] theorem z53 : sizeA Pz 53 = some 1 ∧ bytesSz Pz 53 = some 8 ∧ zeroA Pz 53 = some (.nilf) := ⟨by kernel_rfl, by kernel_rfl, by kernel_rfl⟩
@[simp] theorem z54 : sizeA Pz 54 = some 1 ∧ bytesSz Pz 54 = some 8 ∧ zeroA Pz 54 = some (.nilf) := ⟨by kernel_rfl, by kernel_rfl, by kernel_rfl⟩
@[simp] theorem z55 : sizeA Pz 55 = some 1 ∧ bytesSz Pz 55 = some 8 ∧ zeroA Pz 55 = some (.nilf) := ⟨by kernel_rfl, by kernel_rfl, by kernel_rfl⟩
@[simp] theorem z56 : sizeA Pz 56 = some 1 ∧ bytesSz Pz 56 = some 8 ∧ zeroA Pz 56 = some (.nilf) := ⟨by kernel_rfl, by kernel_rfl, by kernel_rfl⟩
@[simp] theorem z57 : sizeA Pz 57 = some 1 ∧ bytesSz Pz 57 = some 8 ∧ zeroA Pz 57 = some (.nilf) := ⟨by kernel_rfl, by kernel_rfl, by kernel_rfl⟩
@[simp] theorem z58 : sizeA Pz 58 = some 1 ∧ bytesSz Pz 58 = some 0 ∧ zeroA Pz 58 = some (.tuple [.nils, .bool false]) := ⟨by kernel_rfl, by kernel_rfl, by kernel_rfl⟩
@[simp] theorem z59 : sizeA Pz 59 = some 1 ∧ bytesSz Pz 59 = some 8 ∧ zeroA Pz 59 = some (.nilf) := ⟨by kernel_rfl, by kernel_rfl, by kernel_rfl⟩
@[simp] theorem z60 : sizeA Pz 60 = some 1 ∧ bytesSz Pz 60 = some 8 ∧ zeroA Pz 60 = some (.nilf) := ⟨by kernel_rfl, by kernel_rfl, by kernel_rfl⟩
@[simp] theorem z61 : sizeA Pz 61 = some 1 ∧ bytesSz Pz 61 = some 8 ∧ zeroA Pz 61 = some (.nilf) := ⟨by kernel_rfl, by kernel_rfl, by kernel_rfl⟩
@[simp] theorem z62 : sizeA Pz 62 = some 1 ∧ bytesSz Pz 62 = some 8 ∧ zeroA Pz 62 = some (.nilf) := ⟨by kernel_rfl, by kernel_rfl, by kernel_rfl⟩
@[simp] theorem z64 : sizeA Pz 64 = some 4 ∧ bytesSz Pz 64 = some 40 ∧ zeroA Pz 64 = some (.agg [.int .u8 (0), .int .u8 (0), .nils, .bool false]) := ⟨by kernel_rfl, by kernel_rfl, by kernel_rfl⟩
@[simp] theorem z65 : sizeA Pz 65 = some 4 ∧ bytesSz Pz 65 = some 40 ∧ zeroA Pz 65 = some (.agg [.int .u8 (0), .int .u8 (0), .nils, .bool false]) := ⟨by kernel_rfl, by kernel_rfl, by kernel_rfl⟩
@[simp] theorem z66 : sizeA Pz 66 = some 8 ∧ bytesSz Pz 66 = some 80 ∧ zeroA Pz 66 = some (.agg [.int .u8 (0), .int .u8 (0), .nils, .bool false, .int .u8 (0), .int .u8 (0), .nils, .bool false]) := ⟨by kernel_rfl, by kernel_rfl, by kernel_rfl⟩
@[simp] theorem z67 : sizeA Pz 67 = some 1 ∧ bytesSz Pz 67 = some 2 ∧ zeroA Pz 67 = some (.int .u16 (0)) := ⟨by kernel_rfl, by kernel_rfl, by kernel_rfl⟩
@[simp] theorem z68 : sizeA Pz 68 = some 1 ∧ bytesSz Pz 68 = some 0 ∧ zeroA Pz 68 = some (.tuple [.str [], .int .i64 (0)]) := ⟨by kernel_rfl, by kernel_rfl, by kernel_rfl⟩
@[simp] theorem z69 : sizeA Pz 69 = some 1 ∧ bytesSz Pz 69 = some 8 ∧ zeroA Pz 69 = some (.nilf) := ⟨by kernel_rfl, by kernel_rfl, by kernel_rfl⟩
@[simp] theorem z71 : sizeA Pz 71 = some 1 ∧ bytesSz Pz 71 = some 8 ∧ zeroA Pz 71 = some (.nilf) := ⟨by kernel_rfl, by kernel_rfl, by kernel_rfl⟩
@[simp] theorem z72 : sizeA Pz 72 = some 1 ∧ bytesSz Pz 72 = some 8 ∧ zeroA Pz 72 = some (.nilf) := ⟨by kernel_rfl, by kernel_rfl, by kernel_rfl⟩
@[simp] theorem z73 : sizeA Pz 73 = some 1 ∧ bytesSz Pz 73 = some 24 ∧ zeroA Pz 73 = some (.nils) := ⟨by kernel_rfl, by kernel_rfl, by kernel_rfl⟩
@[simp] theorem z74 : sizeA Pz 74 = some 4 ∧ bytesSz Pz 74 = some 64 ∧ zeroA Pz 74 = some (.agg [.int .u8 (0), .nils, .str [], .str []]) := ⟨by kernel_rfl, by kernel_rfl, by kernel_rfl⟩
@[simp] theorem z75 : sizeA Pz 75 = some 4 ∧ bytesSz Pz 75 = some 64 ∧ zeroA Pz 75 = some (.agg [.int .u8 (0), .nils, .str [], .str []]) := ⟨by kernel_rfl, by kernel_rfl, by kernel_rfl⟩
@[simp] theorem z77 : sizeA Pz 77 = some 1 ∧ bytesSz Pz 77 = some 24 ∧ zeroA Pz 77 = some (.nils) := ⟨by kernel_rfl, by kernel_rfl, by kernel_rfl⟩
@[simp] theorem z78 : sizeA Pz 78 = some 4 ∧ bytesSz Pz 78 = some 64 ∧ zeroA Pz 78 = some (.agg [.nils, .nils, .int .i64 (0), .bool false]) := ⟨by kernel_rfl, by kernel_rfl, by kernel_rfl⟩
@[simp] theorem z79 : sizeA Pz 79 = some 4 ∧ bytesSz Pz 79 = some 64 ∧ zeroA Pz 79 = some (.agg [.nils, .nils, .int .i64 (0), .bool false]) := ⟨by kernel_rfl, by kernel_rfl, by kernel_rfl⟩
@[simp] theorem z80 : sizeA Pz 80 = some 1 ∧ bytesSz Pz 80 = some 0 ∧ zeroA Pz 80 = some (.tuple [.top, .int .i64 (0)]) := ⟨by kernel_rfl, by kernel_rfl, by kernel_rfl⟩
@[simp] theorem z81 : sizeA Pz 81 = some 1 ∧ bytesSz Pz 81 = some 8 ∧ zeroA Pz 81 = some (.nilf) := ⟨by kernel_rfl, by kernel_rfl, by kernel_rfl⟩
@[simp] theorem z82 : sizeA Pz 82 = some 1 ∧ bytesSz Pz 82 = some 8 ∧ zeroA Pz 82 = some (.nilf) := ⟨by kernel_rfl, by kernel_rfl, by kernel_rfl⟩
@[simp] theorem z86 : sizeA Pz 86 = some 1 ∧ bytesSz Pz 86 = some 0 ∧ zeroA Pz 86 = some (.tuple [.int .i64 (0), .int .i64 (0)]) := ⟨by kernel_rfl, by kernel_rfl, by kernel_rfl⟩
@[simp] theorem z90 : sizeA Pz 90 = some 3 ∧ bytesSz Pz 90 = some 24 ∧ zeroA Pz 90 = some (.agg [.int .i64 (0), .int .i64 (0), .int .i64 (0)]) := ⟨by kernel_rfl, by kernel_rfl, by kernel_rfl⟩
@[simp] theorem z91 : sizeA Pz 91 = some 3 ∧ bytesSz Pz 91 = some 24 ∧ zeroA Pz 91 = some (.agg [.int .i64 (0), .int .i64 (0), .int .i64 (0)]) := ⟨by kernel_rfl, by kernel_rfl, by kernel_rfl⟩
@[simp] theorem z92 : sizeA Pz 92 = some 3 ∧ bytesSz Pz 92 = some 24 ∧ zeroA Pz 92 = some (.agg [.int .u8 (0), .int .u8 (0), .str []]) := ⟨by kernel_rfl, by kernel_rfl, by kernel_rfl⟩
@[simp] theorem z93 : sizeA Pz 93 = some 3 ∧ bytesSz Pz 93 = some 24 ∧ zeroA Pz 93 = some (.agg [.int .u8 (0), .int .u8 (0), .str []]) := ⟨by kernel_rfl, by kernel_rfl, by kernel_rfl⟩
@[simp] theorem z94 : sizeA Pz 94 = some 1 ∧ bytesSz Pz 94 = some 8 ∧ zeroA Pz 94 = some (.nilf) := ⟨by kernel_rfl, by kernel_rfl, by kernel_rfl⟩
@[simp] theorem z95 : sizeA Pz 95 = some 1 ∧ bytesSz Pz 95 = some 0 ∧ zeroA Pz 95 = some (.tuple [.int .i64 (0), .int .i64 (0)]) := ⟨by kernel_rfl, by kernel_rfl, by kernel_rfl⟩
@[simp] theorem z97 : sizeA Pz 97 = some 1 ∧ bytesSz Pz 97 = some 8 ∧ zeroA Pz 97 = some (.nilf) := ⟨by kernel_rfl, by kernel_rfl, by kernel_rfl⟩
@[simp] theorem z98 : sizeA Pz 98 = some 1 ∧ bytesSz Pz 98 = some 0 ∧ zeroA Pz 98 = some (.tuple [.nilf, .bool false]) := ⟨by kernel_rfl, by kernel_rfl, by kernel_rfl⟩
@[simp] theorem z99 : sizeA Pz 99 = some 1 ∧ bytesSz Pz 99 = some 8 ∧ zeroA Pz 99 = some (.nilm) := ⟨by kernel_rfl, by kernel_rfl, by kernel_rfl⟩
@[simp] theorem z101 : sizeA Pz 101 = some 4 ∧ bytesSz Pz 101 = some 48 ∧ zeroA Pz 101 = some (.agg [.int .i64 (0), .int .i64 (0), .int .i64 (0), .nils]) := ⟨by kernel_rfl, by kernel_rfl, by kernel_rfl⟩
@[simp] theorem z102 : sizeA Pz 102 = some 4 ∧ bytesSz Pz 102 = some 48 ∧ zeroA Pz 102 = some (.agg [.int .i64 (0), .int .i64 (0), .int .i64 (0), .nils]) := ⟨by kernel_rfl, by kernel_rfl, by kernel_rfl⟩
@[simp] theorem z103 : sizeA Pz 103 = some 1 ∧ bytesSz Pz 103 = some 8 ∧ zeroA Pz 103 = some (.nilf) := ⟨by kernel_rfl, by kernel_rfl, by kernel_rfl⟩
@[simp] theorem z105 : sizeA Pz 105 = some 1 ∧ bytesSz Pz 105 = some 8 ∧ zeroA Pz 105 = some (.nilf) := ⟨by kernel_rfl, by kernel_rfl, by kernel_rfl⟩
@[simp] theorem z107 : sizeA Pz 107 = some 1 ∧ bytesSz Pz 107 = some 0 ∧ zeroA Pz 107 = some (.tuple [.nilp, .nilp]) := ⟨by kernel_rfl, by kernel_rfl, by kernel_rfl⟩
@[simp] theorem z109 : sizeA Pz 109 = some 1 ∧ bytesSz Pz 109 = some 4 ∧ zeroA Pz 109 = some (.int .u32 (0)) := ⟨by kernel_rfl, by kernel_rfl, by kernel_rfl⟩
@[simp] theorem z110 : sizeA Pz 110 = some 3 ∧ bytesSz Pz 110 = some 24 ∧ zeroA Pz 110 = some (.agg [.str [], .int .u32 (0), .bool false]) := ⟨by kernel_rfl, by kernel_rfl, by kernel_rfl⟩
@[simp] theorem z111 : sizeA Pz 111 = some 3 ∧ bytesSz Pz 111 = some 24 ∧ zeroA Pz 111 = some (.agg [.str [], .int .u32 (0), .bool false]) := ⟨by kernel_rfl, by kernel_rfl, by kernel_rfl⟩
@[simp] theorem z112 : sizeA Pz 112 = some 6 ∧ bytesSz Pz 112 = some 48 ∧ zeroA Pz 112 = some (.agg [.nilp, .int .i64 (0), .int .i64 (0), .int .i64 (0), .int .i64 (0), .bool false]) := ⟨by kernel_rfl, by kernel_rfl, by kernel_rfl⟩
@[simp] theorem z113 : sizeA Pz 113 = some 6 ∧ bytesSz Pz 113 = some 48 ∧ zeroA Pz 113 = some (.agg [.nilp, .int .i64 (0), .int .i64 (0), .int .i64 (0), .int .i64 (0), .bool false]) := ⟨by kernel_rfl, by kernel_rfl, by kernel_rfl⟩
@[simp] theorem z114 : sizeA Pz 114 = some 1 ∧ bytesSz Pz 114 = some 8 ∧ zeroA Pz 114 = some (.nilp) := ⟨by kernel_rfl, by kernel_rfl, by kernel_rfl⟩
@[simp] theorem z115 : sizeA Pz 115 = some 1 ∧ bytesSz Pz 115 = some 8 ∧ zeroA Pz 115 = some (.nilm) := ⟨by kernel_rfl, by kernel_rfl, by kernel_rfl⟩
@[simp] theorem z116 : sizeA Pz 116 = some 6 ∧ bytesSz Pz 116 = some 48 ∧ zeroA Pz 116 = some (.agg [.nilp, .nilm, .int .i64 (0), .int .i64 (0), .int .i64 (0), .bool false]) := ⟨by kernel_rfl, by kernel_rfl, by kernel_rfl⟩
@[simp] theorem z117 : sizeA Pz 117 = some 6 ∧ bytesSz Pz 117 = some 48 ∧ zeroA Pz 117 = some (.agg [.nilp, .nilm, .int .i64 (0), .int .i64 (0), .int .i64 (0), .bool false]) := ⟨by kernel_rfl, by kernel_rfl, by kernel_rfl⟩
@[simp] theorem z118 : sizeA Pz 118 = some 1 ∧ bytesSz Pz 118 = some 8 ∧ zeroA Pz 118 = some (.nilf) := ⟨by kernel_rfl, by kernel_rfl, by kernel_rfl⟩
@[simp] theorem z121 : sizeA Pz 121 = some 1 ∧ bytesSz Pz 121 = some 8 ∧ zeroA Pz 121 = some (.nilf) := ⟨by kernel_rfl, by kernel_rfl, by kernel_rfl⟩
@[simp] theorem z122 : sizeA Pz 122 = some 1 ∧ bytesSz Pz 122 = some 8 ∧ zeroA Pz 122 = some (.nilf) := ⟨by kernel_rfl, by kernel_rfl, by kernel_rfl⟩
@[simp] theorem z123 : sizeA Pz 123 = some 1 ∧ bytesSz Pz 123 = some 8 ∧ zeroA Pz 123 = some (.nilf) := ⟨by kernel_rfl, by kernel_rfl, by kernel_rfl⟩
@[simp] theorem z124 : sizeA Pz 124 = some 1 ∧ bytesSz Pz 124 = some 8 ∧ zeroA Pz 124 = some (.nilf) := ⟨by kernel_rfl, by kernel_rfl, by kernel_rfl⟩
@[simp] theorem z125 : sizeA Pz 125 = some 1 ∧ bytesSz Pz 125 = some 8 ∧ zeroA Pz 125 = some (.agg [.nilf]) := ⟨by kernel_rfl, by kernel_rfl, by kernel_rfl⟩
@[simp] theorem z126 : sizeA Pz 126 = some 1 ∧ bytesSz Pz 126 = some 8 ∧ zeroA Pz 126 = some (.agg [.nilf]) := ⟨by kernel_rfl, by kernel_rfl, by kernel_rfl⟩
@[simp] theorem z127 : sizeA Pz 127 = some 1 ∧ bytesSz Pz 127 = some 8 ∧ zeroA Pz 127 = some (.nilf) := ⟨by kernel_rfl, by kernel_rfl, by kernel_rfl⟩
@[simp] theorem z128 : sizeA Pz 128 = some 1 ∧ bytesSz Pz 128 = some 0 ∧ zeroA Pz 128 = some (.tuple [.int .i64 (0), .bool false]) := ⟨by kernel_rfl, by kernel_rfl, by kernel_rfl⟩
@[simp] theorem z129 : sizeA Pz 129 = some 1 ∧ bytesSz Pz 129 = some 8 ∧ zeroA Pz 129 = some (.nilf) := ⟨by kernel_rfl, by kernel_rfl, by kernel_rfl⟩
@[simp] theorem z130 : sizeA Pz 130 = some 1 ∧ bytesSz Pz 130 = some 8 ∧ zeroA Pz 130 = some (.nilp) := ⟨by kernel_rfl, by kernel_rfl, by kernel_rfl⟩
@[simp] theorem z131 : sizeA Pz 131 = some 2 ∧ bytesSz Pz 131 = some 16 ∧ zeroA Pz 131 = some (.agg [.int .i64 (0), .int .i64 (0)]) := ⟨by kernel_rfl, by kernel_rfl, by kernel_rfl⟩
@[simp] theorem z132 : sizeA Pz 132 = some 2 ∧ bytesSz Pz 132 = some 16 ∧ zeroA Pz 132 = some (.agg [.int .i64 (0), .int .i64 (0)]) := ⟨by kernel_rfl, by kernel_rfl, by kernel_rfl⟩
@[simp] theorem z133 : sizeA Pz 133 = some 1 ∧ bytesSz Pz 133 = some 8 ∧ zeroA Pz 133 = some (.nilf) := ⟨by kernel_rfl, by kernel_rfl, by kernel_rfl⟩
@[simp] theorem z134 : sizeA Pz 134 = some 1 ∧ bytesSz Pz 134 = some 8 ∧ zeroA Pz 134 = some (.nilf) := ⟨by kernel_rfl, by kernel_rfl, by kernel_rfl⟩
@[simp] theorem z135 : sizeA Pz 135 = some 1 ∧ bytesSz Pz 135 = some 8 ∧ zeroA Pz 135 = some (.nilf) := ⟨by kernel_rfl, by kernel_rfl, by kernel_rfl⟩
@[simp] theorem z140 : sizeA Pz 140 = some 1 ∧ bytesSz Pz 140 = some 8 ∧ zeroA Pz 140 = some (.nilf) := ⟨by kernel_rfl, by kernel_rfl, by kernel_rfl⟩
@[simp] theorem z141 : sizeA Pz 141 = some 1 ∧ bytesSz Pz 141 = some 8 ∧ zeroA Pz 141 = some (.nilf) := ⟨by kernel_rfl, by kernel_rfl, by kernel_rfl⟩
@[simp] theorem z142 : sizeA Pz 142 = some 1 ∧ bytesSz Pz 142 = some 8 ∧ zeroA Pz 142 = some (.nilf) := ⟨by kernel_rfl, by kernel_rfl, by kernel_rfl⟩
@[simp] theorem z143 : sizeA Pz 143 = some 1 ∧ bytesSz Pz 143 = some 0 ∧ zeroA Pz 143 = some (.tuple [.str [], .bool false]) := ⟨by kernel_rfl, by kernel_rfl, by kernel_rfl⟩
@[simp] theorem z148 : sizeA Pz 148 = some 1 ∧ bytesSz Pz 148 = some 8 ∧ zeroA Pz 148 = some (.int .u64 (0)) := ⟨by kernel_rfl, by kernel_rfl, by kernel_rfl⟩
@[simp] theorem z149 : sizeA Pz 149 = some 1 ∧ bytesSz Pz 149 = some 24 ∧ zeroA Pz 149 = some (.nils) := ⟨by kernel_rfl, by kernel_rfl, by kernel_rfl⟩
@[simp] theorem z152 : sizeA Pz 152 = some 1 ∧ bytesSz Pz 152 = some 24 ∧ zeroA Pz 152 = some (.nils) := ⟨by kernel_rfl, by kernel_rfl, by kernel_rfl⟩
@[simp] theorem z154 : sizeA Pz 154 = some 1 ∧ bytesSz Pz 154 = some 8 ∧ zeroA Pz 154 = some (.nilf) := ⟨by kernel_rfl, by kernel_rfl, by kernel_rfl⟩
@[simp] theorem z157 : sizeA Pz 157 = some 1 ∧ bytesSz Pz 157 = some 8 ∧ zeroA Pz 157 = some (.nilf) := ⟨by kernel_rfl, by kernel_rfl, by kernel_rfl⟩
@[simp] theorem z159 : sizeA Pz 159 = some 1 ∧ bytesSz Pz 159 = some 8 ∧ zeroA Pz 159 = some (.nilf) := ⟨by kernel_rfl, by kernel_rfl, by kernel_rfl⟩
@[simp] theorem z160 : sizeA Pz 160 = some 1 ∧ bytesSz Pz 160 = some 0 ∧ zeroA Pz 160 = some (.tuple [.nils, .int .i64 (0)]) := ⟨by kernel_rfl, by kernel_rfl, by kernel_rfl⟩
@[simp] theorem z162 : sizeA Pz 162 = some 1 ∧ bytesSz Pz 162 = some 8 ∧ zeroA Pz 162 = some (.nilf) := ⟨by kernel_rfl, by kernel_rfl, by kernel_rfl⟩
@[simp] theorem z166 : sizeA Pz 166 = some 3 ∧ bytesSz Pz 166 = some 48 ∧ zeroA Pz 166 = some (.agg [.int .u8 (0), .nils, .str []]) := ⟨by kernel_rfl, by kernel_rfl, by kernel_rfl⟩
@[simp] theorem z167 : sizeA Pz 167 = some 3 ∧ bytesSz Pz 167 = some 48 ∧ zeroA Pz 167 = some (.agg [.int .u8 (0), .nils, .str []]) := ⟨by kernel_rfl, by kernel_rfl, by kernel_rfl⟩
@[simp] theorem z168 : sizeA Pz 168 = some 1 ∧ bytesSz Pz 168 = some 8 ∧ zeroA Pz 168 = some (.nilf) := ⟨by kernel_rfl, by kernel_rfl, by kernel_rfl⟩
@[simp] theorem z170 : sizeA Pz 170 = some 1 ∧ bytesSz Pz 170 = some 8 ∧ zeroA Pz 170 = some (.nilf) := ⟨by kernel_rfl, by kernel_rfl, by kernel_rfl⟩
@[simp] theorem z173 : sizeA Pz 173 = some 1 ∧ bytesSz Pz 173 = some 8 ∧ zeroA Pz 173 = some (.nilf) := ⟨by kernel_rfl, by kernel_rfl, by kernel_rfl⟩
@[simp] theorem z174 : sizeA Pz 174 = some 1 ∧ bytesSz Pz 174 = some 8 ∧ zeroA Pz 174 = some (.nilf) := ⟨by kernel_rfl, by kernel_rfl, by kernel_rfl⟩
@[simp] theorem z175 : sizeA Pz 175 = some 1 ∧ bytesSz Pz 175 = some 8 ∧ zeroA Pz 175 = some (.nilf) := ⟨by kernel_rfl, by kernel_rfl, by kernel_rfl⟩
@[simp] theorem z176 : sizeA Pz 176 = some 1 ∧ bytesSz Pz 176 = some 8 ∧ zeroA Pz 176 = some (.nilf) := ⟨by kernel_rfl, by kernel_rfl, by kernel_rfl⟩
@[simp] theorem z177 : sizeA Pz 177 = some 1 ∧ bytesSz Pz 177 = some 8 ∧ zeroA Pz 177 = some (.nilf) := ⟨by kernel_rfl, by kernel_rfl, by kernel_rfl⟩
@[simp] theorem z179 : sizeA Pz 179 = some 1 ∧ bytesSz Pz 179 = some 8 ∧ zeroA Pz 179 = some (.nilf) := ⟨by kernel_rfl, by kernel_rfl, by kernel_rfl⟩
@[simp] theorem z181 : sizeA Pz 181 = some 5 ∧ bytesSz Pz 181 = some 80 ∧ zeroA Pz 181 = some (.agg [.str [], .str [], .str [], .str [], .str []]) := ⟨by kernel_rfl, by kernel_rfl, by kernel_rfl⟩
@[simp] theorem z182 : sizeA Pz 182 = some 1 ∧ bytesSz Pz 182 = some 8 ∧ zeroA Pz 182 = some (.nilf) := ⟨by kernel_rfl, by kernel_rfl, by kernel_rfl⟩
@[simp] theorem z184 : sizeA Pz 184 = some 1 ∧ bytesSz Pz 184 = some 16 ∧ zeroA Pz 184 = some (.top) := ⟨by kernel_rfl, by kernel_rfl, by kernel_rfl⟩
@[simp] theorem z185 : sizeA Pz 185 = some 1 ∧ bytesSz Pz 185 = some 16 ∧ zeroA Pz 185 = some (.top) := ⟨by kernel_rfl, by kernel_rfl, by kernel_rfl⟩
@[simp] theorem z186 : sizeA Pz 186 = some 1 ∧ bytesSz Pz 186 = some 0 ∧ zeroA Pz 186 = some (.tuple [.int .i64 (0), .top]) := ⟨by kernel_rfl, by kernel_rfl, by kernel_rfl⟩
@[simp] theorem z188 : sizeA Pz 188 = some 1 ∧ bytesSz Pz 188 = some 8 ∧ zeroA Pz 188 = some (.nilf) := ⟨by kernel_rfl, by kernel_rfl, by kernel_rfl⟩
@[simp] theorem z192 : sizeA Pz 192 = some 1 ∧ bytesSz Pz 192 = some 8 ∧ zeroA Pz 192 = some (.int .u64 (0)) := ⟨by kernel_rfl, by kernel_rfl, by kernel_rfl⟩
@[simp] theorem z193 : sizeA Pz 193 = some 3 ∧ bytesSz Pz 193 = some 32 ∧ zeroA Pz 193 = some (.agg [.nils, .int .u32 (0), .bool false]) := ⟨by kernel_rfl, by kernel_rfl, by kernel_rfl⟩
@[simp] theorem z194 : sizeA Pz 194 = some 3 ∧ bytesSz Pz 194 = some 32 ∧ zeroA Pz 194 = some (.agg [.nils, .int .u32 (0), .bool false]) := ⟨by kernel_rfl, by kernel_rfl, by kernel_rfl⟩
@[simp] theorem z195 : sizeA Pz 195 = some 1 ∧ bytesSz Pz 195 = some 8 ∧ zeroA Pz 195 = some (.nilf) := ⟨by kernel_rfl, by kernel_rfl, by kernel_rfl⟩
@[simp] theorem z198 : sizeA Pz 198 = some 1 ∧ bytesSz Pz 198 = some 8 ∧ zeroA Pz 198 = some (.nilf) := ⟨by kernel_rfl, by kernel_rfl, by kernel_rfl⟩
@[simp] theorem z200 : sizeA Pz 200 = some 1 ∧ bytesSz Pz 200 = some 8 ∧ zeroA Pz 200 = some (.nilf) := ⟨by kernel_rfl, by kernel_rfl, by kernel_rfl⟩
@[simp] theorem z201 : sizeA Pz 201 = some 1 ∧ bytesSz Pz 201 = some 8 ∧ zeroA Pz 201 = some (.nilf) := ⟨by kernel_rfl, by kernel_rfl, by kernel_rfl⟩
@[simp] theorem z202 : sizeA Pz 202 = some 1 ∧ bytesSz Pz 202 = some 24 ∧ zeroA Pz 202 = some (.nils) := ⟨by kernel_rfl, by kernel_rfl, by kernel_rfl⟩
@[simp] theorem z203 : sizeA Pz 203 = some 1 ∧ bytesSz Pz 203 = some 8 ∧ zeroA Pz 203 = some (.nilf) := ⟨by kernel_rfl, by kernel_rfl, by kernel_rfl⟩
@[simp] theorem z204 : sizeA Pz 204 = some 1 ∧ bytesSz Pz 204 = some 8 ∧ zeroA Pz 204 = some (.nilf) := ⟨by kernel_rfl, by kernel_rfl, by kernel_rfl⟩
@[simp] theorem z206 : sizeA Pz 206 = some 1 ∧ bytesSz Pz 206 = some 24 ∧ zeroA Pz 206 = some (.nils) := ⟨by kernel_rfl, by kernel_rfl, by kernel_rfl⟩
@[simp] theorem z207 : sizeA Pz 207 = some 1 ∧ bytesSz Pz 207 = some 8 ∧ zeroA Pz 207 = some (.nilm) := ⟨by kernel_rfl, by kernel_rfl, by kernel_rfl⟩
@[simp] theorem z208 : sizeA Pz 208 = some 1 ∧ bytesSz Pz 208 = some 8 ∧ zeroA Pz 208 = some (.nilm) := ⟨by kernel_rfl, by kernel_rfl, by kernel_rfl⟩
@[simp] theorem z209 : sizeA Pz 209 = some 4 ∧ bytesSz Pz 209 = some 48 ∧ zeroA Pz 209 = some (.agg [.nilm, .nilm, .nils, .int .i64 (0)]) := ⟨by kernel_rfl, by kernel_rfl, by kernel_rfl⟩
@[simp] theorem z210 : sizeA Pz 210 = some 4 ∧ bytesSz Pz 210 = some 48 ∧ zeroA Pz 210 = some (.agg [.nilm, .nilm, .nils, .int .i64 (0)]) := ⟨by kernel_rfl, by kernel_rfl, by kernel_rfl⟩
@[simp] theorem z211 : sizeA Pz 211 = some 1 ∧ bytesSz Pz 211 = some 8 ∧ zeroA Pz 211 = some (.nilf) := ⟨by kernel_rfl, by kernel_rfl, by kernel_rfl⟩
@[simp] theorem z212 : sizeA Pz 212 = some 2 ∧ bytesSz Pz 212 = some 24 ∧ zeroA Pz 212 = some (.agg [.str [], .nilf]) := ⟨by kernel_rfl, by kernel_rfl, by kernel_rfl⟩
@[simp] theorem z213 : sizeA Pz 213 = some 2 ∧ bytesSz Pz 213 = some 24 ∧ zeroA Pz 213 = some (.agg [.str [], .nilf]) := ⟨by kernel_rfl, by kernel_rfl, by kernel_rfl⟩
@[simp] theorem z216 : sizeA Pz 216 = some 1 ∧ bytesSz Pz 216 = some 8 ∧ zeroA Pz 216 = some (.nilf) := ⟨by kernel_rfl, by kernel_rfl, by kernel_rfl⟩
@[simp] theorem z217 : sizeA Pz 217 = some 1 ∧ bytesSz Pz 217 = some 8 ∧ zeroA Pz 217 = some (.nilf) := ⟨by kernel_rfl, by kernel_rfl, by kernel_rfl⟩
@[simp] theorem z220 : sizeA Pz 220 = some 1 ∧ bytesSz Pz 220 = some 24 ∧ zeroA Pz 220 = some (.nils) := ⟨by kernel_rfl, by kernel_rfl, by kernel_rfl⟩
@[simp] theorem z221 : sizeA Pz 221 = some 3 ∧ bytesSz Pz 221 = some 56 ∧ zeroA Pz 221 = some (.agg [.str [], .nils, .str []]) := ⟨by kernel_rfl, by kernel_rfl, by kernel_rfl⟩
@[simp] theorem z222 : sizeA Pz 222 = some 3 ∧ bytesSz Pz 222 = some 56 ∧ zeroA Pz 222 = some (.agg [.str [], .nils, .str []]) := ⟨by kernel_rfl, by kernel_rfl, by kernel_rfl⟩
@[simp] theorem z224 : sizeA Pz 224 = some 1 ∧ bytesSz Pz 224 = some 8 ∧ zeroA Pz 224 = some (.nilf) := ⟨by kernel_rfl, by kernel_rfl, by kernel_rfl⟩
@[simp] theorem z225 : sizeA Pz 225 = some 1 ∧ bytesSz Pz 225 = some 8 ∧ zeroA Pz 225 = some (.nilf) := ⟨by kernel_rfl, by kernel_rfl, by kernel_rfl⟩
@[simp] theorem z226 : sizeA Pz 226 = some 1 ∧ bytesSz Pz 226 = some 8 ∧ zeroA Pz 226 = some (.nilf) := ⟨by kernel_rfl, by kernel_rfl, by kernel_rfl⟩
@[simp] theorem z227 : sizeA Pz 227 = some 1 ∧ bytesSz Pz 227 = some 8 ∧ zeroA Pz 227 = some (.nilf) := ⟨by kernel_rfl, by kernel_rfl, by kernel_rfl⟩
@[simp] theorem z234 : sizeA Pz 234 = some 1 ∧ bytesSz Pz 234 = some 8 ∧ zeroA Pz 234 = some (.nilf) := ⟨by kernel_rfl, by kernel_rfl, by kernel_rfl⟩
@[simp] theorem z240 : sizeA Pz 240 = some 9 ∧ bytesSz Pz 240 = some 9 ∧ zeroA Pz 240 = some (.agg [.int .u8 (0), .int .u8 (0), .int .u8 (0), .int .u8 (0), .int .u8 (0), .int .u8 (0), .int .u8 (0), .int .u8 (0), .int .u8 (0)]) := ⟨by kernel_rfl, by kernel_rfl, by kernel_rfl⟩
@[simp] theorem z241 : sizeA Pz 241 = some 10 ∧ bytesSz Pz 241 = some 24 ∧ zeroA Pz 241 = some (.agg [.int .u8 (0), .int .u8 (0), .int .u8 (0), .int .u8 (0), .int .u8 (0), .int .u8 (0), .int .u8 (0), .int .u8 (0), .int .u8 (0), .int .i64 (0)]) := ⟨by kernel_rfl, by kernel_rfl, by kernel_rfl⟩
@[simp] theorem z242 : sizeA Pz 242 = some 10 ∧ bytesSz Pz 242 = some 24 ∧ zeroA Pz 242 = some (.agg [.int .u8 (0), .int .u8 (0), .int .u8 (0), .int .u8 (0), .int .u8 (0), .int .u8 (0), .int .u8 (0), .int .u8 (0), .int .u8 (0), .int .i64 (0)]) := ⟨by kernel_rfl, by kernel_rfl, by kernel_rfl⟩
@[simp] theorem z243 : sizeA Pz 243 = some 1 ∧ bytesSz Pz 243 = some 8 ∧ zeroA Pz 243 = some (.nilf) := ⟨by kernel_rfl, by kernel_rfl, by kernel_rfl⟩
@[simp] theorem z250 : sizeA Pz 250 = some 1 ∧ bytesSz Pz 250 = some 8 ∧ zeroA Pz 250 = some (.nilf) := ⟨by kernel_rfl, by kernel_rfl, by kernel_rfl⟩
@[simp] theorem z257 : sizeA Pz 257 = some 1 ∧ bytesSz Pz 257 = some 8 ∧ zeroA Pz 257 = some (.int .i64 (0)) := ⟨by kernel_rfl, by kernel_rfl, by kernel_rfl⟩
@[simp] theorem z258 : sizeA Pz 258 = some 1 ∧ bytesSz Pz 258 = some 0 ∧ zeroA Pz 258 = some (.tuple [.int .i64 (0), .int .i64 (0)]) := ⟨by kernel_rfl, by kernel_rfl, by kernel_rfl⟩
@[simp] theorem z271 : sizeA Pz 271 = some 1 ∧ bytesSz Pz 271 = some 8 ∧ zeroA Pz 271 = some (.nilf) := ⟨by kernel_rfl, by kernel_rfl, by kernel_rfl⟩
@[simp] theorem z272 : sizeA Pz 272 = some 1 ∧ bytesSz Pz 272 = some 8 ∧ zeroA Pz 272 = some (.nilf) := ⟨by kernel_rfl, by kernel_rfl, by kernel_rfl⟩
@[simp] theorem z273 : sizeA Pz 273 = some 1 ∧ bytesSz Pz 273 = some 8 ∧ zeroA Pz 273 = some (.nilf) := ⟨by kernel_rfl, by kernel_rfl, by kernel_rfl⟩
@[simp] theorem z287 : sizeA Pz 287 = some 1 ∧ bytesSz Pz 287 = some 8 ∧ zeroA Pz 287 = some (.int .i64 (0)) := ⟨by kernel_rfl, by kernel_rfl, by kernel_rfl⟩
@[simp] theorem z288 : sizeA Pz 288 = some 1 ∧ bytesSz Pz 288 = some 0 ∧ zeroA Pz 288 = some (.tuple [.int .i64 (0), .top]) := ⟨by kernel_rfl, by kernel_rfl, by kernel_rfl⟩
@[simp] theorem z290 : sizeA Pz 290 = some 1 ∧ bytesSz Pz 290 = some 8 ∧ zeroA Pz 290 = some (.nilp) := ⟨by kernel_rfl, by kernel_rfl, by kernel_rfl⟩
@[simp] theorem z293 : sizeA Pz 293 = some 1 ∧ bytesSz Pz 293 = some 8 ∧ zeroA Pz 293 = some (.int .u64 (0)) := ⟨by kernel_rfl, by kernel_rfl, by kernel_rfl⟩
@[simp] theorem z295 : sizeA Pz 295 = some 1 ∧ bytesSz Pz 295 = some 8 ∧ zeroA Pz 295 = some (.nilf) := ⟨by kernel_rfl, by kernel_rfl, by kernel_rfl⟩
@[simp] theorem z297 : sizeA Pz 297 = some 1 ∧ bytesSz Pz 297 = some 8 ∧ zeroA Pz 297 = some (.nilp) := ⟨by kernel_rfl, by kernel_rfl, by kernel_rfl⟩
@[simp] theorem z299 : sizeA Pz 299 = some 1 ∧ bytesSz Pz 299 = some 8 ∧ zeroA Pz 299 = some (.nilp) := ⟨by kernel_rfl, by kernel_rfl, by kernel_rfl⟩
@[simp] theorem z308 : sizeA Pz 308 = some 3 ∧ bytesSz Pz 308 = some 24 ∧ zeroA Pz 308 = some (.agg [.int .u64 (0), .int .i64 (0), .int .i64 (0)]) := ⟨by kernel_rfl, by kernel_rfl, by kernel_rfl⟩
@[simp] theorem z309 : sizeA Pz 309 = some 3 ∧ bytesSz Pz 309 = some 24 ∧ zeroA Pz 309 = some (.agg [.int .u64 (0), .int .i64 (0), .int .i64 (0)]) := ⟨by kernel_rfl, by kernel_rfl, by kernel_rfl⟩
@[simp] theorem z310 : sizeA Pz 310 = some 1 ∧ bytesSz Pz 310 = some 8 ∧ zeroA Pz 310 = some (.nilf) := ⟨by kernel_rfl, by kernel_rfl, by kernel_rfl⟩
@[simp] theorem z311 : sizeA Pz 311 = some 1 ∧ bytesSz Pz 311 = some 8 ∧ zeroA Pz 311 = some (.nilf) := ⟨by kernel_rfl, by kernel_rfl, by kernel_rfl⟩
@[simp] theorem z312 : sizeA Pz 312 = some 1 ∧ bytesSz Pz 312 = some 8 ∧ zeroA Pz 312 = some (.nilf) := ⟨by kernel_rfl, by kernel_rfl, by kernel_rfl⟩
@[simp] theorem z313 : sizeA Pz 313 = some 16 ∧ bytesSz Pz 313 = some 64 ∧ zeroA Pz 313 = some (.agg [.int .u32 (0), .int .u32 (0), .int .u32 (0), .int .u32 (0), .int .u32 (0), .int .u32 (0), .int .u32 (0), .int .u32 (0), .int .u32 (0), .int .u32 (0), .int .u32 (0), .int .u32 (0), .int .u32 (0), .int .u32 (0), .int .u32 (0), .int .u32 (0)]) := ⟨by kernel_rfl, by kernel_rfl, by kernel_rfl⟩
@[simp] theorem z314 : sizeA Pz 314 = some 1 ∧ bytesSz Pz 314 = some 8 ∧ zeroA Pz 314 = some (.nilf) := ⟨by kernel_rfl, by kernel_rfl, by kernel_rfl⟩
@[simp] theorem z317 : sizeA Pz 317 = some 1 ∧ bytesSz Pz 317 = some 8 ∧ zeroA Pz 317 = some (.nilf) := ⟨by kernel_rfl, by kernel_rfl, by kernel_rfl⟩
@[simp] theorem z318 : sizeA Pz 318 = some 1 ∧ bytesSz Pz 318 = some 0 ∧ zeroA Pz 318 = some (.tuple [.int .u64 (0), .top]) := ⟨by kernel_rfl, by kernel_rfl, by kernel_rfl⟩
@[simp] theorem z319 : sizeA Pz 319 = some 1 ∧ bytesSz Pz 319 = some 8 ∧ zeroA Pz 319 = some (.nilf) := ⟨by kernel_rfl, by kernel_rfl, by kernel_rfl⟩
@[simp] theorem z320 : sizeA Pz 320 = some 3 ∧ bytesSz Pz 320 = some 48 ∧ zeroA Pz 320 = some (.agg [.str [], .str [], .top]) := ⟨by kernel_rfl, by kernel_rfl, by kernel_rfl⟩
@[simp] theorem z321 : sizeA Pz 321 = some 3 ∧ bytesSz Pz 321 = some 48 ∧ zeroA Pz 321 = some (.agg [.str [], .str [], .top]) := ⟨by kernel_rfl, by kernel_rfl, by kernel_rfl⟩
@[simp] theorem z322 : sizeA Pz 322 = some 1 ∧ bytesSz Pz 322 = some 8 ∧ zeroA Pz 322 = some (.nilf) := ⟨by kernel_rfl, by kernel_rfl, by kernel_rfl⟩
@[simp] theorem z323 : sizeA Pz 323 = some 1 ∧ bytesSz Pz 323 = some 8 ∧ zeroA Pz 323 = some (.nilp) := ⟨by kernel_rfl, by kernel_rfl, by kernel_rfl⟩
@[simp] theorem z324 : sizeA Pz 324 = some 1 ∧ bytesSz Pz 324 = some 8 ∧ zeroA Pz 324 = some (.nilf) := ⟨by kernel_rfl, by kernel_rfl, by kernel_rfl⟩
@[simp] theorem z325 : sizeA Pz 325 = some 1 ∧ bytesSz Pz 325 = some 8 ∧ zeroA Pz 325 = some (.nilp) := ⟨by kernel_rfl, by kernel_rfl, by kernel_rfl⟩
@[simp] theorem z327 : sizeA Pz 327 = some 1 ∧ bytesSz Pz 327 = some 8 ∧ zeroA Pz 327 = some (.nilf) := ⟨by kernel_rfl, by kernel_rfl, by kernel_rfl⟩
@[simp] theorem z328 : sizeA Pz 328 = some 24 ∧ bytesSz Pz 328 = some 24 ∧ zeroA Pz 328 = some (.agg [.int .u8 (0), .int .u8 (0), .int .u8 (0), .int .u8 (0), .int .u8 (0), .int .u8 (0), .int .u8 (0), .int .u8 (0), .int .u8 (0), .int .u8 (0), .int .u8 (0), .int .u8 (0), .int .u8 (0), .int .u8 (0), .int .u8 (0), .int .u8 (0), .int .u8 (0), .int .u8 (0), .int .u8 (0), .int .u8 (0), .int .u8 (0), .int .u8 (0), .int .u8 (0), .int .u8 (0)]) := ⟨by kernel_rfl, by kernel_rfl, by kernel_rfl⟩
@[simp] theorem z329 : sizeA Pz 329 = some 1 ∧ bytesSz Pz 329 = some 8 ∧ zeroA Pz 329 = some (.nilf) := ⟨by kernel_rfl, by kernel_rfl, by kernel_rfl⟩
@[simp] theorem z330 : sizeA Pz 330 = some 1 ∧ bytesSz Pz 330 = some 0 ∧ zeroA Pz 330 = some (.tuple [.nils, .str []]) := ⟨by kernel_rfl, by kernel_rfl, by kernel_rfl⟩
@[simp] theorem z334 : sizeA Pz 334 = some 1 ∧ bytesSz Pz 334 = some 8 ∧ zeroA Pz 334 = some (.nilf) := ⟨by kernel_rfl, by kernel_rfl, by kernel_rfl⟩
@[simp] theorem z339 : sizeA Pz 339 = some 1 ∧ bytesSz Pz 339 = some 8 ∧ zeroA Pz 339 = some (.nilp) := ⟨by kernel_rfl, by kernel_rfl, by kernel_rfl⟩
@[simp] theorem z340 : sizeA Pz 340 = some 1 ∧ bytesSz Pz 340 = some 16 ∧ zeroA Pz 340 = some (.agg [.str []]) := ⟨by kernel_rfl, by kernel_rfl, by kernel_rfl⟩
@[simp] theorem z341 : sizeA Pz 341 = some 1 ∧ bytesSz Pz 341 = some 16 ∧ zeroA Pz 341 = some (.agg [.str []]) := ⟨by kernel_rfl, by kernel_rfl, by kernel_rfl⟩
@[simp] theorem z344 : sizeA Pz 344 = some 20 ∧ bytesSz Pz 344 = some 160 ∧ zeroA Pz 344 = some (.agg [.int .u64 (0), .int .u64 (0), .int .u64 (0), .int .u64 (0), .int .u64 (0), .int .u64 (0), .int .u64 (0), .int .u64 (0), .int .u64 (0), .int .u64 (0), .int .u64 (0), .int .u64 (0), .int .u64 (0), .int .u64 (0), .int .u64 (0), .int .u64 (0), .int .u64 (0), .int .u64 (0), .int .u64 (0), .int .u64 (0)]) := ⟨by kernel_rfl, by kernel_rfl, by kernel_rfl⟩
@[simp] theorem z353 : sizeA Pz 353 = some 32 ∧ bytesSz Pz 353 = some 32 ∧ zeroA Pz 353 = some (.agg [.int .u8 (0), .int .u8 (0), .int .u8 (0), .int .u8 (0), .int .u8 (0), .int .u8 (0), .int .u8 (0), .int .u8 (0), .int .u8 (0), .int .u8 (0), .int .u8 (0), .int .u8 (0), .int .u8 (0), .int .u8 (0), .int .u8 (0), .int .u8 (0), .int .u8 (0), .int .u8 (0), .int .u8 (0), .int .u8 (0), .int .u8 (0), .int .u8 (0), .int .u8 (0), .int .u8 (0), .int .u8 (0), .int .u8 (0), .int .u8 (0), .int .u8 (0), .int .u8 (0), .int .u8 (0), .int .u8 (0), .int .u8 (0)]) := ⟨by kernel_rfl, by kernel_rfl, by kernel_rfl⟩
@[simp] theorem z354 : sizeA Pz 354 = some 64 ∧ bytesSz Pz 354 = some 64 ∧ zeroA Pz 354 = some (.agg [.int .u8 (0), .int .u8 (0), .int .u8 (0), .int .u8 (0), .int .u8 (0), .int .u8 (0), .int .u8 (0), .int .u8 (0), .int .u8 (0), .int .u8 (0), .int .u8 (0), .int .u8 (0), .int .u8 (0), .int .u8 (0), .int .u8 (0), .int .u8 (0), .int .u8 (0), .int .u8 (0), .int .u8 (0), .int .u8 (0), .int .u8 (0), .int .u8 (0), .int .u8 (0), .int .u8 (0), .int .u8 (0), .int .u8 (0), .int .u8 (0), .int .u8 (0), .int .u8 (0), .int .u8 (0), .int .u8 (0), .int .u8 (0), .int .u8 (0), .int .u8 (0), .int .u8 (0), .int .u8 (0), .int .u8 (0), .int .u8 (0), .int .u8 (0), .int .u8 (0), .int .u8 (0), .int .u8 (0), .int .u8 (0), .int .u8 (0), .int .u8 (0), .int .u8 (0), .int .u8 (0), .int .u8 (0), .int .u8 (0), .int .u8 (0), .int .u8 (0), .int .u8 (0), .int .u8 (0), .int .u8 (0), .int .u8 (0), .int .u8 (0), .int .u8 (0), .int .u8 (0), .int .u8 (0), .int .u8 (0), .int .u8 (0), .int .u8 (0), .int .u8 (0), .int .u8 (0)]) := ⟨by kernel_rfl, by kernel_rfl, by kernel_rfl⟩
@[simp] theorem z356 : sizeA Pz 356 = some 4 ∧ bytesSz Pz 356 = some 40 ∧ zeroA Pz 356 = some (.agg [.nilp, .nilp, .nilp, .str []]) := ⟨by kernel_rfl, by kernel_rfl, by kernel_rfl⟩
@[simp] theorem z357 : sizeA Pz 357 = some 4 ∧ bytesSz Pz 357 = some 40 ∧ zeroA Pz 357 = some (.agg [.nilp, .nilp, .nilp, .str []]) := ⟨by kernel_rfl, by kernel_rfl, by kernel_rfl⟩
@[simp] theorem z358 : sizeA Pz 358 = some 0 ∧ bytesSz Pz 358 = some 0 ∧ zeroA Pz 358 = some (.agg []) := ⟨by kernel_rfl, by kernel_rfl, by kernel_rfl⟩
@[simp] theorem z359 : sizeA Pz 359 = some 0 ∧ bytesSz Pz 359 = some 0 ∧ zeroA Pz 359 = some (.agg []) := ⟨by kernel_rfl, by kernel_rfl, by kernel_rfl⟩
@[simp] theorem z360 : sizeA Pz 360 = some 0 ∧ bytesSz Pz 360 = some 0 ∧ zeroA Pz 360 = some (.agg []) := ⟨by kernel_rfl, by kernel_rfl, by kernel_rfl⟩
@[simp] theorem z361 : sizeA Pz 361 = some 1 ∧ bytesSz Pz 361 = some 1 ∧ zeroA Pz 361 = some (.int .u8 (0)) := ⟨by kernel_rfl, by kernel_rfl, by kernel_rfl⟩
@[simp] theorem z362 : sizeA Pz 362 = some 1 ∧ bytesSz Pz 362 = some 1 ∧ zeroA Pz 362 = some (.int .u8 (0)) := ⟨by kernel_rfl, by kernel_rfl, by kernel_rfl⟩
@[simp] theorem z363 : sizeA Pz 363 = some 1 ∧ bytesSz Pz 363 = some 8 ∧ zeroA Pz 363 = some (.nilf) := ⟨by kernel_rfl, by kernel_rfl, by kernel_rfl⟩
@[simp] theorem z364 : sizeA Pz 364 = some 1 ∧ bytesSz Pz 364 = some 4 ∧ zeroA Pz 364 = some (.int .i32 (0)) := ⟨by kernel_rfl, by kernel_rfl, by kernel_rfl⟩
@[simp] theorem z365 : sizeA Pz 365 = some 1 ∧ bytesSz Pz 365 = some 4 ∧ zeroA Pz 365 = some (.int .i32 (0)) := ⟨by kernel_rfl, by kernel_rfl, by kernel_rfl⟩
@[simp] theorem z366 : sizeA Pz 366 = some 11 ∧ bytesSz Pz 366 = some 48 ∧ zeroA Pz 366 = some (.agg [.int .u64 (0), .int .u64 (0), .int .u32 (0), .int .u8 (0), .int .u8 (0), .int .u8 (0), .int .u8 (0), .nilf, .nilp, .int .i32 (0), .int .i32 (0)]) := ⟨by kernel_rfl, by kernel_rfl, by kernel_rfl⟩
@[simp] theorem z367 : sizeA Pz 367 = some 11 ∧ bytesSz Pz 367 = some 48 ∧ zeroA Pz 367 = some (.agg [.int .u64 (0), .int .u64 (0), .int .u32 (0), .int .u8 (0), .int .u8 (0), .int .u8 (0), .int .u8 (0), .nilf, .nilp, .int .i32 (0), .int .i32 (0)]) := ⟨by kernel_rfl, by kernel_rfl, by kernel_rfl⟩
@[simp] theorem fe7 : flatEq Pz 7 = some 4 := by kernel_rfl
@[simp] theorem fe8 : flatEq Pz 8 = some 4 := by kernel_rfl
@[simp] theorem fe34 : flatEq Pz 34 = some 2 := by kernel_rfl
@[simp] theorem fe35 : flatEq Pz 35 = some 2 := by kernel_rfl
@[simp] theorem fe90 : flatEq Pz 90 = some 3 := by kernel_rfl
@[simp] theorem fe91 : flatEq Pz 91 = some 3 := by kernel_rfl
@[simp] theorem fe92 : flatEq Pz 92 = some 3 := by kernel_rfl
@[simp] theorem fe93 : flatEq Pz 93 = some 3 := by kernel_rfl
@[simp] theorem fe110 : flatEq Pz 110 = some 3 := by kernel_rfl
@[simp] theorem fe111 : flatEq Pz 111 = some 3 := by kernel_rfl
@[simp] theorem fe131 : flatEq Pz 131 = some 2 := by kernel_rfl
@[simp] theorem fe132 : flatEq Pz 132 = some 2 := by kernel_rfl
@[simp] theorem fe308 : flatEq Pz 308 = some 3 := by kernel_rfl
@[simp] theorem fe309 : flatEq Pz 309 = some 3 := by kernel_rfl
@[simp] theorem fe340 : flatEq Pz 340 = some 1 := by kernel_rfl
@[simp] theorem fe341 : flatEq Pz 341 = some 1 := by kernel_rfl
@[simp] theorem fn2 : fnOf Pz 2 = some Tryz.f2 := Tryz.func2
@[simp] theorem fn3 : fnOf Pz 3 = some Tryz.f3 := Tryz.func3
@[simp] theorem fn4 : fnOf Pz 4 = some Tryz.f4 := Tryz.func4
@[simp] theorem fn5 : fnOf Pz 5 = some Tryz.f5 := Tryz.func5
@[simp] theorem fn6 : fnOf Pz 6 = some Tryz.f6 := Tryz.func6
@[simp] theorem fn7 : fnOf Pz 7 = some Tryz.f7 := Tryz.func7
@[simp] theorem fn8 : fnOf Pz 8 = some Tryz.f8 := Tryz.func8
@[simp] theorem fn9 : fnOf Pz 9 = some Tryz.f9 := Tryz.func9
@[simp] theorem fn10 : fnOf Pz 10 = some Tryz.f10 := Tryz.func10
@[simp] theorem fn11 : fnOf Pz 11 = some Tryz.f11 := Tryz.func11
@[simp] theorem fn12 : fnOf Pz 12 = some Tryz.f12 := Tryz.func12
@[simp] theorem fn13 : fnOf Pz 13 = some Tryz.f13 := Tryz.func13
@[simp] theorem fn14 : fnOf Pz 14 = some Tryz.f14 := Tryz.func14
@[simp] theorem fn15 : fnOf Pz 15 = some Tryz.f15 := Tryz.func15
@[simp] theorem fn16 : fnOf Pz 16 = some Tryz.f16 := Tryz.func16
@[simp] theorem fn17 : fnOf Pz 17 = some Tryz.f17 := Tryz.func17
@[simp] theorem fn18 : fnOf Pz 18 = some Tryz.f18 := Tryz.func18
@[simp] theorem fn19 : fnOf Pz 19 = some Tryz.f19 := Tryz.func19
@[simp] theorem fn20 : fnOf Pz 20 = some Tryz.f20 := Tryz.func20
@[simp] theorem fn21 : fnOf Pz 21 = some Tryz.f21 := Tryz.func21
@[simp] theorem fn22 : fnOf Pz 22 = some Tryz.f22 := Tryz.func22
@[simp] theorem fn23 : fnOf Pz 23 = some Tryz.f23 := Tryz.func23
@[simp] theorem fn24 : fnOf Pz 24 = some Tryz.f24 := Tryz.func24
@[simp] theorem fn25 : fnOf Pz 25 = some Tryz.f25 := Tryz.func25
@[simp] theorem fn26 : fnOf Pz 26 = some Tryz.f26 := Tryz.func26
@[simp] theorem fn27 : fnOf Pz 27 = some Tryz.f27 := Tryz.func27
@[simp] theorem fn28 : fnOf Pz 28 = some Tryz.f28 := Tryz.func28
@[simp] theorem fn29 : fnOf Pz 29 = some Tryz.f29 := Tryz.func29
@[simp] theorem fn30 : fnOf Pz 30 = some Tryz.f30 := Tryz.func30
@[simp] theorem fn31 : fnOf Pz 31 = some Tryz.f31 := Tryz.func31
@[simp] theorem fn32 : fnOf Pz 32 = some Tryz.f32 := Tryz.func32
@[simp] theorem fn33 : fnOf Pz 33 = some Tryz.f33 := Tryz.func33
@[simp] theorem fn34 : fnOf Pz 34 = some Tryz.f34 := Tryz.func34
@[simp] theorem fn35 : fnOf Pz 35 = some Tryz.f35 := Tryz.func35
@[simp] theorem fn36 : fnOf Pz 36 = some Tryz.f36 := Tryz.func36
@[simp] theorem fn37 : fnOf Pz 37 = some Tryz.f37 := Tryz.func37
@[simp] theorem fn38 : fnOf Pz 38 = some Tryz.f38 := Tryz.func38
@[simp] theorem fn39 : fnOf Pz 39 = some Tryz.f39 := Tryz.func39
@[simp] theorem fn40 : fnOf Pz 40 = some Tryz.f40 := Tryz.func40
@[simp] theorem fn41 : fnOf Pz 41 = some Tryz.f41 := Tryz.func41
@[simp] theorem fn42 : fnOf Pz 42 = some Tryz.f42 := Tryz.func42
@[simp] theorem fn43 : fnOf Pz 43 = some Tryz.f43 := Tryz.func43
@[simp] theorem fn44 : fnOf Pz 44 = some Tryz.f44 := Tryz.func44
@[simp] theorem fn45 : fnOf Pz 45 = some Tryz.f45 := Tryz.func45
@[simp] theorem fn46 : fnOf Pz 46 = some Tryz.f46 := Tryz.func46
@[simp] theorem fn47 : fnOf Pz 47 = some Tryz.f47 := Tryz.func47
@[simp] theorem fn48 : fnOf Pz 48 = some Tryz.f48 := Tryz.func48
@[simp] theorem fn49 : fnOf Pz 49 = some Tryz.f49 := Tryz.func49
@[simp] theorem fn50 : fnOf Pz 50 = some Tryz.f50 := Tryz.func50
@[simp] theorem fn51 : fnOf Pz 51 = some Tryz.f51 := Tryz.func51
@[simp] theorem fn52 : fnOf Pz 52 = some Tryz.f52 := Tryz.func52
@[simp] theorem fn53 : fnOf Pz 53 = some Tryz.f53 := Tryz.func53
@[simp] theorem fn54 : fnOf Pz 54 = some Tryz.f54 := Tryz.func54
@[simp] theorem fn55 : fnOf Pz 55 = some Tryz.f55 := Tryz.func55
@[simp] theorem fn56 : fnOf Pz 56 = some Tryz.f56 := Tryz.func56
@[simp] theorem fn57 : fnOf Pz 57 = some Tryz.f57 := Tryz.func57
@[simp] theorem fn58 : fnOf Pz 58 = some Tryz.f58 := Tryz.func58
@[simp] theorem fn59 : fnOf Pz 59 = some Tryz.f59 := Tryz.func59
@[simp] theorem fn60 : fnOf Pz 60 = some Tryz.f60 := Tryz.func60
@[simp] theorem fn61 : fnOf Pz 61 = some Tryz.f61 := Tryz.func61
@[simp] theorem fn62 : fnOf Pz 62 = some Tryz.f62 := Tryz.func62
@[simp] theorem fn63 : fnOf Pz 63 = some Tryz.f63 := Tryz.func63
@[simp] theorem fn64 : fnOf Pz 64 = some Tryz.f64 := Tryz.func64
@[simp] theorem fn65 : fnOf Pz 65 = some Tryz.f65 := Tryz.func65
@[simp] theorem fn66 : fnOf Pz 66 = some Tryz.f66 := Tryz.func66
@[simp] theorem fn67 : fnOf Pz 67 = some Tryz.f67 := Tryz.func67
@[simp] theorem fn68 : fnOf Pz 68 = some Tryz.f68 := Tryz.func68
@[simp] theorem fn69 : fnOf Pz 69 = some Tryz.f69 := Tryz.func69
@[simp] theorem fn70 : fnOf Pz 70 = some Tryz.f70 := Tryz.func70
@[simp] theorem fn71 : fnOf Pz 71 = some Tryz.f71 := Tryz.func71
@[simp] theorem fn72 : fnOf Pz 72 = some Tryz.f72 := Tryz.func72
@[simp] theorem fn73 : fnOf Pz 73 = some Tryz.f73 := Tryz.func73
@[simp] theorem fn74 : fnOf Pz 74 = some Tryz.f74 := Tryz.func74
@[simp] theorem fn75 : fnOf Pz 75 = some Tryz.f75 := Tryz.func75
@[simp] theorem fn76 : fnOf Pz 76 = some Tryz.f76 := Tryz.func76
@[simp] theorem fn77 : fnOf Pz 77 = some Tryz.f77 := Tryz.func77
@[simp] theorem fn78 : fnOf Pz 78 = some Tryz.f78 := Tryz.func78
@[simp] theorem fn79 : fnOf Pz 79 = some Tryz.f79 := Tryz.func79
@[simp] theorem fn80 : fnOf Pz 80 = some Tryz.f80 := Tryz.func80
@[simp] theorem fn81 : fnOf Pz 81 = some Tryz.f81 := Tryz.func81
@[simp] theorem fn82 : fnOf Pz 82 = some Tryz.f82 := Tryz.func82
@[simp] theorem fn83 : fnOf Pz 83 = some Tryz.f83 := Tryz.func83
@[simp] theorem fn84 : fnOf Pz 84 = some Tryz.f84 := Tryz.func84
@[simp] theorem fn85 : fnOf Pz 85 = some Tryz.f85 := Tryz.func85
@[simp] theorem fn86 : fnOf Pz 86 = some Tryz.f86 := Tryz.func86
@[simp] theorem fn87 : fnOf Pz 87 = some Tryz.f87 := Tryz.func87
@[simp] theorem fn88 : fnOf Pz 88 = some Tryz.f88 := Tryz.func88
@[simp] theorem fn89 : fnOf Pz 89 = some Tryz.f89 := Tryz.func89
@[simp] theorem fn90 : fnOf Pz 90 = some Tryz.f90 := Tryz.func90
@[simp] theorem fn91 : fnOf Pz 91 = some Tryz.f91 := Tryz.func91
@[simp] theorem fn92 : fnOf Pz 92 = some Tryz.f92 := Tryz.func92
@[simp] theorem fn93 : fnOf Pz 93 = some Tryz.f93 := Tryz.func93
@[simp] theorem fn94 : fnOf Pz 94 = some Tryz.f94 := Tryz.func94
@[simp] theorem fn95 : fnOf Pz 95 = some Tryz.f95 := Tryz.func95
@[simp] theorem fn96 : fnOf Pz 96 = some Tryz.f96 := Tryz.func96
@[simp] theorem fn97 : fnOf Pz 97 = some Tryz.f97 := Tryz.func97
@[simp] theorem fn98 : fnOf Pz 98 = some Tryz.f98 := Tryz.func98
@[simp] theorem fn99 : fnOf Pz 99 = some Tryz.f99 := Tryz.func99
@[simp] theorem fn100 : fnOf Pz 100 = some Tryz.f100 := Tryz.func100
@[simp] theorem fn101 : fnOf Pz 101 = some Tryz.f101 := Tryz.func101
@[simp] theorem fn102 : fnOf Pz 102 = some Tryz.f102 := Tryz.func102
@[simp] theorem fn103 : fnOf Pz 103 = some Tryz.f103 := Tryz.func103
@[simp] theorem fn104 : fnOf Pz 104 = some Tryz.f104 := Tryz.func104
@[simp] theorem fn105 : fnOf Pz 105 = some Tryz.f105 := Tryz.func105
@[simp] theorem fn106 : fnOf Pz 106 = some Tryz.f106 := Tryz.func106
@[simp] theorem fn107 : fnOf Pz 107 = some Tryz.f107 := Tryz.func107
@[simp] theorem fn108 : fnOf Pz 108 = some Tryz.f108 := Tryz.func108
@[simp] theorem fn109 : fnOf Pz 109 = some Tryz.f109 := Tryz.func109
@[simp] theorem fn110 : fnOf Pz 110 = some Tryz.f110 := Tryz.func110
@[simp] theorem fn111 : fnOf Pz 111 = some Tryz.f111 := Tryz.func111
@[simp] theorem fn112 : fnOf Pz 112 = some Tryz.f112 := Tryz.func112
@[simp] theorem fn113 : fnOf Pz 113 = some Tryz.f113 := Tryz.func113
@[simp] theorem fn114 : fnOf Pz 114 = some Tryz.f114 := Tryz.func114
@[simp] theorem fn115 : fnOf Pz 115 = some Tryz.f115 := Tryz.func115
@[simp] theorem fn116 : fnOf Pz 116 = some Tryz.f116 := Tryz.func116
@[simp] theorem fn117 : fnOf Pz 117 = some Tryz.f117 := Tryz.func117
@[simp] theorem fn118 : fnOf Pz 118 = some Tryz.f118 := Tryz.func118
@[simp] theorem fn119 : fnOf Pz 119 = some Tryz.f119 := Tryz.func119
@[simp] theorem fn120 : fnOf Pz 120 = some Tryz.f120 := Tryz.func120
@[simp] theorem fn121 : fnOf Pz 121 = some Tryz.f121 := Tryz.func121
@[simp] theorem fn122 : fnOf Pz 122 = some Tryz.f122 := Tryz.func122
@[simp] theorem fn123 : fnOf Pz 123 = some Tryz.f123 := Tryz.func123
@[simp] theorem fn124 : fnOf Pz 124 = some Tryz.f124 := Tryz.func124
@[simp] theorem fn125 : fnOf Pz 125 = some Tryz.f125 := Tryz.func125
@[simp] theorem fn126 : fnOf Pz 126 = some Tryz.f126 := Tryz.func126
@[simp] theorem fn127 : fnOf Pz 127 = some Tryz.f127 := Tryz.func127
@[simp] theorem fn128 : fnOf Pz 128 = some Tryz.f128 := Tryz.func128
@[simp] theorem fn129 : fnOf Pz 129 = some Tryz.f129 := Tryz.func129
@[simp] theorem fn130 : fnOf Pz 130 = some Tryz.f130 := Tryz.func130
@[simp] theorem fn131 : fnOf Pz 131 = some Tryz.f131 := Tryz.func131
@[simp] theorem fn132 : fnOf Pz 132 = some Tryz.f132 := Tryz.func132
@[simp] theorem fn133 : fnOf Pz 133 = some Tryz.f133 := Tryz.func133
@[simp] theorem fn134 : fnOf Pz 134 = some Tryz.f134 := Tryz.func134
@[simp] theorem fn135 : fnOf Pz 135 = some Tryz.f135 := Tryz.func135
@[simp] theorem fn136 : fnOf Pz 136 = some Tryz.f136 := Tryz.func136
@[simp] theorem fn137 : fnOf Pz 137 = some Tryz.f137 := Tryz.func137
@[simp] theorem fn138 : fnOf Pz 138 = some Tryz.f138 := Tryz.func138
@[simp] theorem fn139 : fnOf Pz 139 = some Tryz.f139 := Tryz.func139
@[simp] theorem fn140 : fnOf Pz 140 = some Tryz.f140 := Tryz.func140
@[simp] theorem fn141 : fnOf Pz 141 = some Tryz.f141 := Tryz.func141
@[simp] theorem fn142 : fnOf Pz 142 = some Tryz.f142 := Tryz.func142
@[simp] theorem fn143 : fnOf Pz 143 = some Tryz.f143 := Tryz.func143
@[simp] theorem fn144 : fnOf Pz 144 = some Tryz.f144 := Tryz.func144
@[simp] theorem fn145 : fnOf Pz 145 = some Tryz.f145 := Tryz.func145
@[simp] theorem fn146 : fnOf Pz 146 = some Tryz.f146 := Tryz.func146
@[simp] theorem fn147 : fnOf Pz 147 = some Tryz.f147 := Tryz.func147
@[simp] theorem fn148 : fnOf Pz 148 = some Tryz.f148 := Tryz.func148
@[simp] theorem fn149 : fnOf Pz 149 = some Tryz.f149 := Tryz.func149
@[simp] theorem fn150 : fnOf Pz 150 = some Tryz.f150 := Tryz.func150
@[simp] theorem fn151 : fnOf Pz 151 = some Tryz.f151 := Tryz.func151
@[simp] theorem fn152 : fnOf Pz 152 = some Tryz.f152 := Tryz.func152
@[simp] theorem fn153 : fnOf Pz 153 = some Tryz.f153 := Tryz.func153
@[simp] theorem fn154 : fnOf Pz 154 = some Tryz.f154 := Tryz.func154
@[simp] theorem fn155 : fnOf Pz 155 = some Tryz.f155 := Tryz.func155
@[simp] theorem fn156 : fnOf Pz 156 = some Tryz.f156 := Tryz.func156
@[simp] theorem fn157 : fnOf Pz 157 = some Tryz.f157 := Tryz.func157
@[simp] theorem fn158 : fnOf Pz 158 = some Tryz.f158 := Tryz.func158
@[simp] theorem fn159 : fnOf Pz 159 = some Tryz.f159 := Tryz.func159
@[simp] theorem fn160 : fnOf Pz 160 = some Tryz.f160 := Tryz.func160
@[simp] theorem fn161 : fnOf Pz 161 = some Tryz.f161 := Tryz.func161
@[simp] theorem fn162 : fnOf Pz 162 = some Tryz.f162 := Tryz.func162
@[simp] theorem fn163 : fnOf Pz 163 = some Tryz.f163 := Tryz.func163
@[simp] theorem fn164 : fnOf Pz 164 = some Tryz.f164 := Tryz.func164
@[simp] theorem fn165 : fnOf Pz 165 = some Tryz.f165 := Tryz.func165
@[simp] theorem fn166 : fnOf Pz 166 = some Tryz.f166 := Tryz.func166
@[simp] theorem fn167 : fnOf Pz 167 = some Tryz.f167 := Tryz.func167
@[simp] theorem fn168 : fnOf Pz 168 = some Tryz.f168 := Tryz.func168
@[simp] theorem fn169 : fnOf Pz 169 = some Tryz.f169 := Tryz.func169
@[simp] theorem fn170 : fnOf Pz 170 = some Tryz.f170 := Tryz.func170
@[simp] theorem fn171 : fnOf Pz 171 = some Tryz.f171 := Tryz.func171
@[simp] theorem fn172 : fnOf Pz 172 = some Tryz.f172 := Tryz.func172
@[simp] theorem fn173 : fnOf Pz 173 = some Tryz.f173 := Tryz.func173
@[simp] theorem fn174 : fnOf Pz 174 = some Tryz.f174 := Tryz.func174
@[simp] theorem fn175 : fnOf Pz 175 = some Tryz.f175 := Tryz.func175
@[simp] theorem fn176 : fnOf Pz 176 = some Tryz.f176 := Tryz.func176
@[simp] theorem fn178 : fnOf Pz 178 = some Tryz.f178 := Tryz.func178
@[simp] theorem fn179 : fnOf Pz 179 = some Tryz.f179 := Tryz.func179
@[simp] theorem fn180 : fnOf Pz 180 = some Tryz.f180 := Tryz.func180
@[simp] theorem fn181 : fnOf Pz 181 = some Tryz.f181 := Tryz.func181
@[simp] theorem fn182 : fnOf Pz 182 = some Tryz.f182 := Tryz.func182
@[simp] theorem fn183 : fnOf Pz 183 = some Tryz.f183 := Tryz.func183
@[simp] theorem fn184 : fnOf Pz 184 = some Tryz.f184 := Tryz.func184
@[simp] theorem fn185 : fnOf Pz 185 = some Tryz.f185 := Tryz.func185
@[simp] theorem fn186 : fnOf Pz 186 = some Tryz.f186 := Tryz.func186
@[simp] theorem fn187 : fnOf Pz 187 = some Tryz.f187 := Tryz.func187
@[simp] theorem fn188 : fnOf Pz 188 = some Tryz.f188 := Tryz.func188
@[simp] theorem fn189 : fnOf Pz 189 = some Tryz.f189 := Tryz.func189
@[simp] theorem fn190 : fnOf Pz 190 = some Tryz.f190 := Tryz.func190
@[simp] theorem fn191 : fnOf Pz 191 = some Tryz.f191 := Tryz.func191
@[simp] theorem fn192 : fnOf Pz 192 = some Tryz.f192 := Tryz.func192
@[simp] theorem fn193 : fnOf Pz 193 = some Tryz.f193 := Tryz.func193
@[simp] theorem fn194 : fnOf Pz 194 = some Tryz.f194 := Tryz.func194
@[simp] theorem fn195 : fnOf Pz 195 = some Tryz.f195 := Tryz.func195
@[simp] theorem fn196 : fnOf Pz 196 = some Tryz.f196 := Tryz.func196
@[simp] theorem fn197 : fnOf Pz 197 = some Tryz.f197 := Tryz.func197
@[simp] theorem fn198 : fnOf Pz 198 = some Tryz.f198 := Tryz.func198
@[simp] theorem fn199 : fnOf Pz 199 = some Tryz.f199 := Tryz.func199
@[simp] theorem fn200 : fnOf Pz 200 = some Tryz.f200 := Tryz.func200
@[simp] theorem fn201 : fnOf Pz 201 = some Tryz.f201 := Tryz.func201
@[simp] theorem fn202 : fnOf Pz 202 = some Tryz.f202 := Tryz.func202
@[simp] theorem fn203 : fnOf Pz 203 = some Tryz.f203 := Tryz.func203
@[simp] theorem fn204 : fnOf Pz 204 = some Tryz.f204 := Tryz.func204
@[simp] theorem fn205 : fnOf Pz 205 = some Tryz.f205 := Tryz.func205
@[simp] theorem fn206 : fnOf Pz 206 = some Tryz.f206 := Tryz.func206
@[simp] theorem fn207 : fnOf Pz 207 = some Tryz.f207 := Tryz.func207
@[simp] theorem fn208 : fnOf Pz 208 = some Tryz.f208 := Tryz.func208
@[simp] theorem fn209 : fnOf Pz 209 = some Tryz.f209 := Tryz.func209
@[simp] theorem fn210 : fnOf Pz 210 = some Tryz.f210 := Tryz.func210
@[simp] theorem fn211 : fnOf Pz 211 = some Tryz.f211 := Tryz.func211
@[simp] theorem fn212 : fnOf Pz 212 = some Tryz.f212 := Tryz.func212
@[simp] theorem fn213 : fnOf Pz 213 = some Tryz.f213 := Tryz.func213
@[simp] theorem fn214 : fnOf Pz 214 = some Tryz.f214 := Tryz.func214
@[simp] theorem fn215 : fnOf Pz 215 = some Tryz.f215 := Tryz.func215
@[simp] theorem fn216 : fnOf Pz 216 = some Tryz.f216 := Tryz.func216
@[simp] theorem fn217 : fnOf Pz 217 = some Tryz.f217 := Tryz.func217
@[simp] theorem fn218 : fnOf Pz 218 = some Tryz.f218 := Tryz.func218
@[simp] theorem fn219 : fnOf Pz 219 = some Tryz.f219 := Tryz.func219
@[simp] theorem fn220 : fnOf Pz 220 = some Tryz.f220 := Tryz.func220
@[simp] theorem fn221 : fnOf Pz 221 = some Tryz.f221 := Tryz.func221
@[simp] theorem fn222 : fnOf Pz 222 = some Tryz.f222 := Tryz.func222
@[simp] theorem fn223 : fnOf Pz 223 = some Tryz.f223 := Tryz.func223
@[simp] theorem fn224 : fnOf Pz 224 = some Tryz.f224 := Tryz.func224
@[simp] theorem fn225 : fnOf Pz 225 = some Tryz.f225 := Tryz.func225
@[simp] theorem fn226 : fnOf Pz 226 = some Tryz.f226 := Tryz.func226
@[simp] theorem fn227 : fnOf Pz 227 = some Tryz.f227 := Tryz.func227
@[simp] theorem fn228 : fnOf Pz 228 = some Tryz.f228 := Tryz.func228
@[simp] theorem fn229 : fnOf Pz 229 = some Tryz.f229 := Tryz.func229
@[simp] theorem fn230 : fnOf Pz 230 = some Tryz.f230 := Tryz.func230
@[simp] theorem fn231 : fnOf Pz 231 = some Tryz.f231 := Tryz.func231
@[simp] theorem fn232 : fnOf Pz 232 = some Tryz.f232 := Tryz.func232
@[simp] theorem fn233 : fnOf Pz 233 = some Tryz.f233 := Tryz.func233
@[simp] theorem fn234 : fnOf Pz 234 = some Tryz.f234 := Tryz.func234
@[simp] theorem fn235 : fnOf Pz 235 = some Tryz.f235 := Tryz.func235
@[simp] theorem fn236 : fnOf Pz 236 = some Tryz.f236 := Tryz.func236
@[simp] theorem fn237 : fnOf Pz 237 = some Tryz.f237 := Tryz.func237
@[simp] theorem fn238 : fnOf Pz 238 = some Tryz.f238 := Tryz.func238
@[simp] theorem fn239 : fnOf Pz 239 = some Tryz.f239 := Tryz.func239
@[simp] theorem fn240 : fnOf Pz 240 = some Tryz.f240 := Tryz.func240
@[simp] theorem fn241 : fnOf Pz 241 = some Tryz.f241 := Tryz.func241
@[simp] theorem fn242 : fnOf Pz 242 = some Tryz.f242 := Tryz.func242
@[simp] theorem fn243 : fnOf Pz 243 = some Tryz.f243 := Tryz.func243
@[simp] theorem fn244 : fnOf Pz 244 = some Tryz.f244 := Tryz.func244
@[simp] theorem fn245 : fnOf Pz 245 = some Tryz.f245 := Tryz.func245
@[simp] theorem fn246 : fnOf Pz 246 = some Tryz.f246 := Tryz.func246
@[simp] theorem fn247 : fnOf Pz 247 = some Tryz.f247 := Tryz.func247
@[simp] theorem fn248 : fnOf Pz 248 = some Tryz.f248 := Tryz.func248
@[simp] theorem fn249 : fnOf Pz 249 = some Tryz.f249 := Tryz.func249
@[simp] theorem fn250 : fnOf Pz 250 = some Tryz.f250 := Tryz.func250
@[simp] theorem fn251 : fnOf Pz 251 = some Tryz.f251 := Tryz.func251
@[simp] theorem fn252 : fnOf Pz 252 = some Tryz.f252 := Tryz.func252
@[simp] theorem fn253 : fnOf Pz 253 = some Tryz.f253 := Tryz.func253
@[simp] theorem fn254 : fnOf Pz 254 = some Tryz.f254 := Tryz.func254
@[simp] theorem fn255 : fnOf Pz 255 = some Tryz.f255 := Tryz.func255
@[simp] theorem fn256 : fnOf Pz 256 = some Tryz.f256 := Tryz.func256
@[simp] theorem fn257 : fnOf Pz 257 = some Tryz.f257 := Tryz.func257
@[simp] theorem fn258 : fnOf Pz 258 = some Tryz.f258 := Tryz.func258
@[simp] theorem fn259 : fnOf Pz 259 = some Tryz.f259 := Tryz.func259
@[simp] theorem fn260 : fnOf Pz 260 = some Tryz.f260 := Tryz.func260
@[simp] theorem fn261 : fnOf Pz 261 = some Tryz.f261 := Tryz.func261
@[simp] theorem fn262 : fnOf Pz 262 = some Tryz.f262 := Tryz.func262
@[simp] theorem fn263 : fnOf Pz 263 = some Tryz.f263 := Tryz.func263
@[simp] theorem fn264 : fnOf Pz 264 = some Tryz.f264 := Tryz.func264
@[simp] theorem fn265 : fnOf Pz 265 = some Tryz.f265 := Tryz.func265
@[simp] theorem fn266 : fnOf Pz 266 = some Tryz.f266 := Tryz.func266
@[simp] theorem fn267 : fnOf Pz 267 = some Tryz.f267 := Tryz.func267
@[simp] theorem fn268 : fnOf Pz 268 = some Tryz.f268 := Tryz.func268
@[simp] theorem fn269 : fnOf Pz 269 = some Tryz.f269 := Tryz.func269
@[simp] theorem fn270 : fnOf Pz 270 = some Tryz.f270 := Tryz.func270
@[simp] theorem fn271 : fnOf Pz 271 = some Tryz.f271 := Tryz.func271
@[simp] theorem fn272 : fnOf Pz 272 = some Tryz.f272 := Tryz.func272
@[simp] theorem fn273 : fnOf Pz 273 = some Tryz.f273 := Tryz.func273
@[simp] theorem fn274 : fnOf Pz 274 = some Tryz.f274 := Tryz.func274
@[simp] theorem fn275 : fnOf Pz 275 = some Tryz.f275 := Tryz.func275
@[simp] theorem fn276 : fnOf Pz 276 = some Tryz.f276 := Tryz.func276
@[simp] theorem fn279 : fnOf Pz 279 = some Tryz.f279 := Tryz.func279
@[simp] theorem fn280 : fnOf Pz 280 = some Tryz.f280 := Tryz.func280
@[simp] theorem fn281 : fnOf Pz 281 = some Tryz.f281 := Tryz.func281
@[simp] theorem fn282 : fnOf Pz 282 = some Tryz.f282 := Tryz.func282
@[simp] theorem fn283 : fnOf Pz 283 = some Tryz.f283 := Tryz.func283
@[simp] theorem fn284 : fnOf Pz 284 = some Tryz.f284 := Tryz.func284
@[simp] theorem fn285 : fnOf Pz 285 = some Tryz.f285 := Tryz.func285
@[simp] theorem fn286 : fnOf Pz 286 = some Tryz.f286 := Tryz.func286
@[simp] theorem fn287 : fnOf Pz 287 = some Tryz.f287 := Tryz.func287
@[simp] theorem fn288 : fnOf Pz 288 = some Tryz.f288 := Tryz.func288
@[simp] theorem fn289 : fnOf Pz 289 = some Tryz.f289 := Tryz.func289
@[simp] theorem fn290 : fnOf Pz 290 = some Tryz.f290 := Tryz.func290
@[simp] theorem fn291 : fnOf Pz 291 = some Tryz.f291 := Tryz.func291
@[simp] theorem fn292 : fnOf Pz 292 = some Tryz.f292 := Tryz.func292
@[simp] theorem fn293 : fnOf Pz 293 = some Tryz.f293 := Tryz.func293
@[simp] theorem fn294 : fnOf Pz 294 = some Tryz.f294 := Tryz.func294
@[simp] theorem fn295 : fnOf Pz 295 = some Tryz.f295 := Tryz.func295
@[simp] theorem fn296 : fnOf Pz 296 = some Tryz.f296 := Tryz.func296
@[simp] theorem fn297 : fnOf Pz 297 = some Tryz.f297 := Tryz.func297
@[simp] theorem fn298 : fnOf Pz 298 = some Tryz.f298 := Tryz.func298
@[simp] theorem fn299 : fnOf Pz 299 = some Tryz.f299 := Tryz.func299
@[simp] theorem fn300 : fnOf Pz 300 = some Tryz.f300 := Tryz.func300
@[simp] theorem fn301 : fnOf Pz 301 = some Tryz.f301 := Tryz.func301
@[simp] theorem fn302 : fnOf Pz 302 = some Tryz.f302 := Tryz.func302
@[simp] theorem fn303 : fnOf Pz 303 = some Tryz.f303 := Tryz.func303
@[simp] theorem fn304 : fnOf Pz 304 = some Tryz.f304 := Tryz.func304
@[simp] theorem fn305 : fnOf Pz 305 = some Tryz.f305 := Tryz.func305
@[simp] theorem fn306 : fnOf Pz 306 = some Tryz.f306 := Tryz.func306
@[simp] theorem fn307 : fnOf Pz 307 = some Tryz.f307 := Tryz.func307
@[simp] theorem fn308 : fnOf Pz 308 = some Tryz.f308 := Tryz.func308
@[simp] theorem fn338 : fnOf Pz 338 = some Tryz.f338 := Tryz.func338
attribute [simp] Tryz.underlying0 Tryz.underlying1 Tryz.underlying2 Tryz.underlying3 Tryz.underlying4 Tryz.underlying5 Tryz.underlying6 Tryz.underlying7 Tryz.underlying8 Tryz.underlying9 Tryz.underlying10 Tryz.underlying11 Tryz.underlying12 Tryz.underlying15 Tryz.underlying16 Tryz.underlying17 Tryz.underlying18 Tryz.underlying19 Tryz.underlying20 Tryz.underlying21 Tryz.underlying22 Tryz.underlying23 Tryz.underlying24 Tryz.underlying25 Tryz.underlying26 Tryz.underlying27 Tryz.underlying28 Tryz.underlying29 Tryz.underlying30 Tryz.underlying31 Tryz.underlying32 Tryz.underlying33 Tryz.underlying34 Tryz.underlying35 Tryz.underlying36 Tryz.underlying37 Tryz.underlying39 Tryz.underlying40 Tryz.underlying43 Tryz.underlying44 Tryz.underlying45 Tryz.underlying47 Tryz.underlying48 Tryz.underlying49 Tryz.underlying50 Tryz.underlying51 Tryz.underlying52 Tryz.underlying53 Tryz.underlying54 Tryz.underlying55 Tryz.underlying56 Tryz.underlying57 Tryz.underlying58 Tryz.underlying59 Tryz.underlying60 Tryz.underlying61 Tryz.underlying62 Tryz.underlying64 Tryz.underlying65 Tryz.underlying66 Tryz.underlying67 Tryz.underlying68 Tryz.underlying69 Tryz.underlying71 Tryz.underlying72 Tryz.underlying73 Tryz.underlying74 Tryz.underlying75 Tryz.underlying77 Tryz.underlying78 Tryz.underlying79 Tryz.underlying80 Tryz.underlying81 Tryz.underlying82 Tryz.underlying86 Tryz.underlying90 Tryz.underlying91 Tryz.underlying92 Tryz.underlying93 Tryz.underlying94 Tryz.underlying95 Tryz.underlying97 Tryz.underlying98 Tryz.underlying99 Tryz.underlying101 Tryz.underlying102 Tryz.underlying103 Tryz.underlying105 Tryz.underlying107 Tryz.underlying109 Tryz.underlying110 Tryz.underlying111 Tryz.underlying112 Tryz.underlying113 Tryz.underlying114 Tryz.underlying115 Tryz.underlying116 Tryz.underlying117 Tryz.underlying118 Tryz.underlying121 Tryz.underlying122 Tryz.underlying123 Tryz.underlying124 Tryz.underlying125 Tryz.underlying126 Tryz.underlying127 Tryz.underlying128 Tryz.underlying129 Tryz.underlying130 Tryz.underlying131 Tryz.underlying132 Tryz.underlying133 Tryz.underlying134 Tryz.underlying135 Tryz.underlying140 Tryz.underlying141 Tryz.underlying142 Tryz.underlying143 Tryz.underlying148 Tryz.underlying149 Tryz.underlying152 Tryz.underlying154 Tryz.underlying157 Tryz.underlying159 Tryz.underlying160 Tryz.underlying162 Tryz.underlying166 Tryz.underlying167 Tryz.underlying168 Tryz.underlying170 Tryz.underlying173 Tryz.underlying174 Tryz.underlying175 Tryz.underlying176 Tryz.underlying177 Tryz.underlying179 Tryz.underlying181 Tryz.underlying182 Tryz.underlying184 Tryz.underlying185 Tryz.underlying186 Tryz.underlying188 Tryz.underlying192 Tryz.underlying193 Tryz.underlying194 Tryz.underlying195 Tryz.underlying198 Tryz.underlying200 Tryz.underlying201 Tryz.underlying202 Tryz.underlying203 Tryz.underlying204 Tryz.underlying206 Tryz.underlying207 Tryz.underlying208 Tryz.underlying209 Tryz.underlying210 Tryz.underlying211 Tryz.underlying212 Tryz.underlying213 Tryz.underlying216 Tryz.underlying217 Tryz.underlying220 Tryz.underlying221 Tryz.underlying222 Tryz.underlying224 Tryz.underlying225 Tryz.underlying226 Tryz.underlying227 Tryz.underlying234 Tryz.underlying240 Tryz.underlying241 Tryz.underlying242 Tryz.underlying243 Tryz.underlying250 Tryz.underlying257 Tryz.underlying258 Tryz.underlying271 Tryz.underlying272 Tryz.underlying273 Tryz.underlying287 Tryz.underlying288 Tryz.underlying290 Tryz.underlying293 Tryz.underlying295 Tryz.underlying297 Tryz.underlying299 Tryz.underlying308 Tryz.underlying309 Tryz.underlying310 Tryz.underlying311 Tryz.underlying312 Tryz.underlying313 Tryz.underlying314 Tryz.underlying317 Tryz.underlying318 Tryz.underlying319 Tryz.underlying320 Tryz.underlying321 Tryz.underlying322 Tryz.underlying323 Tryz.underlying324 Tryz.underlying325 Tryz.underlying327 Tryz.underlying328 Tryz.underlying329 Tryz.underlying330 Tryz.underlying334 Tryz.underlying339 Tryz.underlying340 Tryz.underlying341 Tryz.underlying344 Tryz.underlying345 Tryz.underlying353 Tryz.underlying354 Tryz.underlying356 Tryz.underlying357 Tryz.underlying358 Tryz.underlying359 Tryz.underlying360 Tryz.underlying361 Tryz.underlying362 Tryz.underlying363 Tryz.underlying364 Tryz.underlying365 Tryz.underlying366 Tryz.underlying367
end Go.Proofs.YtpmfecnajoojeaaGreatDoor
