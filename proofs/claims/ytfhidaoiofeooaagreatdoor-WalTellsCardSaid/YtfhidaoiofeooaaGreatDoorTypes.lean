/- The types of the translation: their sizes and their zeros, as facts (printed by wip/tools/types.lean). -/
import Derived.Test.YtfhidaoiofeooaaGreatDoorY3
import Derived.Test.YtfhidaoiofeooaaGreatDoorProg
namespace Go.Proofs.YtfhidaoiofeooaaGreatDoor
open _root_.Go.Proofs.Tryz renaming prog → Pz
open Go
theorem hmix : Tryz.prog.follows .mixedOrders = true := by kernel_rfl
abbrev wY (t s b : Nat) (v : AV) : Prop := ZF Pz t = some s /\ zCP Pz t = some b /\ zCG Pz t = some v
theorem wK {t s b : Nat} {v : AV} (h : (ZF Pz t, zCP Pz t, zCG Pz t) = (some s, some b, some v)) : wY t s b v := by simpa using h
@[simp] theorem z0 : wY 0 1 0 (.tuple []) := wK (by kernel_rfl)
@[simp] theorem z1 : wY 1 1 8 (.nilf) := wK (by kernel_rfl)
@[simp] theorem z2 : wY 2 1 8 (.int .i64 0) := wK (by kernel_rfl)
@[simp] theorem z3 : wY 3 1 8 (.int .i64 0) := wK (by kernel_rfl)
@[simp] theorem z4 : wY 4 1 1 (.bool false) := wK (by kernel_rfl)
@[simp] theorem z5 : wY 5 1 1 (.int .u8 0) := wK (by kernel_rfl)
@[simp] theorem z6 : wY 6 1 1 (.int .u8 0) := wK (by kernel_rfl)
@[simp] theorem z7 : wY 7 4 24 (.agg [.int .i64 0, .int .i64 0, .bool false, .int .u8 0]) := wK (by kernel_rfl)
@[simp] theorem z8 : wY 8 4 24 (.agg [.int .i64 0, .int .i64 0, .bool false, .int .u8 0]) := wK (by kernel_rfl)
@[simp] theorem z9 : wY 9 1 16 (.str []) := wK (by kernel_rfl)
@[simp] theorem z10 : wY 10 1 16 (.str []) := wK (by kernel_rfl)
@[simp] theorem z11 : wY 11 1 16 (.str []) := wK (by kernel_rfl)
@[simp] theorem z12 : wY 12 1 8 (.int .u64 0) := wK (by kernel_rfl)
@[simp] theorem z13 : wY 13 2 24 (.agg [.str [], .int .u64 0]) := wK (by kernel_rfl)
@[simp] theorem z14 : wY 14 2 24 (.agg [.str [], .int .u64 0]) := wK (by kernel_rfl)
@[simp] theorem z15 : wY 15 1 8 (.nilp) := wK (by kernel_rfl)
@[simp] theorem z16 : wY 16 1 8 (.nilp) := wK (by kernel_rfl)
@[simp] theorem z17 : wY 17 1 8 (.nilp) := wK (by kernel_rfl)
@[simp] theorem z20 : wY 20 1 16 (.top) := wK (by kernel_rfl)
@[simp] theorem z21 : wY 21 1 4 (.int .i32 0) := wK (by kernel_rfl)
@[simp] theorem z22 : wY 22 1 2 (.int .u16 0) := wK (by kernel_rfl)
@[simp] theorem z23 : wY 23 1 2 (.int .i16 0) := wK (by kernel_rfl)
@[simp] theorem z24 : wY 24 3 6 (.agg [.int .i16 0, .int .i16 0, .int .i16 0]) := wK (by kernel_rfl)
@[simp] theorem z25 : wY 25 1 24 (.nils) := wK (by kernel_rfl)
@[simp] theorem z26 : wY 26 1 8 (.nilp) := wK (by kernel_rfl)
@[simp] theorem z27 : wY 27 1 8 (.nilf) := wK (by kernel_rfl)
@[simp] theorem z28 : wY 28 1 8 (.nilp) := wK (by kernel_rfl)
@[simp] theorem z30 : wY 30 1 8 (.nilf) := wK (by kernel_rfl)
@[simp] theorem z31 : wY 31 1 8 (.nilp) := wK (by kernel_rfl)
@[simp] theorem z32 : wY 32 1 8 (.nilf) := wK (by kernel_rfl)
@[simp] theorem z33 : wY 33 1 8 (.nilp) := wK (by kernel_rfl)
@[simp] theorem z35 : wY 35 1 24 (.nils) := wK (by kernel_rfl)
@[simp] theorem z36 : wY 36 1 24 (.nils) := wK (by kernel_rfl)
@[simp] theorem z37 : wY 37 4 56 (.agg [.int .u8 0, .int .u8 0, .nils, .nils]) := wK (by kernel_rfl)
@[simp] theorem z38 : wY 38 4 56 (.agg [.int .u8 0, .int .u8 0, .nils, .nils]) := wK (by kernel_rfl)
@[simp] theorem z39 : wY 39 1 8 (.int .i64 0) := wK (by kernel_rfl)
@[simp] theorem z40 : wY 40 1 8 (.nilf) := wK (by kernel_rfl)
@[simp] theorem z41 : wY 41 1 8 (.nilf) := wK (by kernel_rfl)
@[simp] theorem z42 : wY 42 1 8 (.nilf) := wK (by kernel_rfl)
@[simp] theorem z43 : wY 43 6 48 (.agg [.nilp, .int .i64 0, .int .i64 0, .int .i64 0, .bool false, .int .i64 0]) := wK (by kernel_rfl)
@[simp] theorem z44 : wY 44 6 48 (.agg [.nilp, .int .i64 0, .int .i64 0, .int .i64 0, .bool false, .int .i64 0]) := wK (by kernel_rfl)
@[simp] theorem z45 : wY 45 1 8 (.nilf) := wK (by kernel_rfl)
@[simp] theorem z46 : wY 46 1 4 (.int .u32 0) := wK (by kernel_rfl)
@[simp] theorem z47 : wY 47 3 24 (.agg [.str [], .int .u32 0, .bool false]) := wK (by kernel_rfl)
@[simp] theorem z48 : wY 48 3 24 (.agg [.str [], .int .u32 0, .bool false]) := wK (by kernel_rfl)
@[simp] theorem z49 : wY 49 1 8 (.nilf) := wK (by kernel_rfl)
@[simp] theorem z50 : wY 50 1 8 (.nilf) := wK (by kernel_rfl)
@[simp] theorem z51 : wY 51 1 8 (.nilf) := wK (by kernel_rfl)
@[simp] theorem z52 : wY 52 1 24 (.nils) := wK (by kernel_rfl)
@[simp] theorem z53 : wY 53 1 24 (.nils) := wK (by kernel_rfl)
@[simp] theorem z54 : wY 54 1 8 (.nilf) := wK (by kernel_rfl)
@[simp] theorem z55 : wY 55 1 24 (.nils) := wK (by kernel_rfl)
@[simp] theorem z56 : wY 56 1 8 (.nilf) := wK (by kernel_rfl)
@[simp] theorem z57 : wY 57 1 8 (.nilf) := wK (by kernel_rfl)
@[simp] theorem z59 : wY 59 1 8 (.nilf) := wK (by kernel_rfl)
@[simp] theorem z61 : wY 61 1 24 (.nils) := wK (by kernel_rfl)
@[simp] theorem z62 : wY 62 3 56 (.agg [.int .u8 0, .nils, .nils]) := wK (by kernel_rfl)
@[simp] theorem z63 : wY 63 3 56 (.agg [.int .u8 0, .nils, .nils]) := wK (by kernel_rfl)
@[simp] theorem z64 : wY 64 1 24 (.nils) := wK (by kernel_rfl)
@[simp] theorem z65 : wY 65 4 48 (.agg [.int .i64 0, .int .i64 0, .int .i64 0, .nils]) := wK (by kernel_rfl)
@[simp] theorem z66 : wY 66 4 48 (.agg [.int .i64 0, .int .i64 0, .int .i64 0, .nils]) := wK (by kernel_rfl)
@[simp] theorem z67 : wY 67 1 8 (.nilf) := wK (by kernel_rfl)
@[simp] theorem z68 : wY 68 1 24 (.nils) := wK (by kernel_rfl)
@[simp] theorem z69 : wY 69 1 8 (.nilf) := wK (by kernel_rfl)
@[simp] theorem z70 : wY 70 1 8 (.nilf) := wK (by kernel_rfl)
@[simp] theorem z71 : wY 71 1 8 (.nilf) := wK (by kernel_rfl)
@[simp] theorem z72 : wY 72 2 32 (.agg [.str [], .str []]) := wK (by kernel_rfl)
@[simp] theorem z73 : wY 73 2 32 (.agg [.str [], .str []]) := wK (by kernel_rfl)
@[simp] theorem z74 : wY 74 1 8 (.nilf) := wK (by kernel_rfl)
@[simp] theorem z75 : wY 75 1 8 (.nilf) := wK (by kernel_rfl)
@[simp] theorem z76 : wY 76 4 48 (.agg [.int .i64 0, .int .i64 0, .int .i64 0, .nils]) := wK (by kernel_rfl)
@[simp] theorem z77 : wY 77 1 8 (.nilf) := wK (by kernel_rfl)
@[simp] theorem z78 : wY 78 1 8 (.nilf) := wK (by kernel_rfl)
@[simp] theorem z80 : wY 80 1 8 (.nilf) := wK (by kernel_rfl)
@[simp] theorem z81 : wY 81 1 8 (.nilf) := wK (by kernel_rfl)
@[simp] theorem z82 : wY 82 1 8 (.nilf) := wK (by kernel_rfl)
@[simp] theorem z83 : wY 83 1 8 (.nilf) := wK (by kernel_rfl)
@[simp] theorem z84 : wY 84 1 0 (.tuple [.int .i64 0, .int .i64 0]) := wK (by kernel_rfl)
@[simp] theorem z85 : wY 85 1 8 (.nilf) := wK (by kernel_rfl)
@[simp] theorem z87 : wY 87 1 8 (.nilf) := wK (by kernel_rfl)
@[simp] theorem z88 : wY 88 1 8 (.nilp) := wK (by kernel_rfl)
@[simp] theorem z89 : wY 89 1 24 (.nils) := wK (by kernel_rfl)
@[simp] theorem z90 : wY 90 6 64 (.agg [.nilp, .nils, .int .i64 0, .int .i64 0, .int .i64 0, .bool false]) := wK (by kernel_rfl)
@[simp] theorem z91 : wY 91 6 64 (.agg [.nilp, .nils, .int .i64 0, .int .i64 0, .int .i64 0, .bool false]) := wK (by kernel_rfl)
@[simp] theorem z92 : wY 92 1 8 (.nilf) := wK (by kernel_rfl)
@[simp] theorem z93 : wY 93 1 8 (.nilf) := wK (by kernel_rfl)
@[simp] theorem z94 : wY 94 1 24 (.nils) := wK (by kernel_rfl)
@[simp] theorem z95 : wY 95 4 40 (.agg [.int .u8 0, .int .u8 0, .nils, .bool false]) := wK (by kernel_rfl)
@[simp] theorem z96 : wY 96 4 40 (.agg [.int .u8 0, .int .u8 0, .nils, .bool false]) := wK (by kernel_rfl)
@[simp] theorem z97 : wY 97 8 88 (.agg [.int .u8 0, .int .u8 0, .int .u8 0, .int .u8 0, .nils, .bool false, .str [], .nils]) := wK (by kernel_rfl)
@[simp] theorem z98 : wY 98 8 88 (.agg [.int .u8 0, .int .u8 0, .int .u8 0, .int .u8 0, .nils, .bool false, .str [], .nils]) := wK (by kernel_rfl)
@[simp] theorem z99 : wY 99 1 8 (.nilf) := wK (by kernel_rfl)
@[simp] theorem z100 : wY 100 1 0 (.tuple [.top, .int .i64 0]) := wK (by kernel_rfl)
@[simp] theorem z104 : wY 104 1 8 (.nilf) := wK (by kernel_rfl)
@[simp] theorem z105 : wY 105 1 8 (.nilf) := wK (by kernel_rfl)
@[simp] theorem z106 : wY 106 1 24 (.nils) := wK (by kernel_rfl)
@[simp] theorem z107 : wY 107 4 64 (.agg [.int .u8 0, .nils, .str [], .str []]) := wK (by kernel_rfl)
@[simp] theorem z108 : wY 108 4 64 (.agg [.int .u8 0, .nils, .str [], .str []]) := wK (by kernel_rfl)
@[simp] theorem z109 : wY 109 3 24 (.agg [.int .i64 0, .int .i64 0, .int .i64 0]) := wK (by kernel_rfl)
@[simp] theorem z110 : wY 110 1 24 (.nils) := wK (by kernel_rfl)
@[simp] theorem z111 : wY 111 1 0 (.tuple [.nils, .int .i64 0]) := wK (by kernel_rfl)
@[simp] theorem z112 : wY 112 1 8 (.nilf) := wK (by kernel_rfl)
@[simp] theorem z114 : wY 114 4 64 (.agg [.nils, .nils, .int .i64 0, .bool false]) := wK (by kernel_rfl)
@[simp] theorem z115 : wY 115 4 64 (.agg [.nils, .nils, .int .i64 0, .bool false]) := wK (by kernel_rfl)
@[simp] theorem z117 : wY 117 1 8 (.nilf) := wK (by kernel_rfl)
@[simp] theorem z127 : wY 127 6 48 (.agg [.nilp, .int .i64 0, .int .i64 0, .int .i64 0, .int .i64 0, .bool false]) := wK (by kernel_rfl)
@[simp] theorem z128 : wY 128 6 48 (.agg [.nilp, .int .i64 0, .int .i64 0, .int .i64 0, .int .i64 0, .bool false]) := wK (by kernel_rfl)
@[simp] theorem z129 : wY 129 1 8 (.nilf) := wK (by kernel_rfl)
@[simp] theorem z130 : wY 130 1 8 (.nilf) := wK (by kernel_rfl)
@[simp] theorem z131 : wY 131 1 8 (.nilp) := wK (by kernel_rfl)
@[simp] theorem z132 : wY 132 1 8 (.nilm) := wK (by kernel_rfl)
@[simp] theorem z133 : wY 133 6 48 (.agg [.nilp, .nilm, .int .i64 0, .int .i64 0, .int .i64 0, .bool false]) := wK (by kernel_rfl)
@[simp] theorem z134 : wY 134 6 48 (.agg [.nilp, .nilm, .int .i64 0, .int .i64 0, .int .i64 0, .bool false]) := wK (by kernel_rfl)
@[simp] theorem z135 : wY 135 1 8 (.agg [.nilf]) := wK (by kernel_rfl)
@[simp] theorem z136 : wY 136 1 8 (.agg [.nilf]) := wK (by kernel_rfl)
@[simp] theorem z138 : wY 138 1 0 (.tuple [.int .i64 0, .bool false]) := wK (by kernel_rfl)
@[simp] theorem z139 : wY 139 1 8 (.nilf) := wK (by kernel_rfl)
@[simp] theorem z140 : wY 140 1 8 (.nilp) := wK (by kernel_rfl)
@[simp] theorem z141 : wY 141 2 16 (.agg [.int .i64 0, .int .i64 0]) := wK (by kernel_rfl)
@[simp] theorem z142 : wY 142 2 16 (.agg [.int .i64 0, .int .i64 0]) := wK (by kernel_rfl)
@[simp] theorem z143 : wY 143 1 8 (.nilf) := wK (by kernel_rfl)
@[simp] theorem z144 : wY 144 1 8 (.nilf) := wK (by kernel_rfl)
@[simp] theorem z145 : wY 145 1 8 (.nilp) := wK (by kernel_rfl)
@[simp] theorem z146 : wY 146 1 8 (.nilp) := wK (by kernel_rfl)
@[simp] theorem z147 : wY 147 1 8 (.nilf) := wK (by kernel_rfl)
@[simp] theorem z148 : wY 148 1 8 (.nilf) := wK (by kernel_rfl)
@[simp] theorem z149 : wY 149 2 16 (.agg [.int .i64 0, .int .i64 0]) := wK (by kernel_rfl)
@[simp] theorem z150 : wY 150 1 8 (.nilf) := wK (by kernel_rfl)
@[simp] theorem z151 : wY 151 1 0 (.tuple [.str [], .int .i64 0]) := wK (by kernel_rfl)
@[simp] theorem z154 : wY 154 1 8 (.nilf) := wK (by kernel_rfl)
@[simp] theorem z156 : wY 156 1 24 (.nils) := wK (by kernel_rfl)
@[simp] theorem z157 : wY 157 2 40 (.agg [.str [], .nils]) := wK (by kernel_rfl)
@[simp] theorem z158 : wY 158 2 40 (.agg [.str [], .nils]) := wK (by kernel_rfl)
@[simp] theorem z159 : wY 159 1 8 (.nilf) := wK (by kernel_rfl)
@[simp] theorem z160 : wY 160 1 8 (.nilf) := wK (by kernel_rfl)
@[simp] theorem z161 : wY 161 1 8 (.nilf) := wK (by kernel_rfl)
@[simp] theorem z162 : wY 162 1 8 (.nilf) := wK (by kernel_rfl)
@[simp] theorem z163 : wY 163 1 8 (.nilf) := wK (by kernel_rfl)
@[simp] theorem z164 : wY 164 1 8 (.nilf) := wK (by kernel_rfl)
@[simp] theorem z165 : wY 165 1 0 (.tuple [.nils, .int .i64 0]) := wK (by kernel_rfl)
@[simp] theorem z167 : wY 167 1 8 (.nilf) := wK (by kernel_rfl)
@[simp] theorem z168 : wY 168 1 8 (.nilf) := wK (by kernel_rfl)
@[simp] theorem z169 : wY 169 1 0 (.tuple [.nilp, .nilp]) := wK (by kernel_rfl)
@[simp] theorem z172 : wY 172 3 24 (.agg [.int .i64 0, .int .i64 0, .int .i64 0]) := wK (by kernel_rfl)
@[simp] theorem z173 : wY 173 3 24 (.agg [.int .i64 0, .int .i64 0, .int .i64 0]) := wK (by kernel_rfl)
@[simp] theorem z174 : wY 174 3 24 (.agg [.int .u8 0, .int .u8 0, .str []]) := wK (by kernel_rfl)
@[simp] theorem z175 : wY 175 3 24 (.agg [.int .u8 0, .int .u8 0, .str []]) := wK (by kernel_rfl)
@[simp] theorem z176 : wY 176 1 8 (.nilf) := wK (by kernel_rfl)
@[simp] theorem z177 : wY 177 1 8 (.nilf) := wK (by kernel_rfl)
@[simp] theorem z178 : wY 178 1 0 (.tuple [.int .i64 0, .int .i64 0]) := wK (by kernel_rfl)
@[simp] theorem z179 : wY 179 1 8 (.nilf) := wK (by kernel_rfl)
@[simp] theorem z180 : wY 180 1 8 (.nilf) := wK (by kernel_rfl)
@[simp] theorem z184 : wY 184 4 48 (.agg [.int .i64 0, .int .i64 0, .int .i64 0, .nils]) := wK (by kernel_rfl)
@[simp] theorem z185 : wY 185 4 48 (.agg [.int .i64 0, .int .i64 0, .int .i64 0, .nils]) := wK (by kernel_rfl)
@[simp] theorem z188 : wY 188 1 8 (.nilf) := wK (by kernel_rfl)
@[simp] theorem z191 : wY 191 1 8 (.nilf) := wK (by kernel_rfl)
@[simp] theorem z192 : wY 192 1 8 (.nilf) := wK (by kernel_rfl)
@[simp] theorem z193 : wY 193 1 0 (.tuple [.nilp, .int .i64 0]) := wK (by kernel_rfl)
@[simp] theorem z194 : wY 194 1 8 (.nilf) := wK (by kernel_rfl)
@[simp] theorem z196 : wY 196 1 8 (.nilf) := wK (by kernel_rfl)
@[simp] theorem z200 : wY 200 1 8 (.nilf) := wK (by kernel_rfl)
@[simp] theorem z201 : wY 201 1 8 (.nilf) := wK (by kernel_rfl)
@[simp] theorem z202 : wY 202 1 8 (.nilf) := wK (by kernel_rfl)
@[simp] theorem z207 : wY 207 3 48 (.agg [.int .u8 0, .nils, .str []]) := wK (by kernel_rfl)
@[simp] theorem z208 : wY 208 3 48 (.agg [.int .u8 0, .nils, .str []]) := wK (by kernel_rfl)
@[simp] theorem z209 : wY 209 1 8 (.nilf) := wK (by kernel_rfl)
@[simp] theorem z215 : wY 215 1 8 (.nilf) := wK (by kernel_rfl)
@[simp] theorem z217 : wY 217 1 8 (.nilf) := wK (by kernel_rfl)
@[simp] theorem z220 : wY 220 1 24 (.nils) := wK (by kernel_rfl)
@[simp] theorem z221 : wY 221 2 32 (.agg [.nils, .int .i64 0]) := wK (by kernel_rfl)
@[simp] theorem z222 : wY 222 2 32 (.agg [.nils, .int .i64 0]) := wK (by kernel_rfl)
@[simp] theorem z223 : wY 223 1 24 (.nils) := wK (by kernel_rfl)
@[simp] theorem z224 : wY 224 1 8 (.nilm) := wK (by kernel_rfl)
@[simp] theorem z225 : wY 225 1 8 (.nilm) := wK (by kernel_rfl)
@[simp] theorem z226 : wY 226 4 48 (.agg [.nilm, .nilm, .nils, .int .i64 0]) := wK (by kernel_rfl)
@[simp] theorem z227 : wY 227 4 48 (.agg [.nilm, .nilm, .nils, .int .i64 0]) := wK (by kernel_rfl)
@[simp] theorem z228 : wY 228 1 8 (.nilf) := wK (by kernel_rfl)
@[simp] theorem z229 : wY 229 2 24 (.agg [.str [], .nilf]) := wK (by kernel_rfl)
@[simp] theorem z230 : wY 230 2 24 (.agg [.str [], .nilf]) := wK (by kernel_rfl)
@[simp] theorem z233 : wY 233 1 8 (.nilf) := wK (by kernel_rfl)
@[simp] theorem z234 : wY 234 1 8 (.nilf) := wK (by kernel_rfl)
@[simp] theorem z237 : wY 237 1 24 (.nils) := wK (by kernel_rfl)
@[simp] theorem z238 : wY 238 3 56 (.agg [.str [], .nils, .str []]) := wK (by kernel_rfl)
@[simp] theorem z239 : wY 239 3 56 (.agg [.str [], .nils, .str []]) := wK (by kernel_rfl)
@[simp] theorem z241 : wY 241 1 8 (.nilf) := wK (by kernel_rfl)
@[simp] theorem z242 : wY 242 1 8 (.nilf) := wK (by kernel_rfl)
@[simp] theorem z243 : wY 243 1 8 (.nilf) := wK (by kernel_rfl)
@[simp] theorem z244 : wY 244 1 24 (.nils) := wK (by kernel_rfl)
@[simp] theorem z245 : wY 245 1 8 (.nilf) := wK (by kernel_rfl)
@[simp] theorem z246 : wY 246 2 24 (.agg [.str [], .int .i64 0]) := wK (by kernel_rfl)
@[simp] theorem z247 : wY 247 2 24 (.agg [.str [], .int .i64 0]) := wK (by kernel_rfl)
@[simp] theorem z248 : wY 248 1 8 (.nilf) := wK (by kernel_rfl)
@[simp] theorem z249 : wY 249 1 8 (.nilf) := wK (by kernel_rfl)
@[simp] theorem z250 : wY 250 1 8 (.int .u64 0) := wK (by kernel_rfl)
@[simp] theorem z252 : wY 252 1 8 (.nilf) := wK (by kernel_rfl)
@[simp] theorem z253 : wY 253 1 8 (.nilf) := wK (by kernel_rfl)
@[simp] theorem z255 : wY 255 1 8 (.nilp) := wK (by kernel_rfl)
@[simp] theorem z256 : wY 256 2 32 (.agg [.nilp, .nils]) := wK (by kernel_rfl)
@[simp] theorem z257 : wY 257 2 32 (.agg [.nilp, .nils]) := wK (by kernel_rfl)
@[simp] theorem z258 : wY 258 1 16 (.top) := wK (by kernel_rfl)
@[simp] theorem z259 : wY 259 1 16 (.top) := wK (by kernel_rfl)
@[simp] theorem z260 : wY 260 1 0 (.tuple [.int .i64 0, .top]) := wK (by kernel_rfl)
@[simp] theorem z261 : wY 261 1 8 (.nilf) := wK (by kernel_rfl)
@[simp] theorem z262 : wY 262 1 8 (.nilf) := wK (by kernel_rfl)
@[simp] theorem z263 : wY 263 3 32 (.agg [.bool false, .int .i64 0, .str []]) := wK (by kernel_rfl)
@[simp] theorem z264 : wY 264 3 32 (.agg [.bool false, .int .i64 0, .str []]) := wK (by kernel_rfl)
@[simp] theorem z265 : wY 265 3 32 (.agg [.nils, .int .u32 0, .bool false]) := wK (by kernel_rfl)
@[simp] theorem z266 : wY 266 3 32 (.agg [.nils, .int .u32 0, .bool false]) := wK (by kernel_rfl)
@[simp] theorem z267 : wY 267 1 8 (.nilf) := wK (by kernel_rfl)
@[simp] theorem z268 : wY 268 1 24 (.nils) := wK (by kernel_rfl)
@[simp] theorem z269 : wY 269 1 8 (.nilf) := wK (by kernel_rfl)
@[simp] theorem z270 : wY 270 1 8 (.nilf) := wK (by kernel_rfl)
@[simp] theorem z272 : wY 272 5 80 (.agg [.str [], .str [], .str [], .str [], .str []]) := wK (by kernel_rfl)
@[simp] theorem z275 : wY 275 1 8 (.nilf) := wK (by kernel_rfl)
@[simp] theorem z279 : wY 279 1 8 (.int .u64 0) := wK (by kernel_rfl)
@[simp] theorem z288 : wY 288 1 8 (.nilf) := wK (by kernel_rfl)
@[simp] theorem z290 : wY 290 1 8 (.nilf) := wK (by kernel_rfl)
@[simp] theorem z292 : wY 292 1 24 (.nils) := wK (by kernel_rfl)
@[simp] theorem z293 : wY 293 1 0 (.tuple [.nils, .int .i64 0, .int .i64 0]) := wK (by kernel_rfl)
@[simp] theorem z295 : wY 295 1 8 (.nilf) := wK (by kernel_rfl)
@[simp] theorem z312 : wY 312 1 8 (.nilp) := wK (by kernel_rfl)
@[simp] theorem z317 : wY 317 1 8 (.nilf) := wK (by kernel_rfl)
@[simp] theorem z318 : wY 318 1 8 (.nilf) := wK (by kernel_rfl)
@[simp] theorem z323 : wY 323 1 8 (.int .i64 0) := wK (by kernel_rfl)
@[simp] theorem z324 : wY 324 1 0 (.tuple [.int .i64 0, .int .i64 0]) := wK (by kernel_rfl)
@[simp] theorem z328 : wY 328 1 8 (.nilf) := wK (by kernel_rfl)
@[simp] theorem z352 : wY 352 1 8 (.nilp) := wK (by kernel_rfl)
@[simp] theorem z356 : wY 356 9 9 (.agg [.int .u8 0, .int .u8 0, .int .u8 0, .int .u8 0, .int .u8 0, .int .u8 0, .int .u8 0, .int .u8 0, .int .u8 0]) := wK (by kernel_rfl)
@[simp] theorem z357 : wY 357 10 24 (.agg [.int .u8 0, .int .u8 0, .int .u8 0, .int .u8 0, .int .u8 0, .int .u8 0, .int .u8 0, .int .u8 0, .int .u8 0, .int .i64 0]) := wK (by kernel_rfl)
@[simp] theorem z358 : wY 358 10 24 (.agg [.int .u8 0, .int .u8 0, .int .u8 0, .int .u8 0, .int .u8 0, .int .u8 0, .int .u8 0, .int .u8 0, .int .u8 0, .int .i64 0]) := wK (by kernel_rfl)
@[simp] theorem z367 : wY 367 1 8 (.int .u64 0) := wK (by kernel_rfl)
@[simp] theorem z369 : wY 369 1 8 (.nilf) := wK (by kernel_rfl)
@[simp] theorem z377 : wY 377 1 8 (.nilf) := wK (by kernel_rfl)
@[simp] theorem z381 : wY 381 1 8 (.nilf) := wK (by kernel_rfl)
@[simp] theorem z382 : wY 382 3 48 (.agg [.str [], .str [], .top]) := wK (by kernel_rfl)
@[simp] theorem z383 : wY 383 3 48 (.agg [.str [], .str [], .top]) := wK (by kernel_rfl)
@[simp] theorem z384 : wY 384 1 8 (.nilf) := wK (by kernel_rfl)
@[simp] theorem z385 : wY 385 1 8 (.nilp) := wK (by kernel_rfl)
@[simp] theorem z386 : wY 386 1 8 (.nilf) := wK (by kernel_rfl)
@[simp] theorem z387 : wY 387 24 24 (.agg [.int .u8 0, .int .u8 0, .int .u8 0, .int .u8 0, .int .u8 0, .int .u8 0, .int .u8 0, .int .u8 0, .int .u8 0, .int .u8 0, .int .u8 0, .int .u8 0, .int .u8 0, .int .u8 0, .int .u8 0, .int .u8 0, .int .u8 0, .int .u8 0, .int .u8 0, .int .u8 0, .int .u8 0, .int .u8 0, .int .u8 0, .int .u8 0]) := wK (by kernel_rfl)
@[simp] theorem z388 : wY 388 1 8 (.nilf) := wK (by kernel_rfl)
@[simp] theorem z389 : wY 389 1 0 (.tuple [.nils, .str []]) := wK (by kernel_rfl)
@[simp] theorem z390 : wY 390 1 8 (.nilf) := wK (by kernel_rfl)
@[simp] theorem z391 : wY 391 1 8 (.nilf) := wK (by kernel_rfl)
@[simp] theorem z392 : wY 392 1 8 (.nilf) := wK (by kernel_rfl)
@[simp] theorem z393 : wY 393 1 8 (.nilf) := wK (by kernel_rfl)
@[simp] theorem z396 : wY 396 1 24 (.nils) := wK (by kernel_rfl)
@[simp] theorem z397 : wY 397 16 64 (.agg [.int .u32 0, .int .u32 0, .int .u32 0, .int .u32 0, .int .u32 0, .int .u32 0, .int .u32 0, .int .u32 0, .int .u32 0, .int .u32 0, .int .u32 0, .int .u32 0, .int .u32 0, .int .u32 0, .int .u32 0, .int .u32 0]) := wK (by kernel_rfl)
@[simp] theorem z398 : wY 398 1 8 (.nilf) := wK (by kernel_rfl)
@[simp] theorem z402 : wY 402 1 16 (.agg [.str []]) := wK (by kernel_rfl)
@[simp] theorem z406 : wY 406 20 160 (.agg [.int .u64 0, .int .u64 0, .int .u64 0, .int .u64 0, .int .u64 0, .int .u64 0, .int .u64 0, .int .u64 0, .int .u64 0, .int .u64 0, .int .u64 0, .int .u64 0, .int .u64 0, .int .u64 0, .int .u64 0, .int .u64 0, .int .u64 0, .int .u64 0, .int .u64 0, .int .u64 0]) := wK (by kernel_rfl)
@[simp] theorem z411 : wY 411 32 32 (.agg [.int .u8 0, .int .u8 0, .int .u8 0, .int .u8 0, .int .u8 0, .int .u8 0, .int .u8 0, .int .u8 0, .int .u8 0, .int .u8 0, .int .u8 0, .int .u8 0, .int .u8 0, .int .u8 0, .int .u8 0, .int .u8 0, .int .u8 0, .int .u8 0, .int .u8 0, .int .u8 0, .int .u8 0, .int .u8 0, .int .u8 0, .int .u8 0, .int .u8 0, .int .u8 0, .int .u8 0, .int .u8 0, .int .u8 0, .int .u8 0, .int .u8 0, .int .u8 0]) := wK (by kernel_rfl)
@[simp] theorem z412 : wY 412 64 64 (.agg [.int .u8 0, .int .u8 0, .int .u8 0, .int .u8 0, .int .u8 0, .int .u8 0, .int .u8 0, .int .u8 0, .int .u8 0, .int .u8 0, .int .u8 0, .int .u8 0, .int .u8 0, .int .u8 0, .int .u8 0, .int .u8 0, .int .u8 0, .int .u8 0, .int .u8 0, .int .u8 0, .int .u8 0, .int .u8 0, .int .u8 0, .int .u8 0, .int .u8 0, .int .u8 0, .int .u8 0, .int .u8 0, .int .u8 0, .int .u8 0, .int .u8 0, .int .u8 0, .int .u8 0, .int .u8 0, .int .u8 0, .int .u8 0, .int .u8 0, .int .u8 0, .int .u8 0, .int .u8 0, .int .u8 0, .int .u8 0, .int .u8 0, .int .u8 0, .int .u8 0, .int .u8 0, .int .u8 0, .int .u8 0, .int .u8 0, .int .u8 0, .int .u8 0, .int .u8 0, .int .u8 0, .int .u8 0, .int .u8 0, .int .u8 0, .int .u8 0, .int .u8 0, .int .u8 0, .int .u8 0, .int .u8 0, .int .u8 0, .int .u8 0, .int .u8 0]) := wK (by kernel_rfl)
@[simp] theorem z413 : wY 413 4 40 (.agg [.nilp, .nilp, .nilp, .str []]) := wK (by kernel_rfl)
@[simp] theorem z414 : wY 414 4 40 (.agg [.nilp, .nilp, .nilp, .str []]) := wK (by kernel_rfl)
@[simp] theorem z415 : wY 415 0 0 (.agg []) := wK (by kernel_rfl)
@[simp] theorem z416 : wY 416 0 0 (.agg []) := wK (by kernel_rfl)
@[simp] theorem z417 : wY 417 0 0 (.agg []) := wK (by kernel_rfl)
@[simp] theorem z418 : wY 418 1 1 (.int .u8 0) := wK (by kernel_rfl)
@[simp] theorem z419 : wY 419 1 1 (.int .u8 0) := wK (by kernel_rfl)
@[simp] theorem z420 : wY 420 1 8 (.nilf) := wK (by kernel_rfl)
@[simp] theorem z421 : wY 421 1 4 (.int .i32 0) := wK (by kernel_rfl)
@[simp] theorem z422 : wY 422 1 4 (.int .i32 0) := wK (by kernel_rfl)
@[simp] theorem z423 : wY 423 11 48 (.agg [.int .u64 0, .int .u64 0, .int .u32 0, .int .u8 0, .int .u8 0, .int .u8 0, .int .u8 0, .nilf, .nilp, .int .i32 0, .int .i32 0]) := wK (by kernel_rfl)
@[simp] theorem z424 : wY 424 11 48 (.agg [.int .u64 0, .int .u64 0, .int .u32 0, .int .u8 0, .int .u8 0, .int .u8 0, .int .u8 0, .nilf, .nilp, .int .i32 0, .int .i32 0]) := wK (by kernel_rfl)
@[simp] theorem fe7 : Zx Pz 7 = some 4 := by kernel_rfl
@[simp] theorem fe8 : Zx Pz 8 = some 4 := by kernel_rfl
@[simp] theorem fe47 : Zx Pz 47 = some 3 := by kernel_rfl
@[simp] theorem fe48 : Zx Pz 48 = some 3 := by kernel_rfl
@[simp] theorem fe72 : Zx Pz 72 = some 2 := by kernel_rfl
@[simp] theorem fe73 : Zx Pz 73 = some 2 := by kernel_rfl
@[simp] theorem fe141 : Zx Pz 141 = some 2 := by kernel_rfl
@[simp] theorem fe142 : Zx Pz 142 = some 2 := by kernel_rfl
@[simp] theorem fe149 : Zx Pz 149 = some 2 := by kernel_rfl
@[simp] theorem fe172 : Zx Pz 172 = some 3 := by kernel_rfl
@[simp] theorem fe173 : Zx Pz 173 = some 3 := by kernel_rfl
@[simp] theorem fe174 : Zx Pz 174 = some 3 := by kernel_rfl
@[simp] theorem fe175 : Zx Pz 175 = some 3 := by kernel_rfl
@[simp] theorem fe246 : Zx Pz 246 = some 2 := by kernel_rfl
@[simp] theorem fe247 : Zx Pz 247 = some 2 := by kernel_rfl
@[simp] theorem fe263 : Zx Pz 263 = some 3 := by kernel_rfl
@[simp] theorem fe264 : Zx Pz 264 = some 3 := by kernel_rfl
@[simp] theorem fe402 : Zx Pz 402 = some 1 := by kernel_rfl
@[simp] theorem fn3 : zG Pz 3 = some Tryz.f3 := Tryz.func3
@[simp] theorem fn7 : zG Pz 7 = some Tryz.f7 := Tryz.func7
@[simp] theorem fn8 : zG Pz 8 = some Tryz.f8 := Tryz.func8
@[simp] theorem fn9 : zG Pz 9 = some Tryz.f9 := Tryz.func9
@[simp] theorem fn10 : zG Pz 10 = some Tryz.f10 := Tryz.func10
@[simp] theorem fn11 : zG Pz 11 = some Tryz.f11 := Tryz.func11
@[simp] theorem fn12 : zG Pz 12 = some Tryz.f12 := Tryz.func12
@[simp] theorem fn13 : zG Pz 13 = some Tryz.f13 := Tryz.func13
@[simp] theorem fn14 : zG Pz 14 = some Tryz.f14 := Tryz.func14
@[simp] theorem fn15 : zG Pz 15 = some Tryz.f15 := Tryz.func15
@[simp] theorem fn16 : zG Pz 16 = some Tryz.f16 := Tryz.func16
@[simp] theorem fn17 : zG Pz 17 = some Tryz.f17 := Tryz.func17
@[simp] theorem fn18 : zG Pz 18 = some Tryz.f18 := Tryz.func18
@[simp] theorem fn19 : zG Pz 19 = some Tryz.f19 := Tryz.func19
@[simp] theorem fn20 : zG Pz 20 = some Tryz.f20 := Tryz.func20
@[simp] theorem fn21 : zG Pz 21 = some Tryz.f21 := Tryz.func21
@[simp] theorem fn22 : zG Pz 22 = some Tryz.f22 := Tryz.func22
@[simp] theorem fn23 : zG Pz 23 = some Tryz.f23 := Tryz.func23
@[simp] theorem fn24 : zG Pz 24 = some Tryz.f24 := Tryz.func24
@[simp] theorem fn25 : zG Pz 25 = some Tryz.f25 := Tryz.func25
@[simp] theorem fn26 : zG Pz 26 = some Tryz.f26 := Tryz.func26
@[simp] theorem fn27 : zG Pz 27 = some Tryz.f27 := Tryz.func27
@[simp] theorem fn28 : zG Pz 28 = some Tryz.f28 := Tryz.func28
@[simp] theorem fn29 : zG Pz 29 = some Tryz.f29 := Tryz.func29
@[simp] theorem fn32 : zG Pz 32 = some Tryz.f32 := Tryz.func32
@[simp] theorem fn40 : zG Pz 40 = some Tryz.f40 := Tryz.func40
@[simp] theorem fn45 : zG Pz 45 = some Tryz.f45 := Tryz.func45
@[simp] theorem fn46 : zG Pz 46 = some Tryz.f46 := Tryz.func46
@[simp] theorem fn47 : zG Pz 47 = some Tryz.f47 := Tryz.func47
@[simp] theorem fn48 : zG Pz 48 = some Tryz.f48 := Tryz.func48
@[simp] theorem fn49 : zG Pz 49 = some Tryz.f49 := Tryz.func49
@[simp] theorem fn67 : zG Pz 67 = some Tryz.f67 := Tryz.func67
@[simp] theorem fn68 : zG Pz 68 = some Tryz.f68 := Tryz.func68
@[simp] theorem fn69 : zG Pz 69 = some Tryz.f69 := Tryz.func69
@[simp] theorem fn70 : zG Pz 70 = some Tryz.f70 := Tryz.func70
@[simp] theorem fn71 : zG Pz 71 = some Tryz.f71 := Tryz.func71
@[simp] theorem fn72 : zG Pz 72 = some Tryz.f72 := Tryz.func72
@[simp] theorem fn73 : zG Pz 73 = some Tryz.f73 := Tryz.func73
@[simp] theorem fn74 : zG Pz 74 = some Tryz.f74 := Tryz.func74
@[simp] theorem fn75 : zG Pz 75 = some Tryz.f75 := Tryz.func75
@[simp] theorem fn76 : zG Pz 76 = some Tryz.f76 := Tryz.func76
@[simp] theorem fn77 : zG Pz 77 = some Tryz.f77 := Tryz.func77
@[simp] theorem fn78 : zG Pz 78 = some Tryz.f78 := Tryz.func78
@[simp] theorem fn79 : zG Pz 79 = some Tryz.f79 := Tryz.func79
@[simp] theorem fn80 : zG Pz 80 = some Tryz.f80 := Tryz.func80
@[simp] theorem fn81 : zG Pz 81 = some Tryz.f81 := Tryz.func81
@[simp] theorem fn82 : zG Pz 82 = some Tryz.f82 := Tryz.func82
@[simp] theorem fn83 : zG Pz 83 = some Tryz.f83 := Tryz.func83
@[simp] theorem fn84 : zG Pz 84 = some Tryz.f84 := Tryz.func84
@[simp] theorem fn85 : zG Pz 85 = some Tryz.f85 := Tryz.func85
@[simp] theorem fn86 : zG Pz 86 = some Tryz.f86 := Tryz.func86
@[simp] theorem fn87 : zG Pz 87 = some Tryz.f87 := Tryz.func87
@[simp] theorem fn88 : zG Pz 88 = some Tryz.f88 := Tryz.func88
@[simp] theorem fn89 : zG Pz 89 = some Tryz.f89 := Tryz.func89
@[simp] theorem fn90 : zG Pz 90 = some Tryz.f90 := Tryz.func90
@[simp] theorem fn91 : zG Pz 91 = some Tryz.f91 := Tryz.func91
@[simp] theorem fn92 : zG Pz 92 = some Tryz.f92 := Tryz.func92
@[simp] theorem fn93 : zG Pz 93 = some Tryz.f93 := Tryz.func93
@[simp] theorem fn94 : zG Pz 94 = some Tryz.f94 := Tryz.func94
@[simp] theorem fn95 : zG Pz 95 = some Tryz.f95 := Tryz.func95
@[simp] theorem fn96 : zG Pz 96 = some Tryz.f96 := Tryz.func96
@[simp] theorem fn97 : zG Pz 97 = some Tryz.f97 := Tryz.func97
@[simp] theorem fn98 : zG Pz 98 = some Tryz.f98 := Tryz.func98
@[simp] theorem fn99 : zG Pz 99 = some Tryz.f99 := Tryz.func99
@[simp] theorem fn100 : zG Pz 100 = some Tryz.f100 := Tryz.func100
@[simp] theorem fn101 : zG Pz 101 = some Tryz.f101 := Tryz.func101
@[simp] theorem fn102 : zG Pz 102 = some Tryz.f102 := Tryz.func102
@[simp] theorem fn103 : zG Pz 103 = some Tryz.f103 := Tryz.func103
@[simp] theorem fn104 : zG Pz 104 = some Tryz.f104 := Tryz.func104
@[simp] theorem fn105 : zG Pz 105 = some Tryz.f105 := Tryz.func105
@[simp] theorem fn106 : zG Pz 106 = some Tryz.f106 := Tryz.func106
@[simp] theorem fn107 : zG Pz 107 = some Tryz.f107 := Tryz.func107
@[simp] theorem fn108 : zG Pz 108 = some Tryz.f108 := Tryz.func108
@[simp] theorem fn109 : zG Pz 109 = some Tryz.f109 := Tryz.func109
@[simp] theorem fn110 : zG Pz 110 = some Tryz.f110 := Tryz.func110
@[simp] theorem fn111 : zG Pz 111 = some Tryz.f111 := Tryz.func111
@[simp] theorem fn112 : zG Pz 112 = some Tryz.f112 := Tryz.func112
@[simp] theorem fn113 : zG Pz 113 = some Tryz.f113 := Tryz.func113
@[simp] theorem fn114 : zG Pz 114 = some Tryz.f114 := Tryz.func114
@[simp] theorem fn116 : zG Pz 116 = some Tryz.f116 := Tryz.func116
@[simp] theorem fn117 : zG Pz 117 = some Tryz.f117 := Tryz.func117
@[simp] theorem fn124 : zG Pz 124 = some Tryz.f124 := Tryz.func124
@[simp] theorem fn127 : zG Pz 127 = some Tryz.f127 := Tryz.func127
@[simp] theorem fn129 : zG Pz 129 = some Tryz.f129 := Tryz.func129
@[simp] theorem fn131 : zG Pz 131 = some Tryz.f131 := Tryz.func131
@[simp] theorem fn133 : zG Pz 133 = some Tryz.f133 := Tryz.func133
@[simp] theorem fn134 : zG Pz 134 = some Tryz.f134 := Tryz.func134
@[simp] theorem fn135 : zG Pz 135 = some Tryz.f135 := Tryz.func135
@[simp] theorem fn136 : zG Pz 136 = some Tryz.f136 := Tryz.func136
@[simp] theorem fn164 : zG Pz 164 = some Tryz.f164 := Tryz.func164
@[simp] theorem fn168 : zG Pz 168 = some Tryz.f168 := Tryz.func168
@[simp] theorem fn169 : zG Pz 169 = some Tryz.f169 := Tryz.func169
@[simp] theorem fn170 : zG Pz 170 = some Tryz.f170 := Tryz.func170
@[simp] theorem fn171 : zG Pz 171 = some Tryz.f171 := Tryz.func171
@[simp] theorem fn172 : zG Pz 172 = some Tryz.f172 := Tryz.func172
@[simp] theorem fn173 : zG Pz 173 = some Tryz.f173 := Tryz.func173
@[simp] theorem fn174 : zG Pz 174 = some Tryz.f174 := Tryz.func174
@[simp] theorem fn175 : zG Pz 175 = some Tryz.f175 := Tryz.func175
@[simp] theorem fn176 : zG Pz 176 = some Tryz.f176 := Tryz.func176
@[simp] theorem fn177 : zG Pz 177 = some Tryz.f177 := Tryz.func177
@[simp] theorem fn178 : zG Pz 178 = some Tryz.f178 := Tryz.func178
@[simp] theorem fn179 : zG Pz 179 = some Tryz.f179 := Tryz.func179
@[simp] theorem fn180 : zG Pz 180 = some Tryz.f180 := Tryz.func180
@[simp] theorem fn181 : zG Pz 181 = some Tryz.f181 := Tryz.func181
@[simp] theorem fn182 : zG Pz 182 = some Tryz.f182 := Tryz.func182
@[simp] theorem fn183 : zG Pz 183 = some Tryz.f183 := Tryz.func183
@[simp] theorem fn184 : zG Pz 184 = some Tryz.f184 := Tryz.func184
@[simp] theorem fn185 : zG Pz 185 = some Tryz.f185 := Tryz.func185
@[simp] theorem fn186 : zG Pz 186 = some Tryz.f186 := Tryz.func186
@[simp] theorem fn187 : zG Pz 187 = some Tryz.f187 := Tryz.func187
@[simp] theorem fn188 : zG Pz 188 = some Tryz.f188 := Tryz.func188
@[simp] theorem fn189 : zG Pz 189 = some Tryz.f189 := Tryz.func189
@[simp] theorem fn190 : zG Pz 190 = some Tryz.f190 := Tryz.func190
@[simp] theorem fn191 : zG Pz 191 = some Tryz.f191 := Tryz.func191
@[simp] theorem fn192 : zG Pz 192 = some Tryz.f192 := Tryz.func192
@[simp] theorem fn193 : zG Pz 193 = some Tryz.f193 := Tryz.func193
@[simp] theorem fn194 : zG Pz 194 = some Tryz.f194 := Tryz.func194
@[simp] theorem fn195 : zG Pz 195 = some Tryz.f195 := Tryz.func195
@[simp] theorem fn196 : zG Pz 196 = some Tryz.f196 := Tryz.func196
@[simp] theorem fn197 : zG Pz 197 = some Tryz.f197 := Tryz.func197
@[simp] theorem fn198 : zG Pz 198 = some Tryz.f198 := Tryz.func198
@[simp] theorem fn199 : zG Pz 199 = some Tryz.f199 := Tryz.func199
@[simp] theorem fn200 : zG Pz 200 = some Tryz.f200 := Tryz.func200
@[simp] theorem fn201 : zG Pz 201 = some Tryz.f201 := Tryz.func201
@[simp] theorem fn202 : zG Pz 202 = some Tryz.f202 := Tryz.func202
@[simp] theorem fn203 : zG Pz 203 = some Tryz.f203 := Tryz.func203
@[simp] theorem fn206 : zG Pz 206 = some Tryz.f206 := Tryz.func206
@[simp] theorem fn211 : zG Pz 211 = some Tryz.f211 := Tryz.func211
@[simp] theorem fn212 : zG Pz 212 = some Tryz.f212 := Tryz.func212
@[simp] theorem fn214 : zG Pz 214 = some Tryz.f214 := Tryz.func214
@[simp] theorem fn215 : zG Pz 215 = some Tryz.f215 := Tryz.func215
@[simp] theorem fn219 : zG Pz 219 = some Tryz.f219 := Tryz.func219
@[simp] theorem fn220 : zG Pz 220 = some Tryz.f220 := Tryz.func220
@[simp] theorem fn221 : zG Pz 221 = some Tryz.f221 := Tryz.func221
@[simp] theorem fn233 : zG Pz 233 = some Tryz.f233 := Tryz.func233
@[simp] theorem fn248 : zG Pz 248 = some Tryz.f248 := Tryz.func248
@[simp] theorem fn249 : zG Pz 249 = some Tryz.f249 := Tryz.func249
@[simp] theorem fn250 : zG Pz 250 = some Tryz.f250 := Tryz.func250
@[simp] theorem fn252 : zG Pz 252 = some Tryz.f252 := Tryz.func252
@[simp] theorem fn253 : zG Pz 253 = some Tryz.f253 := Tryz.func253
@[simp] theorem fn254 : zG Pz 254 = some Tryz.f254 := Tryz.func254
@[simp] theorem fn255 : zG Pz 255 = some Tryz.f255 := Tryz.func255
@[simp] theorem fn256 : zG Pz 256 = some Tryz.f256 := Tryz.func256
@[simp] theorem fn257 : zG Pz 257 = some Tryz.f257 := Tryz.func257
@[simp] theorem fn258 : zG Pz 258 = some Tryz.f258 := Tryz.func258
@[simp] theorem fn259 : zG Pz 259 = some Tryz.f259 := Tryz.func259
@[simp] theorem fn260 : zG Pz 260 = some Tryz.f260 := Tryz.func260
@[simp] theorem fn261 : zG Pz 261 = some Tryz.f261 := Tryz.func261
@[simp] theorem fn262 : zG Pz 262 = some Tryz.f262 := Tryz.func262
@[simp] theorem fn263 : zG Pz 263 = some Tryz.f263 := Tryz.func263
@[simp] theorem fn264 : zG Pz 264 = some Tryz.f264 := Tryz.func264
@[simp] theorem fn265 : zG Pz 265 = some Tryz.f265 := Tryz.func265
@[simp] theorem fn266 : zG Pz 266 = some Tryz.f266 := Tryz.func266
@[simp] theorem fn267 : zG Pz 267 = some Tryz.f267 := Tryz.func267
@[simp] theorem fn268 : zG Pz 268 = some Tryz.f268 := Tryz.func268
@[simp] theorem fn274 : zG Pz 274 = some Tryz.f274 := Tryz.func274
@[simp] theorem fn275 : zG Pz 275 = some Tryz.f275 := Tryz.func275
@[simp] theorem fn276 : zG Pz 276 = some Tryz.f276 := Tryz.func276
@[simp] theorem fn277 : zG Pz 277 = some Tryz.f277 := Tryz.func277
@[simp] theorem fn278 : zG Pz 278 = some Tryz.f278 := Tryz.func278
@[simp] theorem fn279 : zG Pz 279 = some Tryz.f279 := Tryz.func279
@[simp] theorem fn280 : zG Pz 280 = some Tryz.f280 := Tryz.func280
@[simp] theorem fn281 : zG Pz 281 = some Tryz.f281 := Tryz.func281
@[simp] theorem fn282 : zG Pz 282 = some Tryz.f282 := Tryz.func282
@[simp] theorem fn283 : zG Pz 283 = some Tryz.f283 := Tryz.func283
@[simp] theorem fn284 : zG Pz 284 = some Tryz.f284 := Tryz.func284
@[simp] theorem fn285 : zG Pz 285 = some Tryz.f285 := Tryz.func285
@[simp] theorem fn290 : zG Pz 290 = some Tryz.f290 := Tryz.func290
@[simp] theorem fn295 : zG Pz 295 = some Tryz.f295 := Tryz.func295
@[simp] theorem fn309 : zG Pz 309 = some Tryz.f309 := Tryz.func309
@[simp] theorem fn310 : zG Pz 310 = some Tryz.f310 := Tryz.func310
@[simp] theorem fn311 : zG Pz 311 = some Tryz.f311 := Tryz.func311
@[simp] theorem fn312 : zG Pz 312 = some Tryz.f312 := Tryz.func312
@[simp] theorem fn315 : zG Pz 315 = some Tryz.f315 := Tryz.func315
@[simp] theorem fn316 : zG Pz 316 = some Tryz.f316 := Tryz.func316
@[simp] theorem fn317 : zG Pz 317 = some Tryz.f317 := Tryz.func317
@[simp] theorem fn318 : zG Pz 318 = some Tryz.f318 := Tryz.func318
@[simp] theorem fn326 : zG Pz 326 = some Tryz.f326 := Tryz.func326
@[simp] theorem fn327 : zG Pz 327 = some Tryz.f327 := Tryz.func327
@[simp] theorem fn328 : zG Pz 328 = some Tryz.f328 := Tryz.func328
@[simp] theorem fn329 : zG Pz 329 = some Tryz.f329 := Tryz.func329
@[simp] theorem fn330 : zG Pz 330 = some Tryz.f330 := Tryz.func330
@[simp] theorem fn331 : zG Pz 331 = some Tryz.f331 := Tryz.func331
@[simp] theorem fn332 : zG Pz 332 = some Tryz.f332 := Tryz.func332
@[simp] theorem fn333 : zG Pz 333 = some Tryz.f333 := Tryz.func333
@[simp] theorem fn335 : zG Pz 335 = some Tryz.f335 := Tryz.func335
@[simp] theorem fn349 : zG Pz 349 = some Tryz.f349 := Tryz.func349
@[simp] theorem fn353 : zG Pz 353 = some Tryz.f353 := Tryz.func353
@[simp] theorem fn354 : zG Pz 354 = some Tryz.f354 := Tryz.func354
@[simp] theorem fn355 : zG Pz 355 = some Tryz.f355 := Tryz.func355
@[simp] theorem fn356 : zG Pz 356 = some Tryz.f356 := Tryz.func356
@[simp] theorem fn357 : zG Pz 357 = some Tryz.f357 := Tryz.func357
@[simp] theorem fn367 : zG Pz 367 = some Tryz.f367 := Tryz.func367
@[simp] theorem fn368 : zG Pz 368 = some Tryz.f368 := Tryz.func368
@[simp] theorem fn371 : zG Pz 371 = some Tryz.f371 := Tryz.func371
@[simp] theorem fn372 : zG Pz 372 = some Tryz.f372 := Tryz.func372
@[simp] theorem fn373 : zG Pz 373 = some Tryz.f373 := Tryz.func373
@[simp] theorem fn374 : zG Pz 374 = some Tryz.f374 := Tryz.func374
@[simp] theorem fn378 : zG Pz 378 = some Tryz.f378 := Tryz.func378
@[simp] theorem fn379 : zG Pz 379 = some Tryz.f379 := Tryz.func379
theorem wS {Γ : Gam} (hΓ : GOk Pz Γ) {r : Option Nat} {n0 : Nat} {x y : Code} {F F' : List AV} {H H' : zA} {Q : AX -> List AV -> zA -> Prop} (h : zK Pz Γ 0 r.isNone x F H = some (.normal, F', H')) (k : Sim Pz r n0 y F' H' Q) (hn : n0 <= H.length := by simp) : Sim Pz r n0 (.seq x y) F H Q := Sim.step hmix hΓ h hn k
theorem wE {Γ : Gam} (hΓ : GOk Pz Γ) {r : Option Nat} {n0 : Nat} {c : Code} {F F' : List AV} {H H' : zA} {x : AX} {Q : AX -> List AV -> zA -> Prop} (h : zK Pz Γ 0 r.isNone c F H = some (x, F', H')) (k : Q x F' H') (hn : n0 <= H.length := by simp) : Sim Pz r n0 c F H Q := Sim.exec hmix hΓ h hn k
theorem wR {α β : Type} {a : α} {b : β} : a = a /\ b = b := ⟨rfl, rfl⟩
theorem wT {α β γ : Type} {a : α} {b : β} {c : γ} : a = a /\ b = b /\ c = c := ⟨rfl, rfl, rfl⟩
theorem wW {n : Nat} {F : List AV} {H : zA} {Fn : List AV} {Hn : zA} (rn : List Nat) (h4 : AWg rn H Hn rn) (h1 : rn.Nodup := by decide) (h2 : rn.take n = List.range n := by decide) (h3 : AWs rn Fn F := by simp) : Weak n F H Fn Hn := Weak.mk' rn h1 h2 h3 h4
attribute [simp] Tryz.underlying0 Tryz.underlying1 Tryz.underlying2 Tryz.underlying3 Tryz.underlying4 Tryz.underlying5 Tryz.underlying6 Tryz.underlying7 Tryz.underlying8 Tryz.underlying9 Tryz.underlying10 Tryz.underlying11 Tryz.underlying12 Tryz.underlying13 Tryz.underlying14 Tryz.underlying15 Tryz.underlying16 Tryz.underlying17 Tryz.underlying20 Tryz.underlying21 Tryz.underlying22 Tryz.underlying23 Tryz.underlying24 Tryz.underlying25 Tryz.underlying26 Tryz.underlying27 Tryz.underlying28 Tryz.underlying30 Tryz.underlying31 Tryz.underlying32 Tryz.underlying33 Tryz.underlying35 Tryz.underlying36 Tryz.underlying37 Tryz.underlying38 Tryz.underlying39 Tryz.underlying40 Tryz.underlying41 Tryz.underlying42 Tryz.underlying43 Tryz.underlying44 Tryz.underlying45 Tryz.underlying46 Tryz.underlying47 Tryz.underlying48 Tryz.underlying49 Tryz.underlying50 Tryz.underlying51 Tryz.underlying52 Tryz.underlying53 Tryz.underlying54 Tryz.underlying55 Tryz.underlying56 Tryz.underlying57 Tryz.underlying59 Tryz.underlying61 Tryz.underlying62 Tryz.underlying63 Tryz.underlying64 Tryz.underlying65 Tryz.underlying66 Tryz.underlying67 Tryz.underlying68 Tryz.underlying69 Tryz.underlying70 Tryz.underlying71 Tryz.underlying72 Tryz.underlying73 Tryz.underlying74 Tryz.underlying75 Tryz.underlying76 Tryz.underlying77 Tryz.underlying78 Tryz.underlying80 Tryz.underlying81 Tryz.underlying82 Tryz.underlying83 Tryz.underlying84 Tryz.underlying85 Tryz.underlying87 Tryz.underlying88 Tryz.underlying89 Tryz.underlying90 Tryz.underlying91 Tryz.underlying92 Tryz.underlying93 Tryz.underlying94 Tryz.underlying95 Tryz.underlying96 Tryz.underlying97 Tryz.underlying98 Tryz.underlying99 Tryz.underlying100 Tryz.underlying104 Tryz.underlying105 Tryz.underlying106 Tryz.underlying107 Tryz.underlying108 Tryz.underlying109 Tryz.underlying110 Tryz.underlying111 Tryz.underlying112 Tryz.underlying114 Tryz.underlying115 Tryz.underlying117 Tryz.underlying127 Tryz.underlying128 Tryz.underlying129 Tryz.underlying130 Tryz.underlying131 Tryz.underlying132 Tryz.underlying133 Tryz.underlying134 Tryz.underlying135 Tryz.underlying136 Tryz.underlying138 Tryz.underlying139 Tryz.underlying140 Tryz.underlying141 Tryz.underlying142 Tryz.underlying143 Tryz.underlying144 Tryz.underlying145 Tryz.underlying146 Tryz.underlying147 Tryz.underlying148 Tryz.underlying149 Tryz.underlying150 Tryz.underlying151 Tryz.underlying154 Tryz.underlying156 Tryz.underlying157 Tryz.underlying158 Tryz.underlying159 Tryz.underlying160 Tryz.underlying161 Tryz.underlying162 Tryz.underlying163 Tryz.underlying164 Tryz.underlying165 Tryz.underlying167 Tryz.underlying168 Tryz.underlying169 Tryz.underlying172 Tryz.underlying173 Tryz.underlying174 Tryz.underlying175 Tryz.underlying176 Tryz.underlying177 Tryz.underlying178 Tryz.underlying179 Tryz.underlying180 Tryz.underlying184 Tryz.underlying185 Tryz.underlying188 Tryz.underlying191 Tryz.underlying192 Tryz.underlying193 Tryz.underlying194 Tryz.underlying196 Tryz.underlying200 Tryz.underlying201 Tryz.underlying202 Tryz.underlying207 Tryz.underlying208 Tryz.underlying209 Tryz.underlying215 Tryz.underlying217 Tryz.underlying220 Tryz.underlying221 Tryz.underlying222 Tryz.underlying223 Tryz.underlying224 Tryz.underlying225 Tryz.underlying226 Tryz.underlying227 Tryz.underlying228 Tryz.underlying229 Tryz.underlying230 Tryz.underlying233 Tryz.underlying234 Tryz.underlying237 Tryz.underlying238 Tryz.underlying239 Tryz.underlying241 Tryz.underlying242 Tryz.underlying243 Tryz.underlying244 Tryz.underlying245 Tryz.underlying246 Tryz.underlying247 Tryz.underlying248 Tryz.underlying249 Tryz.underlying250 Tryz.underlying252 Tryz.underlying253 Tryz.underlying255 Tryz.underlying256 Tryz.underlying257 Tryz.underlying258 Tryz.underlying259 Tryz.underlying260 Tryz.underlying261 Tryz.underlying262 Tryz.underlying263 Tryz.underlying264 Tryz.underlying265 Tryz.underlying266 Tryz.underlying267 Tryz.underlying268 Tryz.underlying269 Tryz.underlying270 Tryz.underlying272 Tryz.underlying275 Tryz.underlying279 Tryz.underlying288 Tryz.underlying290 Tryz.underlying292 Tryz.underlying293 Tryz.underlying295 Tryz.underlying312 Tryz.underlying317 Tryz.underlying318 Tryz.underlying323 Tryz.underlying324 Tryz.underlying328 Tryz.underlying352 Tryz.underlying356 Tryz.underlying357 Tryz.underlying358 Tryz.underlying367 Tryz.underlying369 Tryz.underlying377 Tryz.underlying381 Tryz.underlying382 Tryz.underlying383 Tryz.underlying384 Tryz.underlying385 Tryz.underlying386 Tryz.underlying387 Tryz.underlying388 Tryz.underlying389 Tryz.underlying390 Tryz.underlying391 Tryz.underlying392 Tryz.underlying393 Tryz.underlying396 Tryz.underlying397 Tryz.underlying398 Tryz.underlying402 Tryz.underlying406 Tryz.underlying407 Tryz.underlying411 Tryz.underlying412 Tryz.underlying413 Tryz.underlying414 Tryz.underlying415 Tryz.underlying416 Tryz.underlying417 Tryz.underlying418 Tryz.underlying419 Tryz.underlying420 Tryz.underlying421 Tryz.underlying422 Tryz.underlying423 Tryz.underlying424
end Go.Proofs.YtfhidaoiofeooaaGreatDoor
