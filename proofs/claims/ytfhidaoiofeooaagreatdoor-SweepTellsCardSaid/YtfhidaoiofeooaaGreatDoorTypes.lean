/- The types of the translation: their sizes and their zeros, as facts (printed by wip/tools/types.lean). -/
import Derived.Test.YtfhidaoiofeooaaGreatDoorY3
import Derived.Test.YtfhidaoiofeooaaGreatDoorProg
namespace Go.Proofs.YtfhidaoiofeooaaGreatDoor
open _root_.Go.Proofs.Tryz renaming prog → Pz
open Go
theorem hmix : Tryz.prog.follows .mixedOrders = true := by kernel_rfl
abbrev wY (t s b : Nat) (v : AV) : Prop := ZA Pz t = some s /\ zB1 Pz t = some b /\ zBo Pz t = some v
theorem wK {t s b : Nat} {v : AV} (h : (ZA Pz t, zB1 Pz t, zBo Pz t) = (some s, some b, some v)) : wY t s b v := by simpa using h
@[simp] theorem z0 : wY 0 1 0 (.tuple []) := wK (by kernel_rfl)
@[simp] theorem z1 : wY 1 1 8 (.nilf) := wK (by kernel_rfl)
@[simp] theorem z2 : wY 2 1 8 (.int .i64 0) := wK (by kernel_rfl)
@[simp] theorem z3 : wY 3 1 8 (.int .i64 0) := wK (by kernel_rfl)
@[simp] theorem z4 : wY 4 1 1 (.bool false) := wK (by kernel_rfl)
@[simp] theorem z5 : wY 5 1 1 (.int .u8 0) := wK (by kernel_rfl)
@[simp] theorem z6 : wY 6 1 1 (.int .u8 0) := wK (by kernel_rfl)
@[simp] theorem z7 : wY 7 4 24 (.agg [.int .i64 0, .int .i64 0, .bool false, .int .u8 0]) := wK (by kernel_rfl)
@[simp] theorem z8 : wY 8 4 24 (.agg [.int .i64 0, .int .i64 0, .bool false, .int .u8 0]) := wK (by kernel_rfl)
@[simp] theorem z9 : wY 9 1 16 (.str []) := wK (by kernel_rfl)
@[simp] theorem z10 : wY 10 1 16 (.str []) := wK (by kernel_rfl)
@[simp] theorem z11 : wY 11 1 16 (.str []) := wK (by kernel_rfl)
@[simp] theorem z12 : wY 12 1 8 (.int .u64 0) := wK (by kernel_rfl)
@[simp] theorem z13 : wY 13 2 24 (.agg [.str [], .int .u64 0]) := wK (by kernel_rfl)
@[simp] theorem z14 : wY 14 2 24 (.agg [.str [], .int .u64 0]) := wK (by kernel_rfl)
@[simp] theorem z15 : wY 15 1 8 (.nilp) := wK (by kernel_rfl)
@[simp] theorem z16 : wY 16 1 8 (.nilp) := wK (by kernel_rfl)
@[simp] theorem z17 : wY 17 1 8 (.nilp) := wK (by kernel_rfl)
@[simp] theorem z20 : wY 20 1 16 (.top) := wK (by kernel_rfl)
@[simp] theorem z21 : wY 21 1 4 (.int .i32 0) := wK (by kernel_rfl)
@[simp] theorem z22 : wY 22 1 2 (.int .u16 0) := wK (by kernel_rfl)
@[simp] theorem z23 : wY 23 1 2 (.int .i16 0) := wK (by kernel_rfl)
@[simp] theorem z24 : wY 24 3 6 (.agg [.int .i16 0, .int .i16 0, .int .i16 0]) := wK (by kernel_rfl)
@[simp] theorem z26 : wY 26 1 8 (.nilp) := wK (by kernel_rfl)
@[simp] theorem z28 : wY 28 1 8 (.nilp) := wK (by kernel_rfl)
@[simp] theorem z30 : wY 30 1 8 (.nilf) := wK (by kernel_rfl)
@[simp] theorem z31 : wY 31 1 8 (.nilp) := wK (by kernel_rfl)
@[simp] theorem z32 : wY 32 1 8 (.nilf) := wK (by kernel_rfl)
@[simp] theorem z35 : wY 35 1 24 (.nils) := wK (by kernel_rfl)
@[simp] theorem z36 : wY 36 1 24 (.nils) := wK (by kernel_rfl)
@[simp] theorem z39 : wY 39 1 8 (.int .i64 0) := wK (by kernel_rfl)
@[simp] theorem z40 : wY 40 1 8 (.nilf) := wK (by kernel_rfl)
@[simp] theorem z41 : wY 41 1 8 (.nilf) := wK (by kernel_rfl)
@[simp] theorem z42 : wY 42 1 8 (.nilf) := wK (by kernel_rfl)
@[simp] theorem z43 : wY 43 6 48 (.agg [.nilp, .int .i64 0, .int .i64 0, .int .i64 0, .bool false, .int .i64 0]) := wK (by kernel_rfl)
@[simp] theorem z44 : wY 44 6 48 (.agg [.nilp, .int .i64 0, .int .i64 0, .int .i64 0, .bool false, .int .i64 0]) := wK (by kernel_rfl)
@[simp] theorem z45 : wY 45 1 8 (.nilf) := wK (by kernel_rfl)
@[simp] theorem z46 : wY 46 1 4 (.int .u32 0) := wK (by kernel_rfl)
@[simp] theorem z47 : wY 47 3 24 (.agg [.str [], .int .u32 0, .bool false]) := wK (by kernel_rfl)
@[simp] theorem z48 : wY 48 3 24 (.agg [.str [], .int .u32 0, .bool false]) := wK (by kernel_rfl)
@[simp] theorem z49 : wY 49 1 8 (.nilf) := wK (by kernel_rfl)
@[simp] theorem z50 : wY 50 1 8 (.nilf) := wK (by kernel_rfl)
@[simp] theorem z51 : wY 51 1 8 (.nilf) := wK (by kernel_rfl)
@[simp] theorem z52 : wY 52 1 24 (.nils) := wK (by kernel_rfl)
@[simp] theorem z53 : wY 53 1 24 (.nils) := wK (by kernel_rfl)
@[simp] theorem z55 : wY 55 1 24 (.nils) := wK (by kernel_rfl)
@[simp] theorem z56 : wY 56 1 8 (.nilf) := wK (by kernel_rfl)
@[simp] theorem z57 : wY 57 1 8 (.nilf) := wK (by kernel_rfl)
@[simp] theorem z59 : wY 59 1 8 (.nilf) := wK (by kernel_rfl)
@[simp] theorem z61 : wY 61 1 24 (.nils) := wK (by kernel_rfl)
@[simp] theorem z62 : wY 62 3 56 (.agg [.int .u8 0, .nils, .nils]) := wK (by kernel_rfl)
@[simp] theorem z63 : wY 63 3 56 (.agg [.int .u8 0, .nils, .nils]) := wK (by kernel_rfl)
@[simp] theorem z64 : wY 64 1 24 (.nils) := wK (by kernel_rfl)
@[simp] theorem z65 : wY 65 4 48 (.agg [.int .i64 0, .int .i64 0, .int .i64 0, .nils]) := wK (by kernel_rfl)
@[simp] theorem z66 : wY 66 4 48 (.agg [.int .i64 0, .int .i64 0, .int .i64 0, .nils]) := wK (by kernel_rfl)
@[simp] theorem z67 : wY 67 1 8 (.nilf) := wK (by kernel_rfl)
@[simp] theorem z68 : wY 68 1 24 (.nils) := wK (by kernel_rfl)
@[simp] theorem z69 : wY 69 1 8 (.nilf) := wK (by kernel_rfl)
@[simp] theorem z70 : wY 70 1 8 (.nilf) := wK (by kernel_rfl)
@[simp] theorem z71 : wY 71 1 8 (.nilf) := wK (by kernel_rfl)
@[simp] theorem z72 : wY 72 2 32 (.agg [.str [], .str []]) := wK (by kernel_rfl)
@[simp] theorem z73 : wY 73 2 32 (.agg [.str [], .str []]) := wK (by kernel_rfl)
@[simp] theorem z74 : wY 74 1 8 (.nilf) := wK (by kernel_rfl)
@[simp] theorem z75 : wY 75 1 8 (.nilf) := wK (by kernel_rfl)
@[simp] theorem z76 : wY 76 4 48 (.agg [.int .i64 0, .int .i64 0, .int .i64 0, .nils]) := wK (by kernel_rfl)
@[simp] theorem z77 : wY 77 1 8 (.nilf) := wK (by kernel_rfl)
@[simp] theorem z78 : wY 78 1 8 (.nilf) := wK (by kernel_rfl)
@[simp] theorem z80 : wY 80 1 8 (.nilf) := wK (by kernel_rfl)
@[simp] theorem z81 : wY 81 1 8 (.nilf) := wK (by kernel_rfl)
@[simp] theorem z82 : wY 82 1 8 (.nilf) := wK (by kernel_rfl)
@[simp] theorem z83 : wY 83 1 8 (.nilf) := wK (by kernel_rfl)
@[simp] theorem z84 : wY 84 1 0 (.tuple [.int .i64 0, .int .i64 0]) := wK (by kernel_rfl)
@[simp] theorem z85 : wY 85 1 8 (.nilf) := wK (by kernel_rfl)
@[simp] theorem z87 : wY 87 1 8 (.nilf) := wK (by kernel_rfl)
@[simp] theorem z88 : wY 88 1 8 (.nilp) := wK (by kernel_rfl)
@[simp] theorem z89 : wY 89 1 24 (.nils) := wK (by kernel_rfl)
@[simp] theorem z90 : wY 90 6 64 (.agg [.nilp, .nils, .int .i64 0, .int .i64 0, .int .i64 0, .bool false]) := wK (by kernel_rfl)
@[simp] theorem z91 : wY 91 6 64 (.agg [.nilp, .nils, .int .i64 0, .int .i64 0, .int .i64 0, .bool false]) := wK (by kernel_rfl)
@[simp] theorem z92 : wY 92 1 8 (.nilf) := wK (by kernel_rfl)
@[simp] theorem z93 : wY 93 1 8 (.nilf) := wK (by kernel_rfl)
@[simp] theorem z94 : wY 94 1 24 (.nils) := wK (by kernel_rfl)
@[simp] theorem z95 : wY 95 4 40 (.agg [.int .u8 0, .int .u8 0, .nils, .bool false]) := wK (by kernel_rfl)
@[simp] theorem z96 : wY 96 4 40 (.agg [.int .u8 0, .int .u8 0, .nils, .bool false]) := wK (by kernel_rfl)
@[simp] theorem z97 : wY 97 8 88 (.agg [.int .u8 0, .int .u8 0, .int .u8 0, .int .u8 0, .nils, .bool false, .str [], .nils]) := wK (by kernel_rfl)
@[simp] theorem z98 : wY 98 8 88 (.agg [.int .u8 0, .int .u8 0, .int .u8 0, .int .u8 0, .nils, .bool false, .str [], .nils]) := wK (by kernel_rfl)
@[simp] theorem z99 : wY 99 1 8 (.nilf) := wK (by kernel_rfl)
@[simp] theorem z100 : wY 100 1 0 (.tuple [.top, .int .i64 0]) := wK (by kernel_rfl)
@[simp] theorem z104 : wY 104 1 8 (.nilf) := wK (by kernel_rfl)
@[simp] theorem z105 : wY 105 1 8 (.nilf) := wK (by kernel_rfl)
@[simp] theorem z106 : wY 106 1 24 (.nils) := wK (by kernel_rfl)
@[simp] theorem z107 : wY 107 4 64 (.agg [.int .u8 0, .nils, .str [], .str []]) := wK (by kernel_rfl)
@[simp] theorem z108 : wY 108 4 64 (.agg [.int .u8 0, .nils, .str [], .str []]) := wK (by kernel_rfl)
@[simp] theorem z109 : wY 109 3 24 (.agg [.int .i64 0, .int .i64 0, .int .i64 0]) := wK (by kernel_rfl)
@[simp] theorem z110 : wY 110 1 24 (.nils) := wK (by kernel_rfl)
@[simp] theorem z111 : wY 111 1 0 (.tuple [.nils, .int .i64 0]) := wK (by kernel_rfl)
@[simp] theorem z112 : wY 112 1 8 (.nilf) := wK (by kernel_rfl)
@[simp] theorem z114 : wY 114 4 64 (.agg [.nils, .nils, .int .i64 0, .bool false]) := wK (by kernel_rfl)
@[simp] theorem z115 : wY 115 4 64 (.agg [.nils, .nils, .int .i64 0, .bool false]) := wK (by kernel_rfl)
@[simp] theorem z117 : wY 117 1 8 (.nilf) := wK (by kernel_rfl)
@[simp] theorem z127 : wY 127 6 48 (.agg [.nilp, .int .i64 0, .int .i64 0, .int .i64 0, .int .i64 0, .bool false]) := wK (by kernel_rfl)
@[simp] theorem z128 : wY 128 6 48 (.agg [.nilp, .int .i64 0, .int .i64 0, .int .i64 0, .int .i64 0, .bool false]) := wK (by kernel_rfl)
@[simp] theorem z129 : wY 129 1 8 (.nilf) := wK (by kernel_rfl)
@[simp] theorem z130 : wY 130 1 8 (.nilf) := wK (by kernel_rfl)
@[simp] theorem z131 : wY 131 1 8 (.nilp) := wK (by kernel_rfl)
@[simp] theorem z132 : wY 132 1 8 (.nilm) := wK (by kernel_rfl)
@[simp] theorem z133 : wY 133 6 48 (.agg [.nilp, .nilm, .int .i64 0, .int .i64 0, .int .i64 0, .bool false]) := wK (by kernel_rfl)
@[simp] theorem z134 : wY 134 6 48 (.agg [.nilp, .nilm, .int .i64 0, .int .i64 0, .int .i64 0, .bool false]) := wK (by kernel_rfl)
@[simp] theorem z135 : wY 135 1 8 (.agg [.nilf]) := wK (by kernel_rfl)
@[simp] theorem z136 : wY 136 1 8 (.agg [.nilf]) := wK (by kernel_rfl)
@[simp] theorem z138 : wY 138 1 0 (.tuple [.int .i64 0, .bool false]) := wK (by kernel_rfl)
@[simp] theorem z139 : wY 139 1 8 (.nilf) := wK (by kernel_rfl)
@[simp] theorem z140 : wY 140 1 8 (.nilp) := wK (by kernel_rfl)
@[simp] theorem z141 : wY 141 2 16 (.agg [.int .i64 0, .int .i64 0]) := wK (by kernel_rfl)
@[simp] theorem z142 : wY 142 2 16 (.agg [.int .i64 0, .int .i64 0]) := wK (by kernel_rfl)
@[simp] theorem z143 : wY 143 1 8 (.nilf) := wK (by kernel_rfl)
@[simp] theorem z144 : wY 144 1 8 (.nilf) := wK (by kernel_rfl)
@[simp] theorem z145 : wY 145 1 8 (.nilp) := wK (by kernel_rfl)
@[simp] theorem z146 : wY 146 1 8 (.nilp) := wK (by kernel_rfl)
@[simp] theorem z147 : wY 147 1 8 (.nilf) := wK (by kernel_rfl)
@[simp] theorem z148 : wY 148 1 8 (.nilf) := wK (by kernel_rfl)
@[simp] theorem z149 : wY 149 2 16 (.agg [.int .i64 0, .int .i64 0]) := wK (by kernel_rfl)
@[simp] theorem z150 : wY 150 1 8 (.nilf) := wK (by kernel_rfl)
@[simp] theorem z151 : wY 151 1 0 (.tuple [.str [], .int .i64 0]) := wK (by kernel_rfl)
@[simp] theorem z154 : wY 154 1 8 (.nilf) := wK (by kernel_rfl)
@[simp] theorem z156 : wY 156 1 24 (.nils) := wK (by kernel_rfl)
@[simp] theorem z157 : wY 157 2 40 (.agg [.str [], .nils]) := wK (by kernel_rfl)
@[simp] theorem z158 : wY 158 2 40 (.agg [.str [], .nils]) := wK (by kernel_rfl)
@[simp] theorem z159 : wY 159 1 8 (.nilf) := wK (by kernel_rfl)
@[simp] theorem z160 : wY 160 1 8 (.nilf) := wK (by kernel_rfl)
@[simp] theorem z161 : wY 161 1 8 (.nilf) := wK (by kernel_rfl)
@[simp] theorem z162 : wY 162 1 8 (.nilf) := wK (by kernel_rfl)
@[simp] theorem z163 : wY 163 1 8 (.nilf) := wK (by kernel_rfl)
@[simp] theorem z164 : wY 164 1 8 (.nilf) := wK (by kernel_rfl)
@[simp] theorem z165 : wY 165 1 0 (.tuple [.nils, .int .i64 0]) := wK (by kernel_rfl)
@[simp] theorem z167 : wY 167 1 8 (.nilf) := wK (by kernel_rfl)
@[simp] theorem z168 : wY 168 1 8 (.nilf) := wK (by kernel_rfl)
@[simp] theorem z172 : wY 172 3 24 (.agg [.int .i64 0, .int .i64 0, .int .i64 0]) := wK (by kernel_rfl)
@[simp] theorem z173 : wY 173 3 24 (.agg [.int .i64 0, .int .i64 0, .int .i64 0]) := wK (by kernel_rfl)
@[simp] theorem z174 : wY 174 3 24 (.agg [.int .u8 0, .int .u8 0, .str []]) := wK (by kernel_rfl)
@[simp] theorem z175 : wY 175 3 24 (.agg [.int .u8 0, .int .u8 0, .str []]) := wK (by kernel_rfl)
@[simp] theorem z176 : wY 176 1 8 (.nilf) := wK (by kernel_rfl)
@[simp] theorem z177 : wY 177 1 8 (.nilf) := wK (by kernel_rfl)
@[simp] theorem z178 : wY 178 1 0 (.tuple [.int .i64 0, .int .i64 0]) := wK (by kernel_rfl)
@[simp] theorem z179 : wY 179 1 8 (.nilf) := wK (by kernel_rfl)
@[simp] theorem z180 : wY 180 1 8 (.nilf) := wK (by kernel_rfl)
@[simp] theorem z181 : wY 181 1 0 (.tuple [.nilf, .bool false]) := wK (by kernel_rfl)
@[simp] theorem z182 : wY 182 1 8 (.nilm) := wK (by kernel_rfl)
@[simp] theorem z184 : wY 184 4 48 (.agg [.int .i64 0, .int .i64 0, .int .i64 0, .nils]) := wK (by kernel_rfl)
@[simp] theorem z185 : wY 185 4 48 (.agg [.int .i64 0, .int .i64 0, .int .i64 0, .nils]) := wK (by kernel_rfl)
@[simp] theorem z188 : wY 188 1 8 (.nilf) := wK (by kernel_rfl)
@[simp] theorem z193 : wY 193 1 0 (.tuple [.nilp, .int .i64 0]) := wK (by kernel_rfl)
@[simp] theorem z194 : wY 194 1 8 (.nilf) := wK (by kernel_rfl)
@[simp] theorem z196 : wY 196 1 8 (.nilf) := wK (by kernel_rfl)
@[simp] theorem z200 : wY 200 1 8 (.nilf) := wK (by kernel_rfl)
@[simp] theorem z201 : wY 201 1 8 (.nilf) := wK (by kernel_rfl)
@[simp] theorem z202 : wY 202 1 8 (.nilf) := wK (by kernel_rfl)
@[simp] theorem z205 : wY 205 1 0 (.tuple [.str [], .bool false]) := wK (by kernel_rfl)
@[simp] theorem z207 : wY 207 3 48 (.agg [.int .u8 0, .nils, .str []]) := wK (by kernel_rfl)
@[simp] theorem z208 : wY 208 3 48 (.agg [.int .u8 0, .nils, .str []]) := wK (by kernel_rfl)
@[simp] theorem z209 : wY 209 1 8 (.nilf) := wK (by kernel_rfl)
@[simp] theorem z215 : wY 215 1 8 (.nilf) := wK (by kernel_rfl)
@[simp] theorem z217 : wY 217 1 8 (.nilf) := wK (by kernel_rfl)
@[simp] theorem z220 : wY 220 1 24 (.nils) := wK (by kernel_rfl)
@[simp] theorem z221 : wY 221 2 32 (.agg [.nils, .int .i64 0]) := wK (by kernel_rfl)
@[simp] theorem z222 : wY 222 2 32 (.agg [.nils, .int .i64 0]) := wK (by kernel_rfl)
@[simp] theorem z223 : wY 223 1 24 (.nils) := wK (by kernel_rfl)
@[simp] theorem z224 : wY 224 1 8 (.nilm) := wK (by kernel_rfl)
@[simp] theorem z225 : wY 225 1 8 (.nilm) := wK (by kernel_rfl)
@[simp] theorem z226 : wY 226 4 48 (.agg [.nilm, .nilm, .nils, .int .i64 0]) := wK (by kernel_rfl)
@[simp] theorem z227 : wY 227 4 48 (.agg [.nilm, .nilm, .nils, .int .i64 0]) := wK (by kernel_rfl)
@[simp] theorem z228 : wY 228 1 8 (.nilf) := wK (by kernel_rfl)
@[simp] theorem z229 : wY 229 2 24 (.agg [.str [], .nilf]) := wK (by kernel_rfl)
@[simp] theorem z230 : wY 230 2 24 (.agg [.str [], .nilf]) := wK (by kernel_rfl)
@[simp] theorem z233 : wY 233 1 8 (.nilf) := wK (by kernel_rfl)
@[simp] theorem z234 : wY 234 1 8 (.nilf) := wK (by kernel_rfl)
@[simp] theorem z237 : wY 237 1 24 (.nils) := wK (by kernel_rfl)
@[simp] theorem z238 : wY 238 3 56 (.agg [.str [], .nils, .str []]) := wK (by kernel_rfl)
@[simp] theorem z239 : wY 239 3 56 (.agg [.str [], .nils, .str []]) := wK (by kernel_rfl)
@[simp] theorem z241 : wY 241 1 8 (.nilf) := wK (by kernel_rfl)
@[simp] theorem z242 : wY 242 1 8 (.nilf) := wK (by kernel_rfl)
@[simp] theorem z243 : wY 243 1 8 (.nilf) := wK (by kernel_rfl)
@[simp] theorem z244 : wY 244 1 24 (.nils) := wK (by kernel_rfl)
@[simp] theorem z245 : wY 245 1 8 (.nilf) := wK (by kernel_rfl)
@[simp] theorem z246 : wY 246 2 24 (.agg [.str [], .int .i64 0]) := wK (by kernel_rfl)
@[simp] theorem z247 : wY 247 2 24 (.agg [.str [], .int .i64 0]) := wK (by kernel_rfl)
@[simp] theorem z248 : wY 248 1 8 (.nilf) := wK (by kernel_rfl)
@[simp] theorem z249 : wY 249 1 8 (.nilf) := wK (by kernel_rfl)
@[simp] theorem z250 : wY 250 1 8 (.int .u64 0) := wK (by kernel_rfl)
@[simp] theorem z252 : wY 252 1 8 (.nilf) := wK (by kernel_rfl)
@[simp] theorem z253 : wY 253 1 8 (.nilf) := wK (by kernel_rfl)
@[simp] theorem z258 : wY 258 1 16 (.top) := wK (by kernel_rfl)
@[simp] theorem z259 : wY 259 1 16 (.top) := wK (by kernel_rfl)
@[simp] theorem z260 : wY 260 1 0 (.tuple [.int .i64 0, .top]) := wK (by kernel_rfl)
@[simp] theorem z262 : wY 262 1 8 (.nilf) := wK (by kernel_rfl)
@[simp] theorem z263 : wY 263 3 32 (.agg [.bool false, .int .i64 0, .str []]) := wK (by kernel_rfl)
@[simp] theorem z264 : wY 264 3 32 (.agg [.bool false, .int .i64 0, .str []]) := wK (by kernel_rfl)
@[simp] theorem z265 : wY 265 3 32 (.agg [.nils, .int .u32 0, .bool false]) := wK (by kernel_rfl)
@[simp] theorem z266 : wY 266 3 32 (.agg [.nils, .int .u32 0, .bool false]) := wK (by kernel_rfl)
@[simp] theorem z267 : wY 267 1 8 (.nilf) := wK (by kernel_rfl)
@[simp] theorem z268 : wY 268 1 24 (.nils) := wK (by kernel_rfl)
@[simp] theorem z269 : wY 269 1 8 (.nilf) := wK (by kernel_rfl)
@[simp] theorem z270 : wY 270 1 8 (.nilf) := wK (by kernel_rfl)
@[simp] theorem z272 : wY 272 5 80 (.agg [.str [], .str [], .str [], .str [], .str []]) := wK (by kernel_rfl)
@[simp] theorem z275 : wY 275 1 8 (.nilf) := wK (by kernel_rfl)
@[simp] theorem z279 : wY 279 1 8 (.int .u64 0) := wK (by kernel_rfl)
@[simp] theorem z281 : wY 281 1 24 (.nils) := wK (by kernel_rfl)
@[simp] theorem z282 : wY 282 1 8 (.nilf) := wK (by kernel_rfl)
@[simp] theorem z288 : wY 288 1 8 (.nilf) := wK (by kernel_rfl)
@[simp] theorem z290 : wY 290 1 8 (.nilf) := wK (by kernel_rfl)
@[simp] theorem z292 : wY 292 1 24 (.nils) := wK (by kernel_rfl)
@[simp] theorem z293 : wY 293 1 0 (.tuple [.nils, .int .i64 0, .int .i64 0]) := wK (by kernel_rfl)
@[simp] theorem z295 : wY 295 1 8 (.nilf) := wK (by kernel_rfl)
@[simp] theorem z312 : wY 312 1 8 (.nilp) := wK (by kernel_rfl)
@[simp] theorem z317 : wY 317 1 8 (.nilf) := wK (by kernel_rfl)
@[simp] theorem z318 : wY 318 1 8 (.nilf) := wK (by kernel_rfl)
@[simp] theorem z323 : wY 323 1 8 (.int .i64 0) := wK (by kernel_rfl)
@[simp] theorem z324 : wY 324 1 0 (.tuple [.int .i64 0, .int .i64 0]) := wK (by kernel_rfl)
@[simp] theorem z328 : wY 328 1 8 (.nilf) := wK (by kernel_rfl)
@[simp] theorem z352 : wY 352 1 8 (.nilp) := wK (by kernel_rfl)
@[simp] theorem z360 : wY 360 1 8 (.int .i64 0) := wK (by kernel_rfl)
@[simp] theorem z361 : wY 361 1 0 (.tuple [.int .i64 0, .top]) := wK (by kernel_rfl)
@[simp] theorem z363 : wY 363 1 8 (.nilp) := wK (by kernel_rfl)
@[simp] theorem z367 : wY 367 1 8 (.int .u64 0) := wK (by kernel_rfl)
@[simp] theorem z369 : wY 369 1 8 (.nilf) := wK (by kernel_rfl)
@[simp] theorem z377 : wY 377 1 8 (.nilf) := wK (by kernel_rfl)
@[simp] theorem z380 : wY 380 1 0 (.tuple [.int .u64 0, .top]) := wK (by kernel_rfl)
@[simp] theorem z381 : wY 381 1 8 (.nilf) := wK (by kernel_rfl)
@[simp] theorem z382 : wY 382 3 48 (.agg [.str [], .str [], .top]) := wK (by kernel_rfl)
@[simp] theorem z383 : wY 383 3 48 (.agg [.str [], .str [], .top]) := wK (by kernel_rfl)
@[simp] theorem z384 : wY 384 1 8 (.nilf) := wK (by kernel_rfl)
@[simp] theorem z385 : wY 385 1 8 (.nilp) := wK (by kernel_rfl)
@[simp] theorem z386 : wY 386 1 8 (.nilf) := wK (by kernel_rfl)
@[simp] theorem z387 : wY 387 24 24 (.agg [.int .u8 0, .int .u8 0, .int .u8 0, .int .u8 0, .int .u8 0, .int .u8 0, .int .u8 0, .int .u8 0, .int .u8 0, .int .u8 0, .int .u8 0, .int .u8 0, .int .u8 0, .int .u8 0, .int .u8 0, .int .u8 0, .int .u8 0, .int .u8 0, .int .u8 0, .int .u8 0, .int .u8 0, .int .u8 0, .int .u8 0, .int .u8 0]) := wK (by kernel_rfl)
@[simp] theorem z388 : wY 388 1 8 (.nilf) := wK (by kernel_rfl)
@[simp] theorem z389 : wY 389 1 0 (.tuple [.nils, .str []]) := wK (by kernel_rfl)
@[simp] theorem z390 : wY 390 1 8 (.nilf) := wK (by kernel_rfl)
@[simp] theorem z391 : wY 391 1 8 (.nilf) := wK (by kernel_rfl)
@[simp] theorem z392 : wY 392 1 8 (.nilf) := wK (by kernel_rfl)
@[simp] theorem z393 : wY 393 1 8 (.nilf) := wK (by kernel_rfl)
@[simp] theorem z396 : wY 396 1 24 (.nils) := wK (by kernel_rfl)
@[simp] theorem z397 : wY 397 16 64 (.agg [.int .u32 0, .int .u32 0, .int .u32 0, .int .u32 0, .int .u32 0, .int .u32 0, .int .u32 0, .int .u32 0, .int .u32 0, .int .u32 0, .int .u32 0, .int .u32 0, .int .u32 0, .int .u32 0, .int .u32 0, .int .u32 0]) := wK (by kernel_rfl)
@[simp] theorem z399 : wY 399 1 8 (.nilf) := wK (by kernel_rfl)
@[simp] theorem z400 : wY 400 1 8 (.nilf) := wK (by kernel_rfl)
@[simp] theorem z401 : wY 401 1 8 (.nilp) := wK (by kernel_rfl)
@[simp] theorem z402 : wY 402 1 16 (.agg [.str []]) := wK (by kernel_rfl)
@[simp] theorem z403 : wY 403 1 16 (.agg [.str []]) := wK (by kernel_rfl)
@[simp] theorem z406 : wY 406 20 160 (.agg [.int .u64 0, .int .u64 0, .int .u64 0, .int .u64 0, .int .u64 0, .int .u64 0, .int .u64 0, .int .u64 0, .int .u64 0, .int .u64 0, .int .u64 0, .int .u64 0, .int .u64 0, .int .u64 0, .int .u64 0, .int .u64 0, .int .u64 0, .int .u64 0, .int .u64 0, .int .u64 0]) := wK (by kernel_rfl)
@[simp] theorem z411 : wY 411 32 32 (.agg [.int .u8 0, .int .u8 0, .int .u8 0, .int .u8 0, .int .u8 0, .int .u8 0, .int .u8 0, .int .u8 0, .int .u8 0, .int .u8 0, .int .u8 0, .int .u8 0, .int .u8 0, .int .u8 0, .int .u8 0, .int .u8 0, .int .u8 0, .int .u8 0, .int .u8 0, .int .u8 0, .int .u8 0, .int .u8 0, .int .u8 0, .int .u8 0, .int .u8 0, .int .u8 0, .int .u8 0, .int .u8 0, .int .u8 0, .int .u8 0, .int .u8 0, .int .u8 0]) := wK (by kernel_rfl)
@[simp] theorem z412 : wY 412 64 64 (.agg [.int .u8 0, .int .u8 0, .int .u8 0, .int .u8 0, .int .u8 0, .int .u8 0, .int .u8 0, .int .u8 0, .int .u8 0, .int .u8 0, .int .u8 0, .int .u8 0, .int .u8 0, .int .u8 0, .int .u8 0, .int .u8 0, .int .u8 0, .int .u8 0, .int .u8 0, .int .u8 0, .int .u8 0, .int .u8 0, .int .u8 0, .int .u8 0, .int .u8 0, .int .u8 0, .int .u8 0, .int .u8 0, .int .u8 0, .int .u8 0, .int .u8 0, .int .u8 0, .int .u8 0, .int .u8 0, .int .u8 0, .int .u8 0, .int .u8 0, .int .u8 0, .int .u8 0, .int .u8 0, .int .u8 0, .int .u8 0, .int .u8 0, .int .u8 0, .int .u8 0, .int .u8 0, .int .u8 0, .int .u8 0, .int .u8 0, .int .u8 0, .int .u8 0, .int .u8 0, .int .u8 0, .int .u8 0, .int .u8 0, .int .u8 0, .int .u8 0, .int .u8 0, .int .u8 0, .int .u8 0, .int .u8 0, .int .u8 0, .int .u8 0, .int .u8 0]) := wK (by kernel_rfl)
@[simp] theorem z413 : wY 413 4 40 (.agg [.nilp, .nilp, .nilp, .str []]) := wK (by kernel_rfl)
@[simp] theorem z414 : wY 414 4 40 (.agg [.nilp, .nilp, .nilp, .str []]) := wK (by kernel_rfl)
@[simp] theorem z415 : wY 415 0 0 (.agg []) := wK (by kernel_rfl)
@[simp] theorem z416 : wY 416 0 0 (.agg []) := wK (by kernel_rfl)
@[simp] theorem z417 : wY 417 0 0 (.agg []) := wK (by kernel_rfl)
@[simp] theorem z418 : wY 418 1 1 (.int .u8 0) := wK (by kernel_rfl)
@[simp] theorem z419 : wY 419 1 1 (.int .u8 0) := wK (by kernel_rfl)
@[simp] theorem z420 : wY 420 1 8 (.nilf) := wK (by kernel_rfl)
@[simp] theorem z421 : wY 421 1 4 (.int .i32 0) := wK (by kernel_rfl)
@[simp] theorem z422 : wY 422 1 4 (.int .i32 0) := wK (by kernel_rfl)
@[simp] theorem z423 : wY 423 11 48 (.agg [.int .u64 0, .int .u64 0, .int .u32 0, .int .u8 0, .int .u8 0, .int .u8 0, .int .u8 0, .nilf, .nilp, .int .i32 0, .int .i32 0]) := wK (by kernel_rfl)
@[simp] theorem z424 : wY 424 11 48 (.agg [.int .u64 0, .int .u64 0, .int .u32 0, .int .u8 0, .int .u8 0, .int .u8 0, .int .u8 0, .nilf, .nilp, .int .i32 0, .int .i32 0]) := wK (by kernel_rfl)
@[simp] theorem fe7 : Zh Pz 7 = some 4 := by kernel_rfl
@[simp] theorem fe8 : Zh Pz 8 = some 4 := by kernel_rfl
@[simp] theorem fe47 : Zh Pz 47 = some 3 := by kernel_rfl
@[simp] theorem fe48 : Zh Pz 48 = some 3 := by kernel_rfl
@[simp] theorem fe72 : Zh Pz 72 = some 2 := by kernel_rfl
@[simp] theorem fe73 : Zh Pz 73 = some 2 := by kernel_rfl
@[simp] theorem fe141 : Zh Pz 141 = some 2 := by kernel_rfl
@[simp] theorem fe142 : Zh Pz 142 = some 2 := by kernel_rfl
@[simp] theorem fe149 : Zh Pz 149 = some 2 := by kernel_rfl
@[simp] theorem fe172 : Zh Pz 172 = some 3 := by kernel_rfl
@[simp] theorem fe173 : Zh Pz 173 = some 3 := by kernel_rfl
@[simp] theorem fe174 : Zh Pz 174 = some 3 := by kernel_rfl
@[simp] theorem fe175 : Zh Pz 175 = some 3 := by kernel_rfl
@[simp] theorem fe246 : Zh Pz 246 = some 2 := by kernel_rfl
@[simp] theorem fe247 : Zh Pz 247 = some 2 := by kernel_rfl
@[simp] theorem fe263 : Zh Pz 263 = some 3 := by kernel_rfl
@[simp] theorem fe264 : Zh Pz 264 = some 3 := by kernel_rfl
@[simp] theorem fe402 : Zh Pz 402 = some 1 := by kernel_rfl
@[simp] theorem fe403 : Zh Pz 403 = some 1 := by kernel_rfl
@[simp] theorem fn4 : zI Pz 4 = some Tryz.f4 := Tryz.func4
@[simp] theorem fn8 : zI Pz 8 = some Tryz.f8 := Tryz.func8
@[simp] theorem fn14 : zI Pz 14 = some Tryz.f14 := Tryz.func14
@[simp] theorem fn15 : zI Pz 15 = some Tryz.f15 := Tryz.func15
@[simp] theorem fn30 : zI Pz 30 = some Tryz.f30 := Tryz.func30
@[simp] theorem fn31 : zI Pz 31 = some Tryz.f31 := Tryz.func31
@[simp] theorem fn32 : zI Pz 32 = some Tryz.f32 := Tryz.func32
@[simp] theorem fn33 : zI Pz 33 = some Tryz.f33 := Tryz.func33
@[simp] theorem fn34 : zI Pz 34 = some Tryz.f34 := Tryz.func34
@[simp] theorem fn35 : zI Pz 35 = some Tryz.f35 := Tryz.func35
@[simp] theorem fn36 : zI Pz 36 = some Tryz.f36 := Tryz.func36
@[simp] theorem fn37 : zI Pz 37 = some Tryz.f37 := Tryz.func37
@[simp] theorem fn38 : zI Pz 38 = some Tryz.f38 := Tryz.func38
@[simp] theorem fn39 : zI Pz 39 = some Tryz.f39 := Tryz.func39
@[simp] theorem fn40 : zI Pz 40 = some Tryz.f40 := Tryz.func40
@[simp] theorem fn41 : zI Pz 41 = some Tryz.f41 := Tryz.func41
@[simp] theorem fn42 : zI Pz 42 = some Tryz.f42 := Tryz.func42
@[simp] theorem fn43 : zI Pz 43 = some Tryz.f43 := Tryz.func43
@[simp] theorem fn44 : zI Pz 44 = some Tryz.f44 := Tryz.func44
@[simp] theorem fn45 : zI Pz 45 = some Tryz.f45 := Tryz.func45
@[simp] theorem fn46 : zI Pz 46 = some Tryz.f46 := Tryz.func46
@[simp] theorem fn47 : zI Pz 47 = some Tryz.f47 := Tryz.func47
@[simp] theorem fn48 : zI Pz 48 = some Tryz.f48 := Tryz.func48
@[simp] theorem fn49 : zI Pz 49 = some Tryz.f49 := Tryz.func49
@[simp] theorem fn50 : zI Pz 50 = some Tryz.f50 := Tryz.func50
@[simp] theorem fn67 : zI Pz 67 = some Tryz.f67 := Tryz.func67
@[simp] theorem fn74 : zI Pz 74 = some Tryz.f74 := Tryz.func74
@[simp] theorem fn75 : zI Pz 75 = some Tryz.f75 := Tryz.func75
@[simp] theorem fn76 : zI Pz 76 = some Tryz.f76 := Tryz.func76
@[simp] theorem fn78 : zI Pz 78 = some Tryz.f78 := Tryz.func78
@[simp] theorem fn80 : zI Pz 80 = some Tryz.f80 := Tryz.func80
@[simp] theorem fn81 : zI Pz 81 = some Tryz.f81 := Tryz.func81
@[simp] theorem fn88 : zI Pz 88 = some Tryz.f88 := Tryz.func88
@[simp] theorem fn90 : zI Pz 90 = some Tryz.f90 := Tryz.func90
@[simp] theorem fn91 : zI Pz 91 = some Tryz.f91 := Tryz.func91
@[simp] theorem fn92 : zI Pz 92 = some Tryz.f92 := Tryz.func92
@[simp] theorem fn93 : zI Pz 93 = some Tryz.f93 := Tryz.func93
@[simp] theorem fn96 : zI Pz 96 = some Tryz.f96 := Tryz.func96
@[simp] theorem fn115 : zI Pz 115 = some Tryz.f115 := Tryz.func115
@[simp] theorem fn116 : zI Pz 116 = some Tryz.f116 := Tryz.func116
@[simp] theorem fn117 : zI Pz 117 = some Tryz.f117 := Tryz.func117
@[simp] theorem fn118 : zI Pz 118 = some Tryz.f118 := Tryz.func118
@[simp] theorem fn119 : zI Pz 119 = some Tryz.f119 := Tryz.func119
@[simp] theorem fn120 : zI Pz 120 = some Tryz.f120 := Tryz.func120
@[simp] theorem fn121 : zI Pz 121 = some Tryz.f121 := Tryz.func121
@[simp] theorem fn122 : zI Pz 122 = some Tryz.f122 := Tryz.func122
@[simp] theorem fn123 : zI Pz 123 = some Tryz.f123 := Tryz.func123
@[simp] theorem fn124 : zI Pz 124 = some Tryz.f124 := Tryz.func124
@[simp] theorem fn125 : zI Pz 125 = some Tryz.f125 := Tryz.func125
@[simp] theorem fn126 : zI Pz 126 = some Tryz.f126 := Tryz.func126
@[simp] theorem fn127 : zI Pz 127 = some Tryz.f127 := Tryz.func127
@[simp] theorem fn128 : zI Pz 128 = some Tryz.f128 := Tryz.func128
@[simp] theorem fn129 : zI Pz 129 = some Tryz.f129 := Tryz.func129
@[simp] theorem fn130 : zI Pz 130 = some Tryz.f130 := Tryz.func130
@[simp] theorem fn131 : zI Pz 131 = some Tryz.f131 := Tryz.func131
@[simp] theorem fn132 : zI Pz 132 = some Tryz.f132 := Tryz.func132
@[simp] theorem fn133 : zI Pz 133 = some Tryz.f133 := Tryz.func133
@[simp] theorem fn134 : zI Pz 134 = some Tryz.f134 := Tryz.func134
@[simp] theorem fn135 : zI Pz 135 = some Tryz.f135 := Tryz.func135
@[simp] theorem fn136 : zI Pz 136 = some Tryz.f136 := Tryz.func136
@[simp] theorem fn137 : zI Pz 137 = some Tryz.f137 := Tryz.func137
@[simp] theorem fn138 : zI Pz 138 = some Tryz.f138 := Tryz.func138
@[simp] theorem fn139 : zI Pz 139 = some Tryz.f139 := Tryz.func139
@[simp] theorem fn168 : zI Pz 168 = some Tryz.f168 := Tryz.func168
@[simp] theorem fn170 : zI Pz 170 = some Tryz.f170 := Tryz.func170
@[simp] theorem fn171 : zI Pz 171 = some Tryz.f171 := Tryz.func171
@[simp] theorem fn172 : zI Pz 172 = some Tryz.f172 := Tryz.func172
@[simp] theorem fn173 : zI Pz 173 = some Tryz.f173 := Tryz.func173
@[simp] theorem fn176 : zI Pz 176 = some Tryz.f176 := Tryz.func176
@[simp] theorem fn177 : zI Pz 177 = some Tryz.f177 := Tryz.func177
@[simp] theorem fn178 : zI Pz 178 = some Tryz.f178 := Tryz.func178
@[simp] theorem fn184 : zI Pz 184 = some Tryz.f184 := Tryz.func184
@[simp] theorem fn185 : zI Pz 185 = some Tryz.f185 := Tryz.func185
@[simp] theorem fn186 : zI Pz 186 = some Tryz.f186 := Tryz.func186
@[simp] theorem fn187 : zI Pz 187 = some Tryz.f187 := Tryz.func187
@[simp] theorem fn188 : zI Pz 188 = some Tryz.f188 := Tryz.func188
@[simp] theorem fn189 : zI Pz 189 = some Tryz.f189 := Tryz.func189
@[simp] theorem fn202 : zI Pz 202 = some Tryz.f202 := Tryz.func202
@[simp] theorem fn203 : zI Pz 203 = some Tryz.f203 := Tryz.func203
@[simp] theorem fn204 : zI Pz 204 = some Tryz.f204 := Tryz.func204
@[simp] theorem fn205 : zI Pz 205 = some Tryz.f205 := Tryz.func205
@[simp] theorem fn206 : zI Pz 206 = some Tryz.f206 := Tryz.func206
@[simp] theorem fn207 : zI Pz 207 = some Tryz.f207 := Tryz.func207
@[simp] theorem fn208 : zI Pz 208 = some Tryz.f208 := Tryz.func208
@[simp] theorem fn209 : zI Pz 209 = some Tryz.f209 := Tryz.func209
@[simp] theorem fn210 : zI Pz 210 = some Tryz.f210 := Tryz.func210
@[simp] theorem fn211 : zI Pz 211 = some Tryz.f211 := Tryz.func211
@[simp] theorem fn212 : zI Pz 212 = some Tryz.f212 := Tryz.func212
@[simp] theorem fn213 : zI Pz 213 = some Tryz.f213 := Tryz.func213
@[simp] theorem fn214 : zI Pz 214 = some Tryz.f214 := Tryz.func214
@[simp] theorem fn215 : zI Pz 215 = some Tryz.f215 := Tryz.func215
@[simp] theorem fn216 : zI Pz 216 = some Tryz.f216 := Tryz.func216
@[simp] theorem fn217 : zI Pz 217 = some Tryz.f217 := Tryz.func217
@[simp] theorem fn218 : zI Pz 218 = some Tryz.f218 := Tryz.func218
@[simp] theorem fn219 : zI Pz 219 = some Tryz.f219 := Tryz.func219
@[simp] theorem fn220 : zI Pz 220 = some Tryz.f220 := Tryz.func220
@[simp] theorem fn221 : zI Pz 221 = some Tryz.f221 := Tryz.func221
@[simp] theorem fn250 : zI Pz 250 = some Tryz.f250 := Tryz.func250
@[simp] theorem fn252 : zI Pz 252 = some Tryz.f252 := Tryz.func252
@[simp] theorem fn253 : zI Pz 253 = some Tryz.f253 := Tryz.func253
@[simp] theorem fn254 : zI Pz 254 = some Tryz.f254 := Tryz.func254
@[simp] theorem fn269 : zI Pz 269 = some Tryz.f269 := Tryz.func269
@[simp] theorem fn270 : zI Pz 270 = some Tryz.f270 := Tryz.func270
@[simp] theorem fn271 : zI Pz 271 = some Tryz.f271 := Tryz.func271
@[simp] theorem fn272 : zI Pz 272 = some Tryz.f272 := Tryz.func272
@[simp] theorem fn273 : zI Pz 273 = some Tryz.f273 := Tryz.func273
@[simp] theorem fn274 : zI Pz 274 = some Tryz.f274 := Tryz.func274
@[simp] theorem fn275 : zI Pz 275 = some Tryz.f275 := Tryz.func275
@[simp] theorem fn276 : zI Pz 276 = some Tryz.f276 := Tryz.func276
@[simp] theorem fn277 : zI Pz 277 = some Tryz.f277 := Tryz.func277
@[simp] theorem fn278 : zI Pz 278 = some Tryz.f278 := Tryz.func278
@[simp] theorem fn279 : zI Pz 279 = some Tryz.f279 := Tryz.func279
@[simp] theorem fn280 : zI Pz 280 = some Tryz.f280 := Tryz.func280
@[simp] theorem fn281 : zI Pz 281 = some Tryz.f281 := Tryz.func281
@[simp] theorem fn282 : zI Pz 282 = some Tryz.f282 := Tryz.func282
@[simp] theorem fn283 : zI Pz 283 = some Tryz.f283 := Tryz.func283
@[simp] theorem fn284 : zI Pz 284 = some Tryz.f284 := Tryz.func284
@[simp] theorem fn285 : zI Pz 285 = some Tryz.f285 := Tryz.func285
@[simp] theorem fn286 : zI Pz 286 = some Tryz.f286 := Tryz.func286
@[simp] theorem fn287 : zI Pz 287 = some Tryz.f287 := Tryz.func287
@[simp] theorem fn288 : zI Pz 288 = some Tryz.f288 := Tryz.func288
@[simp] theorem fn289 : zI Pz 289 = some Tryz.f289 := Tryz.func289
@[simp] theorem fn290 : zI Pz 290 = some Tryz.f290 := Tryz.func290
@[simp] theorem fn295 : zI Pz 295 = some Tryz.f295 := Tryz.func295
@[simp] theorem fn310 : zI Pz 310 = some Tryz.f310 := Tryz.func310
@[simp] theorem fn319 : zI Pz 319 = some Tryz.f319 := Tryz.func319
@[simp] theorem fn320 : zI Pz 320 = some Tryz.f320 := Tryz.func320
@[simp] theorem fn321 : zI Pz 321 = some Tryz.f321 := Tryz.func321
@[simp] theorem fn322 : zI Pz 322 = some Tryz.f322 := Tryz.func322
@[simp] theorem fn323 : zI Pz 323 = some Tryz.f323 := Tryz.func323
@[simp] theorem fn324 : zI Pz 324 = some Tryz.f324 := Tryz.func324
@[simp] theorem fn325 : zI Pz 325 = some Tryz.f325 := Tryz.func325
@[simp] theorem fn326 : zI Pz 326 = some Tryz.f326 := Tryz.func326
@[simp] theorem fn327 : zI Pz 327 = some Tryz.f327 := Tryz.func327
@[simp] theorem fn328 : zI Pz 328 = some Tryz.f328 := Tryz.func328
@[simp] theorem fn329 : zI Pz 329 = some Tryz.f329 := Tryz.func329
@[simp] theorem fn330 : zI Pz 330 = some Tryz.f330 := Tryz.func330
@[simp] theorem fn331 : zI Pz 331 = some Tryz.f331 := Tryz.func331
@[simp] theorem fn332 : zI Pz 332 = some Tryz.f332 := Tryz.func332
@[simp] theorem fn333 : zI Pz 333 = some Tryz.f333 := Tryz.func333
@[simp] theorem fn334 : zI Pz 334 = some Tryz.f334 := Tryz.func334
@[simp] theorem fn335 : zI Pz 335 = some Tryz.f335 := Tryz.func335
@[simp] theorem fn350 : zI Pz 350 = some Tryz.f350 := Tryz.func350
@[simp] theorem fn351 : zI Pz 351 = some Tryz.f351 := Tryz.func351
@[simp] theorem fn352 : zI Pz 352 = some Tryz.f352 := Tryz.func352
@[simp] theorem fn353 : zI Pz 353 = some Tryz.f353 := Tryz.func353
@[simp] theorem fn354 : zI Pz 354 = some Tryz.f354 := Tryz.func354
@[simp] theorem fn355 : zI Pz 355 = some Tryz.f355 := Tryz.func355
@[simp] theorem fn356 : zI Pz 356 = some Tryz.f356 := Tryz.func356
@[simp] theorem fn357 : zI Pz 357 = some Tryz.f357 := Tryz.func357
@[simp] theorem fn369 : zI Pz 369 = some Tryz.f369 := Tryz.func369
@[simp] theorem fn370 : zI Pz 370 = some Tryz.f370 := Tryz.func370
@[simp] theorem fn371 : zI Pz 371 = some Tryz.f371 := Tryz.func371
@[simp] theorem fn372 : zI Pz 372 = some Tryz.f372 := Tryz.func372
@[simp] theorem fn373 : zI Pz 373 = some Tryz.f373 := Tryz.func373
@[simp] theorem fn374 : zI Pz 374 = some Tryz.f374 := Tryz.func374
@[simp] theorem fn378 : zI Pz 378 = some Tryz.f378 := Tryz.func378
@[simp] theorem fn379 : zI Pz 379 = some Tryz.f379 := Tryz.func379
theorem wS {Γ : Gam} (hΓ : GOk Pz Γ) {r : Option Nat} {n0 : Nat} {x y : Code} {F F' : List AV} {H H' : zA} {Q : AX -> List AV -> zA -> Prop} (h : zJ Pz Γ 0 r.isNone x F H = some (.normal, F', H')) (k : Sim Pz r n0 y F' H' Q) (hn : n0 <= H.length := by simp) : Sim Pz r n0 (.seq x y) F H Q := Sim.step hmix hΓ h hn k
theorem wE {Γ : Gam} (hΓ : GOk Pz Γ) {r : Option Nat} {n0 : Nat} {c : Code} {F F' : List AV} {H H' : zA} {x : AX} {Q : AX -> List AV -> zA -> Prop} (h : zJ Pz Γ 0 r.isNone c F H = some (x, F', H')) (k : Q x F' H') (hn : n0 <= H.length := by simp) : Sim Pz r n0 c F H Q := Sim.exec hmix hΓ h hn k
theorem wR {α β : Type} {a : α} {b : β} : a = a /\ b = b := ⟨rfl, rfl⟩
theorem wT {α β γ : Type} {a : α} {b : β} {c : γ} : a = a /\ b = b /\ c = c := ⟨rfl, rfl, rfl⟩
theorem wW {n : Nat} {F : List AV} {H : zA} {Fn : List AV} {Hn : zA} (rn : List Nat) (h4 : AWg rn H Hn rn) (h1 : rn.Nodup := by decide) (h2 : rn.take n = List.range n := by decide) (h3 : AWs rn Fn F := by simp) : Weak n F H Fn Hn := Weak.mk' rn h1 h2 h3 h4
attribute [simp] Tryz.underlying0 Tryz.underlying1 Tryz.underlying2 Tryz.underlying3 Tryz.underlying4 Tryz.underlying5 Tryz.underlying6 Tryz.underlying7 Tryz.underlying8 Tryz.underlying9 Tryz.underlying10 Tryz.underlying11 Tryz.underlying12 Tryz.underlying13 Tryz.underlying14 Tryz.underlying15 Tryz.underlying16 Tryz.underlying17 Tryz.underlying20 Tryz.underlying21 Tryz.underlying22 Tryz.underlying23 Tryz.underlying24 Tryz.underlying26 Tryz.underlying28 Tryz.underlying30 Tryz.underlying31 Tryz.underlying32 Tryz.underlying35 Tryz.underlying36 Tryz.underlying39 Tryz.underlying40 Tryz.underlying41 Tryz.underlying42 Tryz.underlying43 Tryz.underlying44 Tryz.underlying45 Tryz.underlying46 Tryz.underlying47 Tryz.underlying48 Tryz.underlying49 Tryz.underlying50 Tryz.underlying51 Tryz.underlying52 Tryz.underlying53 Tryz.underlying55 Tryz.underlying56 Tryz.underlying57 Tryz.underlying59 Tryz.underlying61 Tryz.underlying62 Tryz.underlying63 Tryz.underlying64 Tryz.underlying65 Tryz.underlying66 Tryz.underlying67 Tryz.underlying68 Tryz.underlying69 Tryz.underlying70 Tryz.underlying71 Tryz.underlying72 Tryz.underlying73 Tryz.underlying74 Tryz.underlying75 Tryz.underlying76 Tryz.underlying77 Tryz.underlying78 Tryz.underlying80 Tryz.underlying81 Tryz.underlying82 Tryz.underlying83 Tryz.underlying84 Tryz.underlying85 Tryz.underlying87 Tryz.underlying88 Tryz.underlying89 Tryz.underlying90 Tryz.underlying91 Tryz.underlying92 Tryz.underlying93 Tryz.underlying94 Tryz.underlying95 Tryz.underlying96 Tryz.underlying97 Tryz.underlying98 Tryz.underlying99 Tryz.underlying100 Tryz.underlying104 Tryz.underlying105 Tryz.underlying106 Tryz.underlying107 Tryz.underlying108 Tryz.underlying109 Tryz.underlying110 Tryz.underlying111 Tryz.underlying112 Tryz.underlying114 Tryz.underlying115 Tryz.underlying117 Tryz.underlying127 Tryz.underlying128 Tryz.underlying129 Tryz.underlying130 Tryz.underlying131 Tryz.underlying132 Tryz.underlying133 Tryz.underlying134 Tryz.underlying135 Tryz.underlying136 Tryz.underlying138 Tryz.underlying139 Tryz.underlying140 Tryz.underlying141 Tryz.underlying142 Tryz.underlying143 Tryz.underlying144 Tryz.underlying145 Tryz.underlying146 Tryz.underlying147 Tryz.underlying148 Tryz.underlying149 Tryz.underlying150 Tryz.underlying151 Tryz.underlying154 Tryz.underlying156 Tryz.underlying157 Tryz.underlying158 Tryz.underlying159 Tryz.underlying160 Tryz.underlying161 Tryz.underlying162 Tryz.underlying163 Tryz.underlying164 Tryz.underlying165 Tryz.underlying167 Tryz.underlying168 Tryz.underlying172 Tryz.underlying173 Tryz.underlying174 Tryz.underlying175 Tryz.underlying176 Tryz.underlying177 Tryz.underlying178 Tryz.underlying179 Tryz.underlying180 Tryz.underlying181 Tryz.underlying182 Tryz.underlying184 Tryz.underlying185 Tryz.underlying188 Tryz.underlying193 Tryz.underlying194 Tryz.underlying196 Tryz.underlying200 Tryz.underlying201 Tryz.underlying202 Tryz.underlying205 Tryz.underlying207 Tryz.underlying208 Tryz.underlying209 Tryz.underlying215 Tryz.underlying217 Tryz.underlying220 Tryz.underlying221 Tryz.underlying222 Tryz.underlying223 Tryz.underlying224 Tryz.underlying225 Tryz.underlying226 Tryz.underlying227 Tryz.underlying228 Tryz.underlying229 Tryz.underlying230 Tryz.underlying233 Tryz.underlying234 Tryz.underlying237 Tryz.underlying238 Tryz.underlying239 Tryz.underlying241 Tryz.underlying242 Tryz.underlying243 Tryz.underlying244 Tryz.underlying245 Tryz.underlying246 Tryz.underlying247 Tryz.underlying248 Tryz.underlying249 Tryz.underlying250 Tryz.underlying252 Tryz.underlying253 Tryz.underlying258 Tryz.underlying259 Tryz.underlying260 Tryz.underlying262 Tryz.underlying263 Tryz.underlying264 Tryz.underlying265 Tryz.underlying266 Tryz.underlying267 Tryz.underlying268 Tryz.underlying269 Tryz.underlying270 Tryz.underlying272 Tryz.underlying275 Tryz.underlying279 Tryz.underlying281 Tryz.underlying282 Tryz.underlying288 Tryz.underlying290 Tryz.underlying292 Tryz.underlying293 Tryz.underlying295 Tryz.underlying312 Tryz.underlying317 Tryz.underlying318 Tryz.underlying323 Tryz.underlying324 Tryz.underlying328 Tryz.underlying352 Tryz.underlying360 Tryz.underlying361 Tryz.underlying363 Tryz.underlying367 Tryz.underlying369 Tryz.underlying377 Tryz.underlying380 Tryz.underlying381 Tryz.underlying382 Tryz.underlying383 Tryz.underlying384 Tryz.underlying385 Tryz.underlying386 Tryz.underlying387 Tryz.underlying388 Tryz.underlying389 Tryz.underlying390 Tryz.underlying391 Tryz.underlying392 Tryz.underlying393 Tryz.underlying396 Tryz.underlying397 Tryz.underlying399 Tryz.underlying400 Tryz.underlying401 Tryz.underlying402 Tryz.underlying403 Tryz.underlying406 Tryz.underlying407 Tryz.underlying411 Tryz.underlying412 Tryz.underlying413 Tryz.underlying414 Tryz.underlying415 Tryz.underlying416 Tryz.underlying417 Tryz.underlying418 Tryz.underlying419 Tryz.underlying420 Tryz.underlying421 Tryz.underlying422 Tryz.underlying423 Tryz.underlying424
end Go.Proofs.YtfhidaoiofeooaaGreatDoor
