/- Parts of the proof of ReplayReads: lemmas, each with its own conditions. -/
import Derived.Test.YthafeihjlamhhaaGreatDoorY4
import Derived.Test.YthafeihjlamhhaaGreatDoorY7
namespace Go.Proofs.YthafeihjlamhhaaGreatDoor
open Go
set_option maxRecDepth 100000
attribute [-simp] drawOk_eq adraw qrun acode aops
@[simp] theorem take_bytesA (s : List UInt8) (n : Nat) : (bytesA s).take n = bytesA (s.take n) := by simp [bytesA, List.map_take]
@[simp] theorem drop_bytesA (s : List UInt8) (n : Nat) : (bytesA s).drop n = bytesA (s.drop n) := by simp [bytesA, List.map_drop]
theorem get_bytesA (s : List UInt8) (i : Nat) (h : i < s.length) : (bytesA s)[i]? = some (.int .u8 (s[i].toNat : Int)) := by
  unfold bytesA
  rw [List.getElem?_map, List.getElem?_eq_getElem h]
  rfl
@[simp] theorem getElem_bytesA (s : List UInt8) (i : Nat) (h : i < (bytesA s).length) : (bytesA s)[i] = .int .u8 ((s[i]'(by simpa using h)).toNat : Int) := by simp [bytesA]
theorem rem_nat_Ko (a : Int) (n : Nat) (h0 : 0 ≤ a) (hn : 0 < n) (z : Int) (hz : z = n) : ∃ i : Nat, a.tmod z = i ∧ i < n := by
  subst hz
  refine ⟨(a % (n : Int)).toNat, ?_, ?_⟩
  · rw [tmod_nn h0]
    have := Int.emod_nonneg a (show (n : Int) ≠ 0 by omega)
    omega
  · have := Int.emod_lt_of_pos a (show 0 < (n : Int) by omega)
    have := Int.emod_nonneg a (show (n : Int) ≠ 0 by omega)
    omega
end Go.Proofs.YthafeihjlamhhaaGreatDoor
