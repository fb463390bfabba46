/- Walk: cedillalaw02.VaryKnown. -/
import Derived.Test.YtmoegdjpmcjhcaaVaryH
import Derived.Test.YtmoegdjpmcjhcaaVaryQ
import Derived.Test.YtmoegdjpmcjhcaaShelf
import Derived.Deep.RegionHeld3
namespace Go.Proofs.Ytmoegdjpmcjhcaa
open Go.RowKit

/-- The numbers of each count of bytes. -/
theorem known_num (m : Nat) (h1 : 1 ≤ m) (h8 : m ≤ 8) : ∃ L M L1 : Nat, (L : Int) = (if m = 1 then 248 else IntKind.u64.wrap (2 ^ (8 * (m - 1)))) ∧
    IntKind.u64.wrap (IntKind.u64.wrap (IntKind.u64.wrap (2 ^ (8 * m - 1)) * 2) - 1) = (M : Int) ∧ IntKind.u64.wrap ((L : Int) - 1) = (L1 : Int) ∧
    L < 2 ^ 64 ∧ M < 2 ^ 64 ∧ L1 < 2 ^ 64 ∧ Vy.size L = m + 1 ∧ Vy.size M = m + 1 ∧ Vy.size L1 = m ∧ Vy.get (Vy.put [M]) 0 = (M, (m : Int) + 1, 0) ∧
    Vy.get (UInt8.ofNat (247 + m) :: List.replicate m 0) 0 = (0, 0, 5) := by
  have : m = 1 ∨ m = 2 ∨ m = 3 ∨ m = 4 ∨ m = 5 ∨ m = 6 ∨ m = 7 ∨ m = 8 := by omega
  rcases this with rfl | rfl | rfl | rfl | rfl | rfl | rfl | rfl
  · exact ⟨248, 255, 247, by decide +kernel⟩
  · exact ⟨256, 65535, 255, by decide +kernel⟩
  · exact ⟨65536, 16777215, 65535, by decide +kernel⟩
  · exact ⟨16777216, 4294967295, 16777215, by decide +kernel⟩
  · exact ⟨4294967296, 1099511627775, 4294967295, by decide +kernel⟩
  · exact ⟨1099511627776, 281474976710655, 1099511627775, by decide +kernel⟩
  · exact ⟨281474976710656, 72057594037927935, 281474976710655, by decide +kernel⟩
  · exact ⟨72057594037927936, 18446744073709551615, 72057594037927935, by decide +kernel⟩

theorem rd_drew' {w : World} {size n : Nat} {a : Option Addr} {xs : List Value} (h : Rd w size a n xs) : Rd w.drew size a n xs := h

theorem known_conv (m : Nat) (h8 : m ≤ 8) {W : World} {b : Nat} (h : Rd W 1 (some ⟨b, 0, none⟩) 1 [.int .u8 (247 + (m : Int))]) :
    Sem.run Try.prog (convert 49 9 (.slice (some ⟨b, 0, none⟩) 1 1)) W = .ok (.string ⟨[UInt8.ofNat (247 + m)].toArray⟩) W :=
  run_string_rd (P := Try.prog) (n := 1) (cap := 1) [UInt8.ofNat (247 + m)] (by
    have e : vB (UInt8.ofNat (247 + m)) = .int .u8 (247 + (m : Int)) := by simp [vB]; omega
    show Rd W 1 _ 1 [vB (UInt8.ofNat (247 + m))]
    rw [e]; exact h) 49 5 9 Try.underlying49 Try.underlying5 Try.underlying9

theorem known_str (m : Nat) (h8 : m ≤ 8) (hg : Vy.get (UInt8.ofNat (247 + m) :: List.replicate m 0) 0 = (0, 0, 5)) : ∃ F R : ByteArray, ByteArray.mk [UInt8.ofNat (247 + m)].toArray = F ∧
    ByteArray.mk (Lib.repeatL (ByteArray.mk #[0]).data.toList m).toArray = R ∧ Vy.get (F ++ R).data.toList 0 = (0, 0, 5) ∧ (F ++ R).size ≤ 140737488351232 := by
  have hr : ∀ k : Nat, Lib.repeatL (ByteArray.mk #[0]).data.toList k = List.replicate k 0 := by
    intro k
    induction k with
    | zero => rfl
    | succ k ih => simp only [Lib.repeatL, ih, List.replicate_succ]; rfl
  refine ⟨_, _, rfl, rfl, ?_, ?_⟩
  · rw [hr, str_append, str_toList]; exact hg
  · rw [hr, str_append, str_size]; simp; omega

end Go.Proofs.Ytmoegdjpmcjhcaa
