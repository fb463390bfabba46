/- What the walks of cedillalaw06 share. -/
import Derived.Test.YtaociohomeepmaaFk
import Derived.Test.YtaociohomeepmaaGd
namespace Go.Proofs.Ytaociohomeepmaa
open Go
set_option maxRecDepth 100000
attribute [-simp] drawOk_eq adraw qrun acode aops

/-- The pieces that are appended. -/
def Fi.pieces (l : List (List UInt8)) : List (List UInt8) := (l.take 30).map (List.take 20)

theorem flat_le : ∀ (l : List (List UInt8)) (m : Nat), (∀ x ∈ l, x.length ≤ m) → l.flatten.length ≤ l.length * m
  | [], m, _ => by simp
  | x :: l, m, h => by
    have h1 := h x (List.mem_cons_self ..)
    have h2 := flat_le l m fun y hy => h y (List.mem_cons_of_mem _ hy)
    simp only [List.flatten_cons, List.length_append, List.length_cons, Nat.succ_mul]
    omega

theorem Fi.pieces_le (l : List (List UInt8)) (k : Nat) : ((Fi.pieces l).take k).flatten.length ≤ 600 := by
  have h1 := flat_le ((Fi.pieces l).take k) 20 fun x hx => by
    have := List.mem_of_mem_take hx
    unfold Fi.pieces at this
    obtain ⟨y, _, rfl⟩ := List.mem_map.1 this
    simp
    omega
  have h2 : ((Fi.pieces l).take k).length ≤ 30 := by unfold Fi.pieces; simp; omega
  have : ((Fi.pieces l).take k).length * 20 ≤ 30 * 20 := Nat.mul_le_mul_right _ h2
  omega

theorem cut_len (s : List UInt8) (n : Nat) (z : Int) (hz : z = n) : ∃ m : Nat, (if z < (s.length : Int) then z else (s.length : Int)) = (m : Int) ∧ m ≤ n ∧ m ≤ s.length ∧ m = min s.length n := ⟨min s.length n, by split <;> omega, by omega, by omega, rfl⟩

theorem take_min_len (s : List UInt8) (n : Nat) : s.take (min s.length n) = s.take n := by
  by_cases h : s.length ≤ n
  · rw [Nat.min_eq_left h, List.take_of_length_le (Nat.le_refl _), List.take_of_length_le h]
  · rw [Nat.min_eq_right (by omega)]

/-- A remainder. -/
theorem rem_nat (a : Int) (n : Nat) (h0 : 0 ≤ a) (hn : 0 < n) (z : Int) (hz : z = n) : ∃ i : Nat, a.tmod z = i ∧ i < n := by
  subst hz
  refine ⟨(a % (n : Int)).toNat, ?_, ?_⟩
  · rw [tmod_nn h0]
    have := Int.emod_nonneg a (show (n : Int) ≠ 0 by omega)
    omega
  · have := Int.emod_lt_of_pos a (show 0 < (n : Int) by omega)
    have := Int.emod_nonneg a (show (n : Int) ≠ 0 by omega)
    omega

def rdInl : List FuncId := fkInl.drop 3

theorem rdΓ_ok : GOk Try.prog (runG Try.prog (gams [(21, joinS), (11, trueS)]) 0 rdInl 5) := gok_run hmix (goks_cons join_sound (goks_cons fworks_sound goks_nil)) 0 rdInl 5

end Go.Proofs.Ytaociohomeepmaa
