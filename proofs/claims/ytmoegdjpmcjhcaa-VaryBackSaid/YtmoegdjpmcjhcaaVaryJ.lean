/- Walk: cedillalaw02.VaryBack, of lists as the statement has them. -/
import Derived.Test.YtmoegdjpmcjhcaaVaryI
namespace Go.Proofs.Ytmoegdjpmcjhcaa
open Go.RowKit

theorem varyBack_walk (l : List Int) (a : Option Addr) (cap : Nat) (cut : Int) (s : ByteArray) (w : World) (rd : Rd w 1 a l.length (l.map (Value.int .u64))) (hl : ∀ n ∈ l, 0 ≤ n ∧ n ≤ 18446744073709551615)
    (hc : l.length ≤ cap) (_hcm : cap ≤ maxLen) (_hcut : -9223372036854775808 ≤ cut ∧ cut ≤ 9223372036854775807) (hs : s.size ≤ maxLen) :
    Calls Try.prog 5 #[.slice a l.length cap, .int .i64 cut, .string s] w fun r w' => r = .returned (.bool true) ∧ Below w.heap.size w w' := by
  obtain ⟨l', e, hl', hn⟩ := ints_nat l hl
  rw [e] at rd
  rw [← hn] at rd hc ⊢
  exact varyBack_nat l' a cap cut s w rd hl' hc hs

end Go.Proofs.Ytmoegdjpmcjhcaa
