/- FileTells: size. -/
import Derived.Test.YtaociohomeepmaaGs
namespace Go.Proofs.Ytaociohomeepmaa
open Go
set_option maxRecDepth 100000
attribute [-simp] drawOk_eq adraw qrun acode aops

def sizeF (n m : Int) : Int := if n.tmod 5 = 4 then n else ((n.tmod (m + 3)) + m + 3).tmod (m + 3)

theorem lsize_ct (n m : Int) (hn : -32768 ≤ n ∧ n ≤ 32767) (hm : 0 ≤ m ∧ m ≤ 1000000000000) : Ct Try.prog 15 [.int .i16 n, .int .i64 m] [] (.int .i64 (sizeF n m)) [] := by
  refine ct_runE hmix fiΓ_ok (n := 0) Try.func15 ?_
  unfold Try.f15
  have w1 : IntKind.i64.wrap n = n := wr_i64 (by omega) (by omega)
  have w2 : IntKind.i64.wrap (m + 3) = m + 3 := wr_i64 (by omega) (by omega)
  have q1 := Int.tmod_lt_of_pos n (b := m + 3) (by omega)
  have q2 : -(m + 3) < n.tmod (m + 3) := by
    have := Int.lt_tmod_of_pos n (b := m + 3) (by omega)
    omega
  obtain ⟨t, ht⟩ : ∃ t, n.tmod (m + 3) = t := ⟨_, rfl⟩
  rw [ht] at q1 q2
  have w3 : IntKind.i64.wrap (t + m) = t + m := wr_i64 (by omega) (by omega)
  have w4 : IntKind.i64.wrap (t + m + 3) = t + m + 3 := wr_i64 (by omega) (by omega)
  have z : m + 3 ≠ 0 := by omega
  unfold sizeF
  by_cases h : n.tmod 5 = 4
  · exact ⟨_, _, (by simp (decide := true) [h, w1]; exact ⟨rfl, rfl⟩), Weak.mk' [] (by decide) rfl (by simp [h]) (by simp)⟩
  · exact ⟨_, _, (by simp (decide := true) [h, w1, w2, w3, w4, ht, z]; exact ⟨rfl, rfl⟩), Weak.mk' [] (by decide) rfl (by simp [h, ht]) (by simp)⟩

end Go.Proofs.Ytaociohomeepmaa
