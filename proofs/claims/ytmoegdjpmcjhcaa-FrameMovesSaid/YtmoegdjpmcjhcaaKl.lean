/- The law cedillalaw03.FrameMoves. -/
import Derived.Test.YtmoegdjpmcjhcaaKk
namespace Go.Proofs.Ytmoegdjpmcjhcaa
open Go

def frameMoves_shape : List (Bool × List CT) := [(false, [.one .str]), (true, [.one .str, .one .str]), (false, [.one (.int .u16)])]

theorem frameMoves_law : ∀ xs H, AbsArgs frameMoves_shape 0 xs H → ∃ H', Ct Try.prog 7 xs H (.bool true) H' := by
  intro xs H h0
  obtain ⟨x1, y1, rfl, ⟨s, rfl, _⟩, h1⟩ := absArgs_one h0
  obtain ⟨z2, y2, H1, H2, rfl, k0, rfl, h2⟩ := absArgs_agg h1
  obtain ⟨x3, z3, rfl, ⟨a, rfl, _⟩, k1⟩ := absOk_one k0
  obtain ⟨x4, z4, rfl, ⟨b, rfl, _⟩, k2⟩ := absOk_one k1
  obtain ⟨rfl, rfl⟩ := absOk_nil k2
  obtain ⟨x5, y5, rfl, ⟨n, rfl, hn⟩, h3⟩ := absArgs_one h2
  obtain ⟨rfl, rfl⟩ := absArgs_nil h3
  have := bounds_u16 hn
  exact moves_ct s a b n this.1 (by omega)

end Go.Proofs.Ytmoegdjpmcjhcaa
