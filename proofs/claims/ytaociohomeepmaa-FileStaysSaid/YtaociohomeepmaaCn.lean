/- The law cedillalaw06.FileStays: the walk. -/
import Derived.Test.YtaociohomeepmaaCm
import Derived.Test.YtaociohomeepmaaCh
namespace Go.Proofs.Ytaociohomeepmaa
open Go
set_option maxRecDepth 100000
attribute [-simp] drawOk_eq adraw qrun acode aops

set_option maxHeartbeats 16000000 in
theorem fstays_law_ct (s0 : List UInt8) (l : List Ac) (c0 c1 : Int) (hs0 : s0.length ≤ 9223372036854775807) (hl : l.length ≤ 9223372036854775807) (hok : ∀ a ∈ l, a.ok) (h0 : -32768 ≤ c0 ∧ c0 ≤ 32767) (h1 : -32768 ≤ c1 ∧ c1 ≤ 32767) :
    Ct Try.prog 4 [.str s0, .sl 0 0 l.length 4 false, .agg [.int .i16 c0, .int .i16 c1]] [.cells false (acsA l)] (.bool true) [.cells false (acsA l)] := by
  have hΓ := fsΓ_ok
  have htail := fs_tail l c0 c1 h0 h1
  have hround := fstays_round l c0 c1 hl hok
  refine ct_of_sim Try.func4 rfl ?_
  simp only [Try.ntmps4, List.length_cons, List.length_nil, Nat.reduceAdd, Nat.reduceSub, List.replicate, List.cons_append, List.nil_append]
  simp only [bodyOf, Try.f4, Option.getD_some, restC, fstC, inC] at htail hround
  obtain ⟨z, ez⟩ : ∃ z : Nat, min (s0.length : Int) 50 = z := ⟨min s0.length 50, by omega⟩
  have z1 : z ≤ s0.length := by omega
  have z2 : z ≤ 50 := by omega
  obtain ⟨s, hs⟩ : ∃ s, s0.take z = s := ⟨_, rfl⟩
  have hsl : s.length ≤ 50 := by rw [← hs]; simp; omega
  have n1 : ∀ x : List UInt8, (⟨x, []⟩ : PF).now = x := PF.now_none
  refine Sim.step hmix hΓ (n := 0) (by simp; exact ⟨rfl, rfl⟩) (by simp) ?_
  refine Sim.step hmix hΓ (n := 0) (by simp [fsΓ, trueS]; exact ⟨rfl, rfl⟩) (by simp) ?_
  refine Sim.step hmix hΓ (n := 0) (by simp [-minA, minA_min, ez, z1, hs, fsΓ, fnewS]; exact ⟨rfl, rfl⟩) (by simp) ?_
  refine Sim.step hmix hΓ (n := 0) (by simp [fsΓ, fbytesR, n1]; exact ⟨rfl, rfl⟩) (by simp) ?_
  refine Sim.step hmix hΓ (n := 0) (by simp; exact ⟨rfl, rfl⟩) (by simp) ?_
  have hI0 : Fi.Inv ⟨s, []⟩ false 0 := ⟨PF.ok_new _ _ (by omega), PF.wf_new _, fun _ => PF.noCuts_new _, by simp⟩
  refine Sim.seq (Sim.step hmix hΓ (n := 0) (by simp; exact ⟨rfl, rfl⟩) (by simp) ?_)
  refine Sim.block (Sim.loopW (fun q : Nat × PF × Bool => (q.1 ≤ l.length ∧ q.1 ≤ 30) ∧ Fi.Inv q.2.1 q.2.2 q.1)
    (fun q => fsF l.length q.2.1 q.2.2 q.1) (fun q => fsH l c0 c1 q.2.1) (fun q => 30 - q.1) (0, ⟨s, []⟩, false) (by simp) ⟨⟨by simp, by simp⟩, hI0⟩ (Weak.mk' [0, 1, 2, 3] (by decide) (by decide) (by simp [PF.times_new]) (by simp [AWb, PF.times_new])) fun q hq => ?_)
  obtain ⟨k, f, cuts⟩ := q
  obtain ⟨⟨hk1, hk2⟩, hI⟩ := hq
  dsimp only at hk1 hk2 hI ⊢
  by_cases hlt : k < l.length ∧ k < 30
  · refine Sim.mono (hround f cuts k hI hlt.1 hlt.2) ?_
    rintro e F' H' hlen ⟨rfl, f', cuts', hI', hwk⟩
    exact ⟨(k + 1, f', cuts'), ⟨⟨by dsimp only; omega, by dsimp only; omega⟩, hI'⟩, hwk, by dsimp only; omega⟩
  · simp only [fsF, fsH]
    have hT := htail f cuts k hI hk2
    by_cases h1 : k < l.length
    · have hlti : (k : Int) < l.length := by omega
      have hk40 : ¬ k < 30 := fun h => hlt ⟨h1, h⟩
      have hk40i : ¬ (k : Int) < 30 := by omega
      refine Sim.exec hmix hΓ (n := 0) (by simp [hlti, hk40i]; exact ⟨rfl, rfl, rfl⟩) (by simp) ?_
      dsimp only
      rw [if_pos rfl]
      exact Sim.weak (Weak.mk' [0, 1, 2, 3] (by decide) (by decide) (by simp) (by simp [AWb])) (by simp) hT
    · have hlti : ¬ (k : Int) < l.length := by omega
      refine Sim.exec hmix hΓ (n := 0) (by simp [hlti]; exact ⟨rfl, rfl, rfl⟩) (by simp) ?_
      dsimp only
      rw [if_pos rfl]
      exact Sim.weak (Weak.mk' [0, 1, 2, 3] (by decide) (by decide) (by simp) (by simp [AWb])) (by simp) hT

def fileStays_shape : List (Bool × List CT) := [(false, [.one .str]), (false, [.row [.int .u8, .str, .int .i16, .int .i16]]), (true, [.one (.int .i16), .one (.int .i16)])]

theorem fileStays_law : ∀ xs H, AbsArgs fileStays_shape 0 xs H → ∃ H', Ct Try.prog 4 xs H (.bool true) H' := by
  intro xs H h0
  obtain ⟨x, ys, rfl, ⟨s, rfl, hs⟩, h1⟩ := absArgs_one h0
  obtain ⟨y, zs, l, n, H2, rfl, rfl, hy, hm, hl, h2⟩ := absArgs_row h1
  obtain ⟨l, rfl, rfl, hok⟩ := row_acs hl
  obtain ⟨z2, y3, H3, H4, rfl, k0, rfl, h3⟩ := absArgs_agg h2
  obtain ⟨x4, z4, rfl, ⟨a, rfl, ha⟩, k1⟩ := absOk_one k0
  obtain ⟨x5, z5, rfl, ⟨b, rfl, hb⟩, k2⟩ := absOk_one k1
  obtain ⟨rfl, rfl⟩ := absOk_nil k2
  obtain ⟨rfl, rfl⟩ := absArgs_nil h3
  unfold maxLen at hs hm
  refine ⟨_, ct_args (fstays_law_ct s l a b (by omega) (by omega) hok (bounds_i16 ha) (bounds_i16 hb)) fun j vs hv => ?_⟩
  simp only [VRs] at hv ⊢
  obtain ⟨v1, w1, e1, g1, v2, w2, e2, g2, r⟩ := hv
  exact ⟨v1, w1, e1, g1, v2, w2, e2, VR_arg_sl hy g2, r⟩

end Go.Proofs.Ytaociohomeepmaa
