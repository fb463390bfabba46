/- The law cedillalaw06.FileTells: the walk. -/
import Derived.Test.YtaociohomeepmaaCe
namespace Go.Proofs.Ytaociohomeepmaa
open Go
set_option maxRecDepth 100000
attribute [-simp] drawOk_eq adraw qrun acode aops

noncomputable def ftΓ : Gam := gams [(5, fnewS), (6, fcopyS), (7, fappS), (8, fsyncS), (9, doesS), (10, alikeS), (11, trueS)]
theorem ftΓ_ok : GOk Try.prog ftΓ := goks_cons fnew_sound (goks_cons fcopy_sound (goks_cons fapp_sound (goks_cons fsync_sound (goks_cons does_sound (goks_cons alike_sound (goks_cons fworks_sound goks_nil))))))

set_option maxHeartbeats 8000000 in
theorem ftells_ct (s0 : List UInt8) (l : List Ac) (hs0 : s0.length ≤ 9223372036854775807) (hl : l.length ≤ 9223372036854775807) (hok : ∀ a ∈ l, a.ok) :
    Ct Try.prog 3 [.str s0, .sl 0 0 l.length 4 false] [.cells false (acsA l)] (.bool true) [.cells false (acsA l)] := by
  have hΓ := ftΓ_ok
  refine ct_of_sim Try.func3 rfl ?_
  simp only [Try.ntmps3, List.length_cons, List.length_nil, Nat.reduceAdd, Nat.reduceSub, List.replicate, List.cons_append, List.nil_append]
  obtain ⟨z, ez⟩ : ∃ z : Nat, min (s0.length : Int) 50 = z := ⟨min s0.length 50, by omega⟩
  have z1 : z ≤ s0.length := by omega
  have z2 : z ≤ 50 := by omega
  obtain ⟨s, hs⟩ : ∃ s, s0.take z = s := ⟨_, rfl⟩
  have hsl : s.length ≤ 50 := by rw [← hs]; simp; omega
  refine Sim.step hmix hΓ (n := 0) (by simp; exact ⟨rfl, rfl⟩) (by simp) ?_
  refine Sim.step hmix hΓ (n := 0) (by simp [-minA, minA_min, ez, z1, hs]; exact ⟨rfl, rfl⟩) (by simp) ?_
  refine Sim.step hmix hΓ (n := 0) (by simp [ftΓ, fnewS]; exact ⟨rfl, rfl⟩) (by simp) ?_
  refine Sim.aft (Aft.closeR (⟨s, []⟩ : PF) 2 3 (x := .nils) rfl (by simp [AW]) (by simp) (by decide) (by simp) (Aft.done (by simp) ?_))
  simp only [closeH, killAll, List.set_cons_succ, List.set_cons_zero, List.set_nil]
  have hf0 : (⟨s, []⟩ : PF).ok (50 + 20 * 0) := PF.ok_new _ _ (by omega)
  refine Sim.seq (Sim.step hmix hΓ (n := 0) (by simp; exact ⟨rfl, rfl⟩) (by simp) ?_)
  refine Sim.block (Sim.loopW (fun q : Nat × PF => (q.1 ≤ l.length ∧ q.1 ≤ 40) ∧ q.2.ok (50 + 20 * q.1))
    (fun q => [.top, .sl 0 0 l.length 4 false, .top, .top, .bool false, .ptr 1 0, .ptr 2 0, .int .i64 q.1] ++ List.replicate 53 .top)
    (fun q => [.cells false (acsA l), .obj true q.2.blks, .obj true q.2.rblks]) (fun q => 40 - q.1) (0, ⟨s, []⟩) (by simp) ⟨⟨by omega, by omega⟩, hf0⟩ (Weak.mk' [0, 1, 2] (by decide) (by decide) (by simp) (by simp [AWb])) fun q hq => ?_)
  obtain ⟨k, f⟩ := q
  obtain ⟨⟨hk1, hk2⟩, hf⟩ := hq
  dsimp only at hk1 hk2 hf ⊢
  by_cases hlt : k < l.length ∧ k < 40
  · obtain ⟨hlt, hlt4⟩ := hlt
    have hlti : (k : Int) < l.length := by omega
    have hlti4 : (k : Int) < 40 := by omega
    obtain ⟨e, he⟩ : ∃ e, l[k] = e := ⟨_, rfl⟩
    have he' : l[k]? = some e := by rw [List.getElem?_eq_getElem hlt, he]
    have hoke := hok e (List.mem_of_getElem? he')
    have g1 := acs_get l k hlt
    rw [he] at g1
    have c0 := acs_what he'
    have k1 : k * 4 + 4 ≤ l.length * 4 := by omega
    have hw : IntKind.i64.wrap ((k : Int) + 1) = k + 1 := wr_i64 (by omega) (by omega)
    obtain ⟨W, S, N, M⟩ := e
    dsimp only [Ac.ok] at hoke
    obtain ⟨ow, on, om, os⟩ := hoke
    dsimp only at c0
    obtain ⟨q, hq⟩ : ∃ q, W.tmod 10 = q := ⟨_, rfl⟩
    have hwq : IntKind.u8.wrap q = q := wr_u8 (by rw [← hq]; exact Int.tmod_nonneg _ ow.1) (by have := Int.tmod_lt_of_pos W (b := 10) (by decide); omega)
    refine Sim.step hmix hΓ (n := 0) (by simp [hlti, hlti4]; exact ⟨rfl, rfl⟩) (by simp) ?_
    refine Sim.seq (Sim.block ?_)
    have hf2 : (f.acts.length : Nat) ≤ 1000000000 := by have := hf.acts; omega
    have hfs : f.small := PF.ok_mono hf (by omega)
    have hfb : f.ok 100000000000 := PF.ok_mono hf (by omega)
    by_cases hq8 : q = 8
    · have hq8' : W.tmod 10 = 8 := hq.trans hq8
      refine Sim.step hmix hΓ (n := 0) (by simp (decide := true) [hlt, c0, hq8', ftΓ, fcopyS, fappS, fsyncS, rowStrs, strsOf, flatsA, hf2, hfs]; exact ⟨rfl, rfl⟩) (by simp) ?_
      refine Sim.exec hmix hΓ (n := 0) (by simp (decide := true) [ftΓ, alikeS, hfs]; exact ⟨rfl, rfl, rfl⟩) (by simp) ?_
      dsimp only
      refine Sim.exec hmix hΓ (n := 0) (by simp [hw]; exact ⟨rfl, rfl, rfl⟩) (by simp) ?_
      dsimp only
      exact ⟨(k + 1, f), ⟨⟨by dsimp only; omega, by dsimp only; omega⟩, PF.ok_mono hf (by dsimp only; omega)⟩, Weak.mk' [0, 3, 2] (by decide) (by decide) (by simp) (by simp [AWb]), by dsimp only; omega⟩
    · have hfd := PF.ok_does hf W S N M
      obtain ⟨f', hf'⟩ : ∃ f', f.does W S N M = f' := ⟨_, rfl⟩
      rw [hf'] at hfd
      have hfs' : f'.small := PF.ok_mono hfd (by omega)
      refine Sim.step hmix hΓ (n := 0) (by simp (decide := true) [hlt, c0, g1, acA, k1, hq, hq8, ftΓ, doesS, hfb, ow, on, om, os, hf']; exact ⟨rfl, rfl⟩) (by simp) ?_
      refine Sim.exec hmix hΓ (n := 0) (by simp (decide := true) [ftΓ, alikeS, hfs']; exact ⟨rfl, rfl, rfl⟩) (by simp) ?_
      dsimp only
      refine Sim.exec hmix hΓ (n := 0) (by simp [hw]; exact ⟨rfl, rfl, rfl⟩) (by simp) ?_
      dsimp only
      exact ⟨(k + 1, f'), ⟨⟨by dsimp only; omega, by dsimp only; omega⟩, PF.ok_mono hfd (by dsimp only; omega)⟩, Weak.mk' [0, 1, 2] (by decide) (by decide) (by simp) (by simp [AWb]), by dsimp only; omega⟩
  · by_cases h1 : k < l.length
    · have hlti : (k : Int) < l.length := by omega
      have hk40 : ¬ k < 40 := fun h => hlt ⟨h1, h⟩
      have hk40i : ¬ (k : Int) < 40 := by omega
      refine Sim.exec hmix hΓ (n := 0) (by simp [hlti, hk40i]; exact ⟨rfl, rfl, rfl⟩) (by simp) ?_
      dsimp only
      rw [if_pos rfl]
      refine Sim.exec hmix hΓ (n := 0) (by simp [ftΓ, trueS]; exact ⟨rfl, rfl, rfl⟩) (by simp) ?_
      exact ⟨.inr rfl, _, by simp [Try.f3] <;> rfl, Weak.mk' [0] (by decide) (by decide) (by simp) (by simp)⟩
    · have hlti : ¬ (k : Int) < l.length := by omega
      refine Sim.exec hmix hΓ (n := 0) (by simp [hlti]; exact ⟨rfl, rfl, rfl⟩) (by simp) ?_
      dsimp only
      rw [if_pos rfl]
      refine Sim.exec hmix hΓ (n := 0) (by simp [ftΓ, trueS]; exact ⟨rfl, rfl, rfl⟩) (by simp) ?_
      exact ⟨.inr rfl, _, by simp [Try.f3] <;> rfl, Weak.mk' [0] (by decide) (by decide) (by simp) (by simp)⟩

def fileTells_shape : List (Bool × List CT) := [(false, [.one .str]), (false, [.row [.int .u8, .str, .int .i16, .int .i16]])]

theorem fileTells_law : ∀ xs H, AbsArgs fileTells_shape 0 xs H → ∃ H', Ct Try.prog 3 xs H (.bool true) H' := by
  intro xs H h0
  obtain ⟨x, ys, rfl, ⟨s, rfl, hs⟩, h1⟩ := absArgs_one h0
  obtain ⟨y, zs, l, n, H2, rfl, rfl, hy, hm, hl, h2⟩ := absArgs_row h1
  obtain ⟨l, rfl, rfl, hok⟩ := row_acs hl
  obtain ⟨rfl, rfl⟩ := absArgs_nil h2
  unfold maxLen at hs hm
  refine ⟨_, ct_args (ftells_ct s l (by omega) (by omega) hok) fun j vs hv => ?_⟩
  simp only [VRs] at hv ⊢
  obtain ⟨v1, w1, e1, g1, v2, w2, e2, g2, r⟩ := hv
  exact ⟨v1, w1, e1, g1, v2, w2, e2, VR_arg_sl hy g2, r⟩

end Go.Proofs.Ytaociohomeepmaa
