/- The law cedillalaw09.NameTells: the walk. -/
import Derived.Test.YtkeffhaldeedpaaDoorQm
namespace Go.Proofs.YtkeffhaldeedpaaDoor
open Go Go.Lib
set_option maxRecDepth 100000
attribute [-simp] drawOk_eq adraw qrun acode aops

theorem cpt_take (z : List Int) : (intsA (cpt z)).take (compact z).length = intsA (compact z) := by
  unfold cpt intsA
  rw [List.map_append]
  exact List.take_left' (by simp)

set_option maxHeartbeats 16000000 in
theorem ntells_ct (k0 n0 : Int) (_hn : -9223372036854775808 ≤ n0 ∧ n0 ≤ 9223372036854775807) (l : List Pc) (hok : ∀ a ∈ l, a.ok) (hl : l.length ≤ 9223372036854775807) :
    Ct Tryd.prog 3 [.int .i64 k0, .int .i64 n0, .sl 0 0 l.length 3 false] [.cells false (pcsA l)] (.bool true) [.cells false (pcsA l)] := by
  have hΓ := ntΓ_ok
  have hround := nt_round k0 n0 l hok hl
  refine ct_of_sim Tryd.func3 rfl ?_
  simp only [Tryd.ntmps3, List.length_cons, List.length_nil, Nat.reduceAdd, Nat.reduceSub, List.replicate, List.cons_append, List.nil_append]
  simp only [bodyOf, Tryd.f3, Option.getD_some, restC, fstC, inC] at hround
  refine Sim.step hmix hΓ (n := 0) (by simp; exact ⟨rfl, rfl⟩) (by simp) ?_
  refine Sim.step hmix hΓ (n := 0) (by simp; exact ⟨rfl, rfl⟩) (by simp) ?_
  refine Sim.seq (Sim.mono (Q := fun e F' H' => e = .normal ∧ ∃ nm, NmInv nm 180 ∧ Weak 1 F' H' ([.int .i64 k0, .int .i64 n0, .top, .top, .top, .top, .bool false, .sl 1 0 nm.length 1 false] ++ List.replicate 135 .top) [.cells false (pcsA l), .cells true (nm.map .str)]) ?_ ?_)
  · refine Sim.step hmix hΓ (n := 0) (by simp; exact ⟨rfl, rfl⟩) (by simp) ?_
    refine Sim.block (Sim.loopW (fun q : Nat × List (List UInt8) => (q.1 ≤ l.length ∧ q.1 ≤ 30) ∧ NmInv q.2 (6 * q.1))
      (fun q => ntF k0 n0 l.length q.2.length q.1 ++ List.replicate 134 .top) (fun q => [.cells false (pcsA l), .cells true (q.2.map .str)]) (fun q => 30 - q.1) (0, []) (by simp) ⟨⟨by simp, by simp⟩, ⟨by simp, by simp⟩⟩ (Weak.mk' [0, 100] (by decide) (by decide) (by simp) (by simp)) fun q hq => ?_)
    obtain ⟨i, nm⟩ := q
    obtain ⟨⟨hk1, hk2⟩, hI⟩ := hq
    dsimp only at hk1 hk2 hI ⊢
    by_cases hlt : i < l.length ∧ i < 30
    · refine Sim.mono (hround i nm hI hlt.1 hlt.2) ?_
      rintro e F' H' hlen ⟨rfl, nm', hI', hwk⟩
      exact ⟨(i + 1, nm'), ⟨⟨by dsimp only; omega, by dsimp only; omega⟩, hI'⟩, hwk, by dsimp only; omega⟩
    · simp only [ntF]
      by_cases h1 : i < l.length
      · have hlti : (i : Int) < l.length := by omega
        have hk40 : ¬ i < 30 := fun h => hlt ⟨h1, h⟩
        have hk40i : ¬ (i : Int) < 30 := by omega
        refine Sim.exec hmix hΓ (n := 0) (by simp [hlti, hk40i]; exact ⟨rfl, rfl, rfl⟩) (by simp) ?_
        dsimp only
        rw [if_pos rfl]
        exact ⟨by trivial, nm, ⟨by have := hI.len; omega, hI.each⟩, Weak.mk' [0, 1] (by decide) (by decide) (by simp) (by simp)⟩
      · have hlti : ¬ (i : Int) < l.length := by omega
        refine Sim.exec hmix hΓ (n := 0) (by simp [hlti]; exact ⟨rfl, rfl, rfl⟩) (by simp) ?_
        dsimp only
        rw [if_pos rfl]
        exact ⟨by trivial, nm, ⟨by have := hI.len; omega, hI.each⟩, Weak.mk' [0, 1] (by decide) (by decide) (by simp) (by simp)⟩
  rintro e F' H' hlen ⟨rfl, nm, hI, hwk⟩
  dsimp only
  refine Sim.weak hwk hlen ?_
  clear hwk hlen
  have hnl := hI.len
  -- each name is known alike
  refine Sim.seq (Sim.mono (Q := fun e F' H' => e = .normal ∧ Weak 1 F' H' ([.int .i64 k0, .int .i64 n0, .top, .top, .top, .top, .bool false, .sl 1 0 nm.length 1 false] ++ List.replicate 135 .top) [.cells false (pcsA l), .cells true (nm.map .str)]) ?_ ?_)
  · refine Sim.step hmix hΓ (n := 0) (by simp; exact ⟨rfl, rfl⟩) (by simp) ?_
    refine Sim.block (Sim.loopW (fun q : Nat => q ≤ nm.length)
      (fun q => [.int .i64 k0, .int .i64 n0, .top, .top, .top, .top, .bool false, .sl 1 0 nm.length 1 false, .top, .top, .int .i64 q] ++ List.replicate 132 .top) (fun _ => [.cells false (pcsA l), .cells true (nm.map .str)]) (fun q => nm.length - q) 0 (by simp) (by omega) (Weak.mk' [0, 1] (by decide) (by decide) (by simp) (by simp)) fun q hq => ?_)
    by_cases hlt : q < nm.length
    · have hlti : (q : Int) < nm.length := by omega
      obtain ⟨s, hs1⟩ : ∃ s, nm[q] = s := ⟨_, rfl⟩
      have hs' : nm[q]? = some s := by rw [List.getElem?_eq_getElem hlt, hs1]
      have hsl : s.length ≤ 1000000 := by have := hI.each s (List.mem_of_getElem? hs'); omega
      have hg : ∀ h, nm[q]'h = s := fun h => hs1
      have hw : IntKind.i64.wrap ((q : Int) + 1) = q + 1 := wr_i64 (by omega) (by omega)
      obtain ⟨a, n, hp⟩ : ∃ a n, rparse s = (a, n) := ⟨_, _, rfl⟩
      have hp' : nparse s = (a, n) := by rw [parse_same, hp]
      refine Sim.step hmix hΓ (n := 0) (by simp [hlti]; exact ⟨rfl, rfl⟩) (by simp) ?_
      refine Sim.seq (Sim.block ?_)
      refine Sim.exec hmix hΓ (n := 0) (by simp (decide := true) [hlt, hg, ntΓ, nparseS, rparseS, hsl, hp, hp']; exact ⟨rfl, rfl, rfl⟩) (by simp) ?_
      dsimp only
      refine Sim.exec hmix hΓ (n := 0) (by simp [hw]; exact ⟨rfl, rfl, rfl⟩) (by simp) ?_
      dsimp only
      exact ⟨q + 1, by omega, Weak.mk' [0, 1] (by decide) (by decide) (by simp) (by simp), by omega⟩
    · have hlti : ¬ (q : Int) < nm.length := by omega
      refine Sim.exec hmix hΓ (n := 0) (by simp [hlti]; exact ⟨rfl, rfl, rfl⟩) (by simp) ?_
      dsimp only
      rw [if_pos rfl]
      exact ⟨by trivial, Weak.mk' [0, 1] (by decide) (by decide) (by simp) (by simp)⟩
  rintro e F' H' hlen ⟨rfl, hwk⟩
  dsimp only
  refine Sim.weak hwk hlen ?_
  clear hwk hlen
  have hnl6 : nm.length ≤ 1000000 := by omega
  have hall : (nm.all fun s => decide (s.length ≤ 1000000)) = true := by
    rw [List.all_eq_true]
    intro s hs
    have := hI.each s hs
    simp; omega
  have hst : ∀ T : AHeap, rowSt (.cells false (pcsA l) :: .cells true (nm.map .str) :: T) (.sl 1 0 nm.length 1 false) = some nm := fun T => by
    have : List.take nm.length (nm.map AV.str) = nm.map AV.str := List.take_of_length_le (by simp)
    simp [rowSt, this]
  have f1 : ∀ j, numbersS [.int .i64 j, .sl 1 0 nm.length 1 false] [.cells false (pcsA l), .cells true (nm.map .str)] = some (.sl 2 0 (numN j nm).length 1 false, [.cells false (pcsA l), .cells true (nm.map .str), .cells true (intsA (cpt (srt (numRaw j nm))))], []) := fun j => by
    have := hst []
    simp only [numbersS, readNewS, this, hnl6, hall]
    simp [shA, shB]
  have f2 : ∀ j B, rnumbersS [.int .i64 j, .sl 1 0 nm.length 1 false] [.cells false (pcsA l), .cells true (nm.map .str), B] = some (.sl 3 0 (numN j nm).length 1 false, [.cells false (pcsA l), .cells true (nm.map .str), B, .cells true (intsA (numN j nm))], []) := fun j B => by
    have := hst [B]
    simp only [rnumbersS, readNewS, this, hnl6, rnumN_eq]
    simp [shA, shB]
  have f3 : ∀ j A0 A1, intsS [.sl 2 0 (numN j nm).length 1 false, .sl 3 0 (numN j nm).length 1 false] [A0, A1, .cells true (intsA (cpt (srt (numRaw j nm)))), .cells true (intsA (numN j nm))] = some (.bool true, [A0, A1, .cells true (intsA (cpt (srt (numRaw j nm)))), .cells true (intsA (numN j nm))], []) := fun j A0 A1 => by
    have e1 : (intsA (cpt (srt (numRaw j nm)))).take (numN j nm).length = intsA (numN j nm) := cpt_take _
    have e2 : (intsA (numN j nm)).take (numN j nm).length = intsA (numN j nm) := List.take_of_length_le (by simp)
    have e3 : (numN j nm).length ≤ (cpt (srt (numRaw j nm))).length := by rw [cpt_length]; exact compact_le _
    have e4 : (numN j nm).length ≤ 1000000000000 := by
      have h1 := compact_le (srt (numRaw j nm)); have h2 := srt_length (numRaw j nm); have h3 := numRaw_length j nm
      unfold numN; omega
    simp [intsS, readS, rowI, e1, e2, e3, e4]
  obtain ⟨dd, hdd⟩ : ∃ d, IntKind.i64.wrap (n0.tmod 100) = d := ⟨_, rfl⟩
  refine Sim.seq (Sim.mono (Q := fun e F' H' => e = .normal ∧ Weak 1 F' H' ([.int .i64 k0, .int .i64 n0] ++ List.replicate 141 .top) [.cells false (pcsA l)]) ?_ ?_)
  · refine Sim.step hmix hΓ (n := 0) (by simp; exact ⟨rfl, rfl⟩) (by simp) ?_
    refine Sim.block (Sim.loopW (fun q : Nat => q ≤ 7)
      (fun q => [.int .i64 k0, .int .i64 n0, .top, .top, .top, .top, .bool false, .sl 1 0 nm.length 1 false, .top, .top, .top, .top, .top, .top, .top, .int .i64 ((q : Int) - 1)] ++ List.replicate 127 .top) (fun _ => [.cells false (pcsA l), .cells true (nm.map .str)]) (fun q => 7 - q) 0 (by simp) (by omega) (Weak.mk' [0, 1] (by decide) (by decide) (by simp) (by simp)) fun q hq => ?_)
    obtain ⟨j, hj⟩ : ∃ j, (q : Int) - 1 = j := ⟨_, rfl⟩
    rw [hj]
    by_cases hlt : j ≤ 5
    · have hw : IntKind.i64.wrap (j + 1) = j + 1 := wr_i64 (by omega) (by omega)
      refine Sim.step hmix hΓ (n := 0) (by simp [hlt]; exact ⟨rfl, rfl⟩) (by simp) ?_
      refine Sim.seq (Sim.block ?_)
      refine Sim.exec hmix hΓ (n := 0) (by simp (decide := true) [ntΓ, mkS, f1, f2, f3]; exact ⟨rfl, rfl, rfl⟩) (by simp) ?_
      dsimp only
      refine Sim.exec hmix hΓ (n := 0) (by simp [hw]; exact ⟨rfl, rfl, rfl⟩) (by simp) ?_
      dsimp only
      exact ⟨q + 1, by omega, Weak.mk' [0, 1] (by decide) (by decide) (by simp [← hj]) (by simp), by omega⟩
    · refine Sim.exec hmix hΓ (n := 0) (by simp [hlt]; exact ⟨rfl, rfl, rfl⟩) (by simp) ?_
      dsimp only
      rw [if_pos rfl]
      exact ⟨by trivial, Weak.mk' [0] (by decide) (by decide) (by simp) (by simp)⟩
  rintro e F' H' hlen ⟨rfl, hwk⟩
  dsimp only
  refine Sim.weak hwk hlen ?_
  clear hwk hlen
  refine Sim.exec hmix hΓ (n := 0) (by simp [ntΓ, mkS, trueK]; exact ⟨rfl, rfl, rfl⟩) (by simp) ?_
  exact ⟨.inr rfl, _, by simp [Tryd.f3] <;> rfl, Weak.mk' [0] (by decide) (by decide) (by simp) (by simp)⟩

def nameTells_shape : List (Bool × List CT) := [(false, [.one (.int .i64)]), (false, [.one (.int .i64)]), (false, [.row [.int .u8, .int .u32, .str]])]

theorem nameTells_law : ∀ xs H, AbsArgs nameTells_shape 0 xs H → ∃ H', Ct Tryd.prog 3 xs H (.bool true) H' := by
  intro xs H h0
  obtain ⟨x, ys, rfl, ⟨k0, rfl, hk⟩, h1⟩ := absArgs_one h0
  obtain ⟨x', ys', rfl, ⟨n0, rfl, hn⟩, h1'⟩ := absArgs_one h1
  obtain ⟨y, zs, l, n, H2, rfl, rfl, hy, hm, hl, h2⟩ := absArgs_row h1'
  obtain ⟨l, rfl, rfl, hok⟩ := row_pcs hl
  obtain ⟨rfl, rfl⟩ := absArgs_nil h2
  unfold maxLen at hm
  refine ⟨_, ct_args (ntells_ct k0 n0 (bounds_i64 hn) l hok (by omega)) fun j vs hv => ?_⟩
  simp only [VRs] at hv ⊢
  obtain ⟨v1, w1, e1, g1, v2, w2, e2, g2, v3, w3, e3, g3, r⟩ := hv
  exact ⟨v1, w1, e1, g1, v2, w2, e2, g2, v3, w3, e3, VR_arg_sl hy g3, r⟩

end Go.Proofs.YtkeffhaldeedpaaDoor
