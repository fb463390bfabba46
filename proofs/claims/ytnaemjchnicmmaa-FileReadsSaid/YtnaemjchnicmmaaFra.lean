/- Walk: cedillalaw06.FileReads, its beginning. -/
import Derived.Test.YtnaemjchnicmmaaFrb
import Derived.Test.YtnaemjchnicmmaaBr
namespace Go.Proofs.Ytnaemjchnicmmaa
open Go
set_option maxRecDepth 100000
attribute [-simp] drawOk_eq adraw qrun acode aops

set_option maxHeartbeats 8000000 in
theorem reads_ct (s : List UInt8) (l : List (List UInt8)) (a b : Int) (hs : s.length ≤ maxLen) (a0 : 0 ≤ a) (a1 : a < 256) (b0 : 0 ≤ b) (b1 : b < 256) :
    ∃ H', Ct Try.prog 3 [.str s, .sl 0 0 l.length 1 false, .agg [.int .u8 a, .int .u8 b]] [.cells false (l.map AV.str)] (.bool true) H' := by
  have hΓ := rdΓ_ok
  refine ⟨[.cells false (l.map AV.str)], ?_⟩
  have fl : frees (l.map AV.str) = true := frees_map _ _ fun _ => rfl
  refine ct_of_sim Try.func3 rfl ?_
  simp only [Try.ntmps3, List.length_cons, List.length_nil, Nat.reduceAdd, Nat.reduceSub, List.replicate, List.cons_append, List.nil_append]
  refine Sim.step hmix hΓ (n := 0) (by simp; exact ⟨rfl, rfl⟩) (by simp) ?_
  refine Sim.step hmix hΓ (n := 0) (by simp [rdInl, fkInl, trueS]; exact ⟨rfl, rfl⟩) (by simp) ?_
  refine Sim.step hmix hΓ (n := 0) (by simp (decide := true); exact ⟨rfl, rfl⟩) (by simp) ?_
  obtain ⟨m1, e1, l1, k1, _⟩ := cut_len s 100 100 rfl
  obtain ⟨s0, hs0⟩ : ∃ x, s.take m1 = x := ⟨_, rfl⟩
  have ls0 : s0.length ≤ 100 := by rw [← hs0]; simp; omega
  refine Sim.step hmix hΓ (n := 0) (by simp (decide := true) [rdInl, fkInl, Try.f9, e1, k1, hs0]; exact ⟨rfl, rfl⟩) (by simp) ?_
  refine Sim.step hmix hΓ (n := 0) (by simp (decide := true); exact ⟨rfl, rfl⟩) (by simp) ?_
  refine Sim.step hmix hΓ (n := 0) (by simp (decide := true); exact ⟨rfl, rfl⟩) (by simp) ?_
  have hPl : (Fi.pieces l).length ≤ 30 := by unfold Fi.pieces; simp; omega
  have hPl2 : (Fi.pieces l).length = min 30 l.length := by unfold Fi.pieces; simp
  have hPf : (Fi.pieces l).flatten.length ≤ 600 := by have := Fi.pieces_le l 30; rwa [List.take_of_length_le hPl] at this
  have hat : ∀ (rn : List Nat) (m : Nat) (L : List AV), L.length = m → AWs rn (List.replicate m .top) L := fun rn m L h => AWs_tops rn m L h
  refine Sim.seq (Sim.mono (Q := fun e F' H' => e = .normal ∧ ∃ n : Nat, n ≤ 30 ∧ Weak 1 F' H' ([.str s, .sl 0 0 l.length 1 false, .top, .top, .top, .top, .bool false, .int .u8 a, .int .u8 b, .ptr 1 0, .ptr 3 0, .sl 4 0 (Fi.pieces l).length 1 false] ++ List.replicate 185 .top)
    [.cells false (l.map AV.str), .cells true [.str s0, .sl 2 0 n 1 false, .str (s0 ++ (Fi.pieces l).flatten)], .cells true (List.replicate n .top), .cells true [.str s0, .nils, .str s0], .cells true ((Fi.pieces l).map AV.str)]) ?_ ?_)
  · refine Sim.step hmix hΓ (n := 0) (by simp; exact ⟨rfl, rfl⟩) (by simp) ?_
    refine Sim.block (Sim.loopW (fun p : Nat × Nat => p.1 ≤ l.length ∧ p.1 ≤ 30 ∧ p.2 ≤ p.1)
      (fun p => [.str s, .sl 0 0 l.length 1 false, .top, .top, .top, .top, .bool false, .int .u8 a, .int .u8 b, .ptr 1 0, .ptr 3 0, .sl 4 0 p.1 1 false, .int .i64 p.1] ++ List.replicate 184 .top)
      (fun p => [.cells false (l.map AV.str), .cells true [.str s0, .sl 2 0 p.2 1 false, .str (s0 ++ ((Fi.pieces l).take p.1).flatten)], .cells true (List.replicate p.2 .top), .cells true [.str s0, .nils, .str s0], .cells true (((Fi.pieces l).take p.1).map AV.str)]) (fun p => 30 - p.1) (0, 0) (by simp) (by simp)
      (Weak.mk' [0, 2, 100, 3, 101] (by decide) rfl (by simp) (by simp [fl])) fun p hp => ?_)
    obtain ⟨k, n⟩ := p
    obtain ⟨hk, hk2, hn⟩ := hp
    dsimp only at hk hk2 hn ⊢
    obtain ⟨acc, hacc⟩ : ∃ x, ((Fi.pieces l).take k).flatten = x := ⟨_, rfl⟩
    have la : acc.length ≤ 600 := by rw [← hacc]; exact Fi.pieces_le l k
    rw [hacc]
    by_cases hlt : k < l.length
    · by_cases h30 : k < 30
      · have hw : IntKind.i64.wrap ((k : Int) + 1) = k + 1 := wr_i64 (by omega) (by omega)
        obtain ⟨m, e2, l2, k2, k3⟩ := cut_len l[k] 20 20 rfl
        have e3 : l[k].take m = l[k].take 20 := by rw [k3, take_min_len]
        obtain ⟨x, hx⟩ : ∃ x, l[k].take 20 = x := ⟨_, rfl⟩
        have lx : x.length ≤ 20 := by rw [← hx]; simp; omega
        have h30' : (k : Int) < 30 := by omega
        have hpl : k < (Fi.pieces l).length := by unfold Fi.pieces; simp; omega
        have hpk : (Fi.pieces l).take (k + 1) = (Fi.pieces l).take k ++ [x] := by
          rw [List.take_succ_eq_append_getElem hpl]
          congr 2
          unfold Fi.pieces
          simp [hx]
        have hfl : ((Fi.pieces l).take (k + 1)).flatten = acc ++ x := by rw [hpk, List.flatten_append, hacc]; simp
        have hpl2 : ((Fi.pieces l).take k).length = k := by simp; omega
        obtain ⟨ps, hps⟩ : ∃ q, (Fi.pieces l).take k = q := ⟨_, rfl⟩
        have b1 : (n + 1) * 8 ≤ 140737488355328 := by omega
        have b2 : n + 1 ≤ 9223372036854775807 := by omega
        have b3 : (k + 1) * 16 ≤ 140737488355328 := by omega
        have b4 : k + 1 ≤ 9223372036854775807 := by omega
        have hpf : ps.flatten = acc := by rw [← hps]; exact hacc
        rw [hps] at hpl2 hpk ⊢
        by_cases h0 : x = []
        · subst h0
          refine Sim.exec hmix hΓ (n := 0) (by simp (decide := true) [rdInl, fkInl, Try.f10, joinS, rowStrs, hlt, h30', e2, k2, e3, hx, hw, hpl2, b3, b4]; exact ⟨rfl, rfl, rfl⟩) (by simp) ?_
          exact ⟨(k + 1, n), ⟨by dsimp only; omega, by dsimp only; omega, by dsimp only; omega⟩, Weak.mk' [0, 1, 2, 3, 8] (by decide) rfl (by simp [hfl]) (by simp [fl, hpf, hpk, hat]), by dsimp only; omega⟩
        · have h0' : 0 < x.length := List.length_pos_iff.2 h0
          have c1 : x.length ≤ 140737488355328 := by omega
          have c2 : (x.length : Int) < 4611686018427387904 := by omega
          have c3 : ¬ (4611686018427387904 : Int) < (x.length : Int) := by omega
          have c4 : s0.length + acc.length + x.length ≤ 9223372036854775807 := by omega
          refine Sim.exec hmix hΓ (n := 0) (by simp (decide := true) [rdInl, fkInl, Try.f10, Try.f34, Try.f35, Try.f36, Try.f57, joinS, rowStrs, hlt, h30', e2, k2, e3, hx, hw, hpl2, b1, b2, b3, b4, h0, h0', c1, c2, c3, c4]; exact ⟨rfl, rfl, rfl⟩) (by simp) ?_
          exact ⟨(k + 1, n + 1), ⟨by dsimp only; omega, by dsimp only; omega, by dsimp only; omega⟩, Weak.mk' [0, 1, 8, 3, 10] (by decide) rfl (by simp [hfl]) (by simp [fl, hpf, hpk, hat]), by dsimp only; omega⟩
      · obtain rfl : k = 30 := by omega
        have hlt2 : (30 : Int) < (l.length : Int) := by omega
        have he : Fi.pieces l = (Fi.pieces l).take 30 := by rw [List.take_of_length_le hPl]
        have hl30 : (Fi.pieces l).length = 30 := by omega
        have heM : ((Fi.pieces l).map AV.str).take 30 = (Fi.pieces l).map AV.str := List.take_of_length_le (by simp; omega)
        refine Sim.exec hmix hΓ (n := 0) (by simp (decide := true) [hlt2]; exact ⟨rfl, rfl, rfl⟩) (by simp) ?_
        dsimp only
        rw [if_pos rfl]
        exact ⟨rfl, n, by omega, Weak.mk' [0, 1, 2, 3, 4] (by decide) rfl (by simp [hl30]) (by rw [← hacc, ← he]; simp [fl, hat, heM])⟩
    · have hkl : k = l.length := by omega
      have he : (Fi.pieces l).take k = Fi.pieces l := List.take_of_length_le (by omega)
      have hl30 : (Fi.pieces l).length = k := by omega
      have heM : ((Fi.pieces l).map AV.str).take k = (Fi.pieces l).map AV.str := List.take_of_length_le (by simp; omega)
      refine Sim.exec hmix hΓ (n := 0) (by simp (decide := true) [hlt]; exact ⟨rfl, rfl, rfl⟩) (by simp) ?_
      dsimp only
      rw [if_pos rfl]
      exact ⟨rfl, n, by omega, Weak.mk' [0, 1, 2, 3, 4] (by decide) rfl (by simp [hl30]) (by rw [← hacc, he]; simp [fl, hat, heM])⟩
  rintro e F' H' hlen ⟨rfl, n, hn, hw⟩
  dsimp only
  refine Sim.weak hw hlen ?_
  clear hw
  obtain ⟨P, hP⟩ : ∃ q, Fi.pieces l = q := ⟨_, rfl⟩
  rw [hP] at hPl hPf ⊢
  clear hP hPl2
  have hrow : ∀ A B C D E, rowStrs (A :: B :: C :: D :: .cells true (P.map AV.str) :: E) (.sl 4 0 P.length 1 false) = some P := by
    intro A B C D E
    have e : (P.map AV.str).take P.length = P.map AV.str := List.take_of_length_le (by simp)
    by_cases hp0 : P.length = 0
    · have : P = [] := List.eq_nil_of_length_eq_zero hp0
      subst this
      simp [rowStrs]
    · simp [rowStrs, hp0, e]
  obtain ⟨w, hw⟩ : ∃ q, s0 ++ P.flatten = q := ⟨_, rfl⟩
  have lw : w.length ≤ 700 := by rw [← hw, List.length_append]; omega
  -- all at once
  refine Sim.seq (Sim.mono (Q := fun e F' H' => e = .normal ∧ ∃ m : Nat, m ≤ 1 ∧ Weak 1 F' H' ([.str s, .sl 0 0 l.length 1 false, .top, .top, .top, .top, .bool false, .int .u8 a, .int .u8 b, .ptr 1 0, .ptr 3 0] ++ List.replicate 186 .top)
    [.cells false (l.map AV.str), .cells true [.str s0, .sl 2 0 n 1 false, .str w], .cells true (List.replicate n .top), .cells true [.str s0, .sl 4 0 m 1 false, .str w], .cells true (List.replicate m .top)]) ?_ ?_)
  · have c0 : P.flatten.length ≤ 140737488355328 := by omega
    have c00 : P.length ≤ 140737488355328 := by omega
    have c0s : (P.map List.length).sum ≤ 140737488355328 := by rw [← List.length_flatten]; exact c0
    by_cases h0 : P.flatten = []
    · rw [h0, List.append_nil] at hw
      subst hw
      refine Sim.exec hmix hΓ (n := 0) (by simp (decide := true) [rdInl, fkInl, Try.f10, joinS, hrow, c0s, c00, h0]; exact ⟨rfl, rfl, rfl⟩) (by simp) ?_
      exact ⟨rfl, 0, by omega, Weak.mk' [0, 1, 2, 3, 100] (by decide) rfl (by simp) (by simp [fl, hat, h0])⟩
    · have h0' : 0 < P.flatten.length := List.length_pos_iff.2 h0
      obtain ⟨x, hx⟩ : ∃ q, P.flatten = q := ⟨_, rfl⟩
      rw [hx] at h0 h0' hw c0 hPf
      have c2 : (x.length : Int) < 4611686018427387904 := by omega
      have c3 : ¬ (4611686018427387904 : Int) < (x.length : Int) := by omega
      have c4 : s0.length + x.length ≤ 9223372036854775807 := by omega
      refine Sim.exec hmix hΓ (n := 0) (by simp (decide := true) [rdInl, fkInl, Try.f10, Try.f34, Try.f35, Try.f36, Try.f57, joinS, hrow, c0s, c00, hx, h0, h0', c2, c3, c4, hw]; exact ⟨rfl, rfl, rfl⟩) (by simp) ?_
      exact ⟨rfl, 1, by omega, Weak.mk' [0, 1, 2, 3, 7] (by decide) rfl (by simp) (by simp [fl, hat])⟩
  rintro e F' H' hlen ⟨rfl, m, hm, hwk⟩
  dsimp only
  refine Sim.weak hwk hlen ?_
  exact readsB s l a b a0 a1 b0 b1 s0 w n m hn hm lw

def fileReads_shape : List (Bool × List CT) := [(false, [.one .str]), (false, [.row [.str]]), (true, [.one (.int .u8), .one (.int .u8)])]

theorem fileReads_law : ∀ xs H, AbsArgs fileReads_shape 0 xs H → ∃ H', Ct Try.prog 3 xs H (.bool true) H' := by
  intro xs H h0
  obtain ⟨x1, y1, rfl, ⟨s, rfl, hs⟩, h1⟩ := absArgs_one h0
  obtain ⟨x2, y2, l, n, H2, rfl, rfl, hx, _, hl, h2⟩ := absArgs_row h1
  obtain ⟨ss, rfl, hn, _⟩ := row_strs hl
  obtain ⟨z2, y3, H3, H4, rfl, k0, rfl, h3⟩ := absArgs_agg h2
  obtain ⟨x4, z4, rfl, ⟨a, rfl, ha⟩, k1⟩ := absOk_one k0
  obtain ⟨x5, z5, rfl, ⟨b, rfl, hb⟩, k2⟩ := absOk_one k1
  obtain ⟨rfl, rfl⟩ := absOk_nil k2
  obtain ⟨rfl, rfl⟩ := absArgs_nil h3
  have ba := bounds_u8 ha
  have bb := bounds_u8 hb
  subst hn
  obtain ⟨H', hc⟩ := reads_ct s ss a b hs ba.1 (by omega) bb.1 (by omega)
  refine ⟨H', ct_args hc fun j vs hv => ?_⟩
  simp only [VRs] at hv ⊢
  obtain ⟨v1, w1, e1, g1, v2, w2, e2, g2, r⟩ := hv
  exact ⟨v1, w1, e1, g1, v2, w2, e2, VR_arg_sl hx g2, r⟩

end Go.Proofs.Ytnaemjchnicmmaa
