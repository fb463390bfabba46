/- Walk: cedillalaw06.FileReads, reading in parts. -/
import Derived.Test.YtnaemjchnicmmaaFrc
namespace Go.Proofs.Ytnaemjchnicmmaa
open Go
set_option maxRecDepth 100000
attribute [-simp] drawOk_eq adraw qrun acode aops

set_option maxHeartbeats 8000000 in
theorem readsB (s : List UInt8) (l : List (List UInt8)) (a b : Int) (a0 : 0 ≤ a) (a1 : a < 256) (b0 : 0 ≤ b) (b1 : b < 256) (s0 w : List UInt8) (n m : Nat) (hn : n ≤ 30) (hm : m ≤ 1) (lw : w.length ≤ 700) :
    Sim Try.prog none 1 (restC 8 (bodyOf Try.f3)) ([.str s, .sl 0 0 l.length 1 false, .top, .top, .top, .top, .bool false, .int .u8 a, .int .u8 b, .ptr 1 0, .ptr 3 0] ++ List.replicate 186 .top) [.cells false (l.map AV.str), .cells true [.str s0, .sl 2 0 n 1 false, .str w], .cells true (List.replicate n .top), .cells true [.str s0, .sl 4 0 m 1 false, .str w], .cells true (List.replicate m .top)] (Ends Try.prog Try.f3 1 (.bool true) [.cells false (l.map AV.str)]) := by
  have hΓ := rdΓ_ok
  have fl : frees (l.map AV.str) = true := frees_map _ _ fun _ => rfl
  have hat : ∀ (rn : List Nat) (m : Nat) (L : List AV), L.length = m → AWs rn (List.replicate m .top) L := fun rn m L h => AWs_tops rn m L h
  simp only [bodyOf, Try.f3, Option.getD_some, restC]
  have c5 : ¬ (1 : Int) < (m : Int) := by omega
  refine Sim.step hmix hΓ (n := 0) (by simp (decide := true) [rdInl, fkInl, Try.f11, Try.f13, Try.f12, c5]; exact ⟨rfl, rfl⟩) (by simp) ?_
  refine Sim.step hmix hΓ (n := 0) (by simp (decide := true) [rdInl, fkInl, Try.f11]; exact ⟨rfl, rfl⟩) (by simp) ?_
  refine Sim.step hmix hΓ (n := 0) (by simp (decide := true); exact ⟨rfl, rfl⟩) (by simp) ?_
  obtain ⟨c, hc, lc⟩ := rem_nat b 9 b0 (by omega) 9 rfl
  have w1 : IntKind.i64.wrap (c : Int) = c := wr_i64 (by omega) (by omega)
  have w2 : IntKind.i64.wrap (1 + (c : Int)) = 1 + c := wr_i64 (by omega) (by omega)
  -- read in parts
  refine Sim.seq (Sim.mono (Q := fun e F' H' => e = .normal ∧ Weak 1 F' H' ([.str s, .sl 0 0 l.length 1 false, .top, .top, .top, .top, .bool false, .int .u8 a, .int .u8 b, .ptr 1 0, .ptr 3 0, .top, .top, .top, .str w, .str w] ++ List.replicate 181 .top)
    [.cells false (l.map AV.str), .cells true [.str s0, .sl 2 0 n 1 false, .str w], .cells true (List.replicate n .top), .cells true [.str s0, .sl 4 0 m 1 false, .str w], .cells true (List.replicate m .top)]) ?_ ?_)
  · refine Sim.step hmix hΓ (n := 0) (by simp; exact ⟨rfl, rfl⟩) (by simp) ?_
    refine Sim.block (Sim.loopW (fun p : Nat => p ≤ w.length + 9)
      (fun p => [.str s, .sl 0 0 l.length 1 false, .top, .top, .top, .top, .bool false, .int .u8 a, .int .u8 b, .ptr 1 0, .ptr 3 0, .top, .top, .top, .str w, .str (w.take p), .int .i64 p] ++ List.replicate 180 .top)
      (fun _ => [.cells false (l.map AV.str), .cells true [.str s0, .sl 2 0 n 1 false, .str w], .cells true (List.replicate n .top), .cells true [.str s0, .sl 4 0 m 1 false, .str w], .cells true (List.replicate m .top)]) (fun p => w.length + 9 - p) 0 (by simp) (by omega)
      (Weak.mk' [0, 1, 2, 3, 4] (by decide) rfl (by simp) (by simp [fl, hat])) fun p hp => ?_)
    by_cases hlt : p < w.length
    · have hlt' : (p : Int) < (w.length : Int) := by omega
      have d1 : (p : Int) ≤ (w.length : Int) := by omega
      have d2 : ¬ (w.length : Int) < (p : Int) := by omega
      have w3 : IntKind.i64.wrap ((p : Int) + 1) = p + 1 := wr_i64 (by omega) (by omega)
      have w4 : IntKind.i64.wrap ((p : Int) + 1 + (c : Int)) = p + 1 + c := wr_i64 (by omega) (by omega)
      have d3 : ¬ ((1 : Int) + (c : Int) < 0) := by omega
      obtain ⟨q, d4, d5, d6⟩ : ∃ q : Nat, (if ((w.length - p : Nat) : Int) < 1 + (c : Int) then ((w.length - p : Nat) : Int) else 1 + (c : Int)) = (q : Int) ∧ q ≤ w.length - p ∧ q = min (w.length - p) (1 + c) := ⟨min (w.length - p) (1 + c), by split <;> omega, by omega, rfl⟩
      have d7 : List.take (w.length - p) (List.drop p w) = List.drop p w := List.take_of_length_le (by simp)
      have d8 : w.take (p + 1 + c) = w.take p ++ (w.drop p).take q := by
        rw [Nat.add_assoc, List.take_add, d6]
        congr 1
        rw [show w.length - p = (w.drop p).length by simp, take_min_len]
      have d9 : (w.take p).length ≤ 700 := by rw [List.length_take]; omega
      have d10 : ((w.drop p).take q).length ≤ 700 := by rw [List.length_take, List.length_drop]; omega
      obtain ⟨r1, hr1⟩ : ∃ r, w.take p = r := ⟨_, rfl⟩
      obtain ⟨r2, hr2⟩ : ∃ r, (w.drop p).take q = r := ⟨_, rfl⟩
      rw [hr1] at d8 d9 ⊢
      rw [hr2] at d8 d10
      have d11 : r1.length + r2.length ≤ 9223372036854775807 := by omega
      refine Sim.exec hmix hΓ (n := 0) (by simp (decide := true) [rdInl, fkInl, Try.f14, hlt, hlt', hc, w1, w2, w3, w4, d1, d2, d3, d4, d5, d7, hr2, d11]; exact ⟨rfl, rfl, rfl⟩) (by simp) ?_
      exact ⟨p + 1 + c, by omega, Weak.mk' [0, 1, 2, 3, 4] (by decide) rfl (by simp [d8]) (by simp [fl, hat]), by omega⟩
    · refine Sim.exec hmix hΓ (n := 0) (by simp (decide := true) [hlt]; exact ⟨rfl, rfl, rfl⟩) (by simp) ?_
      dsimp only
      rw [if_pos rfl]
      have e : w.take p = w := List.take_of_length_le (by omega)
      exact ⟨rfl, Weak.mk' [0, 1, 2, 3, 4] (by decide) rfl (by simp [e]) (by simp [fl, hat])⟩
  rintro e F' H' hlen ⟨rfl, hwk⟩
  dsimp only
  refine Sim.weak hwk hlen ?_
  exact readsC s l a b a0 a1 b0 b1 s0 w n m hn hm lw

end Go.Proofs.Ytnaemjchnicmmaa
