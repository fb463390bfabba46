/- Walk: cedillalaw06.FileReads, its end. -/
import Derived.Test.YtnaemjchnicmmaaFr
import Derived.Test.YtnaemjchnicmmaaLf
namespace Go.Proofs.Ytnaemjchnicmmaa
open Go
set_option maxRecDepth 100000
attribute [-simp] drawOk_eq adraw qrun acode aops

set_option maxHeartbeats 8000000 in
theorem readsC (s : List UInt8) (l : List (List UInt8)) (a b : Int) (a0 : 0 ≤ a) (a1 : a < 256) (b0 : 0 ≤ b) (b1 : b < 256) (s0 w : List UInt8) (n m : Nat) (hn : n ≤ 30) (hm : m ≤ 1) (lw : w.length ≤ 700) :
    Sim Try.prog none 1 (restC 12 (bodyOf Try.f3)) ([.str s, .sl 0 0 l.length 1 false, .top, .top, .top, .top, .bool false, .int .u8 a, .int .u8 b, .ptr 1 0, .ptr 3 0, .top, .top, .top, .str w, .str w] ++ List.replicate 181 .top) [.cells false (l.map AV.str), .cells true [.str s0, .sl 2 0 n 1 false, .str w], .cells true (List.replicate n .top), .cells true [.str s0, .sl 4 0 m 1 false, .str w], .cells true (List.replicate m .top)] (Ends Try.prog Try.f3 1 (.bool true) [.cells false (l.map AV.str)]) := by
  have hΓ := rdΓ_ok
  have fl : frees (l.map AV.str) = true := frees_map _ _ fun _ => rfl
  have hat : ∀ (rn : List Nat) (m : Nat) (L : List AV), L.length = m → AWs rn (List.replicate m .top) L := fun rn m L h => AWs_tops rn m L h
  simp only [bodyOf, Try.f3, Option.getD_some, restC]
  obtain ⟨k, hk, lk⟩ := rem_nat a (w.length + 1) a0 (by omega) ((w.length : Int) + 1) (by omega)
  have w1 : IntKind.i64.wrap a = a := wr_i64 (by omega) (by omega)
  have w2 : IntKind.i64.wrap ((w.length : Int) + 1) = (w.length : Int) + 1 := wr_i64 (by omega) (by omega)
  have z1 : ¬ ((w.length : Int) + 1 = 0) := by omega
  refine Sim.step hmix hΓ (n := 0) (by simp [w1, w2, z1, hk]; exact ⟨rfl, rfl⟩) (by simp) ?_
  have d1 : (k : Int) ≤ (w.length : Int) := by omega
  have d1' : k ≤ w.length := by omega
  have d2 : ¬ (w.length : Int) < (k : Int) := by omega
  have d7 : List.take (w.length - k) (List.drop k w) = List.drop k w := List.take_of_length_le (by simp)
  have d4 : (if w.length - k < w.length then ((w.length - k : Nat) : Int) else (w.length : Int)) = ((w.length - k : Nat) : Int) := by split <;> omega
  refine Sim.step hmix hΓ (n := 0) (by simp (decide := true) [rdInl, fkInl, Try.f14, d1, d1', d2, d4, d7]; exact ⟨rfl, rfl⟩) (by simp) ?_
  have hj : ∀ (A : List UInt8), rowStrs [.cells true [.str A]] (.slice 0 0 1 1 true) = some [A] := fun A => rfl
  by_cases hkw : k = w.length
  · -- nothing is cut
    subst hkw
    have e1 : w.drop w.length = [] := List.drop_of_length_le (Nat.le_refl _)
    have e2 : w.take w.length = w := List.take_of_length_le (Nat.le_refl _)
    refine Sim.step hmix hΓ (n := 0) (by simp (decide := true) [rdInl, fkInl, Try.f10, Try.f15, Try.f11, joinS, rowStrs]; exact ⟨rfl, rfl⟩) (by simp) ?_
    refine Sim.step hmix hΓ (n := 0) (by simp [rdInl, fkInl, Try.f16, Try.f38]; exact ⟨rfl, rfl⟩) (by simp) ?_
    refine Sim.step hmix hΓ (n := 0) (by simp [rdInl, fkInl, Try.f16, Try.f38]; exact ⟨rfl, rfl⟩) (by simp) ?_
    refine Sim.exec hmix hΓ (n := 0) (by simp (decide := true) [rdInl, fkInl, Try.f13, Try.f12]; exact ⟨rfl, rfl, rfl⟩) (by simp) ?_
    exact ⟨.inr rfl, _, by simp [Try.f3]; rfl, Weak.mk' [0] (by decide) rfl (by simp) (by simp [fl])⟩
  · have hkw' : k < w.length := by omega
    refine Sim.seq (Sim.seq (Sim.draw hmix (by simp) ?_))
    obtain ⟨h, hh⟩ : ∃ q, w.take k = q := ⟨_, rfl⟩
    obtain ⟨r, hr⟩ : ∃ q, w.drop k = q := ⟨_, rfl⟩
    have hrw : h ++ r = w := by rw [← hh, ← hr, List.take_append_drop]
    have lh : h.length ≤ 700 := by rw [← hrw, List.length_append] at lw; omega
    have lr : r.length ≤ 700 := by rw [← hrw, List.length_append] at lw; omega
    have r0 : 0 < r.length := by rw [← hr, List.length_drop]; omega
    have r1 : ¬ r = [] := fun e => by rw [e] at r0; exact absurd r0 (by decide)
    have e7 : List.take (w.length - k) r = r := by rw [← hr]; exact d7
    have hkz : (k : Int) < (w.length : Int) := by omega
    have kz : ¬ ((k : Int) < 0) := by omega
    have q1 : (n + 1) * 8 ≤ 140737488355328 := by omega
    have q2 : n + 1 ≤ 9223372036854775807 := by omega
    have q3 : (n + 1 + 1) * 8 ≤ 140737488355328 := by omega
    have q4 : n + 1 + 1 ≤ 9223372036854775807 := by omega
    have q5 : r.length ≤ 140737488355328 := by omega
    have q6 : (r.length : Int) < 4611686018427387904 := by omega
    have q7 : ¬ (4611686018427387904 : Int) < (r.length : Int) := by omega
    have q8 : h.length + r.length ≤ 9223372036854775807 := by omega
    have d2' : ¬ w.length < k := by omega
    have n0 : (0 : Int) ≤ (n : Int) + 1 := by omega
    rw [hr]
    refine SimR.many hΓ 17 (by simp [stageOps, blankOp]; rfl) (by omega) (by kernel_rfl) (by simp [d1', hr, e7]; exact ⟨by kernel_rfl, rfl, rfl⟩) ?_
    refine SimR.one hΓ _ rfl (by kernel_rfl) (by simp (decide := true) [rdInl, fkInl, Try.f15, Try.f37, Try.f34, Try.f57, hkw', hkz, kz, d1, d1', d2, d2', q1, q2, hh]; exact ⟨rfl, rfl⟩) ?_
    refine SimR.many hΓ 32 (by simp [stageOps, blankOp]; rfl) (by omega) (by kernel_rfl) (by simp [rdInl, fkInl, Try.f11, d1', hh]; exact ⟨by kernel_rfl, rfl, rfl⟩) ?_
    refine SimR.one hΓ _ rfl (by kernel_rfl) (by simp (decide := true) [rdInl, fkInl, Try.f10, Try.f35, Try.f36, Try.f34, Try.f57, joinS, rowStrs, n0, r0, r1, q3, q4, q5, q6, q7, q8, hrw]; exact ⟨rfl, rfl⟩) ?_
    refine SimR.many hΓ 41 (by simp [stageOps, blankOp]; rfl) (by omega) (by kernel_rfl) (by simp [rdInl, fkInl, Try.f11]; exact ⟨by kernel_rfl, rfl, rfl⟩) ?_
    refine SimR.done rfl ?_
    dsimp only
    refine Sim.exec hmix hΓ (n := 0) (by simp; exact ⟨rfl, rfl, rfl⟩) (by simp) ?_
    dsimp only
    refine Sim.step hmix hΓ (n := 0) (by simp [rdInl, fkInl, Try.f16, Try.f38]; exact ⟨rfl, rfl⟩) (by simp) ?_
    refine Sim.step hmix hΓ (n := 0) (by simp [rdInl, fkInl, Try.f16, Try.f38]; exact ⟨rfl, rfl⟩) (by simp) ?_
    refine Sim.exec hmix hΓ (n := 0) (by simp (decide := true) [rdInl, fkInl, Try.f13, Try.f12]; exact ⟨rfl, rfl, rfl⟩) (by simp) ?_
    exact ⟨.inr rfl, _, by simp [Try.f3]; rfl, Weak.mk' [0] (by decide) rfl (by simp) (by simp [fl])⟩

end Go.Proofs.Ytnaemjchnicmmaa
