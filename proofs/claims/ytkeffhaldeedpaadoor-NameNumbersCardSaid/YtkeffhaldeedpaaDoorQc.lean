/- Names: Parse. -/
import Derived.Test.YtkeffhaldeedpaaDoorQb
import Derived.Test.YtkeffhaldeedpaaDoorLq
import Derived.Test.YtkeffhaldeedpaaDoorSa
namespace Go.Proofs.YtkeffhaldeedpaaDoor
open Go Go.Lib
set_option maxRecDepth 100000
attribute [-simp] drawOk_eq adraw qrun acode aops

theorem atoiS_at {d : List UInt8} (h : d.length ≤ 1000000) : atoiS [.str d] = fun H => some (.tuple [.int .i64 (atoA d), .top], H, []) := by
  funext H
  unfold atoA
  cases hq : atoiAll d <;> simp [atoiS, pureS, h, hq]

/-- What is found from a kind on. -/
def npFrom (k : Nat) (s : List UInt8) : Int × Int :=
  if k ≤ 1 ∧ s = manifW then (1, 0) else if k ≤ 2 ∧ s = tempW then (2, 0)
  else if k ≤ 3 ∧ s.take 4 = walW ∧ mk 3 (atoA (s.drop 4)) = s then (3, atoA (s.drop 4))
  else if k ≤ 4 ∧ s.take 4 = segW ∧ mk 4 (atoA (s.drop 4)) = s then (4, atoA (s.drop 4)) else (0, 0)

theorem npFrom_zero (s : List UInt8) : npFrom 0 s = nparse s := by simp [npFrom, nparse]

def paInl : List FuncId := [19, 22]
theorem paΓ_ok : GOk Tryd.prog (runG Tryd.prog (gams [(20, cutS), (21, atoiS), (10, mkS)]) 0 paInl 2) := gok_run hmix (goks_cons cut_sound (goks_cons atoi_sound (goks_cons make_sound goks_nil))) 0 paInl 2

set_option maxHeartbeats 16000000 in
theorem parse_ct (s : List UInt8) (hs : s.length ≤ 1000000) : Ct Tryd.prog 8 [.str s] [] (.tuple [.int .i64 (nparse s).1, .int .i64 (nparse s).2]) [] := by
  have hΓ := paΓ_ok
  obtain ⟨r, hr⟩ : ∃ r, nparse s = r := ⟨_, rfl⟩
  rw [hr]
  have hs2 : s.length ≤ 1000000000000 := by omega
  have hA : ∀ j, atoiS [.str (s.drop j)] = fun H => some (.tuple [.int .i64 (atoA (s.drop j)), .top], H, []) := fun j => atoiS_at (by rw [List.length_drop]; omega)
  have hl0 : ([] : List UInt8).length = 0 := rfl
  have hl1 : manifW.length = 8 := rfl
  have hl2 : tempW.length = 12 := rfl
  have hl3 : walW.length = 4 := rfl
  have hl4 : segW.length = 4 := rfl
  have mk1 : ∀ n, mk 1 n = manifW := fun _ => rfl
  have mk2 : ∀ n, mk 2 n = tempW := fun _ => rfl
  refine ct_of_sim Tryd.func8 rfl ?_
  simp only [Tryd.ntmps8, List.length_cons, List.length_nil, Nat.reduceAdd, Nat.reduceSub, List.replicate, List.cons_append, List.nil_append]
  refine Sim.step hmix hΓ (n := 0) (by simp; exact ⟨rfl, rfl⟩) (by simp) ?_
  refine Sim.seq (Sim.step hmix hΓ (n := 0) (by simp [paInl, Tryd.f19]; exact ⟨rfl, rfl⟩) (by simp) ?_)
  refine Sim.block (Sim.loopW (fun k : Nat => k ≤ 5 ∧ npFrom k s = r)
    (fun k => [.str s, .top, .top, .top, .top, .top, .top, .top, .agg [.str [], .str manifW, .str tempW, .str walW, .str segW], .int .i64 k] ++ List.replicate 31 .top)
    (fun _ => []) (fun k => 5 - k) 0 (by simp) ⟨by omega, by rw [npFrom_zero, hr]⟩ (Weak.mk' [] (by decide) (by decide) (by simp [manifW, tempW, walW, segW]) (by simp [AWg])) fun k hk => ?_)
  obtain ⟨hk, hch⟩ := hk
  by_cases hlt : k < 5
  · have hlti : (k : Int) < 5 := by omega
    refine Sim.step hmix hΓ (n := 0) (by simp [hlti]; exact ⟨rfl, rfl⟩) (by simp) ?_
    refine Sim.step hmix hΓ (n := 0) (by simp; exact ⟨rfl, rfl⟩) (by simp) ?_
    refine Sim.seq (Sim.block ?_)
    match k, hlt with
    | 0, _ =>
      refine Sim.exec hmix hΓ (n := 0) (by simp (decide := true) [hl0, cutS, mkS, hs2, paInl]; exact ⟨rfl, rfl, rfl⟩) (by simp) ?_
      dsimp only
      rw [if_pos rfl]
      refine Sim.exec hmix hΓ (n := 0) (by simp (decide := true); exact ⟨rfl, rfl, rfl⟩) (by simp) ?_
      dsimp only
      exact ⟨1, ⟨by omega, by rw [← hch]; simp [npFrom]⟩, Weak.mk' [] (by decide) (by decide) (by simp) (by simp [AWg]), by omega⟩
    | 1, _ =>
      by_cases he : s = manifW
      · have hp : manifW.take 8 = manifW := by decide
        subst he
        refine Sim.exec hmix hΓ (n := 0) (by simp (decide := true) [hl1, cutS, mkS, mk1, hA, paInl, Tryd.f22]; exact ⟨rfl, rfl, rfl⟩) (by simp) ?_
        dsimp only
        have hrr : r = (1, 0) := by rw [← hch]; simp [npFrom]
        rw [hrr]
        exact ⟨.inr rfl, _, by simp [Tryd.f8] <;> rfl, Weak.mk' [] (by decide) (by decide) (by simp) (by simp [AWg])⟩
      · by_cases hp : s.take 8 = manifW
        · have he' : ¬ manifW = s := fun e => he e.symm
          have heb : (manifW == s) = false := by simpa using he'
          refine Sim.exec hmix hΓ (n := 0) (by simp (decide := true) [hl1, cutS, mkS, mk1, hs2, hA, paInl, hp, heb]; exact ⟨rfl, rfl, rfl⟩) (by simp) ?_
          dsimp only
          refine Sim.exec hmix hΓ (n := 0) (by simp (decide := true); exact ⟨rfl, rfl, rfl⟩) (by simp) ?_
          dsimp only
          exact ⟨2, ⟨by omega, by rw [← hch]; simp [npFrom, he]⟩, Weak.mk' [] (by decide) (by decide) (by simp) (by simp [AWg]), by omega⟩
        · refine Sim.exec hmix hΓ (n := 0) (by simp (decide := true) [hl1, cutS, mkS, hs2, paInl, hp]; exact ⟨rfl, rfl, rfl⟩) (by simp) ?_
          dsimp only
          rw [if_pos rfl]
          refine Sim.exec hmix hΓ (n := 0) (by simp (decide := true); exact ⟨rfl, rfl, rfl⟩) (by simp) ?_
          dsimp only
          exact ⟨2, ⟨by omega, by rw [← hch]; simp [npFrom, he]⟩, Weak.mk' [] (by decide) (by decide) (by simp) (by simp [AWg]), by omega⟩
    | 2, _ =>
      by_cases he : s = tempW
      · have hp : tempW.take 12 = tempW := by decide
        subst he
        refine Sim.exec hmix hΓ (n := 0) (by simp (decide := true) [hl2, cutS, mkS, mk2, hA, paInl, Tryd.f22]; exact ⟨rfl, rfl, rfl⟩) (by simp) ?_
        dsimp only
        have hrr : r = (2, 0) := by rw [← hch]; simp [npFrom]
        rw [hrr]
        exact ⟨.inr rfl, _, by simp [Tryd.f8] <;> rfl, Weak.mk' [] (by decide) (by decide) (by simp) (by simp [AWg])⟩
      · by_cases hp : s.take 12 = tempW
        · have he' : ¬ tempW = s := fun e => he e.symm
          have heb : (tempW == s) = false := by simpa using he'
          refine Sim.exec hmix hΓ (n := 0) (by simp (decide := true) [hl2, cutS, mkS, mk2, hs2, hA, paInl, hp, heb]; exact ⟨rfl, rfl, rfl⟩) (by simp) ?_
          dsimp only
          refine Sim.exec hmix hΓ (n := 0) (by simp (decide := true); exact ⟨rfl, rfl, rfl⟩) (by simp) ?_
          dsimp only
          exact ⟨3, ⟨by omega, by rw [← hch]; simp [npFrom, he]⟩, Weak.mk' [] (by decide) (by decide) (by simp) (by simp [AWg]), by omega⟩
        · refine Sim.exec hmix hΓ (n := 0) (by simp (decide := true) [hl2, cutS, mkS, hs2, paInl, hp]; exact ⟨rfl, rfl, rfl⟩) (by simp) ?_
          dsimp only
          rw [if_pos rfl]
          refine Sim.exec hmix hΓ (n := 0) (by simp (decide := true); exact ⟨rfl, rfl, rfl⟩) (by simp) ?_
          dsimp only
          exact ⟨3, ⟨by omega, by rw [← hch]; simp [npFrom, he]⟩, Weak.mk' [] (by decide) (by decide) (by simp) (by simp [AWg]), by omega⟩
    | 3, _ =>
      by_cases hp : s.take 4 = walW
      · by_cases he : mk 3 (atoA (s.drop 4)) = s
        · have heb : (mk 3 (atoA (s.drop 4)) == s) = true := by simpa using he
          refine Sim.exec hmix hΓ (n := 0) (by simp (decide := true) [hl3, cutS, mkS, hs2, hA, paInl, Tryd.f22, hp, he]; exact ⟨rfl, rfl, rfl⟩) (by simp) ?_
          dsimp only
          have hrr : r = (3, atoA (s.drop 4)) := by rw [← hch]; simp [npFrom, hp, he]
          rw [hrr]
          exact ⟨.inr rfl, _, by simp [Tryd.f8] <;> rfl, Weak.mk' [] (by decide) (by decide) (by simp) (by simp [AWg])⟩
        · have heb : (mk 3 (atoA (s.drop 4)) == s) = false := by simpa using he
          refine Sim.exec hmix hΓ (n := 0) (by simp (decide := true) [hl3, cutS, mkS, hs2, hA, paInl, hp, heb]; exact ⟨rfl, rfl, rfl⟩) (by simp) ?_
          dsimp only
          refine Sim.exec hmix hΓ (n := 0) (by simp (decide := true); exact ⟨rfl, rfl, rfl⟩) (by simp) ?_
          dsimp only
          exact ⟨4, ⟨by omega, by rw [← hch]; simp [npFrom, hp, he]⟩, Weak.mk' [] (by decide) (by decide) (by simp) (by simp [AWg]), by omega⟩
      · refine Sim.exec hmix hΓ (n := 0) (by simp (decide := true) [hl3, cutS, mkS, hs2, paInl, hp]; exact ⟨rfl, rfl, rfl⟩) (by simp) ?_
        dsimp only
        rw [if_pos rfl]
        refine Sim.exec hmix hΓ (n := 0) (by simp (decide := true); exact ⟨rfl, rfl, rfl⟩) (by simp) ?_
        dsimp only
        exact ⟨4, ⟨by omega, by rw [← hch]; simp [npFrom, hp]⟩, Weak.mk' [] (by decide) (by decide) (by simp) (by simp [AWg]), by omega⟩
    | 4, _ =>
      by_cases hp : s.take 4 = segW
      · by_cases he : mk 4 (atoA (s.drop 4)) = s
        · have heb : (mk 4 (atoA (s.drop 4)) == s) = true := by simpa using he
          refine Sim.exec hmix hΓ (n := 0) (by simp (decide := true) [hl4, cutS, mkS, hs2, hA, paInl, Tryd.f22, hp, he]; exact ⟨rfl, rfl, rfl⟩) (by simp) ?_
          dsimp only
          have hrr : r = (4, atoA (s.drop 4)) := by rw [← hch]; simp [npFrom, hp, he]
          rw [hrr]
          exact ⟨.inr rfl, _, by simp [Tryd.f8] <;> rfl, Weak.mk' [] (by decide) (by decide) (by simp) (by simp [AWg])⟩
        · have heb : (mk 4 (atoA (s.drop 4)) == s) = false := by simpa using he
          refine Sim.exec hmix hΓ (n := 0) (by simp (decide := true) [hl4, cutS, mkS, hs2, hA, paInl, hp, heb]; exact ⟨rfl, rfl, rfl⟩) (by simp) ?_
          dsimp only
          refine Sim.exec hmix hΓ (n := 0) (by simp (decide := true); exact ⟨rfl, rfl, rfl⟩) (by simp) ?_
          dsimp only
          exact ⟨5, ⟨by omega, by rw [← hch]; simp [npFrom, hp, he]⟩, Weak.mk' [] (by decide) (by decide) (by simp) (by simp [AWg]), by omega⟩
      · refine Sim.exec hmix hΓ (n := 0) (by simp (decide := true) [hl4, cutS, mkS, hs2, paInl, hp]; exact ⟨rfl, rfl, rfl⟩) (by simp) ?_
        dsimp only
        rw [if_pos rfl]
        refine Sim.exec hmix hΓ (n := 0) (by simp (decide := true); exact ⟨rfl, rfl, rfl⟩) (by simp) ?_
        dsimp only
        exact ⟨5, ⟨by omega, by rw [← hch]; simp [npFrom, hp]⟩, Weak.mk' [] (by decide) (by decide) (by simp) (by simp [AWg]), by omega⟩
  · have hk5 : k = 5 := by omega
    subst hk5
    have hrr : r = (0, 0) := by rw [← hch]; simp [npFrom]
    rw [hrr]
    refine Sim.step hmix hΓ (n := 0) (by simp; exact ⟨rfl, rfl⟩) (by simp) ?_
    refine Sim.seq (Sim.exec hmix hΓ (n := 0) (by simp; exact ⟨rfl, rfl, rfl⟩) (by simp) ?_)
    dsimp only
    rw [if_pos rfl]
    refine Sim.exec hmix hΓ (n := 0) (by simp; exact ⟨rfl, rfl, rfl⟩) (by simp) ?_
    exact ⟨.inr rfl, _, by simp [Tryd.f8] <;> rfl, Weak.mk' [] (by decide) (by decide) (by simp) (by simp [AWg])⟩

def nparseS : Summ := pureS fun
  | [.str s] => if s.length ≤ 1000000 then some (.tuple [.int .i64 (nparse s).1, .int .i64 (nparse s).2]) else none
  | _ => none
theorem nparse_sound : Sound Tryd.prog 8 nparseS := by
  refine sound_pure (enter_of Tryd.func8 rfl (by decide)) fun args v h => ?_
  split at h
  · split at h <;> cases h
    rename_i hc
    exact ⟨parse_ct _ hc, rfl, rfl⟩
  · cases h

end Go.Proofs.YtkeffhaldeedpaaDoor
