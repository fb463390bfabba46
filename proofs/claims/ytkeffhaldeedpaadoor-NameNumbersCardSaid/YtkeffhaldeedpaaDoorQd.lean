/- Names: the document's Parse. -/
import Derived.Test.YtkeffhaldeedpaaDoorQc
namespace Go.Proofs.YtkeffhaldeedpaaDoor
open Go Go.Lib
set_option maxRecDepth 100000
attribute [-simp] drawOk_eq adraw qrun acode aops

theorem decFrom_bad : ∀ (l : List UInt8) (acc k : Nat) (b : UInt8), l[k]? = some b → digitVal b = none → decFrom acc l = none
  | [], _, k, b, h, _ => by simp at h
  | a :: l, acc, 0, b, h, hb => by
    simp at h; subst h
    simp [decFrom, hb]
  | a :: l, acc, k + 1, b, h, hb => by
    simp only [decFrom]
    cases digitVal a with
    | none => rfl
    | some d => exact decFrom_bad l _ k b (by simpa using h) hb

theorem rpaΓ_ok : GOk Tryd.prog (gams [(7, mkS)]) := goks_cons rmake_sound goks_nil

set_option maxHeartbeats 16000000 in
theorem rparse_ct (s : List UInt8) : Ct Tryd.prog 9 [.str s] [] (.tuple [.int .i64 (rparse s).1, .int .i64 (rparse s).2]) [] := by
  have hΓ := rpaΓ_ok
  obtain ⟨r, hr⟩ : ∃ r, rparse s = r := ⟨_, rfl⟩
  rw [hr]
  unfold rparse at hr
  have mk1 : ∀ n, mk 1 n = manifW := fun _ => rfl
  have mk2 : ∀ n, mk 2 n = tempW := fun _ => rfl
  refine ct_of_sim Tryd.func9 rfl ?_
  simp only [Tryd.ntmps9, List.length_cons, List.length_nil, Nat.reduceAdd, Nat.reduceSub, List.replicate, List.cons_append, List.nil_append]
  refine Sim.step hmix hΓ (n := 0) (by simp; exact ⟨rfl, rfl⟩) (by simp) ?_
  by_cases n1 : s = manifW
  · rw [if_pos n1] at hr
    subst hr
    have nb : (s == manifW) = true := by simpa using n1
    refine Sim.exec hmix hΓ (n := 4) (by simp (decide := true) [mkS, mk1, n1]; exact ⟨rfl, rfl, rfl⟩) (by simp) ?_
    exact ⟨.inr rfl, _, by simp [Tryd.f9] <;> rfl, Weak.mk' [] (by decide) (by decide) (by simp) (by simp [AWg])⟩
  rw [if_neg n1] at hr
  have n1b : (s == manifW) = false := by simpa using n1
  by_cases n2 : s = tempW
  · rw [if_pos n2] at hr
    subst hr
    have nb : (s == tempW) = true := by simpa using n2
    refine Sim.exec hmix hΓ (n := 4) (by simp (decide := true) [mkS, mk1, mk2, n2]; exact ⟨rfl, rfl, rfl⟩) (by simp) ?_
    exact ⟨.inr rfl, _, by simp [Tryd.f9] <;> rfl, Weak.mk' [] (by decide) (by decide) (by simp) (by simp [AWg])⟩
  rw [if_neg n2] at hr
  have n2b : (s == tempW) = false := by simpa using n2
  refine Sim.step hmix hΓ (n := 4) (by simp (decide := true) [mkS, mk1, mk2, n1b, n2b]; exact ⟨rfl, rfl⟩) (by simp) ?_
  by_cases hl : s.length < 5 ∨ 14 < s.length
  · rw [if_pos hl] at hr
    subst hr
    by_cases hl5 : s.length < 5
    · have hl5i : (s.length : Int) < 5 := by omega
      refine Sim.exec hmix hΓ (n := 0) (by simp (decide := true) [hl5i]; exact ⟨rfl, rfl, rfl⟩) (by simp) ?_
      exact ⟨.inr rfl, _, by simp [Tryd.f9] <;> rfl, Weak.mk' [] (by decide) (by decide) (by simp) (by simp [AWg])⟩
    · have hl5i : ¬ (s.length : Int) < 5 := by omega
      have hl14 : 14 < s.length := by omega
      have hl14i : (14 : Int) < s.length := by omega
      refine Sim.exec hmix hΓ (n := 0) (by simp (decide := true) [hl5i, hl14i]; exact ⟨rfl, rfl, rfl⟩) (by simp) ?_
      exact ⟨.inr rfl, _, by simp [Tryd.f9] <;> rfl, Weak.mk' [] (by decide) (by decide) (by simp) (by simp [AWg])⟩
  rw [if_neg hl] at hr
  have hl5 : ¬ s.length < 5 := fun h => hl (.inl h)
  have hl14 : ¬ 14 < s.length := fun h => hl (.inr h)
  have hl5i : ¬ (s.length : Int) < 5 := by omega
  have hl14i : ¬ (14 : Int) < s.length := by omega
  refine Sim.step hmix hΓ (n := 0) (by simp (decide := true) [hl5i, hl14i]; exact ⟨rfl, rfl⟩) (by simp) ?_
  refine Sim.step hmix hΓ (n := 0) (by simp; exact ⟨rfl, rfl⟩) (by simp) ?_
  obtain ⟨d, hd⟩ : ∃ d, s.drop 4 = d := ⟨_, rfl⟩
  have hdl : d.length = s.length - 4 := by rw [← hd]; simp
  rw [hd] at hr
  refine Sim.seq (Sim.seq (Sim.exec hmix hΓ (n := 0) (by simp; exact ⟨rfl, rfl, rfl⟩) (by simp) ?_))
  dsimp only
  refine Sim.block (Sim.loopW (fun q : Nat × Nat => q.1 ≤ d.length ∧ decFrom 0 (d.take q.1) = some q.2 ∧ q.2 < 10 ^ q.1)
    (fun q => [.str s, .top, .top, .top, .top, .int .i64 q.2, .int .i64 ((q.1 + 4 : Nat) : Int)] ++ List.replicate 53 .top)
    (fun _ => []) (fun q => d.length - q.1) (0, 0) (by simp) ⟨by simp, rfl, by simp⟩ (Weak.mk' [] (by decide) (by decide) (by simp) (by simp [AWg])) fun q hq => ?_)
  obtain ⟨k, n⟩ := q
  obtain ⟨hk, hdec, hn⟩ := hq
  dsimp only at hk hdec hn ⊢
  have hn10 : n < 10000000000 := Nat.lt_of_lt_of_le hn (Nat.pow_le_pow_right (by decide) (show k ≤ 10 by omega))
  by_cases hlt : k < d.length
  · have hlt2 : k + 4 < s.length := by omega
    have hlti : (k : Int) + 4 < s.length := by omega
    obtain ⟨c, hc⟩ : ∃ c, d[k] = c := ⟨_, rfl⟩
    have hc' : d[k]? = some c := by rw [List.getElem?_eq_getElem hlt, hc]
    have hs' : s[k + 4]? = some c := by rw [← hd, List.getElem?_drop, Nat.add_comm] at hc'; exact hc'
    have hsg : ∀ h, s[k + 4]'h = c := fun h => (List.getElem?_eq_some_iff.1 hs').2
    have ht : ((k : Int) + 4).toNat = k + 4 := by omega
    have h0 : (0 : Int) ≤ (k : Int) + 4 := by omega
    have hw : IntKind.i64.wrap ((k : Int) + 4 + 1) = (k : Int) + 1 + 4 := by rw [wr_i64 (by omega) (by omega)]; omega
    refine Sim.step hmix hΓ (n := 0) (by simp [hlti]; exact ⟨rfl, rfl⟩) (by simp) ?_
    refine Sim.seq (Sim.block ?_)
    by_cases h48 : c.toNat < 48
    · have h48i : (c.toNat : Int) < 48 := by omega
      have hdn : decFrom 0 d = none := decFrom_bad d 0 k c hc' (by unfold digitVal; rw [if_neg (by omega)])
      rw [hdn] at hr
      dsimp only at hr
      subst hr
      refine Sim.exec hmix hΓ (n := 0) (by simp (decide := true) [hlt2, hsg, ht, h0, h48i]; exact ⟨rfl, rfl, rfl⟩) (by simp) ?_
      exact ⟨.inr rfl, _, by simp [Tryd.f9] <;> rfl, Weak.mk' [] (by decide) (by decide) (by simp) (by simp [AWg])⟩
    have h48i : ¬ (c.toNat : Int) < 48 := by omega
    by_cases h57 : 57 < c.toNat
    · have h57i : (57 : Int) < c.toNat := by omega
      have hdn : decFrom 0 d = none := decFrom_bad d 0 k c hc' (by unfold digitVal; rw [if_neg (by omega)])
      rw [hdn] at hr
      dsimp only at hr
      subst hr
      refine Sim.exec hmix hΓ (n := 0) (by simp (decide := true) [hlt2, hsg, ht, h0, h48i, h57i]; exact ⟨rfl, rfl, rfl⟩) (by simp) ?_
      exact ⟨.inr rfl, _, by simp [Tryd.f9] <;> rfl, Weak.mk' [] (by decide) (by decide) (by simp) (by simp [AWg])⟩
    have h57i : ¬ (57 : Int) < c.toNat := by omega
    obtain ⟨v, hv⟩ : ∃ v : Nat, c.toNat - 48 = v := ⟨_, rfl⟩
    have hv9 : v ≤ 9 := by omega
    have hdv : digitVal c = some v := by unfold digitVal; rw [if_pos (by omega), hv]
    have hstep := decFrom_take d k 0 n c v hdec hc' hdv
    have hcv : (c.toNat : Int) - 48 = v := by omega
    have w1 : IntKind.u8.wrap (v : Int) = v := wr_u8 (by omega) (by omega)
    have w2 : IntKind.i64.wrap (v : Int) = v := wr_i64 (by omega) (by omega)
    have w3 : IntKind.i64.wrap (10 * (n : Int)) = 10 * n := wr_i64 (by omega) (by omega)
    have w4 : IntKind.i64.wrap (10 * (n : Int) + v) = ((n * 10 + v : Nat) : Int) := by rw [wr_i64 (by omega) (by omega)]; omega
    refine Sim.exec hmix hΓ (n := 0) (by simp (decide := true) [-Int.natCast_add, -Int.natCast_mul, hlt2, hsg, ht, h0, h48i, h57i, hcv, w1, w2, w3, w4]; exact ⟨rfl, rfl, rfl⟩) (by simp) ?_
    dsimp only
    refine Sim.exec hmix hΓ (n := 0) (by simp [hw]; exact ⟨rfl, rfl, rfl⟩) (by simp) ?_
    dsimp only
    exact ⟨(k + 1, n * 10 + v), ⟨by dsimp only; omega, hstep, by dsimp only; rw [Nat.pow_succ]; omega⟩, Weak.mk' [] (by decide) (by decide) (by simp) (by simp [AWg]), by dsimp only; omega⟩
  · have hlt2 : ¬ k + 4 < s.length := by omega
    have hlti : ¬ (k : Int) + 4 < s.length := by omega
    rw [List.take_of_length_le (by omega)] at hdec
    rw [hdec] at hr
    dsimp only at hr
    refine Sim.exec hmix hΓ (n := 0) (by simp [hlti]; exact ⟨rfl, rfl, rfl⟩) (by simp) ?_
    dsimp only
    rw [if_pos rfl]
    by_cases e3 : s = mk 3 n
    · have e3b : (s == mk 3 n) = true := by rw [beq_iff_eq]; exact e3
      rw [if_pos e3] at hr
      subst hr
      refine Sim.exec hmix hΓ (n := 4) (by simp (decide := true) [mkS, ← e3]; exact ⟨rfl, rfl, rfl⟩) (by simp) ?_
      exact ⟨.inr rfl, _, by simp [Tryd.f9] <;> rfl, Weak.mk' [] (by decide) (by decide) (by simp) (by simp [AWg])⟩
    rw [if_neg e3] at hr
    have e3b : (s == mk 3 n) = false := by rw [beq_eq_false_iff_ne]; exact e3
    by_cases e4 : s = mk 4 n
    · rw [if_pos e4] at hr
      subst hr
      refine Sim.exec hmix hΓ (n := 4) (by simp (decide := true) [mkS, e3b, ← e4]; exact ⟨rfl, rfl, rfl⟩) (by simp) ?_
      exact ⟨.inr rfl, _, by simp [Tryd.f9] <;> rfl, Weak.mk' [] (by decide) (by decide) (by simp) (by simp [AWg])⟩
    rw [if_neg e4] at hr
    have e4b : (s == mk 4 n) = false := by rw [beq_eq_false_iff_ne]; exact e4
    subst hr
    refine Sim.exec hmix hΓ (n := 4) (by simp (decide := true) [mkS, e3b, e4b]; exact ⟨rfl, rfl, rfl⟩) (by simp) ?_
    exact ⟨.inr rfl, _, by simp [Tryd.f9] <;> rfl, Weak.mk' [] (by decide) (by decide) (by simp) (by simp [AWg])⟩

def rparseS : Summ := pureS fun
  | [.str s] => some (.tuple [.int .i64 (rparse s).1, .int .i64 (rparse s).2])
  | _ => none
theorem rparse_sound : Sound Tryd.prog 9 rparseS := by
  refine sound_pure (enter_of Tryd.func9 rfl (by decide)) fun args v h => ?_
  split at h <;> cases h
  exact ⟨rparse_ct _, rfl, rfl⟩

end Go.Proofs.YtkeffhaldeedpaaDoor
