/- Drafts, and the plain law of EntryBack. -/
import Derived.Test.YtndkhkponamplaaEg
import Derived.Test.YtndkhkponamplaaEw
namespace Go.Proofs.Ytndkhkponamplaa
open Go
set_option maxRecDepth 100000
attribute [-simp] drawOk_eq adraw qrun acode aops

/-! Plain -/

theorem okW_iff (w : List UInt8) : okW w = true ↔ 1 ≤ w.length ∧ w.length ≤ 255 := by simp [okW]

theorem eget_put (e : En) (hw : okW e.1 = true) (hn : okN e.2.1 = true) (hg : e.2.2 = true → e.2.1 = 0) : eget (eput e).1 = (e, 0) := by
  obtain ⟨w, n, g⟩ := e
  simp only [okN, decide_eq_true_eq] at hn hg hw
  unfold eput
  rw [if_pos hw]
  cases g with
  | true =>
    have := hg rfl
    subst this
    simp [eget, hw]
  | false =>
    have h64 : n.toNat < 2 ^ 64 := by omega
    have h1 := Vy.get_mid [1] w n.toNat h64
    have hs := Vy.size_bd n.toNat h64
    have e1 : ([1] : List UInt8) ++ Vy.enc n.toNat ++ w = 1 :: (Vy.enc n.toNat ++ w) := by simp
    rw [e1] at h1
    have h2 : Vy.get (1 :: (Vy.enc n.toNat ++ w)) 1 = (n.toNat, 1 + (Vy.size n.toNat : Int), 0) := by simpa using h1
    have h3 : (1 + (Vy.size n.toNat : Int)).toNat = Vy.size n.toNat + 1 := by omega
    have h4 : (1 :: (Vy.enc n.toNat ++ w)).drop (Vy.size n.toNat + 1) = w := by
      rw [List.drop_succ_cons, List.drop_append, Vy.enc_length, Nat.sub_self, List.drop_zero, List.drop_of_length_le (by rw [Vy.enc_length]; omega)]
      rfl
    have h5 : ¬ 4294967295 < n.toNat := by omega
    simp only [Bool.false_eq_true, if_false]
    unfold eget
    dsimp only
    rw [if_neg (by decide), if_pos (by decide), h2]
    dsimp only
    rw [if_pos rfl, if_neg h5, h3, h4, if_pos hw]
    have : ((n.toNat : Nat) : Int) = n := by omega
    rw [this]

theorem eof_value (e : En) (hn : okN e.2.1 = true) (hg : e.2.2 = true → e.2.1 = 0) : eof e.1 (eval5 e) = (e, true) := by
  obtain ⟨w, n, g⟩ := e
  simp only [okN, decide_eq_true_eq] at hn hg
  unfold eof eval5
  cases g with
  | true => have := hg rfl; subst this; simp
  | false =>
    simp only [Bool.false_eq_true, if_false]
    rw [if_neg (by omega), if_neg (by omega)]
    simp

/-- What is read of any bytes. -/
theorem eget_law (t : List UInt8) : ((eget t).2 ≠ 0 ∧ (eget t).1 = noE) ∨ ((eget t).2 = 0 ∧ okN (eget t).1.2.1 = true ∧ eput (eget t).1 = (t, 0) ∧ okW (eget t).1.1 = true ∧ ((eget t).1.2.2 = true → (eget t).1.2.1 = 0)) := by
  cases t with
  | nil => exact .inl ⟨by simp [eget], rfl⟩
  | cons b r =>
    unfold eget
    dsimp only
    split
    · rename_i h2
      have hb : b = 2 := by rw [← UInt8.toNat_inj]; exact h2
      split
      · rename_i hk
        exact .inr ⟨rfl, rfl, by simp [eput, hk, hb], hk, fun _ => rfl⟩
      · exact .inl ⟨by simp, rfl⟩
    · split
      · rename_i h1
        have hb : b = 1 := by rw [← UInt8.toNat_inj]; exact h1
        obtain ⟨m, x, c, hg⟩ : ∃ m x c, Vy.get (b :: r) 1 = (m, x, c) := ⟨_, _, _, rfl⟩
        rw [hg]
        dsimp only
        split
        · rename_i hc
          subst hc
          obtain ⟨g0, g1, g2⟩ := Vy.get_ok _ _ _ _ hg
          have gp := Vy.get_put _ 1 m x hg
          split
          · exact .inl ⟨by simp, rfl⟩
          · rename_i hm
            split
            · rename_i hk
              refine .inr ⟨rfl, by simp [okN]; omega, ?_, hk, fun h => by cases h⟩
              unfold eput
              dsimp only
              rw [if_pos hk]
              simp only [Bool.false_eq_true, if_false, Int.toNat_natCast]
              rw [gp.1]
              have hx : (b :: r).drop x.toNat = r.drop (x.toNat - 1) := by
                rw [show x.toNat = (x.toNat - 1) + 1 by omega, List.drop_succ_cons]; rfl
              rw [hx, List.drop_succ_cons, List.drop_zero, List.take_append_drop, hb]
            · exact .inl ⟨by simp, rfl⟩
        · rename_i hc
          exact .inl ⟨hc, rfl⟩
      · exact .inl ⟨by simp, rfl⟩

def dletter (c : Nat) : Nat := if c % 8 < 7 then 97 + c % 8 % 3 else c
def dword (ls : List Nat) : List UInt8 := (ls.take 9).map fun c => UInt8.ofNat (dletter c)
def dE (ls : List Nat) (n : Int) (g : Bool) : En := bareE (if dword ls = [] then [97] else dword ls, n, g)

theorem dE_ok (ls : List Nat) (n : Int) (g : Bool) (hn : okN n = true) : okW (dE ls n g).1 = true ∧ okN (dE ls n g).2.1 = true ∧ ((dE ls n g).2.2 = true → (dE ls n g).2.1 = 0) := by
  unfold dE bareE
  refine ⟨?_, ?_, ?_⟩
  · rw [okW_iff]
    dsimp only
    split
    · simp
    · rename_i h
      have h1 : (dword ls).length ≤ 9 := by simp [dword]; omega
      have h2 : (dword ls).length ≠ 0 := by simpa using h
      omega
  · dsimp only
    split
    · rfl
    · exact hn
  · dsimp only
    intro h
    rw [if_pos h]

/-! Contracts -/

theorem bare_ct (e : En) : Ct Try.prog 37 [.agg (enA e)] [] (.agg (enA (bareE e))) [] := by
  obtain ⟨w, n, g⟩ := e
  unfold bareE
  refine ct_val hmix goks_nil (n := 0) Try.func37 ?_ rfl
  unfold Try.f37
  cases g <;> simp [enA]

def bareS : Summ := pureS fun | [.agg [.str w, .int .u32 n, .bool g]] => some (.agg (enA (bareE (w, n, g)))) | _ => none
theorem bare_sound : Sound Try.prog 37 bareS := by
  refine sound_pure (enter_of Try.func37 rfl (by decide)) fun args v h => ?_
  split at h <;> cases h
  rename_i w n g
  exact ⟨bare_ct (w, n, g), rfl, rfl⟩

theorem lget_ct (p : List UInt8) (e : En) (c : Int) (hp : p.length ≤ 1000000) : Ct Try.prog 18 [.str p, .agg (enA e), .int .i64 c] [] (.bool (decide (eget p = (e, c)))) [] := by
  have hΓ : GOk Try.prog (gams [(12, egetS)]) := goks_cons eget_sound goks_nil
  obtain ⟨z, d, hg⟩ : ∃ z d, eget p = (z, d) := ⟨_, _, rfl⟩
  rw [hg]
  obtain ⟨z1, z2, z3⟩ := z
  obtain ⟨w, n, g⟩ := e
  refine ct_runE hmix hΓ (n := 0) Try.func18 ?_
  unfold Try.f18
  by_cases h : (z1, z2, z3) = (w, n, g)
  · cases h
    exact ⟨_, _, (by simp (decide := true) [egetS, hp, hg, enA]; exact ⟨rfl, rfl⟩), Weak.mk' [] (by decide) rfl (by simp; rw [Bool.eq_iff_iff]; simp) (by simp)⟩
  · have hf : (z1 == w && (z2 == n && (z3 == g && true))) = false := by
      cases hx : (z1 == w && (z2 == n && (z3 == g && true))) with
      | false => rfl
      | true => exfalso; apply h; simp at hx; obtain ⟨rfl, rfl, rfl⟩ := hx; rfl
    have hd : decide (((z1, z2, z3) : En) = (w, n, g) ∧ d = c) = false := by simp only [decide_eq_false_iff_not]; exact fun h2 => h h2.1
    exact ⟨_, _, (by simp (decide := true) [egetS, hp, hg, enA, -Bool.and_true, hf]; exact ⟨rfl, rfl⟩), Weak.mk' [] (by decide) rfl (by simp; intro h1 h2 h3; exact absurd (by rw [h1, h2, h3]) h) (by simp)⟩

end Go.Proofs.Ytndkhkponamplaa
