/- Names: digits, and Make. -/
import Derived.Test.YtkeffhaldeedpaaDoorSc
import Derived.Test.YtkeffhaldeedpaaDoorGe
import Derived.Test.YtkeffhaldeedpaaDoorBz
namespace Go.Proofs.YtkeffhaldeedpaaDoor
open Go Go.Lib
set_option maxRecDepth 100000
attribute [-simp] drawOk_eq adraw qrun acode aops

/-- A number's digits. -/
def dg (m : Nat) : List UInt8 := decDigits m
theorem dg_small {m : Nat} (h : m < 10) : dg m = [UInt8.ofNat (48 + m)] := decDigits_one h
theorem dg_big {m : Nat} (h : ¬ m < 10) : dg m = dg (m / 10) ++ [UInt8.ofNat (48 + m % 10)] := by
  unfold dg
  rw [decDigits, dif_neg h]

theorem dg_length : ∀ (k m : Nat), m < 10 ^ (k + 1) → (dg m).length ≤ k + 1
  | 0, m, h => by rw [dg_small (by omega)]; simp
  | k + 1, m, h => by
    by_cases hm : m < 10
    · rw [dg_small hm]; simp
    · rw [dg_big hm, List.length_append]
      have := dg_length k (m / 10) (by rw [Nat.pow_succ] at h; omega)
      simp only [List.length_cons, List.length_nil]
      omega

def digS (k : Nat) : Summ := pureS fun
  | [.int .i64 (.ofNat m)] => if m < k ∧ m ≤ 1000000000000 then some (.str (dg m)) else none
  | _ => none

set_option maxHeartbeats 2000000 in
theorem digits_ct : ∀ (k m : Nat), m < k → m ≤ 1000000000000 → Ct Tryd.prog 18 [.int .i64 m] [] (.str (dg m)) []
  | 0, _, h, _ => by omega
  | k + 1, m, h, hm => by
    have hΓ : GOk Tryd.prog (gams [(18, digS k)]) := goks_cons (by
      refine sound_pure (enter_of Tryd.func18 rfl (by decide)) fun args v hv => ?_
      split at hv
      · split at hv <;> cases hv
        rename_i hc
        exact ⟨digits_ct k _ hc.1 hc.2, rfl, rfl⟩
      · cases hv) goks_nil
    obtain ⟨c, hc⟩ : ∃ c : Nat, m % 10 = c := ⟨_, rfl⟩
    have hc9 : c ≤ 9 := by omega
    have e1 : (m : Int).tmod 10 = c := by rw [Int.tmod_eq_emod_of_nonneg (by omega)]; omega
    have e2 : (m : Int).tdiv 10 = ((m / 10 : Nat) : Int) := by rw [Int.tdiv_eq_ediv_of_nonneg (by omega)]; omega
    have w1 : IntKind.i64.wrap (c : Int) = c := wr_i64 (by omega) (by omega)
    have w2 : IntKind.i64.wrap (48 + (c : Int)) = 48 + c := wr_i64 (by omega) (by omega)
    have w3 : IntKind.u8.wrap (48 + (c : Int)) = 48 + c := wr_u8 (by omega) (by omega)
    have u1 : (48 + (c : Int)).toNat = 48 + c := by omega
    by_cases hm10 : m < 10
    · have hcm : c = m := by omega
      have d1 : (m : Int) < 10 := by omega
      have hd := dg_small hm10
      subst hcm
      refine ct_val hmix hΓ (n := 0) Tryd.func18 ?_ (by simp)
      unfold Tryd.f18
      simp [e1, w2, w3, u1, d1, hd]
    · have d1 : ¬ (m : Int) < 10 := by omega
      have hd := dg_big hm10
      rw [hc] at hd
      have w4 : IntKind.i64.wrap ((m / 10 : Nat) : Int) = ((m / 10 : Nat) : Int) := wr_i64 (by omega) (by omega)
      obtain ⟨q, hq⟩ : ∃ q : Nat, m / 10 = q := ⟨_, rfl⟩
      rw [hq] at e2 w4 hd
      have q1 : q < k := by omega
      have q2 : q ≤ 1000000000000 := by omega
      have q3 : digS k [.int .i64 (q : Int)] = fun H => some (.str (dg q), H, []) := by
        funext H
        simp [digS, pureS, q1, q2]
      have ql : (dg q).length ≤ 15 := dg_length 14 q (by omega)
      have ql2 : (dg q).length + 1 ≤ 9223372036854775807 := by omega
      refine ct_val hmix hΓ (n := 0) Tryd.func18 ?_ (by simp)
      unfold Tryd.f18
      simp [e1, e2, w2, w3, w4, u1, d1, hd, q3, ql2]

def manifW : List UInt8 := [109, 97, 110, 105, 102, 101, 115, 116]
def tempW : List UInt8 := [109, 97, 110, 105, 102, 101, 115, 116, 46, 116, 109, 112]
def walW : List UInt8 := [119, 97, 108, 45]
def segW : List UInt8 := [115, 101, 103, 45]

/-- The name of a kind. -/
def mk (k n : Int) : List UInt8 :=
  if k = 1 then manifW else if k = 2 then tempW else if n < 1 ∨ 1000000000 < n then [] else if k = 3 then walW ++ dg n.toNat else if k = 4 then segW ++ dg n.toNat else []

theorem mk_none {k n : Int} (h1 : k ≠ 1) (h2 : k ≠ 2) (h3 : k ≠ 3) (h4 : k ≠ 4) : mk k n = [] := by
  unfold mk
  simp [h1, h2, h3, h4]

def mkS : Summ := pureS fun
  | [.int .i64 k, .int .i64 n] => some (.str (mk k n))
  | _ => none

def mkInl : List FuncId := [19, 22]
theorem mkΓ_ok : GOk Tryd.prog (runG Tryd.prog (gams [(23, itoaS)]) 0 mkInl 2) := gok_run hmix (goks_cons itoa_sound goks_nil) 0 mkInl 2

theorem itoa_dg {m : Nat} (h : m < 10 ^ 20) : decF 20 m = dg m := decF_eq 20 m h (by decide)

set_option maxHeartbeats 4000000 in
theorem make_ct (k n : Int) : Ct Tryd.prog 10 [.int .i64 k, .int .i64 n] [] (.str (mk k n)) [] := by
  have key : ∀ j : Nat, 1 ≤ n → n ≤ 1000000000 → ∃ m : Nat, n = m ∧ itoaS [.int .i64 n] = fun H => some (.str (dg m), H, []) := fun _ h1 h2 => by
    obtain ⟨m, rfl⟩ : ∃ m : Nat, n = m := ⟨n.toNat, by omega⟩
    refine ⟨m, rfl, ?_⟩
    funext H
    have e : m ≤ 9223372036854775807 := by omega
    simp [itoaS, pureS, e, itoa_dg (show m < 10 ^ 20 by omega)]
  by_cases h0 : k < 0
  · have hm : mk k n = [] := mk_none (by omega) (by omega) (by omega) (by omega)
    rw [hm]
    exact ct_val hmix mkΓ_ok (n := 0) Tryd.func10 (by unfold Tryd.f10; simp (decide := true) [h0]) (by simp)
  by_cases h4 : 4 < k
  · have hm : mk k n = [] := mk_none (by omega) (by omega) (by omega) (by omega)
    rw [hm]
    exact ct_val hmix mkΓ_ok (n := 0) Tryd.func10 (by unfold Tryd.f10; simp (decide := true) [h0, h4]) (by simp)
  have hk : k = 0 ∨ k = 1 ∨ k = 2 ∨ k = 3 ∨ k = 4 := by omega
  rcases hk with rfl | rfl | rfl | rfl | rfl
  · have hm : mk 0 n = [] := mk_none (by omega) (by omega) (by omega) (by omega)
    rw [hm]
    exact ct_val hmix mkΓ_ok (n := 0) Tryd.func10 (by unfold Tryd.f10; simp (decide := true) [mkInl, Tryd.f19, Tryd.f22]) (by simp)
  · simp only [show mk 1 n = manifW from rfl]
    exact ct_val hmix mkΓ_ok (n := 0) Tryd.func10 (by unfold Tryd.f10; simp (decide := true) [mkInl, Tryd.f19, Tryd.f22, manifW]) (by simp)
  · simp only [show mk 2 n = tempW from rfl]
    exact ct_val hmix mkΓ_ok (n := 0) Tryd.func10 (by unfold Tryd.f10; simp (decide := true) [mkInl, Tryd.f19, Tryd.f22, tempW]) (by simp)
  · by_cases h1 : n < 1
    · have hm : mk 3 n = [] := by unfold mk; rw [if_neg (by omega), if_neg (by omega), if_pos (.inl h1)]
      rw [hm]
      exact ct_val hmix mkΓ_ok (n := 0) Tryd.func10 (by unfold Tryd.f10; simp (decide := true) [mkInl, Tryd.f19, Tryd.f22, h1]) (by simp)
    by_cases h2 : 1000000000 < n
    · have hm : mk 3 n = [] := by unfold mk; rw [if_neg (by omega), if_neg (by omega), if_pos (.inr h2)]
      rw [hm]
      exact ct_val hmix mkΓ_ok (n := 0) Tryd.func10 (by unfold Tryd.f10; simp (decide := true) [mkInl, Tryd.f19, Tryd.f22, h1, h2]) (by simp)
    obtain ⟨m, hm, hi⟩ := key 0 (by omega) (by omega)
    have hml : (dg m).length ≤ 15 := dg_length 14 m (by omega)
    have hml2 : 4 + (dg m).length ≤ 9223372036854775807 := by omega
    have hml3 : (dg m).length + 1 + 1 + 1 + 1 ≤ 9223372036854775807 := by omega
    have hmk : mk 3 n = walW ++ dg m := by unfold mk; rw [if_neg (by omega), if_neg (by omega), if_neg (by omega), if_pos rfl]; rw [hm]; rfl
    rw [hmk]
    exact ct_val hmix mkΓ_ok (n := 0) Tryd.func10 (by unfold Tryd.f10; simp (decide := true) [mkInl, Tryd.f19, Tryd.f22, h1, h2, hi, hml2, walW]) (by simp)
  · by_cases h1 : n < 1
    · have hm : mk 4 n = [] := by unfold mk; rw [if_neg (by omega), if_neg (by omega), if_pos (.inl h1)]
      rw [hm]
      exact ct_val hmix mkΓ_ok (n := 0) Tryd.func10 (by unfold Tryd.f10; simp (decide := true) [mkInl, Tryd.f19, Tryd.f22, h1]) (by simp)
    by_cases h2 : 1000000000 < n
    · have hm : mk 4 n = [] := by unfold mk; rw [if_neg (by omega), if_neg (by omega), if_pos (.inr h2)]
      rw [hm]
      exact ct_val hmix mkΓ_ok (n := 0) Tryd.func10 (by unfold Tryd.f10; simp (decide := true) [mkInl, Tryd.f19, Tryd.f22, h1, h2]) (by simp)
    obtain ⟨m, hm, hi⟩ := key 0 (by omega) (by omega)
    have hml : (dg m).length ≤ 15 := dg_length 14 m (by omega)
    have hml2 : 4 + (dg m).length ≤ 9223372036854775807 := by omega
    have hml3 : (dg m).length + 1 + 1 + 1 + 1 ≤ 9223372036854775807 := by omega
    have hmk : mk 4 n = segW ++ dg m := by unfold mk; rw [if_neg (by omega), if_neg (by omega), if_neg (by omega), if_neg (by omega), if_pos rfl]; rw [hm]; rfl
    rw [hmk]
    exact ct_val hmix mkΓ_ok (n := 0) Tryd.func10 (by unfold Tryd.f10; simp (decide := true) [mkInl, Tryd.f19, Tryd.f22, h1, h2, hi, hml2, segW]) (by simp)

theorem make_sound : Sound Tryd.prog 10 mkS := by
  refine sound_pure (enter_of Tryd.func10 rfl (by decide)) fun args v h => ?_
  split at h <;> cases h
  exact ⟨make_ct _ _, rfl, rfl⟩

theorem digS_sound (b : Nat) : Sound Tryd.prog 18 (digS b) := by
  refine sound_pure (enter_of Tryd.func18 rfl (by decide)) fun args v hv => ?_
  split at hv
  · split at hv <;> cases hv
    rename_i hc
    exact ⟨digits_ct b _ hc.1 hc.2, rfl, rfl⟩
  · cases hv
theorem rmkΓ_ok : GOk Tryd.prog (gams [(18, digS 1000000000001)]) := goks_cons (digS_sound _) goks_nil

set_option maxHeartbeats 4000000 in
theorem rmake_ct (k n : Int) : Ct Tryd.prog 7 [.int .i64 k, .int .i64 n] [] (.str (mk k n)) [] := by
  have key : 1 ≤ n → n ≤ 1000000000 → ∃ m : Nat, n = m ∧ digS 1000000000001 [.int .i64 n] = fun H => some (.str (dg m), H, []) := fun h1 h2 => by
    obtain ⟨m, rfl⟩ : ∃ m : Nat, n = m := ⟨n.toNat, by omega⟩
    refine ⟨m, rfl, ?_⟩
    funext H
    have e1 : m < 1000000000001 := by omega
    have e2 : m ≤ 1000000000000 := by omega
    simp [digS, pureS, e1, e2]
  by_cases k1 : k = 1
  · subst k1
    exact ct_val hmix rmkΓ_ok (n := 0) Tryd.func7 (by unfold Tryd.f7; simp (decide := true) [mk, manifW]) (by simp)
  by_cases k2 : k = 2
  · subst k2
    exact ct_val hmix rmkΓ_ok (n := 0) Tryd.func7 (by unfold Tryd.f7; simp (decide := true) [mk, tempW]) (by simp)
  by_cases h1 : n < 1
  · have hm : mk k n = [] := by unfold mk; rw [if_neg k1, if_neg k2, if_pos (.inl h1)]
    rw [hm]
    exact ct_val hmix rmkΓ_ok (n := 0) Tryd.func7 (by unfold Tryd.f7; simp (decide := true) [k1, k2, h1]) (by simp)
  by_cases h2 : 1000000000 < n
  · have hm : mk k n = [] := by unfold mk; rw [if_neg k1, if_neg k2, if_pos (.inr h2)]
    rw [hm]
    exact ct_val hmix rmkΓ_ok (n := 0) Tryd.func7 (by unfold Tryd.f7; simp (decide := true) [k1, k2, h1, h2]) (by simp)
  obtain ⟨m, hm, hi⟩ := key (by omega) (by omega)
  have hml : (dg m).length ≤ 15 := dg_length 14 m (by omega)
  have hml2 : 4 + (dg m).length ≤ 9223372036854775807 := by omega
  have hml3 : (dg m).length + 1 + 1 + 1 + 1 ≤ 9223372036854775807 := by omega
  by_cases k3 : k = 3
  · have hmk : mk k n = walW ++ dg m := by unfold mk; rw [if_neg k1, if_neg k2, if_neg (by omega), if_pos k3, hm]; rfl
    rw [hmk]
    subst k3
    exact ct_val hmix rmkΓ_ok (n := 0) Tryd.func7 (by unfold Tryd.f7; simp (decide := true) [h1, h2, hi, hml2, walW]) (by simp)
  by_cases k4 : k = 4
  · have hmk : mk k n = segW ++ dg m := by unfold mk; rw [if_neg k1, if_neg k2, if_neg (by omega), if_neg k3, if_pos k4, hm]; rfl
    rw [hmk]
    subst k4
    exact ct_val hmix rmkΓ_ok (n := 0) Tryd.func7 (by unfold Tryd.f7; simp (decide := true) [h1, h2, hi, hml2, segW]) (by simp)
  rw [mk_none k1 k2 k3 k4]
  exact ct_val hmix rmkΓ_ok (n := 0) Tryd.func7 (by unfold Tryd.f7; simp (decide := true) [k1, k2, k3, k4, h1, h2]) (by simp)

theorem rmake_sound : Sound Tryd.prog 7 mkS := by
  refine sound_pure (enter_of Tryd.func7 rfl (by decide)) fun args v h => ?_
  split at h <;> cases h
  exact ⟨rmake_ct _ _, rfl, rfl⟩

end Go.Proofs.YtkeffhaldeedpaaDoor
