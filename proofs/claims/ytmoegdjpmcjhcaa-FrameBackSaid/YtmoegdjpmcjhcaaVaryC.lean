/- Walks: vary.Get. -/
import Derived.Test.YtmoegdjpmcjhcaaVaryB
namespace Go.Proofs.Ytmoegdjpmcjhcaa
open Go.RowKit

set_option maxRecDepth 100000 in
set_option maxHeartbeats 400000 in
theorem get_neg (s : ByteArray) (at_ : Int) (w : World) (h : at_ < 0) :
    Calls Try.prog 20 #[.string s, .int .i64 at_] w fun e w' => e = .returned (.tuple #[.int .u64 0, .int .i64 at_, .int .i64 3]) ∧ w = w' := by
  go_enter Try.func20, Try.ntmps20
  go_wp2_with fail
  go_ret3
  exact ⟨rfl, rfl⟩

set_option maxRecDepth 100000 in
set_option maxHeartbeats 400000 in
theorem get_far (s : ByteArray) (at_ : Int) (w : World) (h : (s.size : Int) ≤ at_) :
    Calls Try.prog 20 #[.string s, .int .i64 at_] w fun e w' => e = .returned (.tuple #[.int .u64 0, .int .i64 at_, .int .i64 3]) ∧ w = w' := by
  have h0 : ¬ at_ < 0 := by omega
  go_enter Try.func20, Try.ntmps20
  go_wp2_with fail
  go_ret3
  exact ⟨rfl, rfl⟩

set_option maxRecDepth 100000 in
set_option maxHeartbeats 400000 in
theorem get_small (s : ByteArray) (k : Nat) (w : World) (h : k < s.size) (hm : s.size ≤ 140737488351232) (hb : s[k].toNat < 248) :
    Calls Try.prog 20 #[.string s, .int .i64 k] w fun e w' => e = .returned (.tuple #[.int .u64 s[k].toNat, .int .i64 (k + 1), .int .i64 0]) ∧ w = w' := by
  go_enter Try.func20, Try.ntmps20
  go_wp2_with fail
  go_ret3
  exact ⟨rfl, rfl⟩

set_option maxRecDepth 100000 in
set_option maxHeartbeats 400000 in
theorem get_short (s : ByteArray) (k : Nat) (w : World) (h : k < s.size) (hm : s.size ≤ 140737488351232) (hb : 248 ≤ s[k].toNat) (hs : s.size - k ≤ s[k].toNat - 247) :
    Calls Try.prog 20 #[.string s, .int .i64 k] w fun e w' => e = .returned (.tuple #[.int .u64 0, .int .i64 k, .int .i64 3]) ∧ w = w' := by
  have hlt := UInt8.toNat_lt s[k]
  go_enter Try.func20, Try.ntmps20
  go_wp2_with fail
  go_ret3
  exact ⟨rfl, rfl⟩

/-- What Get answers, as a value. -/
def getR (r : Nat × Int × Int) : Value := .tuple #[.int .u64 r.1, .int .i64 r.2.1, .int .i64 r.2.2]

theorem get_eq_big (s : ByteArray) (k m : Nat) (h : k < s.size) (hb : 1 ≤ m) (hm : s[k].toNat = m + 247) (hs : m < s.size - k) :
    Vy.get s.data.toList k = if Vy.size (Vy.val ((s.data.toList.drop (k + 1)).take m)) = 1 + m then (Vy.val ((s.data.toList.drop (k + 1)).take m), (k : Int) + 1 + m, 0) else (0, (k : Int), 5) := by
  unfold Vy.get
  have hl : s.data.toList.length = s.size := by simp
  have hg : (s.data.toList.getD k 0).toNat = m + 247 := by
    rw [List.getD_eq_getElem?_getD, List.getElem?_eq_getElem (by omega)]
    exact hm
  rw [if_neg (by omega)]
  simp only [Int.toNat_natCast, hg, hl]
  rw [if_neg (by omega), if_neg (by omega)]
  simp only [Nat.add_sub_cancel]

set_option maxRecDepth 100000 in
set_option maxHeartbeats 400000 in
theorem get_big (s : ByteArray) (k : Nat) (w : World) (h : k < s.size) (hm : s.size ≤ 140737488351232) (hb : 248 ≤ s[k].toNat) (hs : s[k].toNat - 247 < s.size - k) :
    Calls Try.prog 20 #[.string s, .int .i64 k] w fun e w' => e = .returned (getR (Vy.get s.data.toList k)) ∧ Below w.heap.size w w' := by
  have hlt := UInt8.toNat_lt s[k]
  obtain ⟨m, hm⟩ : ∃ m : Nat, s[k].toNat = m + 247 := ⟨s[k].toNat - 247, by omega⟩
  rw [hm] at hb hs hlt
  have hn1 : ¬ s.size ≤ k := by omega
  have hn2 : ¬ ((m : Int) + 247 < 248) := by omega
  have hget := Lib.hid (get_eq_big s k m h (by omega) hm (by omega))
  go_enter Try.func20, Try.ntmps20
  go_wp2_with fail
  rw [show ((m : Int) + 247 - 248 + 1) = (m : Int) from by omega]
  go_loop [4, 40] (fun n i => ∃ j : Nat, j ≤ m ∧ i = .int .i64 j ∧ n = .int .u64 (Vy.val ((s.data.toList.drop (k + 1)).take j))) (fun _ i => m - (intOf i).toNat)
  case atStart => exact ⟨0, by omega, rfl, rfl⟩
  case round =>
    obtain ⟨j, hj, rfl, rfl⟩ := hrel
    obtain ⟨v, hv⟩ : ∃ v : Nat, Vy.val ((s.data.toList.drop (k + 1)).take j) = v := ⟨_, rfl⟩
    have hvl : v < 256 ^ j := by
      have := Vy.val_lt ((s.data.toList.drop (k + 1)).take j)
      rw [hv] at this
      exact Nat.lt_of_lt_of_le this (Nat.pow_le_pow_right (by omega) (List.length_take_le _ _))
    rw [hv]
    by_cases hlt : j < m
    · have hkj : k + 1 + j < s.size := by omega
      have Hv := Lib.hid hv; clear hv
      go_wp2_with fail
      go_round
      case rel =>
        refine ⟨j + 1, by omega, by go_num, ?_⟩
        rw [or_shl v _ j hvl (UInt8.toNat_lt _) (by omega)]
        have hd : j < (s.data.toList.drop (k + 1)).length := by rw [List.length_drop]; simp; omega
        rw [Vy.val_take_succ _ _ hd, Hv.out]
        congr 5
        simp
        rfl
      case measure => simp [intOf]; omega
    · have hjm : j = m := by omega
      subst hjm
      have hv64 : v < 2 ^ 64 := by
        have : (256 : Nat) ^ j ≤ 256 ^ 8 := Nat.pow_le_pow_right (by omega) (by omega)
        have e : (256 : Nat) ^ 8 = 2 ^ 64 := rfl
        omega
      have hg := hget.out
      rw [hv] at hg
      clear hget
      by_cases hz : Vy.size v = 1 + j
      · rw [if_pos hz] at hg
        have Hg := Lib.hid hg; clear hg
        have hz' : ((Vy.size v : Int) != 1 + (j : Int)) = false := by rw [hz]; simp
        have Hz := Lib.hid hz; clear hz hv
        go_wp2_with fail
        refine (size_any _ _ hv64).mono ?_; rintro e w' ⟨rfl, hb⟩
        go_wp2_with fail
        go_ret3
        exact ⟨by rw [Hg.out]; rfl, hb⟩
      · rw [if_neg hz] at hg
        have Hg := Lib.hid hg; clear hg
        have hz' : ((Vy.size v : Int) != 1 + (j : Int)) = true := by simp; omega
        have Hz := Lib.hid hz; clear hz hv
        go_wp2_with fail
        refine (size_any _ _ hv64).mono ?_; rintro e w' ⟨rfl, hb⟩
        go_wp2_with fail
        go_ret3
        exact ⟨by rw [Hg.out]; rfl, hb⟩

theorem get_any (s : ByteArray) (at_ : Int) (w : World) (hm : s.size ≤ 140737488351232) :
    Calls Try.prog 20 #[.string s, .int .i64 at_] w fun e w' => e = .returned (getR (Vy.get s.data.toList at_)) ∧ Below w.heap.size w w' := by
  have hl : s.data.toList.length = s.size := by simp
  by_cases h1 : at_ < 0
  · refine (get_neg s at_ w h1).mono ?_
    rintro e w' ⟨rfl, rfl⟩
    refine ⟨?_, Below.refl _ _⟩
    unfold Vy.get
    rw [if_pos (by omega)]
    rfl
  by_cases h2 : (s.size : Int) ≤ at_
  · refine (get_far s at_ w h2).mono ?_
    rintro e w' ⟨rfl, rfl⟩
    refine ⟨?_, Below.refl _ _⟩
    unfold Vy.get
    rw [if_pos (by omega)]
    rfl
  obtain ⟨k, rfl⟩ := Int.eq_ofNat_of_zero_le (show 0 ≤ at_ by omega)
  have hk : k < s.size := by omega
  have hg : (s.data.toList.getD k 0).toNat = s[k].toNat := by
    rw [List.getD_eq_getElem?_getD, List.getElem?_eq_getElem (by omega)]
    rfl
  by_cases h3 : s[k].toNat < 248
  · refine (get_small s k w hk hm h3).mono ?_
    rintro e w' ⟨rfl, rfl⟩
    refine ⟨?_, Below.refl _ _⟩
    unfold Vy.get
    rw [if_neg (by omega)]
    simp only [Int.toNat_natCast, hg, if_pos h3]
    rfl
  by_cases h4 : s.size - k ≤ s[k].toNat - 247
  · refine (get_short s k w hk hm (by omega) h4).mono ?_
    rintro e w' ⟨rfl, rfl⟩
    refine ⟨?_, Below.refl _ _⟩
    unfold Vy.get
    rw [if_neg (by omega)]
    simp only [Int.toNat_natCast, hg, hl, if_neg h3, if_pos h4]
    rfl
  · exact get_big s k w hk hm (by omega) (by omega)
end Go.Proofs.Ytmoegdjpmcjhcaa
