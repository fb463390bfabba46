/- Walk: cedillalaw02.VaryOrder. -/
import Derived.Test.YtmoegdjpmcjhcaaVaryD
import Derived.RegionTactic
import Derived.BigQuiet
import Derived.Deep.QuietTactic
namespace Go.Proofs.Ytmoegdjpmcjhcaa
open Go.RowKit

set_option maxRecDepth 100000 in
set_option maxHeartbeats 1000000 in
theorem varyOrder_walk (a b : Nat) (w : World) (ha : a < 2^64) (hb : b < 2^64) :
    Calls Try.prog 3 #[.int .u64 a, .int .u64 b] w fun r w' => r = .returned (.bool true) ∧ Below w.heap.size w w' := by
  go_enter Try.func3, Try.ntmps3
  go_wp2_with fail
  refine (works2 _).mono ?_; rintro r w0 ⟨rfl, hb0⟩
  go_wp2_with fail
  go_loopw [5, 6, 7] (fun i _ _ wr => ∃ j : Nat, j ≤ 10 ∧ i = .int .i64 (7 * j : Nat) ∧ Below w.heap.size w wr) (fun i _ _ _ => 70 - (intOf i).toNat)
  case atStart => exact ⟨0, by omega, rfl, hb0⟩
  case round =>
    obtain ⟨j, hj, rfl, hbr⟩ := hrel
    obtain ⟨i, hi⟩ : ∃ i : Nat, 7 * j = i := ⟨_, rfl⟩
    rw [hi]
    by_cases hlt : j < 10
    · have hi1 : i < 64 := by omega
      have hi2 : (0 : Int) ≤ 63 - (i : Int) := by omega
      have Hi := Lib.hid hi; clear hi
      go_wp2_with fail
      go_quiet (fail)
      go_wp2_with fail
      obtain ⟨p, hp⟩ : ∃ p : Nat, min (a / 2 ^ i) (b / 2 ^ (63 - i)) = p := ⟨_, rfl⟩
      obtain ⟨q, hq⟩ : ∃ q : Nat, max (a / 2 ^ i) (b / 2 ^ (63 - i)) = q := ⟨_, rfl⟩
      have ea : (a : Int) / 2 ^ i = ((a / 2 ^ i : Nat) : Int) := by push_cast; rfl
      have eb : (b : Int) / 2 ^ (63 - i) = ((b / 2 ^ (63 - i) : Nat) : Int) := by push_cast; rfl
      have ep : min ((a : Int) / 2 ^ i) ((b : Int) / 2 ^ (63 - i)) = (p : Int) := by rw [ea, eb]; omega
      have eq : max ((a : Int) / 2 ^ i) ((b : Int) / 2 ^ (63 - i)) = (q : Int) := by rw [ea, eb]; omega
      have hpq : p ≤ q := by omega
      have hq64 : q < 2 ^ 64 := by
        have h1 : a / 2 ^ i ≤ a := Nat.div_le_self _ _
        have h2 : b / 2 ^ (63 - i) ≤ b := Nat.div_le_self _ _
        omega
      have hp64 : p < 2 ^ 64 := by omega
      rw [ep, eq]
      clear ea eb ep eq hp hq
      have hm := Vy.size_mono p q hpq hq64
      obtain ⟨hs1, _⟩ := Vy.size_bd p hp64
      obtain ⟨_, hs2⟩ := Vy.size_bd q hq64
      have hb0' := hb0
      have hb1 : Below w.heap.size w (wr.drewN nq) := below_drewN hbr nq
      clear hb0 hb0'
      have hnn : ¬ ((Vy.size p : Int) < 1) := by omega
      go_wp2_with fail
      refine (size_any _ _ hp64).mono ?_; rintro r w2 ⟨rfl, hc2⟩
      have hb2 := below_trans' hb1 hc2 hb1.size
      clear hc2 hb1
      go_wp2_with fail
      refine (size_any _ _ hq64).mono ?_; rintro r w3 ⟨rfl, hc3⟩
      have hb3 := below_trans' hb2 hc3 hb2.size
      clear hc3 hb2
      go_wp2_with fail
      refine (size_any _ _ hp64).mono ?_; rintro r w4 ⟨rfl, hc4⟩
      have hb4 := below_trans' hb3 hc4 hb3.size
      clear hc4 hb3
      go_wp2_with fail
      refine (size_any _ _ hq64).mono ?_; rintro r w5 ⟨rfl, hc5⟩
      have hb5 := below_trans' hb4 hc5 hb4.size
      clear hc5 hb4
      by_cases hne : p = q
      · have hf : ((p : Int) != (q : Int)) = false := by rw [hne]; simp
        have Hne := Lib.hid hne; clear hne
        go_wp2_with fail
        go_roundw
        case rel => exact ⟨j + 1, by omega, by have := Hi.out; go_num, hb5⟩
        case measure => simp [intOf]; omega
      · have hf : ((p : Int) != (q : Int)) = true := by simp; omega
        have n1 : Lib.hasPrefix (Vy.enc p) (Vy.enc q) = false := by
          rw [Bool.eq_false_iff]; intro h
          exact hne (Vy.enc_prefix q p hq64 hp64 (List.isPrefixOf_iff_prefix.1 h)).symm
        have n2 : Lib.hasPrefix (Vy.enc q) (Vy.enc p) = false := by
          rw [Bool.eq_false_iff]; intro h
          exact hne (Vy.enc_prefix p q hp64 hq64 (List.isPrefixOf_iff_prefix.1 h))
        have N1 := Lib.hid n1; clear n1
        have N2 := Lib.hid n2; clear n2
        go_wp2_with fail
        refine (put_any [p] _ 1 _ (by simpa using hp64) (by simp) (rd_new _ [vU p] _)).mono ?_; rintro r w6 ⟨rfl, hc6⟩
        have hb6 := below_trans' (hb5.alloc hb5.size (.cells #[.int .u64 p] 22)) hc6 (by have := hb5.size; simp <;> omega)
        clear hc6 hb5
        rw [show Vy.put [p] = Vy.enc p from by simp [Vy.put]]
        go_wp2_with fail
        refine (put_any [q] _ 1 _ (by simpa using hq64) (by simp) (rd_new _ [vU q] _)).mono ?_; rintro r w7 ⟨rfl, hc7⟩
        have hb7 := below_trans' (hb6.alloc hb6.size (.cells #[.int .u64 q] 22)) hc7 (by have := hb6.size; simp <;> omega)
        clear hc7 hb6
        rw [show Vy.put [q] = Vy.enc q from by simp [Vy.put]]
        go_wp2_with fail
        refine (Try.strings_HasPrefix _ _ _).mono ?_; rintro r w8 ⟨rfl, rfl⟩
        rw [show Lib.hasPrefix (ByteArray.mk (Vy.enc p).toArray).data.toList (ByteArray.mk (Vy.enc q).toArray).data.toList = false from N1.out]
        go_wp2_with fail
        refine (put_any [q] _ 1 _ (by simpa using hq64) (by simp) (rd_new _ [vU q] _)).mono ?_; rintro r w8 ⟨rfl, hc8⟩
        have hb8 := below_trans' (hb7.alloc hb7.size (.cells #[.int .u64 q] 22)) hc8 (by have := hb7.size; simp <;> omega)
        clear hc8 hb7
        rw [show Vy.put [q] = Vy.enc q from by simp [Vy.put]]
        go_wp2_with fail
        refine (put_any [p] _ 1 _ (by simpa using hp64) (by simp) (rd_new _ [vU p] _)).mono ?_; rintro r w9 ⟨rfl, hc9⟩
        have hb9 := below_trans' (hb8.alloc hb8.size (.cells #[.int .u64 p] 22)) hc9 (by have := hb8.size; simp <;> omega)
        clear hc9 hb8
        rw [show Vy.put [p] = Vy.enc p from by simp [Vy.put]]
        go_wp2_with fail
        refine (Try.strings_HasPrefix _ _ _).mono ?_; rintro r w10 ⟨rfl, rfl⟩
        rw [show Lib.hasPrefix (ByteArray.mk (Vy.enc q).toArray).data.toList (ByteArray.mk (Vy.enc p).toArray).data.toList = false from N2.out]
        go_wp2_with fail
        go_roundw
        case rel => exact ⟨j + 1, by omega, by have := Hi.out; go_num, hb9⟩
        case measure => simp [intOf]; omega
    · have hj10 : j = 10 := by omega
      subst hj10
      subst hi
      go_wp2_with fail
      go_ret
      exact ⟨rfl, hbr⟩
end Go.Proofs.Ytmoegdjpmcjhcaa
