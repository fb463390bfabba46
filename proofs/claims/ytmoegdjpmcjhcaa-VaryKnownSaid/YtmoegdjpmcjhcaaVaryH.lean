/- Walks: cedillalaw02: few, reads, VaryTells. -/
import Derived.Test.YtmoegdjpmcjhcaaVaryD
import Derived.Test.YtmoegdjpmcjhcaaVaryG
import Derived.Test.YtmoegdjpmcjhcaaVaryR
namespace Go.Proofs.Ytmoegdjpmcjhcaa
open Go.RowKit

theorem rowv_any (s : ByteArray) (hm : s.size ≤ 1099511627776) (at_ many : Int) (w : World) :
    Calls Try.prog 21 #[.string s, .int .i64 at_, .int .i64 many] w fun e w' => ∃ v, e = .returned (.tuple #[v, .int .i64 (Vy.row s.data.toList at_ many.toNat).2.1, .int .i64 (Vy.row s.data.toList at_ many.toNat).2.2]) ∧
      w'.ownsRow w.heap.size 22 1 v (Vy.row s.data.toList at_ many.toNat).1.length ((Vy.row s.data.toList at_ many.toNat).1.map vU) ∧ Below w.heap.size w w' := by
  by_cases h : many < 1
  · have e : many.toNat = 0 := by omega
    rw [e]
    refine (rowv_none s at_ many w h).mono ?_
    rintro e w' ⟨rfl, hb⟩
    exact ⟨_, rfl, World.ownsRow_nil _ _ _ _, hb⟩
  · obtain ⟨m, rfl⟩ := Int.eq_ofNat_of_zero_le (show 0 ≤ many by omega)
    rw [Int.toNat_natCast]
    exact rowv_some s hm at_ m (by omega) w

set_option maxRecDepth 100000 in
set_option maxHeartbeats 1000000 in
theorem reads2_true (s : ByteArray) (hm : s.size ≤ 1099511627776) (at_ many : Int) (hmany : many ≤ 1000000000) (w : World) :
    Calls Try.prog 19 #[.string s, .int .i64 at_, .int .i64 many] w fun r w' => r = .returned (.bool true) ∧ Below w.heap.size w w' := by
  have hrl : (Vy.row s.data.toList at_ many.toNat).1.length ≤ 1000000000 := by
    by_cases h0 : (Vy.row s.data.toList at_ many.toNat).2.2 = 0
    · have := (Vy.row_length _ _ _ _ _ (show Vy.row s.data.toList at_ many.toNat = (_, _, 0) by rw [← h0])).1
      omega
    · have : ∀ (m : Nat) (a : Int), (Vy.row s.data.toList a m).2.2 ≠ 0 → (Vy.row s.data.toList a m).1 = [] := by
        intro m
        cases m with
        | zero => intro a h; exact absurd rfl h
        | succ m =>
          intro a h
          rw [Vy.row] at h ⊢
          split
          · rename_i h1
            rw [if_pos h1] at h
            split
            · rename_i h2
              rw [if_pos h2] at h
              exact absurd h2 h
            · rfl
          · rfl
      rw [this _ _ h0]; simp
  go_enter Try.func19, Try.ntmps19
  go_wp2_with fail
  refine (get_any s at_ _ (by omega)).mono ?_; rintro r w1 ⟨rfl, hb1⟩
  obtain ⟨⟨n, x, e⟩, hr⟩ : ∃ r, Vy.get s.data.toList at_ = r := ⟨_, rfl⟩
  rw [hr]
  have Hr := Lib.hid hr; clear hr
  unfold getR
  go_wp2_with fail
  refine (rget_any s at_ _ (by omega)).mono ?_; rintro r w2 ⟨rfl, hc2⟩
  rw [Hr.out]
  have hb2 := below_trans' hb1 hc2 hb1.size
  clear hc2
  go_wp2_with fail
  refine (rowv_any s hm at_ many _).mono ?_; rintro r w3 ⟨v3, rfl, ho3, hc3⟩
  have hb3 := below_trans' hb2 hc3 hb2.size
  obtain ⟨⟨vs, y, f⟩, hr⟩ : ∃ r, Vy.row s.data.toList at_ many.toNat = r := ⟨_, rfl⟩
  rw [hr] at ho3 hrl ⊢
  have Hrow := Lib.hid hr; clear hr
  clear hc3
  go_wp2_with fail
  refine (rrow_any s hm at_ many hmany _).mono ?_; rintro r w4 ⟨v4, rfl, ho4, hc4⟩
  rw [Hrow.out] at ho4 ⊢
  have hb4 := below_trans' hb3 hc4 hb3.size
  have ho3' := ownsRow_below ho3 hc4 (Nat.le_refl _)
  obtain ⟨a3, c3, rfl, _, _, rd3⟩ := ownsRow_rd ho3'
  obtain ⟨a4, c4, rfl, _, _, rd4⟩ := ownsRow_rd ho4
  clear ho3 ho3' ho4 hc4
  go_wp2_with fail
  refine (rsame_true vs a3 a4 _ _ _ hrl rd3 rd4).mono ?_; rintro r w5 ⟨rfl, hc5⟩
  have hb5 := below_trans' hb4 hc5 hb4.size
  go_wp2_with fail
  go_ret
  exact ⟨rfl, hb5⟩

set_option maxRecDepth 100000 in
set_option maxHeartbeats 400000 in
/-- few: a list's beginning. -/
theorem few_any (l : List Nat) (a : Option Addr) (cap : Nat) (w : World) (hc : l.length ≤ cap) :
    Calls Try.prog 16 #[.slice a l.length cap] w fun e w' => e = .returned (.slice a (l.take 40).length cap) ∧ w = w' := by
  have hmn : min (l.length : Int) 40 = ((l.take 40).length : Int) := by rw [List.length_take]; omega
  have h1 : ((l.take 40).length : Int) ≤ (cap : Int) := by rw [List.length_take]; omega
  go_enter Try.func16, Try.ntmps16
  go_wp2_with fail
  go_ret
  exact ⟨by rw [List.length_take]; rfl, rfl⟩

theorem rd_take {w : World} {a : Option Addr} {l : List Value} (n : Nat) (h : Rd w 1 a l.length l) : Rd w 1 a (l.take n).length (l.take n) := by
  refine ⟨by simp, fun h0 => ?_⟩
  obtain ⟨b, off, rfl, hb, hc⟩ := h.2 (by rw [List.length_take] at h0; omega)
  refine ⟨b, off, rfl, hb, fun j u hj => hc j u ?_⟩
  rw [List.getElem?_take] at hj
  split at hj
  · exact hj
  · cases hj

theorem ints_nat (l : List Int) (h : ∀ n ∈ l, 0 ≤ n ∧ n ≤ 18446744073709551615) : ∃ l' : List Nat, l.map (Value.int .u64) = l'.map vU ∧ (∀ n ∈ l', n < 2 ^ 64) ∧ l'.length = l.length := by
  refine ⟨l.map Int.toNat, ?_, ?_, by simp⟩
  · rw [List.map_map]
    apply List.map_congr_left
    intro n hn
    have := h n hn
    simp [vU]; omega
  · intro n hn
    obtain ⟨m, hm, rfl⟩ := List.mem_map.1 hn
    have := h m hm
    omega

set_option maxRecDepth 100000 in
set_option maxHeartbeats 1000000 in
theorem varyTells_nat (l : List Nat) (a : Option Addr) (cap : Nat) (s : ByteArray) (at_ : Int) (w : World) (rd : Rd w 1 a l.length (l.map vU)) (hl : ∀ n ∈ l, n < 2 ^ 64)
    (hc : l.length ≤ cap) (hs : s.size ≤ maxLen) :
    Calls Try.prog 4 #[.slice a l.length cap, .string s, .int .i64 at_] w fun r w' => r = .returned (.bool true) ∧ Below w.heap.size w w' := by
  obtain ⟨L, hL⟩ : ∃ L, l.take 40 = L := ⟨_, rfl⟩
  have hfew := fun w1 => Calls.mono (few_any l a cap w1 hc) (R' := fun e w' => e = .returned (.slice a L.length cap) ∧ w' = w1) (fun e w' h => ⟨by rw [h.1, hL], h.2.symm⟩)
  have hrdL : Rd w 1 a L.length (L.map vU) := by
    have := rd_take 40 (l := l.map vU) (by simpa using rd)
    rw [← List.map_take, hL] at this
    simpa using this
  have hLl : L.length ≤ 40 := by rw [← hL]; exact List.length_take_le _ _
  have hLn : ∀ n ∈ L, n < 2 ^ 64 := fun n hn => hl n (by rw [← hL] at hn; exact List.mem_of_mem_take hn)
  have HL := Lib.hid hL; clear hL
  clear rd hl
  unfold maxLen at hs
  have hmn1 : min (s.size : Int) 100 ≤ (s.size : Int) := by omega
  have hmn2 : 0 ≤ min (s.size : Int) 100 := by omega
  obtain ⟨t, ht⟩ : ∃ t, s.extract 0 (min (s.size : Int) 100).toNat = t := ⟨_, rfl⟩
  have htl : t.size ≤ 100 := by rw [← ht, ByteArray.size_extract]; omega
  have Ht := Lib.hid ht; clear ht
  go_enter Try.func4, Try.ntmps4
  go_wp2_with fail
  go_quiet ((go_at_call 16; exact Calls.quiet_of_same (hfew _)))
  rw [Ht.out]
  go_wp2_with fail
  refine (rall_any L a cap _ hLn (by omega) (hrdL.below (below_drewN (Below.refl _ _) _) (Nat.le_refl _))).mono ?_; rintro r w1 ⟨rfl, hc1⟩
  have hb1 := below_trans' (below_drewN (Below.refl w.heap.size w) nq) hc1 (Nat.le_refl _)
  clear hc1 hfew
  have hpl := Vy.put_length_le L hLn
  obtain ⟨P, hP⟩ : ∃ P, ByteArray.mk (Vy.put L).toArray = P := ⟨_, rfl⟩
  have hPs : P.size ≤ 360 := by rw [← hP, str_size]; omega
  rw [hP]
  have HP := Lib.hid hP; clear hP
  clear hpl
  go_wp2_with fail
  go_loopw [8, 9, 10] (fun i _ _ wr => ∃ k : Nat, k ≤ L.length ∧ i = .int .i64 k ∧ Below w.heap.size w wr) (fun i _ _ _ => L.length - (intOf i).toNat)
  case atStart => exact ⟨0, by omega, rfl, hb1⟩
  case round =>
    obtain ⟨k, hk, rfl, hb⟩ := hrel
    by_cases hlt : k < L.length
    · obtain ⟨b, off, rfl, hbl, hcc⟩ := hrdL.2 (by simp; omega)
      have hck := hcc k (vU L[k]) (by simp [List.getElem?_eq_getElem hlt])
      have hn64 := hLn L[k] (List.getElem_mem hlt)
      obtain ⟨n, hn⟩ : ∃ n : Nat, L[k] = n := ⟨_, rfl⟩
      rw [hn] at hck hn64
      unfold vU at hck
      clear hn hcc
      obtain ⟨wo, rfl⟩ : ∃ wo : World, wo = wr := ⟨_, rfl⟩
      go_wp2_with fail
      go_loopw [9, 10] (fun sh _ wr => ∃ j : Nat, j ≤ 13 ∧ sh = .int .i64 (5 * j : Nat) ∧ Below w.heap.size w wr) (fun sh _ _ => 70 - (intOf sh).toNat)
      case atStart => exact ⟨0, by omega, rfl, hb⟩
      case round =>
        obtain ⟨j, hj, rfl, hbr⟩ := hrel
        obtain ⟨i, hi⟩ : ∃ i : Nat, 5 * j = i := ⟨_, rfl⟩
        rw [hi]
        by_cases hj13 : j < 13
        · have hi1 : i < 64 := by omega
          have Hi := Lib.hid hi; clear hi
          have hck2 := hck
          rw [← hbr.cell (p := ⟨b, off + k, none⟩) hbl] at hck2
          go_wp2_with fail
          obtain ⟨q, hq⟩ : ∃ q : Nat, n / 2 ^ i = q := ⟨_, rfl⟩
          have hq64 : q < 2 ^ 64 := by
            have : n / 2 ^ i ≤ n := Nat.div_le_self _ _
            omega
          have eq : (n : Int) / 2 ^ i = (q : Int) := by rw [← hq]; push_cast; rfl
          rw [eq]
          clear eq hq hck2
          have hsz : (ByteArray.mk (Vy.enc q).toArray).size = Vy.size q := by rw [str_size, Vy.enc_length]
          refine (put_any [q] _ 1 _ (by simpa using hq64) (by simp) (rd_new _ [vU q] _)).mono ?_; rintro r x1 ⟨rfl, hx1⟩
          have hy1 := below_trans' (below_alloc hbr (.cells #[.int .u64 q] 22)) hx1 (by have := hbr.size; simp <;> omega)
          clear hx1
          rw [show Vy.put [q] = Vy.enc q from by simp [Vy.put]]
          go_wp2_with fail
          refine (rput_any _ _ hq64).mono ?_; rintro r x2 ⟨rfl, hx2⟩
          have hy2 := below_trans' hy1 hx2 hy1.size
          clear hx2 hy1
          go_wp2_with fail
          refine (size_any _ _ hq64).mono ?_; rintro r x3 ⟨rfl, hx3⟩
          have hy3 := below_trans' hy2 hx3 hy2.size
          clear hx3 hy2
          go_wp2_with fail
          refine (rput_any _ _ hq64).mono ?_; rintro r x4 ⟨rfl, hx4⟩
          have hy4 := below_trans' hy3 hx4 hy3.size
          clear hx4 hy3
          go_wp2_with fail
          go_roundw
          case rel => exact ⟨j + 1, by omega, by have := Hi.out; go_num, hy4⟩
          case measure => simp [intOf]; omega
        · have hj2 : j = 13 := by omega
          subst hj2
          subst hi
          go_wp2_with fail
          go_roundw
          case rel => exact ⟨k + 1, by omega, by go_num, hbr⟩
          case measure => simp [intOf]; omega
    · have hkl : k = L.length := by omega
      subst hkl
      clear hlt hk
      go_wp2_with fail
      refine (put_any L a cap _ hLn (by omega) (hrdL.below hb (Nat.le_refl _))).mono ?_; rintro r x1 ⟨rfl, hx1⟩
      have hy1 := below_trans' hb hx1 hb.size
      rw [HP.out]
      clear hx1
      go_wp2_with fail
      refine (reads2_true t (by omega) at_ _ (by omega) _).mono ?_; rintro r x2 ⟨rfl, hx2⟩
      have hy2 := below_trans' hy1 hx2 hy1.size
      clear hx2
      go_wp2_with fail
      refine (reads2_true t (by omega) _ 3 (by omega) _).mono ?_; rintro r x3 ⟨rfl, hx3⟩
      have hy3 := below_trans' hy2 hx3 hy2.size
      clear hx3
      go_wp2_with fail
      refine (reads2_true P (by omega) _ _ (by omega) _).mono ?_; rintro r x4 ⟨rfl, hx4⟩
      have hy4 := below_trans' hy3 hx4 hy3.size
      clear hx4
      go_wp2_with fail
      refine (reads2_true (P ++ t) (by rw [ByteArray.size_append]; omega) _ _ (by omega) _).mono ?_; rintro r x5 ⟨rfl, hx5⟩
      have hy5 := below_trans' hy4 hx5 hy4.size
      clear hx5
      go_wp2_with fail
      refine (works2 _).mono ?_; rintro r x6 ⟨rfl, hx6⟩
      have hy6 := below_trans' hy5 hx6 hy5.size
      clear hx6
      go_wp2_with fail
      go_ret
      exact ⟨rfl, hy6⟩

theorem varyTells_walk (l : List Int) (a : Option Addr) (cap : Nat) (s : ByteArray) (at_ : Int) (w : World) (rd : Rd w 1 a l.length (l.map (Value.int .u64))) (hl : ∀ n ∈ l, 0 ≤ n ∧ n ≤ 18446744073709551615)
    (hc : l.length ≤ cap) (_hcm : cap ≤ maxLen) (hs : s.size ≤ maxLen) (_ha : -9223372036854775808 ≤ at_ ∧ at_ ≤ 9223372036854775807) :
    Calls Try.prog 4 #[.slice a l.length cap, .string s, .int .i64 at_] w fun r w' => r = .returned (.bool true) ∧ Below w.heap.size w w' := by
  obtain ⟨l', e, hl', hn⟩ := ints_nat l hl
  rw [e] at rd
  rw [← hn] at rd hc ⊢
  exact varyTells_nat l' a cap s at_ w rd hl' hc hs

end Go.Proofs.Ytmoegdjpmcjhcaa
