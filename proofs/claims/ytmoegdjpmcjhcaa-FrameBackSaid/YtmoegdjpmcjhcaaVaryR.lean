/- Walks: the reference of layer 2: bytes, Put, All, Get, Row, Same. -/
import Derived.Test.YtmoegdjpmcjhcaaBase
import Derived.Test.YtmoegdjpmcjhcaaVaryP
import Derived.Test.YtmoegdjpmcjhcaaProg
import Derived.RegionTactic
import Derived.BigQuiet
import Derived.Deep.QuietTactic
import Derived.Deep.RegionWith
namespace Go.Proofs.Ytmoegdjpmcjhcaa
open Go.RowKit

theorem Try.infoU8r : (Try.prog.info? 5).map (fun i => (i.zero, i.size, i.bytes)) = some (some (.int .u8 0), 1, 1) := by kernel_rfl
theorem Try.infoU64r : (Try.prog.info? 22).map (fun i => (i.zero, i.size, i.bytes)) = some (some (.int .u64 0), 1, 8) := by kernel_rfl

set_option maxRecDepth 100000 in
set_option maxHeartbeats 400000 in
theorem rbytes_any (n : Nat) (w : World) (h0 : 1 ≤ n) (h : n < 2^64) :
    Calls Try.prog 37 #[.int .u64 n] w fun e w' => e = .returned (.int .i64 (Vy.blen n)) ∧ w = w' := by
  go_enter Try.func37, Try.ntmps37
  go_wp2_with fail
  go_loop [0, 3] (fun v m => ∃ k : Nat, 256 ^ k ≤ n ∧ k < 8 ∧ v = .int .u64 ((n / 256 ^ k : Nat) : Int) ∧ m = .int .i64 (k + 1)) (fun v _ => (intOf v).toNat)
  case atStart => exact ⟨0, by omega, by omega, by simp, rfl⟩
  case round =>
    obtain ⟨k, hk, hk8, rfl, rfl⟩ := hrel
    obtain ⟨d, hd⟩ : ∃ d : Nat, n / 256 ^ k = d := ⟨_, rfl⟩
    have hd1 : 1 ≤ d := by rw [← hd]; exact Nat.div_pos hk (Nat.pow_pos (by omega))
    have hdn : d ≤ n := by rw [← hd]; exact Nat.div_le_self _ _
    rw [hd]
    by_cases hlt : d < 256
    · have hb := Lib.hid (Vy.blen_of_div n k (by omega) h hk (by rw [hd]; exact hlt))
      have Hd := Lib.hid hd; clear hd
      go_wp2_with fail
      go_ret
      exact ⟨by rw [hb.out]; push_cast; rfl, rfl⟩
    · have hk1 : 256 ^ (k + 1) ≤ n := by
        rw [Nat.pow_succ]
        have : 256 ≤ n / 256 ^ k := by omega
        have := (Nat.le_div_iff_mul_le (Nat.pow_pos (by omega))).1 this
        rw [Nat.mul_comm]; exact this
      have hk9 : k + 1 < 8 := by
        have := Nat.lt_of_le_of_lt hk1 h
        rw [show (2 : Nat) ^ 64 = 256 ^ 8 from rfl] at this
        exact Vy.pow_lt_of this
      have hds := Lib.hid (Vy.div_pow_succ n k)
      have Hd := Lib.hid hd; clear hd
      go_wp2_with fail
      go_round
      case rel => exact ⟨k + 1, hk1, hk9, by rw [← hds.out, Hd.out]; go_num, by go_num⟩
      case measure => simp [intOf]; omega

set_option maxRecDepth 100000 in
set_option maxHeartbeats 400000 in
theorem rput_small (n : Nat) (w : World) (h : n < 248) :
    Calls Try.prog 18 #[.int .u64 n] w fun e w' => e = .returned (.string ⟨(Vy.enc n).toArray⟩) ∧ Below w.heap.size w w' := by
  have he : Vy.enc n = [UInt8.ofNat n] := by simp [Vy.enc, h]
  rw [he]; clear he
  have hs := run_string_rd (P := Try.prog) (n := 1) (cap := 1) [UInt8.ofNat n] (by
    have := rd_new w [.int .u8 n] 5
    have e : vB (UInt8.ofNat n) = .int .u8 n := by simp [vB]; omega
    simpa [e] using this) 49 5 9 Try.underlying49 Try.underlying5 Try.underlying9
  go_enter Try.func18, Try.ntmps18
  go_wp2_with fail
  go_ret
  exact ⟨rfl, below_alloc (Below.refl _ _) _⟩

set_option maxRecDepth 100000 in
set_option maxHeartbeats 400000 in
theorem rput_big (n : Nat) (w : World) (h : 248 ≤ n) (h' : n < 2^64) :
    Calls Try.prog 18 #[.int .u64 n] w fun e w' => e = .returned (.string ⟨(Vy.enc n).toArray⟩) ∧ Below w.heap.size w w' := by
  have he := Lib.hid (show Vy.enc n = UInt8.ofNat (247 + Vy.blen n) :: Vy.le (Vy.blen n) n by simp [Vy.enc]; omega)
  have hbl := Vy.blen_le n h h'
  obtain ⟨m, hm⟩ : ∃ m : Nat, Vy.blen n = m := ⟨_, rfl⟩
  rw [hm] at he hbl
  obtain ⟨hm1, hm2⟩ := hbl
  have Hm := Lib.hid hm; clear hm
  obtain ⟨i0, hi, hz0, hz1, hz2⟩ := info_parts Try.infoU8r
  go_enter Try.func18, Try.ntmps18
  go_wp2_with fail
  refine (rbytes_any n _ (by omega) h').mono ?_; rintro e w1 ⟨rfl, rfl⟩
  rw [Hm.out]
  go_wp2_with fail
  go_loopw [0, 4, 5] (fun v o i wr => ∃ k : Nat, k ≤ m ∧ i = .int .i64 k ∧ v = .int .u64 ((n / 256 ^ k : Nat) : Int) ∧ wr.ownsRow w.heap.size 5 1 o (k + 1) ((UInt8.ofNat (247 + m) :: Vy.le k n).map vB) ∧ Below w.heap.size w wr) (fun _ _ i _ => m - (intOf i).toNat)
  case atStart =>
    refine ⟨0, by omega, rfl, by simp, ?_, below_alloc (Below.refl _ _) _⟩
    have := World.ownsRow_lit (base := w.heap.size) (e := 5) (size := 1) w #[.int .u8 (247 + m)] 1 (Nat.le_refl _) (by unfold maxLen; omega) (by simp)
    have e : vB (UInt8.ofNat (247 + m)) = .int .u8 (247 + m) := by rw [vB_ofNat _ (by omega)]; push_cast; rfl
    simp only [Vy.le, List.map_cons, List.map_nil, e]
    simpa using this
  case round =>
    obtain ⟨k, hk, rfl, rfl, hown, hb⟩ := hrel
    by_cases hlt : k < m
    · obtain ⟨d, hd⟩ : ∃ d : Nat, n / 256 ^ k = d := ⟨_, rfl⟩
      rw [hd]
      have hds := Lib.hid (Vy.div_pow_succ n k)
      have hls := Lib.hid (Vy.le_snoc k n)
      have hdl : d ≤ n := by rw [← hd]; exact Nat.div_le_self _ _
      have Hd := Lib.hid hd; clear hd
      go_wp2_with (at_builtin; refine wpList_append_own _ rfl _ _ 49 rfl w.heap.size 5 i0 (.int .u8 0) 1 1 Try.underlying49 hi hz0 hz1 hz2 rfl (by decide) _ _ _ rfl (hown.alloc _) ⟨wr.heap.size, 0, none⟩ 1 1 [.int .u8 ((d : Int) % 256)] rfl rfl ?c1 ?c2 ?c3 ?c4 ?c5 ?_)
      case c1 => exact news_blk (Blk.new _ #[.int .u8 ((d : Int) % 256)] _) _ (by simp)
      case c2 => intro u hu; simp at hu; subst hu; rfl
      case c3 => unfold maxLen; omega
      case c4 => omega
      case c5 => have := hb.size; simp; omega
      intro v' w2 hown2 hg2 _
      go_wp2_with fail
      go_roundw
      case rel =>
        refine ⟨k + 1, by omega, by go_num, by rw [← hds.out, Hd.out]; go_num, ?_, below_append (below_alloc hb _) (hown.alloc _) (by have := hb.size; simp; omega) hg2⟩
        rw [hls.out, Hd.out]
        have e : vB (UInt8.ofNat (d % 256)) = .int .u8 ((d : Int) % 256) := by simp [vB]
        simpa [e] using hown2
      case measure => simp [intOf]; omega
    · have hkm : k = m := by omega
      subst hkm
      rw [← he.out] at hown
      have hs := run_string_own (P := Try.prog) _ hown 49 9 Try.underlying49 Try.underlying5 Try.underlying9
      go_wp2_with fail
      go_ret
      exact ⟨rfl, hb⟩

theorem rput_any (n : Nat) (w : World) (h : n < 2^64) :
    Calls Try.prog 18 #[.int .u64 n] w fun e w' => e = .returned (.string ⟨(Vy.enc n).toArray⟩) ∧ Below w.heap.size w w' := by
  by_cases hs : n < 248
  · exact rput_small n w hs
  · exact rput_big n w (by omega) h

set_option maxRecDepth 100000 in
set_option maxHeartbeats 400000 in
theorem rall_any (l : List Nat) (a : Option Addr) (cap : Nat) (w : World) (hl : ∀ n ∈ l, n < 2^64) (hlen : l.length ≤ 1000000000) (hr : Rd w 1 a l.length (l.map vU)) :
    Calls Try.prog 17 #[.slice a l.length cap] w fun e w' => e = .returned (.string ⟨(Vy.put l).toArray⟩) ∧ Below w.heap.size w w' := by
  go_enter Try.func17, Try.ntmps17
  go_wp2_with fail
  go_loopw [3, 4] (fun s i wr => ∃ k : Nat, k ≤ l.length ∧ i = .int .i64 k ∧ s = .string ⟨(Vy.put (l.take k)).toArray⟩ ∧ Below w.heap.size w wr) (fun _ i _ => l.length - (intOf i).toNat)
  case atStart => exact ⟨0, by omega, rfl, rfl, Below.refl _ _⟩
  case round =>
    obtain ⟨k, hk, rfl, rfl, hb⟩ := hrel
    by_cases hlt : k < l.length
    · obtain ⟨b, off, rfl, hbl, hc⟩ := hr.2 (by simp; omega)
      have hck := hc k (vU l[k]) (by simp [List.getElem?_eq_getElem hlt])
      rw [← hb.cell (p := ⟨b, off + k, none⟩) hbl] at hck
      unfold vU at hck
      clear hc
      have hn64 := hl l[k] (List.getElem_mem hlt)
      obtain ⟨n, hn⟩ : ∃ n : Nat, l[k] = n := ⟨_, rfl⟩
      rw [hn] at hck hn64
      have Hn := Lib.hid hn; clear hn
      have hpl := Vy.put_length_le (l.take k) (fun n hn => hl n (List.mem_of_mem_take hn))
      have htl : (l.take k).length ≤ k := List.length_take_le _ _
      have hel := (Vy.size_bd n hn64).2
      have hsz : (ByteArray.mk (Vy.put (l.take k)).toArray).size ≤ 9000000000 := by rw [str_size]; omega
      have hsz2 : (ByteArray.mk (Vy.enc n).toArray).size ≤ 9 := by rw [str_size, Vy.enc_length]; exact hel
      clear hpl htl hel
      go_wp2_with fail
      refine (rput_any n _ hn64).mono ?_; rintro e w1 ⟨rfl, hb1⟩
      go_wp2_with fail
      go_roundw
      case rel =>
        refine ⟨k + 1, by omega, by go_num, ?_, below_trans' hb hb1 hb.size⟩
        rw [List.take_succ_eq_append_getElem hlt, Vy.put_snoc, Hn.out, ← str_append]
      case measure => simp [intOf]; omega
    · have hkl : k = l.length := by omega
      subst hkl
      rw [List.take_length]
      go_wp2_with fail
      go_ret
      exact ⟨rfl, hb⟩

theorem get_far' (s : ByteArray) (at_ : Int) (h : at_ < 0 ∨ (s.size : Int) ≤ at_) : Vy.get s.data.toList at_ = (0, at_, 3) := by
  unfold Vy.get
  have hl : s.data.toList.length = s.size := by simp
  rw [if_pos (by omega)]

theorem get_in (s : ByteArray) (k : Nat) (h : k < s.size) : Vy.get s.data.toList k = if s[k].toNat < 248 then (s[k].toNat, (k : Int) + 1, 0) else
    if s.size - k ≤ s[k].toNat - 247 then (0, (k : Int), 3) else
    if Vy.size (Vy.val ((s.data.toList.drop (k + 1)).take (s[k].toNat - 247))) = 1 + (s[k].toNat - 247) then (Vy.val ((s.data.toList.drop (k + 1)).take (s[k].toNat - 247)), (k : Int) + 1 + (s[k].toNat - 247 : Nat), 0) else (0, (k : Int), 5) := by
  unfold Vy.get
  have hl : s.data.toList.length = s.size := by simp
  have hg : (s.data.toList.getD k 0).toNat = s[k].toNat := by
    rw [List.getD_eq_getElem?_getD, List.getElem?_eq_getElem (by omega)]
    rfl
  rw [if_neg (by omega)]
  simp only [Int.toNat_natCast, hg, hl]

set_option maxRecDepth 100000 in
set_option maxHeartbeats 400000 in
theorem rget_neg (s : ByteArray) (at_ : Int) (w : World) (h : at_ < 0) :
    Calls Try.prog 38 #[.string s, .int .i64 at_] w fun e w' => e = .returned (.tuple #[.int .u64 0, .int .i64 at_, .int .i64 3]) ∧ w = w' := by
  go_enter Try.func38, Try.ntmps38
  go_wp2_with fail
  go_ret3
  exact ⟨rfl, rfl⟩

set_option maxRecDepth 100000 in
set_option maxHeartbeats 400000 in
theorem rget_far (s : ByteArray) (at_ : Int) (w : World) (h : (s.size : Int) ≤ at_) :
    Calls Try.prog 38 #[.string s, .int .i64 at_] w fun e w' => e = .returned (.tuple #[.int .u64 0, .int .i64 at_, .int .i64 3]) ∧ w = w' := by
  have h0 : ¬ at_ < 0 := by omega
  go_enter Try.func38, Try.ntmps38
  go_wp2_with fail
  go_ret3
  exact ⟨rfl, rfl⟩

set_option maxRecDepth 100000 in
set_option maxHeartbeats 400000 in
theorem rget_small (s : ByteArray) (k : Nat) (w : World) (h : k < s.size) (hm : s.size ≤ 140737488351232) (hb : s[k].toNat < 248) :
    Calls Try.prog 38 #[.string s, .int .i64 k] w fun e w' => e = .returned (.tuple #[.int .u64 s[k].toNat, .int .i64 (k + 1), .int .i64 0]) ∧ w = w' := by
  go_enter Try.func38, Try.ntmps38
  go_wp2_with fail
  go_ret3
  exact ⟨rfl, rfl⟩

set_option maxRecDepth 100000 in
set_option maxHeartbeats 400000 in
theorem rget_short (s : ByteArray) (k : Nat) (w : World) (h : k < s.size) (hm : s.size ≤ 140737488351232) (hb : 248 ≤ s[k].toNat) (hs : s.size - k ≤ s[k].toNat - 247) :
    Calls Try.prog 38 #[.string s, .int .i64 k] w fun e w' => e = .returned (.tuple #[.int .u64 0, .int .i64 k, .int .i64 3]) ∧ w = w' := by
  have hlt := UInt8.toNat_lt s[k]
  go_enter Try.func38, Try.ntmps38
  go_wp2_with fail
  go_ret3
  exact ⟨rfl, rfl⟩

set_option maxRecDepth 100000 in
set_option maxHeartbeats 1000000 in
theorem rget_big (s : ByteArray) (k : Nat) (w : World) (h : k < s.size) (hm : s.size ≤ 140737488351232) (hb : 248 ≤ s[k].toNat) (hs : s[k].toNat - 247 < s.size - k) :
    Calls Try.prog 38 #[.string s, .int .i64 k] w fun e w' => e = .returned (.tuple #[.int .u64 (Vy.get s.data.toList k).1, .int .i64 (Vy.get s.data.toList k).2.1, .int .i64 (Vy.get s.data.toList k).2.2]) ∧ Below w.heap.size w w' := by
  have hlt := UInt8.toNat_lt s[k]
  have hget := get_in s k h
  rw [if_neg (by omega), if_neg (by omega)] at hget
  obtain ⟨m, hm⟩ : ∃ m : Nat, s[k].toNat = m + 247 := ⟨s[k].toNat - 247, by omega⟩
  rw [hm] at hb hs hlt hget
  rw [Nat.add_sub_cancel] at hget hs
  have hsl : s.data.toList.length = s.size := by simp
  have henc := Vy.enc_of s.data.toList k m (by omega) (by rw [← hm]; rfl) (by omega) (by omega)
  have Hget := Lib.hid hget; clear hget
  have Henc := Lib.hid henc; clear henc
  have hn1 : ¬ s.size ≤ k := by omega
  have hn2 : ¬ ((m : Int) + 247 < 248) := by omega
  clear hsl
  go_enter Try.func38, Try.ntmps38
  go_wp2_with fail
  go_loop [8, 9] (fun n i => ∃ j : Nat, j ≤ m ∧ i = .int .i64 j ∧ n = .int .u64 (Vy.val (((s.data.toList.drop (k + 1)).take m).drop j))) (fun _ i => (intOf i).toNat)
  case atStart => exact ⟨m, by omega, rfl, by rw [List.drop_of_length_le (by rw [List.length_take]; omega)]; rfl⟩
  case round =>
    obtain ⟨j, hj, rfl, rfl⟩ := hrel
    obtain ⟨v, hv⟩ : ∃ v : Nat, Vy.val (((s.data.toList.drop (k + 1)).take m).drop j) = v := ⟨_, rfl⟩
    have hsl : s.data.toList.length = s.size := by simp
    have hll : (((s.data.toList.drop (k + 1)).take m).drop j).length = m - j := by rw [List.length_drop, List.length_take, List.length_drop]; omega
    have hvl : v < 256 ^ (m - j) := by rw [← hv, ← hll]; exact Vy.val_lt _
    rw [hv]
    by_cases hlt : j = 0
    · subst hlt
      rw [List.drop_zero] at hv
      have hv64 : v < 2 ^ 64 := by
        have : (256 : Nat) ^ (m - 0) ≤ 256 ^ 8 := Nat.pow_le_pow_right (by omega) (by omega)
        have e : (256 : Nat) ^ 8 = 2 ^ 64 := rfl
        omega
      have hg := Hget.out
      have he := Henc.out
      rw [hv] at hg he
      clear Hget Henc hvl hll
      have hk1 : k + 1 + m ≤ s.size := by omega
      have hs1 : (k : Int) + 1 + (m : Int) ≤ (s.size : Int) := by omega
      have hs2 : (k : Int) ≤ (k : Int) + 1 + (m : Int) := by omega
      have hs3 : (0 : Int) ≤ (k : Int) + 1 + (m : Int) := by omega
      have hs4 : IntKind.i64.wrap ((k : Int) + 1) = (k : Int) + 1 := IntWalk.i64_in _ (by omega)
      have hs5 : IntKind.i64.wrap ((k : Int) + 1 + (m : Int)) = (k : Int) + 1 + (m : Int) := IntWalk.i64_in _ (by omega)
      have hx : (s.extract k ((k : Int) + 1 + (m : Int)).toNat).toList = (s.data.toList.drop k).take (1 + m) := by
        rw [extract_toList, show ((k : Int) + 1 + (m : Int)).toNat - k = 1 + m from by omega]
      by_cases hz : Vy.size v = 1 + m
      · rw [if_pos hz] at hg
        have hq : (Vy.enc v == (s.extract k ((k : Int) + 1 + (m : Int)).toNat).toList) = true := by rw [hx, he.2 hz]; simp
        have Hg := Lib.hid hg; clear hg
        clear hz hv hx he
        go_wp2_with fail
        go_region_with (go_at_call 18; refine (rput_any _ _ hv64).mono ?_; rintro r w1 ⟨rfl, hb1⟩)
        all_goals (simp only [Exit.then]; go_wp2_with fail; go_ret3; exact ⟨by rw [Hg.out]; rfl, below_of_drew (by assumption)⟩)
      · rw [if_neg hz] at hg
        have hq : (Vy.enc v == (s.extract k ((k : Int) + 1 + (m : Int)).toNat).toList) = false := by
          rw [hx, beq_eq_false_iff_ne]; exact fun e => hz (he.1 e)
        have Hg := Lib.hid hg; clear hg
        clear hz hv hx he
        go_wp2_with fail
        go_region_with (go_at_call 18; refine (rput_any _ _ hv64).mono ?_; rintro r w1 ⟨rfl, hb1⟩)
        all_goals (simp only [Exit.then]; go_wp2_with fail; go_ret3; exact ⟨by rw [Hg.out]; rfl, below_of_drew (by assumption)⟩)
    · obtain ⟨i, rfl⟩ : ∃ i, j = i + 1 := ⟨j - 1, by omega⟩
      have hlm : m ≤ (s.data.toList.drop (k + 1)).length := by rw [List.length_drop]; omega
      have hh := Vy.val_horner (s.data.toList.drop (k + 1)) i m hlm (by omega)
      rw [hv] at hh
      have hki : k + (i + 1) < s.size := by omega
      have hb8 : s[k + (i + 1)].toNat < 256 := UInt8.toNat_lt _
      have hbe : (s.data.toList.drop (k + 1))[i]'(by omega) = s[k + (i + 1)] := by
        rw [List.getElem_drop]
        have : k + 1 + i = k + (i + 1) := by omega
        simp only [this]
        rfl
      rw [hbe] at hh
      have hv56 : v < 72057594037927936 := by
        have h7 : (256 : Nat) ^ (m - (i + 1)) ≤ 256 ^ 7 := Nat.pow_le_pow_right (by omega) (by omega)
        have e : (256 : Nat) ^ 7 = 72057594037927936 := rfl
        omega
      obtain ⟨b, hbb⟩ : ∃ b : Nat, s[k + (i + 1)].toNat = b := ⟨_, rfl⟩
      rw [hbb] at hh hb8
      have Hh := Lib.hid hh; clear hh
      clear hbe hlm hll hvl hv Hget Henc hsl
      go_wp2_with fail
      go_round
      case rel =>
        refine ⟨i, by omega, rfl, ?_⟩
        rw [Hh.out]
        congr 1
        omega
      case measure => simp [intOf]

theorem rget_any (s : ByteArray) (at_ : Int) (w : World) (hm : s.size ≤ 140737488351232) :
    Calls Try.prog 38 #[.string s, .int .i64 at_] w fun e w' => e = .returned (.tuple #[.int .u64 (Vy.get s.data.toList at_).1, .int .i64 (Vy.get s.data.toList at_).2.1, .int .i64 (Vy.get s.data.toList at_).2.2]) ∧ Below w.heap.size w w' := by
  by_cases h1 : at_ < 0
  · refine (rget_neg s at_ w h1).mono ?_
    rintro e w' ⟨rfl, rfl⟩
    rw [get_far' s at_ (.inl h1)]
    exact ⟨rfl, Below.refl _ _⟩
  by_cases h2 : (s.size : Int) ≤ at_
  · refine (rget_far s at_ w h2).mono ?_
    rintro e w' ⟨rfl, rfl⟩
    rw [get_far' s at_ (.inr h2)]
    exact ⟨rfl, Below.refl _ _⟩
  obtain ⟨k, rfl⟩ := Int.eq_ofNat_of_zero_le (show 0 ≤ at_ by omega)
  have hk : k < s.size := by omega
  by_cases h3 : s[k].toNat < 248
  · refine (rget_small s k w hk hm h3).mono ?_
    rintro e w' ⟨rfl, rfl⟩
    rw [get_in s k hk, if_pos h3]
    exact ⟨rfl, Below.refl _ _⟩
  by_cases h4 : s.size - k ≤ s[k].toNat - 247
  · refine (rget_short s k w hk hm (by omega) h4).mono ?_
    rintro e w' ⟨rfl, rfl⟩
    rw [get_in s k hk, if_neg h3, if_pos h4]
    exact ⟨rfl, Below.refl _ _⟩
  · exact rget_big s k w hk hm (by omega) (by omega)

/-- The numbers that stand ahead of the first one that can't be had. -/
theorem row_pre (s : List UInt8) (k : Nat) : ∀ (m : Nat) (a0 : Int), k ≤ m → (Vy.row s a0 m).2.2 = 0 → (Vy.row s a0 k).2.2 = 0 := by
  induction k with
  | zero => intro m a0 _ _; rfl
  | succ k ih =>
    intro m a0 hm h
    cases m with
    | zero => omega
    | succ m =>
      rw [Vy.row] at h
      split at h
      · rename_i h1
        split at h
        · rename_i h2
          rw [Vy.row, if_pos h1, if_pos (ih m _ (by omega) h2)]
          exact ih m _ (by omega) h2
        · rename_i h2
          exact absurd h h2
      · rename_i h1
        exact absurd h h1

set_option maxRecDepth 100000 in
set_option maxHeartbeats 1000000 in
theorem rrow_any (s : ByteArray) (hm : s.size ≤ 1099511627776) (at_ many : Int) (hmany : many ≤ 1000000000) (w : World) :
    Calls Try.prog 39 #[.string s, .int .i64 at_, .int .i64 many] w fun e w' => ∃ v, e = .returned (.tuple #[v, .int .i64 (Vy.row s.data.toList at_ many.toNat).2.1, .int .i64 (Vy.row s.data.toList at_ many.toNat).2.2]) ∧
      w'.ownsRow w.heap.size 22 1 v (Vy.row s.data.toList at_ many.toNat).1.length ((Vy.row s.data.toList at_ many.toNat).1.map vU) ∧ Below w.heap.size w w' := by
  obtain ⟨i0, hi, hz0, hz1, hz2⟩ := info_parts Try.infoU64r
  go_enter Try.func39, Try.ntmps39
  go_wp2_with fail
  go_loopw [1, 9, 10] (fun p v i wr => ∃ (k : Nat) (a : Int) (vs : List Nat), k ≤ many.toNat ∧ i = .int .i64 k ∧ p = .int .i64 a ∧ Vy.row s.data.toList at_ k = (vs, a, 0) ∧ vs.length = k ∧ wr.ownsRow w.heap.size 22 1 v k (vs.map vU) ∧ Below w.heap.size w wr) (fun _ _ i _ => many.toNat - (intOf i).toNat)
  case atStart => exact ⟨0, at_, [], by omega, rfl, rfl, rfl, rfl, World.ownsRow_nil _ _ _ _, Below.refl _ _⟩
  case round =>
    obtain ⟨k, a, vs, hk, rfl, rfl, hrow, hvs, hown, hb⟩ := hrel
    by_cases hlt : k < many.toNat
    · have hkm : (k : Int) < many := by omega
      obtain ⟨⟨n, x, e⟩, hr⟩ : ∃ r, Vy.get s.data.toList a = r := ⟨_, rfl⟩
      have Hrow := Lib.hid hrow; clear hrow
      have Hr := Lib.hid hr; clear hr
      have Hvs := Lib.hid hvs; clear hvs
      go_wp2_with fail
      refine (rget_any s a _ (by omega)).mono ?_; rintro e1 w1 ⟨rfl, hb1⟩
      rw [Hr.out]
      by_cases he : e = 0
      · subst he
        have hsn := Vy.row_snoc _ k at_ vs a Hrow.out (by rw [Hr.out])
        rw [Hr.out] at hsn
        have Hsn := Lib.hid hsn; clear hsn
        have hown1 := ownsRow_below hown hb1 (Nat.le_refl _)
        go_wp2_with (at_builtin; refine wpList_append_own _ rfl _ _ 28 rfl w.heap.size 22 i0 (.int .u64 0) 1 8 Try.underlying28 hi hz0 hz1 hz2 rfl (by decide) _ _ _ rfl (hown1.alloc _) ⟨w1.heap.size, 0, none⟩ 1 1 [vU n] rfl rfl ?c1 ?c2 ?c3 ?c4 ?c5 ?_)
        case c1 => exact news_blk (Blk.new _ #[vU n] _) _ (by simp)
        case c2 => intro u hu; simp at hu; subst hu; rfl
        case c3 => unfold maxLen; omega
        case c4 => omega
        case c5 => have := hb.size; have := hb1.size; simp; omega
        intro v' w2 hown2 hg2 _
        go_wp2_with fail
        go_roundw
        case rel =>
          have h1 := hb.size
          have h2 := hb1.size
          refine ⟨k + 1, x, vs ++ [n], by omega, by go_num, rfl, Hsn.out, by rw [List.length_append, Hvs.out]; rfl, by rw [List.map_append]; exact hown2, ?_⟩
          exact below_append ((below_trans' hb hb1 h1).alloc (by omega) _) (hown1.alloc _) (by simp; omega) hg2
        case measure => simp [intOf]; omega
      · have hne : (e != 0) = true := by simp [he]
        have hst := Vy.row_stop _ k many.toNat at_ vs a Hrow.out (by rw [Hr.out]; exact he) hlt
        rw [Hr.out] at hst
        have hxa : x = a := by
          have := Vy.get_err s.data.toList a n x e Hr.out he
          exact this.2
        have Hst := Lib.hid hst; clear hst
        have Hxa := Lib.hid hxa; clear hxa
        go_wp2_with fail
        go_ret3
        rw [Hst.out]
        exact ⟨_, by rw [← Hxa.out]; rfl, World.ownsRow_nil _ _ _ _, below_trans' hb hb1 hb.size⟩
    · have hkm : k = many.toNat := by omega
      have hf : ¬ (k : Int) < many := by omega
      have Hkm := Lib.hid hkm; clear hkm
      have Hrow := Lib.hid hrow; clear hrow
      have Hvs := Lib.hid hvs; clear hvs
      go_wp2_with fail
      go_ret3
      rw [← Hkm.out, Hrow.out]
      exact ⟨_, rfl, by rw [Hvs.out]; exact hown, hb⟩

set_option maxRecDepth 100000 in
set_option maxHeartbeats 400000 in
/-- Same of two rows of the same numbers. -/
theorem rsame_true (l : List Nat) (a b : Option Addr) (cap cap' : Nat) (w : World) (hlen : l.length ≤ 1000000000) (ha : Rd w 1 a l.length (l.map vU)) (hb : Rd w 1 b l.length (l.map vU)) :
    Calls Try.prog 22 #[.slice a l.length cap, .slice b l.length cap'] w fun e w' => e = .returned (.bool true) ∧ Below w.heap.size w w' := by
  have hf : ((l.length : Int) != (l.length : Int)) = false := by simp
  go_enter Try.func22, Try.ntmps22
  go_wp2_with fail
  go_loopw [5] (fun i wr => ∃ k : Nat, k ≤ l.length ∧ i = .int .i64 k ∧ Below w.heap.size w wr) (fun i _ => l.length - (intOf i).toNat)
  case atStart => exact ⟨0, by omega, rfl, Below.refl _ _⟩
  case round =>
    obtain ⟨k, hk, rfl, hbl⟩ := hrel
    by_cases hlt : k < l.length
    · obtain ⟨b1, o1, rfl, hb1, hc1⟩ := ha.2 (by simp; omega)
      obtain ⟨b2, o2, rfl, hb2, hc2⟩ := hb.2 (by simp; omega)
      have hk1 := hc1 k (vU l[k]) (by simp [List.getElem?_eq_getElem hlt])
      have hk2 := hc2 k (vU l[k]) (by simp [List.getElem?_eq_getElem hlt])
      rw [← hbl.cell (p := ⟨b1, o1 + k, none⟩) hb1] at hk1
      rw [← hbl.cell (p := ⟨b2, o2 + k, none⟩) hb2] at hk2
      obtain ⟨n, hn⟩ : ∃ n : Nat, l[k] = n := ⟨_, rfl⟩
      rw [hn] at hk1 hk2
      unfold vU at hk1 hk2
      clear hn hc1 hc2
      have hi2 : (k : Int) < (l.length : Int) := by omega
      go_wp2_with fail
      go_quiet (fail)
      go_wp2_with fail
      go_roundw
      case rel => exact ⟨k + 1, by omega, by go_num, below_drewN hbl _⟩
      case measure => simp [intOf]; omega
    · go_wp2_with fail
      go_ret
      exact ⟨rfl, hbl⟩

end Go.Proofs.Ytmoegdjpmcjhcaa
