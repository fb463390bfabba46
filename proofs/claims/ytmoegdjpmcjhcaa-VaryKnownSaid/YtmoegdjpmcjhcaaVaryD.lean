/- Walks: cedillalaw02.had, works. -/
import Derived.Test.YtmoegdjpmcjhcaaVaryC
namespace Go.Proofs.Ytmoegdjpmcjhcaa
open Go.RowKit

set_option maxRecDepth 100000 in
set_option maxHeartbeats 400000 in
theorem had_true (s : ByteArray) (n : Nat) (x e : Int) (w : World) (hm : s.size ≤ 140737488351232) (h : Vy.get s.data.toList 0 = (n, x, e)) :
    Calls Try.prog 33 #[.string s, .int .u64 n, .int .i64 x, .int .i64 e] w fun r w' => r = .returned (.bool true) ∧ Below w.heap.size w w' := by
  have H := Lib.hid h; clear h
  go_enter Try.func33, Try.ntmps33
  go_wp2_with fail
  refine (get_any _ _ _ hm).mono ?_; rintro r w' ⟨rfl, hb⟩
  rw [H.out]
  unfold getR
  go_wp2_with fail
  go_ret
  exact ⟨rfl, hb⟩

set_option maxRecDepth 100000 in
set_option maxHeartbeats 1000000 in
theorem works2 (w : World) :
    Calls Try.prog 12 #[] w fun r w' => r = .returned (.bool true) ∧ Below w.heap.size w w' := by
  go_enter Try.func12, Try.ntmps12
  have hb0 := Below.refl w.heap.size w
  go_wp2_with fail
  refine (put_any [0] _ 1 _ (by decide) (by decide) (rd_new _ [vU 0] _)).mono ?_; rintro r w1 ⟨rfl, hc1⟩
  have hb1 := below_trans' (hb0.alloc hb0.size (.cells #[.int .u64 0] 22)) hc1 (by have := hb0.size; simp <;> omega)
  clear hc1 hb0
  rw [show Vy.put [0] = [0] from by decide +kernel]
  go_wp2_with fail
  refine (put_any [247] _ 1 _ (by decide) (by decide) (rd_new _ [vU 247] _)).mono ?_; rintro r w2 ⟨rfl, hc2⟩
  have hb2 := below_trans' (hb1.alloc hb1.size (.cells #[.int .u64 247] 22)) hc2 (by have := hb1.size; simp <;> omega)
  clear hc2 hb1
  rw [show Vy.put [247] = [247] from by decide +kernel]
  go_wp2_with fail
  refine (put_any [248] _ 1 _ (by decide) (by decide) (rd_new _ [vU 248] _)).mono ?_; rintro r w3 ⟨rfl, hc3⟩
  have hb3 := below_trans' (hb2.alloc hb2.size (.cells #[.int .u64 248] 22)) hc3 (by have := hb2.size; simp <;> omega)
  clear hc3 hb2
  rw [show Vy.put [248] = [248, 248] from by decide +kernel]
  go_wp2_with fail
  refine (put_any [255] _ 1 _ (by decide) (by decide) (rd_new _ [vU 255] _)).mono ?_; rintro r w4 ⟨rfl, hc4⟩
  have hb4 := below_trans' (hb3.alloc hb3.size (.cells #[.int .u64 255] 22)) hc4 (by have := hb3.size; simp <;> omega)
  clear hc4 hb3
  rw [show Vy.put [255] = [248, 255] from by decide +kernel]
  go_wp2_with fail
  refine (put_any [256] _ 1 _ (by decide) (by decide) (rd_new _ [vU 256] _)).mono ?_; rintro r w5 ⟨rfl, hc5⟩
  have hb5 := below_trans' (hb4.alloc hb4.size (.cells #[.int .u64 256] 22)) hc5 (by have := hb4.size; simp <;> omega)
  clear hc5 hb4
  rw [show Vy.put [256] = [249, 0, 1] from by decide +kernel]
  go_wp2_with fail
  refine (put_any [18446744073709551615] _ 1 _ (by decide) (by decide) (rd_new _ [vU 18446744073709551615] _)).mono ?_; rintro r w6 ⟨rfl, hc6⟩
  have hb6 := below_trans' (hb5.alloc hb5.size (.cells #[.int .u64 18446744073709551615] 22)) hc6 (by have := hb5.size; simp <;> omega)
  clear hc6 hb5
  rw [show Vy.put [18446744073709551615] = [255, 255, 255, 255, 255, 255, 255, 255, 255] from by decide +kernel]
  go_wp2_with fail
  refine (put_any [1, 300] _ 2 _ (by decide) (by decide) (rd_new _ [vU 1, vU 300] _)).mono ?_; rintro r w7 ⟨rfl, hc7⟩
  have hb7 := below_trans' (hb6.alloc hb6.size (.cells #[.int .u64 1, .int .u64 300] 22)) hc7 (by have := hb6.size; simp <;> omega)
  clear hc7 hb6
  rw [show Vy.put [1, 300] = [1, 249, 44, 1] from by decide +kernel]
  go_wp2_with fail
  refine (had_true ⟨#[248, 5]⟩ 0 0 5 _ (by decide) (by decide +kernel)).mono ?_; rintro r w8 ⟨rfl, hc8⟩
  have hb8 := below_trans' hb7 hc8 hb7.size
  clear hc8 hb7
  go_wp2_with fail
  refine (had_true ⟨#[249, 1, 0]⟩ 0 0 5 _ (by decide) (by decide +kernel)).mono ?_; rintro r w9 ⟨rfl, hc9⟩
  have hb9 := below_trans' hb8 hc9 hb8.size
  clear hc9 hb8
  go_wp2_with fail
  refine (had_true ⟨#[249, 1]⟩ 0 0 3 _ (by decide) (by decide +kernel)).mono ?_; rintro r w10 ⟨rfl, hc10⟩
  have hb10 := below_trans' hb9 hc10 hb9.size
  clear hc10 hb9
  go_wp2_with fail
  refine (had_true ⟨#[]⟩ 0 0 3 _ (by decide) (by decide +kernel)).mono ?_; rintro r w11 ⟨rfl, hc11⟩
  have hb11 := below_trans' hb10 hc11 hb10.size
  clear hc11 hb10
  go_wp2_with fail
  go_ret
  exact ⟨rfl, hb11⟩

end Go.Proofs.Ytmoegdjpmcjhcaa
