/- Walks: vary.Put. -/
import Derived.Test.YtmoegdjpmcjhcaaVaryA
namespace Go.Proofs.Ytmoegdjpmcjhcaa
open Go.RowKit

theorem Try.infoU8 : (Try.prog.info? 5).map (fun i => (i.zero, i.size, i.bytes)) = some (some (.int .u8 0), 1, 1) := by kernel_rfl

theorem layC_enc (n : Nat) (h : n < 2^64) : ∀ (j : Nat) u, ((Vy.enc n).map vB)[j]? = some u → (layC n)[j]? = some u := by
  intro j u hj
  have hl := (Vy.size_bd n h).2
  have hj9 : j < 9 := by
    rcases Nat.lt_or_ge j 9 with h9 | h9
    · exact h9
    · rw [List.getElem?_eq_none (by rw [List.length_map, Vy.enc_length]; omega)] at hj; cases hj
  have e : u = .int .u8 (Vy.lb n j) := by
    rw [List.getElem?_map] at hj
    unfold Vy.lb
    rw [List.getD_eq_getElem?_getD]
    cases hg : (Vy.enc n)[j]? with
    | none => rw [hg] at hj; cases hj
    | some b => rw [hg] at hj; cases hj; rfl
  subst e
  have : j = 0 ∨ j = 1 ∨ j = 2 ∨ j = 3 ∨ j = 4 ∨ j = 5 ∨ j = 6 ∨ j = 7 ∨ j = 8 := by omega
  rcases this with rfl | rfl | rfl | rfl | rfl | rfl | rfl | rfl | rfl <;> rfl

set_option maxRecDepth 100000 in
set_option maxHeartbeats 1000000 in
theorem put_any (l : List Nat) (a : Option Addr) (cap : Nat) (w : World) (hl : ∀ n ∈ l, n < 2^64) (hlen : l.length ≤ 1000000000) (hr : Rd w 1 a l.length (l.map vU)) :
    Calls Try.prog 15 #[.slice a l.length cap] w fun e w' => e = .returned (.string ⟨(Vy.put l).toArray⟩) ∧ Below w.heap.size w w' := by
  obtain ⟨i0, hi, hz0, hz1, hz2⟩ := info_parts Try.infoU8
  go_enter Try.func15, Try.ntmps15
  go_wp2_with fail
  go_loopw [3, 9] (fun v i wr => ∃ k : Nat, k ≤ l.length ∧ i = .int .i64 k ∧ wr.ownsRow w.heap.size 5 1 v (Vy.put (l.take k)).length ((Vy.put (l.take k)).map vB) ∧ Below w.heap.size w wr) (fun _ i _ => l.length - (intOf i).toNat)
  case atStart => exact ⟨0, by omega, rfl, World.ownsRow_nil _ _ _ _, Below.refl _ _⟩
  case round =>
    obtain ⟨k, hk, rfl, hown, hb⟩ := hrel
    by_cases hlt : k < l.length
    · obtain ⟨b, off, rfl, hbl, hc⟩ := hr.2 (by simp; omega)
      have hck := hc k (vU l[k]) (by simp [List.getElem?_eq_getElem hlt])
      rw [← hb.cell (p := ⟨b, off + k, none⟩) hbl] at hck
      unfold vU at hck
      clear hc
      have hn64 := hl l[k] (List.getElem_mem hlt)
      obtain ⟨n, hn⟩ : ∃ n : Nat, l[k] = n := ⟨_, rfl⟩
      rw [hn] at hck hn64
      have Hn := Lib.hid hn; clear hn
      go_wp2_with fail
      refine (lay_any _ _ hn64).mono ?_; rintro e w1 ⟨rfl, hb1⟩
      have hsz := Vy.size_bd n hn64
      obtain ⟨hsz1, hsz2⟩ := hsz
      have hsl : ∀ (a : Addr) (w : World), Sem.run Try.prog (Instr.sliceAt 65 (.pointer (some a)) none (some (.int .i64 (Vy.size n : Int))) none) w = .ok (.slice (some a) (Vy.size n) 9) w := by
        intro a w
        have e : Try.prog.arrayLen 65 = 9 := by kernel_rfl
        rw [run_sliceAt_array_h w 65 a (by kernel_rfl) .i64 (Vy.size n : Int) (by omega) (by rw [e]; omega)]
        rw [e]
        show Result.ok _ _ = _
        simp [slicedAt, Addr.add]
      have hown1 := ownsRow_below hown hb1 (Nat.le_refl _)
      unfold layC
      go_wp2_with (at_builtin; refine wpList_append_own _ rfl _ _ 49 rfl w.heap.size 5 i0 (.int .u8 0) 1 1 Try.underlying49 hi hz0 hz1 hz2 rfl (by decide) _ _ _ rfl (hown1.alloc _) ⟨w1.heap.size, 0, none⟩ (Vy.size n) 9 ((Vy.enc n).map vB) rfl ?c0 ?c1 ?c2 ?c3 ?c4 ?c5 ?_)
      case c0 => simp [Vy.enc_length]
      case c1 => exact news_blk (Blk.new w1 (layC n) 67) _ (layC_enc n hn64)
      case c2 => exact vB_one _
      case c3 =>
        have := Vy.put_length_le (l.take k) (fun n hn => hl n (List.mem_of_mem_take hn))
        have h2 : (l.take k).length ≤ k := List.length_take_le _ _
        unfold maxLen; omega
      case c4 =>
        have := Vy.put_length_le (l.take k) (fun n hn => hl n (List.mem_of_mem_take hn))
        have h2 : (l.take k).length ≤ k := List.length_take_le _ _
        omega
      case c5 => have := hb.size; have := hb1.size; simp; omega
      intro v' w2 hown2 hg2 _
      go_wp2_with fail
      go_roundw
      case rel =>
        have hbs := hb.size
        have hbs1 := hb1.size
        have e : Vy.put (l.take (k + 1)) = Vy.put (l.take k) ++ Vy.enc n := by
          rw [List.take_succ_eq_append_getElem hlt, Vy.put_snoc, Hn.out]
        refine ⟨k + 1, by omega, by go_num, ?_, ?_⟩
        · rw [e, List.length_append, List.map_append, Vy.enc_length]
          exact hown2
        · exact below_append ((below_trans' hb hb1 hbs).alloc (by omega) _) (hown1.alloc _) (by simp; omega) hg2
      case measure => simp [intOf]; omega
    · have hkl : k = l.length := by omega
      subst hkl
      rw [List.take_length] at hown
      have hs := run_string_own (P := Try.prog) _ hown 49 9 Try.underlying49 Try.underlying5 Try.underlying9
      go_wp2_with fail
      go_ret
      exact ⟨rfl, hb⟩
end Go.Proofs.Ytmoegdjpmcjhcaa
