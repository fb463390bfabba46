/- Plain Lean: what is put is had again. No program in sight. -/
import Derived.Test.YtmoegdjpmcjhcaaVaryP
namespace Vy

theorem enc_get0 (n : Nat) : (enc n)[0]? = some (if n < 248 then UInt8.ofNat n else UInt8.ofNat (247 + blen n)) := by
  unfold enc
  split <;> rfl

theorem get_mid (x y : List UInt8) (n : Nat) (hn : n < 2^64) : get (x ++ enc n ++ y) x.length = (n, (x.length : Int) + size n, 0) := by
  have hl : (x ++ enc n ++ y).length = x.length + size n + y.length := by simp [enc_length, Nat.add_assoc]
  have hs := size_bd n hn
  have h0 : (x ++ enc n ++ y).getD x.length 0 = if n < 248 then UInt8.ofNat n else UInt8.ofNat (247 + blen n) := by
    rw [List.getD_eq_getElem?_getD, List.append_assoc, List.getElem?_append_right (Nat.le_refl _), Nat.sub_self,
      List.getElem?_append_left (by rw [enc_length]; omega), enc_get0]
    rfl
  unfold get
  rw [if_neg (by omega)]
  simp only [Int.toNat_natCast, h0]
  by_cases h : n < 248
  · simp only [if_pos h]
    have e : (UInt8.ofNat n).toNat = n := by simp; omega
    rw [e, if_pos h]
    simp [size, h]
  · simp only [if_neg h]
    have hb := blen_le n (by omega) hn
    have e : (UInt8.ofNat (247 + blen n)).toNat = 247 + blen n := by simp; omega
    have hz : size n = 1 + blen n := by simp [size, h]
    rw [e, if_neg (by omega), if_neg (by rw [hl, hz]; omega)]
    have e2 : 247 + blen n - 247 = blen n := by omega
    rw [e2]
    have hd : ((x ++ enc n ++ y).drop (x.length + 1)).take (blen n) = le (blen n) n := by
      rw [List.append_assoc, List.drop_append, List.drop_of_length_le (by omega)]
      unfold enc
      rw [if_neg h]
      simp only [List.nil_append, List.cons_append, Nat.add_sub_cancel_left, List.drop_one, List.tail_cons]
      rw [List.take_append_of_le_length (by rw [le_length]; omega), List.take_of_length_le (by rw [le_length]; omega)]
    rw [hd, val_le, Nat.mod_eq_of_lt (blen_spec n (by omega) hn).2.1, if_pos hz]
    rw [hz]
    push_cast
    simp only [Prod.mk.injEq, true_and, and_true]
    omega

/-- Of a number that was cut nothing can be had. -/
theorem get_cut (x : List UInt8) (n c : Nat) (hn : n < 2^64) (hc : c < size n) : get (x ++ (enc n).take c) x.length = (0, (x.length : Int), 3) := by
  have hl : (x ++ (enc n).take c).length = x.length + c := by
    rw [List.length_append, List.length_take, enc_length]; omega
  by_cases h0 : c = 0
  · subst h0
    unfold get
    rw [if_pos (by rw [hl]; omega)]
  · have hg : (x ++ (enc n).take c).getD x.length 0 = if n < 248 then UInt8.ofNat n else UInt8.ofNat (247 + blen n) := by
      rw [List.getD_eq_getElem?_getD, List.getElem?_append_right (Nat.le_refl _), Nat.sub_self, List.getElem?_take_of_lt (by omega), enc_get0]
      rfl
    have hbig : ¬ n < 248 := by
      intro h
      simp [size, h] at hc
      omega
    have hz : size n = 1 + blen n := by simp [size, hbig]
    have hb := blen_le n (by omega) hn
    unfold get
    rw [if_neg (by omega)]
    simp only [Int.toNat_natCast, hg, if_neg hbig]
    have e : (UInt8.ofNat (247 + blen n)).toNat = 247 + blen n := by simp; omega
    rw [e, if_neg (by omega), if_pos (by rw [hl]; omega)]

theorem put_append (a b : List Nat) : put (a ++ b) = put a ++ put b := by simp [put]
theorem put_cons (n : Nat) (b : List Nat) : put (n :: b) = enc n ++ put b := by simp [put]

/-- What was put is had, whatever follows. -/
theorem row_put (l : List Nat) (z : List UInt8) (hl : ∀ n ∈ l, n < 2^64) (k : Nat) (hk : k ≤ l.length) : row (put l ++ z) 0 k = (l.take k, ((put (l.take k)).length : Int), 0) := by
  induction k with
  | zero => simp [row, put]
  | succ k ih =>
    have h1 := ih (by omega)
    have hlt : k < l.length := by omega
    have e : put l ++ z = put (l.take k) ++ enc l[k] ++ (put (l.drop (k + 1)) ++ z) := by
      have : l = l.take k ++ l[k] :: l.drop (k + 1) := by
        rw [← List.drop_eq_getElem_cons hlt, List.take_append_drop]
      conv => lhs; rw [this, put_append, put_cons]
      simp [List.append_assoc]
    have hg := get_mid (put (l.take k)) (put (l.drop (k + 1)) ++ z) l[k] (hl _ (List.getElem_mem hlt))
    rw [← e] at hg
    have h2 := row_snoc _ k 0 _ _ h1 (by rw [hg])
    rw [h2, hg]
    rw [List.take_succ_eq_append_getElem hlt, put_append]
    simp [put, enc_length]

/-- The bytes up to a number. -/
theorem put_split (l : List Nat) (k : Nat) (hlt : k < l.length) : put l = put (l.take k) ++ enc l[k] ++ put (l.drop (k + 1)) := by
  have : l = l.take k ++ l[k] :: l.drop (k + 1) := by
    rw [← List.drop_eq_getElem_cons hlt, List.take_append_drop]
  conv => lhs; rw [this, put_append, put_cons]
  simp [List.append_assoc]

/-- Cut within number k: that is where it stops. -/
theorem row_cut (l : List Nat) (hl : ∀ n ∈ l, n < 2^64) (k c : Nat) (hk : k < l.length) (h1 : (put (l.take k)).length ≤ c) (h2 : c < (put (l.take k)).length + size l[k]) :
    row ((put l).take c) 0 l.length = ([], ((put (l.take k)).length : Int), 3) := by
  have hn := hl _ (List.getElem_mem hk)
  have e : (put l).take c = put (l.take k) ++ (enc l[k]).take (c - (put (l.take k)).length) := by
    rw [put_split l k hk, List.append_assoc, List.take_append, List.take_of_length_le h1, List.take_append]
    have : c - (put (l.take k)).length - (enc l[k]).length = 0 := by rw [enc_length]; omega
    rw [this]
    simp
  have hg := get_cut (put (l.take k)) l[k] (c - (put (l.take k)).length) hn (by omega)
  have hr := row_put (l.take k) ((enc l[k]).take (c - (put (l.take k)).length)) (fun n hn => hl n (List.mem_of_mem_take hn)) k (by rw [List.length_take]; omega)
  rw [← e] at hg hr
  rw [List.take_take, Nat.min_self] at hr
  have hs := row_stop _ k l.length 0 _ _ hr (by rw [hg]; show (3 : Int) ≠ 0; decide) hk
  rw [hs, hg]

theorem get_put (s : List UInt8) (p : Nat) (v : Nat) (x : Int) (h : get s p = (v, x, 0)) : enc v = (s.drop p).take (x.toNat - p) ∧ v < 2 ^ 64 := by
  unfold get at h
  split at h
  · simp only [Prod.mk.injEq] at h; omega
  · rename_i h1
    have hp : p < s.length := by omega
    have hg : s.getD p 0 = s[p] := by rw [List.getD_eq_getElem?_getD, List.getElem?_eq_getElem hp]; rfl
    simp only [Int.toNat_natCast, hg] at h
    split at h
    · rename_i h2
      simp only [Prod.mk.injEq] at h
      obtain ⟨rfl, rfl, _⟩ := h
      have e : ((p : Int) + 1).toNat - p = 1 := by
        show (((p + 1 : Nat) : Int)).toNat - p = 1
        rw [Int.toNat_natCast]; omega
      rw [e, List.drop_eq_getElem_cons hp]
      exact ⟨by rw [List.take_succ_cons, List.take_zero]; simp [enc, h2], Nat.lt_of_lt_of_le h2 (by decide)⟩
    · rename_i h2
      split at h
      · simp only [Prod.mk.injEq] at h; omega
      · rename_i h3
        split at h
        · rename_i h4
          have h8 := UInt8.toNat_lt s[p]
          obtain ⟨m, hm⟩ : ∃ m, s[p].toNat = m + 247 := ⟨s[p].toNat - 247, by omega⟩
          rw [hm] at h h3 h4 h8
          rw [Nat.add_sub_cancel] at h h3 h4
          simp only [Prod.mk.injEq] at h
          obtain ⟨rfl, rfl, _⟩ := h
          have := (enc_of s p m hp hm (by omega) (by omega)).2 h4
          have e : ((p : Int) + 1 + (m : Nat)).toNat - p = 1 + m := by
            show (((p + 1 + m : Nat) : Int)).toNat - p = 1 + m
            rw [Int.toNat_natCast]; omega
          rw [e]
          refine ⟨this, ?_⟩
          have hv := val_lt ((s.drop (p + 1)).take m)
          have hq : ((s.drop (p + 1)).take m).length ≤ 8 := by rw [List.length_take]; omega
          have h9 : (256 : Nat) ^ ((s.drop (p + 1)).take m).length ≤ 256 ^ 8 := Nat.pow_le_pow_right (by decide) hq
          exact Nat.lt_of_lt_of_le hv h9
        · simp only [Prod.mk.injEq] at h; omega

end Vy
