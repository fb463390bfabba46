/- Plain: frames are had again from their bytes, wherever they stand; what is cut; what another byte does. -/
import Derived.Test.YtmoegdjpmcjhcaaKi
import Derived.Test.YtmoegdjpmcjhcaaVaryQ
namespace Go.Proofs.Ytmoegdjpmcjhcaa

theorem Vy.get_rel (s : List UInt8) (k : Nat) (hk : k ≤ s.length) : Vy.get s k = ((Vy.get (s.drop k) 0).1, (k : Int) + (Vy.get (s.drop k) 0).2.1, (Vy.get (s.drop k) 0).2.2) := by
  have hl : (s.drop k).length = s.length - k := List.length_drop
  by_cases h : s.length ≤ k
  · have h1 : Vy.get s k = (0, (k : Int), 3) := by unfold Vy.get; rw [if_pos (by omega)]
    have h2 : Vy.get (s.drop k) 0 = (0, 0, 3) := by unfold Vy.get; rw [if_pos (by omega)]
    rw [h1, h2]
    simp
  · have n1 : ¬ ((k : Int) < 0 ∨ (s.length : Int) ≤ k) := by omega
    have n2 : ¬ ((0 : Int) < 0 ∨ ((s.drop k).length : Int) ≤ 0) := by omega
    have e1 : (s.drop k).getD 0 0 = s.getD k 0 := by
      rw [List.getD_eq_getElem?_getD, List.getD_eq_getElem?_getD, List.getElem?_drop]
      rfl
    have e2 : (s.drop k).drop (0 + 1) = s.drop (k + 1) := by
      rw [List.drop_drop]
    unfold Vy.get
    rw [if_neg n1, if_neg n2]
    simp only [Int.toNat_natCast, Int.toNat_zero, e1, e2, hl, Nat.sub_zero]
    generalize s.getD k 0 = c
    generalize s.length - k = r
    by_cases h1 : c.toNat < 248
    · simp [h1]
    · simp only [h1, if_false]
      by_cases h2 : r ≤ c.toNat - 247
      · simp [h2]
      · simp only [h2, if_false]
        split
        · simp [Int.add_assoc]
        · simp

theorem Fr.get_rel (s : List UInt8) (k : Nat) (hk : k ≤ s.length) : Fr.get s k = ((Fr.get (s.drop k) 0).1, (k : Int) + (Fr.get (s.drop k) 0).2.1, (Fr.get (s.drop k) 0).2.2) := by
  have hl : (s.drop k).length = s.length - k := List.length_drop
  have hv := Vy.get_rel s k hk
  obtain ⟨⟨n, x, e⟩, hr⟩ : ∃ r, Vy.get (s.drop k) 0 = r := ⟨_, rfl⟩
  rw [hr] at hv
  dsimp only at hv
  have n1 : ((k : Int) < 0 ∨ (s.length : Int) < k) = False := eq_false (by omega)
  have n2 : ((0 : Int) < 0 ∨ ((s.drop k).length : Int) < 0) = False := eq_false (by omega)
  unfold Fr.get
  simp only [hv, hr, n1, n2, if_false]
  by_cases h : s.length = k
  · have c1 : ((k : Int) = s.length) = True := eq_true (by omega)
    have c2 : ((0 : Int) = ((s.drop k).length : Int)) = True := eq_true (by omega)
    simp only [c1, c2, if_true]
    simp
  · have c1 : ((k : Int) = s.length) = False := eq_false (by omega)
    have c2 : ((0 : Int) = ((s.drop k).length : Int)) = False := eq_false (by omega)
    simp only [c1, c2, if_false]
    by_cases h1 : e = 0
    rotate_left
    · simp [h1]
    subst h1
    have hok := Vy.get_ok _ _ _ _ hr
    simp only [ne_eq, not_true_eq_false, if_false]
    by_cases h2 : n = 0 ∨ 300 < n
    · simp [h2]
    · simp only [h2, if_false]
      by_cases h3 : (s.length : Int) < k + x + n + 4
      · have c3 : (((s.drop k).length : Int) < x + n + 4) = True := eq_true (by omega)
        simp only [h3, c3, if_true]
        simp
      · have c3 : (((s.drop k).length : Int) < x + n + 4) = False := eq_false (by omega)
        simp only [h3, c3, if_false]
        obtain ⟨m, rfl⟩ : ∃ m : Nat, x = m := ⟨x.toNat, by omega⟩
        have e1 : ((k : Int) + m + n + 4).toNat - (k : Int).toNat = ((m : Int) + n + 4).toNat - (0 : Int).toNat := by omega
        have e2 : ((k : Int) + m).toNat = k + m := by omega
        rw [e1, e2]
        simp only [Int.toNat_natCast, List.drop_drop, Int.toNat_zero, Nat.add_zero]
        split
        · simp
        · simp; omega

theorem Cr.open_seal (s : List UInt8) : Cr.openOk (Cr.seal s) = true := by
  unfold Cr.openOk
  have hl := Cr.seal_length s
  have e : (Cr.seal s).take ((Cr.seal s).length - 4) = s := by
    rw [hl, Nat.add_sub_cancel]
    unfold Cr.seal
    simp
  rw [e]
  simp [hl]

theorem Fr.put_ok (p : List UInt8) : (Fr.put p).2 = 0 ↔ p.length ≠ 0 ∧ p.length ≤ 300 := by
  unfold Fr.put
  split
  · rename_i h
    exact ⟨fun h => absurd h (by decide), fun _ => by omega⟩
  · rename_i h
    exact ⟨fun _ => by omega, fun _ => rfl⟩

theorem Fr.put_eq (p : List UInt8) (h : p.length ≠ 0 ∧ p.length ≤ 300) : Fr.put p = (Cr.seal (Vy.enc p.length ++ p), 0) := by
  unfold Fr.put
  rw [if_neg (by omega)]

theorem Fr.put_no (p : List UInt8) (h : ¬ (p.length ≠ 0 ∧ p.length ≤ 300)) : Fr.put p = ([], 4) := by
  unfold Fr.put
  rw [if_pos (by omega)]

theorem Fr.put_length (p : List UInt8) (h : p.length ≠ 0 ∧ p.length ≤ 300) : (Fr.put p).1.length = Vy.size p.length + p.length + 4 := by
  rw [Fr.put_eq p h, Cr.seal_length, List.length_append, Vy.enc_length]

theorem Fr.size_bd (p : List UInt8) (h : p.length ≠ 0 ∧ p.length ≤ 300) : 1 ≤ Vy.size p.length ∧ Vy.size p.length ≤ 9 := Vy.size_bd _ (by omega)

theorem Fr.put_le (p : List UInt8) : (Fr.put p).1.length ≤ 313 := by
  by_cases h : p.length ≠ 0 ∧ p.length ≤ 300
  · rw [Fr.put_length p h]
    have := Fr.size_bd p h
    omega
  · rw [Fr.put_no p h]; simp

theorem Fr.get_mid (p y : List UInt8) (h : p.length ≠ 0 ∧ p.length ≤ 300) : Fr.get ((Fr.put p).1 ++ y) 0 = (p, ((Fr.put p).1.length : Int), 0) := by
  have hl := Fr.put_length p h
  have hsz := Fr.size_bd p h
  rw [Fr.put_eq p h] at hl ⊢
  dsimp only at hl ⊢
  have hv := Vy.get_mid [] (p ++ Cr.four (Cr.sum (Vy.enc p.length ++ p)) ++ y) p.length (by omega)
  have es : Cr.seal (Vy.enc p.length ++ p) ++ y = [] ++ Vy.enc p.length ++ (p ++ Cr.four (Cr.sum (Vy.enc p.length ++ p)) ++ y) := by
    unfold Cr.seal
    simp [List.append_assoc]
  rw [← es] at hv
  simp only [List.length_nil, Int.ofNat_zero, Int.zero_add] at hv
  have hv' : Vy.get (Cr.seal (Vy.enc p.length ++ p) ++ y) 0 = (p.length, (Vy.size p.length : Int), 0) := by simpa using hv
  have ht : (Cr.seal (Vy.enc p.length ++ p) ++ y).length = Vy.size p.length + p.length + 4 + y.length := by rw [List.length_append, hl]
  unfold Fr.get
  rw [hv', if_neg (by omega), if_neg (by rw [ht]; omega)]
  dsimp only
  rw [if_neg (by simp), if_neg (by omega), if_neg (by rw [ht]; omega)]
  have e1 : ((Vy.size p.length : Int) + p.length + 4).toNat - (0 : Int).toNat = (Cr.seal (Vy.enc p.length ++ p)).length := by rw [hl]; omega
  rw [e1, Int.toNat_zero, List.drop_zero, List.take_left, Cr.open_seal, if_neg (by simp)]
  have e2 : ((Cr.seal (Vy.enc p.length ++ p) ++ y).drop (Vy.size p.length : Int).toNat).take p.length = p := by
    unfold Cr.seal
    rw [Int.toNat_natCast, List.append_assoc, List.append_assoc, List.drop_append, List.drop_of_length_le (by rw [Vy.enc_length]; omega), Vy.enc_length, Nat.sub_self, List.drop_zero, List.nil_append, List.take_append, Nat.sub_self, List.take_length]
    simp
  rw [e2, hl]
  simp

theorem Fr.get_put (s p : List UInt8) (x : Int) (h : Fr.get s 0 = (p, x, 0)) : (p.length ≠ 0 ∧ p.length ≤ 300) ∧ x = ((Fr.put p).1.length : Int) ∧ s.take x.toNat = (Fr.put p).1 := by
  unfold Fr.get at h
  split at h
  · simp at h
  split at h
  · simp at h
  split at h
  · rename_i h1
    simp only [Prod.mk.injEq] at h
    exact absurd h.2.2 h1
  split at h
  · simp at h
  split at h
  · simp at h
  split at h
  · simp at h
  rename_i h0 h1 h2 h3 h4 h5
  obtain ⟨⟨n, m, e⟩, hr⟩ : ∃ r, Vy.get s 0 = r := ⟨_, rfl⟩
  rw [hr] at h h2 h3 h4 h5
  dsimp only at h h2 h3 h4 h5
  have h2 : e = 0 := by simpa using h2
  subst h2
  have hok := Vy.get_ok _ _ _ _ hr
  obtain ⟨m, rfl⟩ : ∃ k : Nat, m = k := ⟨m.toNat, by omega⟩
  have hp := Vy.get_put s 0 n m hr
  obtain ⟨hp, hn⟩ := hp
  simp only [Int.toNat_natCast, List.drop_zero, Nat.sub_zero, Int.toNat_zero] at hp h h5
  simp only [Prod.mk.injEq] at h
  obtain ⟨hpp, hx, _⟩ := h
  have hpl : p.length = n := by rw [← hpp, List.length_take, List.length_drop]; omega
  have hm : m = Vy.size n := by
    rw [← Vy.enc_length, hp, List.length_take]
    omega
  have hbd : p.length ≠ 0 ∧ p.length ≤ 300 := by omega
  have hl := Fr.put_length p hbd
  refine ⟨hbd, by rw [hl, ← hx, hm, hpl]; push_cast; omega, ?_⟩
  have ex : x.toNat = m + n + 4 := by omega
  have e5 : ((m : Int) + n + 4).toNat = m + n + 4 := by omega
  rw [e5] at h5
  have h5 : Cr.openOk (s.take (m + n + 4)) = true := by simpa using h5
  unfold Cr.openOk at h5
  have hlen : (s.take (m + n + 4)).length = m + n + 4 := by rw [List.length_take]; omega
  rw [hlen, Nat.add_sub_cancel, List.take_take, Nat.min_eq_left (by omega)] at h5
  have h6 : Cr.seal (s.take (m + n)) = s.take (m + n + 4) := by
    simp only [Bool.and_eq_true, beq_iff_eq] at h5
    exact h5.2
  rw [Fr.put_eq p hbd, ex]
  dsimp only
  rw [← h6, hpl, hp, ← hpp]
  congr 1
  rw [← List.take_append_drop m (s.take (m + n)), List.take_take, Nat.min_eq_left (by omega), List.drop_take, Nat.add_sub_cancel_left]

theorem Fr.get_cut (p : List UInt8) (c : Nat) (h : p.length ≠ 0 ∧ p.length ≤ 300) (h0 : 0 < c) (hc : c < (Fr.put p).1.length) : Fr.get ((Fr.put p).1.take c) 0 = ([], 0, 3) := by
  have hl := Fr.put_length p h
  have hsz := Fr.size_bd p h
  have htl : ((Fr.put p).1.take c).length = c := by rw [List.length_take]; omega
  have e : (Fr.put p).1 = Vy.enc p.length ++ (p ++ Cr.four (Cr.sum (Vy.enc p.length ++ p))) := by rw [Fr.put_eq p h]; unfold Cr.seal; simp [List.append_assoc]
  by_cases h1 : c < Vy.size p.length
  · have hv := Vy.get_cut [] p.length c (by omega) h1
    have e2 : (Fr.put p).1.take c = [] ++ (Vy.enc p.length).take c := by
      rw [e, List.take_append_of_le_length (by rw [Vy.enc_length]; omega)]; rfl
    rw [← e2] at hv
    have hv' : Vy.get ((Fr.put p).1.take c) 0 = (0, 0, 3) := by simpa using hv
    unfold Fr.get
    rw [hv', htl, if_neg (by omega), if_neg (by omega)]
    simp
  · have hv := Vy.get_mid [] ((p ++ Cr.four (Cr.sum (Vy.enc p.length ++ p))).take (c - Vy.size p.length)) p.length (by omega)
    have e2 : (Fr.put p).1.take c = [] ++ Vy.enc p.length ++ (p ++ Cr.four (Cr.sum (Vy.enc p.length ++ p))).take (c - Vy.size p.length) := by
      rw [e, List.take_append, List.take_of_length_le (by rw [Vy.enc_length]; omega), Vy.enc_length]; rfl
    rw [← e2] at hv
    have hv' : Vy.get ((Fr.put p).1.take c) 0 = (p.length, (Vy.size p.length : Int), 0) := by simpa using hv
    unfold Fr.get
    rw [hv', htl, if_neg (by omega), if_neg (by omega)]
    dsimp only
    rw [if_neg (by simp), if_neg (by omega), if_pos (by omega)]

/-- What stands at a place, moved. -/
theorem Fr.get_moved (s y : List UInt8) (k : Nat) (hk : k ≤ s.length) : Fr.get (y ++ s) ((y.length : Int) + k) = ((Fr.get s k).1, (Fr.get s k).2.1 + y.length, (Fr.get s k).2.2) := by
  have h := Fr.get_rel (y ++ s) (y.length + k) (by rw [List.length_append]; omega)
  have h2 := Fr.get_rel s k hk
  have e : (y ++ s).drop (y.length + k) = s.drop k := by
    rw [List.drop_append, List.drop_of_length_le (by omega)]; simp
  rw [e] at h
  have e2 : (((y.length + k : Nat)) : Int) = (y.length : Int) + k := by omega
  rw [e2] at h
  rw [h, h2]
  dsimp only
  congr 2
  omega

theorem Fr.get_tail (s : List UInt8) (k : Nat) (hk : k ≤ s.length) : Fr.get (s.drop k) 0 = ((Fr.get s k).1, (Fr.get s k).2.1 - k, (Fr.get s k).2.2) := by
  have h2 := Fr.get_rel s k hk
  rw [h2]
  dsimp only
  rw [show (k : Int) + (Fr.get (s.drop k) 0).2.1 - k = (Fr.get (s.drop k) 0).2.1 by omega]

theorem Fr.get_own (s y : List UInt8) (k : Nat) (hk : k ≤ s.length) (h : (Fr.get s k).2.2 = 0) : Fr.get (s.take (Fr.get s k).2.1.toNat ++ y) k = Fr.get s k := by
  have hw := Fr.get_way s k h
  have h2 := Fr.get_tail s k hk
  rw [h] at h2
  obtain ⟨⟨p, x, e⟩, hr⟩ : ∃ r, Fr.get s k = r := ⟨_, rfl⟩
  rw [hr] at h h2 hw ⊢
  dsimp only at h h2 hw ⊢
  subst h
  obtain ⟨x, rfl⟩ : ∃ n : Nat, x = n := ⟨x.toNat, by omega⟩
  obtain ⟨g1, g2, g3⟩ := Fr.get_put _ _ _ h2
  have hl : (s.take (x : Int).toNat ++ y).length = x + y.length := by simp; omega
  have e1 : (s.take (x : Int).toNat ++ y).drop k = (Fr.put p).1 ++ y := by
    rw [← g3, Int.toNat_natCast, List.drop_append, List.length_take, List.drop_take]
    have : k - min x s.length = 0 := by omega
    rw [this, List.drop_zero]
    congr 2
    omega
  have h3 := Fr.get_rel (s.take (x : Int).toNat ++ y) k (by omega)
  rw [e1, Fr.get_mid p y g1, ← g2] at h3
  dsimp only at h3
  rw [h3, show (k : Int) + (x - k) = x by omega]

end Go.Proofs.Ytmoegdjpmcjhcaa
