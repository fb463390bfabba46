/- Plain laws of a manifest's bytes: what is put is had; what is had is right, and is put just so. -/
import Derived.Test.YtbbgmaklmlagcaaGn
namespace Go.Proofs.Ytbbgmaklmlagcaa
open Go
set_option maxRecDepth 100000

/-- What is had of any bytes is put just so. -/
theorem Vy.row_back (s : List UInt8) : ∀ (n p : Nat) (vs : List Nat) (x : Int), p ≤ s.length → Vy.row s (p : Int) n = (vs, x, 0) → (p : Int) ≤ x ∧ x ≤ s.length ∧ Vy.put vs = (s.drop p).take (x.toNat - p) ∧ ∀ v ∈ vs, v < 2 ^ 64
  | 0, p, vs, x, hp, h => by
    simp only [Vy.row, Prod.mk.injEq] at h
    obtain ⟨rfl, rfl, _⟩ := h
    refine ⟨by omega, by omega, by simp [Vy.put], by simp⟩
  | n + 1, p, vs, x, hp, h => by
    obtain ⟨⟨v, y, e⟩, hg⟩ : ∃ r, Vy.get s p = r := ⟨_, rfl⟩
    unfold Vy.row at h
    rw [hg] at h
    simp only at h
    by_cases he : e = 0
    · subst he
      rw [if_pos rfl] at h
      obtain ⟨g1, g2, g3⟩ := Vy.get_ok _ _ _ _ hg
      obtain ⟨e1, e2⟩ := Vy.get_put _ _ _ _ hg
      obtain ⟨⟨ws, z, e⟩, hr⟩ : ∃ r, Vy.row s y n = r := ⟨_, rfl⟩
      rw [hr] at h
      simp only at h
      by_cases h0 : e = 0
      · subst h0
        rw [if_pos rfl] at h
        simp only [Prod.mk.injEq] at h
        obtain ⟨rfl, rfl, _⟩ := h
        rw [show y = ((y.toNat : Nat) : Int) by omega] at hr
        obtain ⟨a1, a2, a3, a4⟩ := Vy.row_back s n y.toNat ws z (by omega) hr
        refine ⟨by omega, by omega, ?_, ?_⟩
        · rw [Vy.put_cons, e1, a3]
          have : z.toNat - p = (y.toNat - p) + (z.toNat - y.toNat) := by omega
          rw [this, List.take_add, List.drop_drop, show p + (y.toNat - p) = y.toNat by omega]
        · intro w hw
          rcases List.mem_cons.1 hw with rfl | hw
          · exact e2
          · exact a4 w hw
      · rw [if_neg h0] at h
        simp only [Prod.mk.injEq] at h
        exact absurd h.2.2 h0
    · rw [if_neg he] at h
      simp only [Prod.mk.injEq] at h
      exact absurd h.2.2 he

theorem numI_small {n : Nat} (h : n ≤ 1099511627776) : numI n = n := by unfold numI; omega
theorem numI_le {n : Nat} (h : numI n ≤ 1000000000) : numI n = n := by unfold numI at h ⊢; omega

theorem toSgs_nums (l : List Sg) (h : ∀ x ∈ l, (0 ≤ x.1 ∧ x.1 ≤ 1000000000) ∧ (0 ≤ x.2.1 ∧ x.2.1 ≤ 1000000000) ∧ (0 ≤ x.2.2 ∧ x.2.2 ≤ 1000000000)) : toSgs (sgNums l) = l := by
  induction l with
  | nil => rfl
  | cons s l ih =>
    have hs := h s List.mem_cons_self
    have ih2 := ih fun x hx => h x (List.mem_cons_of_mem _ hx)
    obtain ⟨a, b, c⟩ := s
    simp only at hs
    simp only [sgNums, List.cons_append, List.nil_append, toSgs, ih2]
    rw [numI_small (by omega), numI_small (by omega), numI_small (by omega)]
    rw [Int.toNat_of_nonneg (by omega), Int.toNat_of_nonneg (by omega), Int.toNat_of_nonneg (by omega)]

theorem Mf.ofN_nums {m : Mf} (h : m.right = true) : Mf.ofN m.nums = m := by
  obtain ⟨h1, h2, h3⟩ := Mf.right_parts h
  obtain ⟨v, f, n, l⟩ := m
  simp only at h1 h2 h3
  simp only [Mf.ofN, Mf.nums, List.cons_append, List.nil_append, List.getD_cons_zero, List.getD_cons_succ, List.drop_succ_cons, List.drop_zero]
  rw [numI_small (by omega), numI_small (by omega), numI_small (by omega), toSgs_nums l fun x hx => by have := h3 x hx; omega]
  rw [Int.toNat_of_nonneg (by omega), Int.toNat_of_nonneg (by omega), Int.toNat_of_nonneg (by omega)]

/-- A row in two parts. -/
theorem Vy.row_put2 (l : List Nat) (hl : ∀ n ∈ l, n < 2^64) (k : Nat) (_hk : k ≤ l.length) : Vy.row (Vy.put l) ((Vy.put (l.take k)).length : Int) (l.length - k) = (l.drop k, ((Vy.put l).length : Int), 0) := by
  have e : Vy.put l = Vy.put (l.take k) ++ Vy.put (l.drop k) := by rw [← Vy.put_append, List.take_append_drop]
  have hd : (Vy.put l).drop (Vy.put (l.take k)).length = Vy.put (l.drop k) := by rw [e, List.drop_left]
  have h := Vy.row_rel (Vy.put l) (Vy.put (l.take k)).length (by rw [e]; simp) (l.length - k) 0 (by omega)
  have h2 := Vy.row_put (l.drop k) [] (fun n hn => hl n (List.mem_of_mem_drop hn)) (l.length - k) (by simp)
  rw [List.append_nil, show List.take (l.length - k) (l.drop k) = l.drop k from List.take_of_length_le (by simp)] at h2
  have z : ((0 : Nat) : Int) = 0 := rfl
  rw [hd, z, h2, Int.add_zero] at h
  rw [h, e, List.length_append]
  simp

theorem Mf.read_put {m : Mf} (h : m.right = true) : Mf.read (Vy.put m.nums) = (m, 0) := by
  obtain ⟨h1, h2, h3⟩ := Mf.right_parts h
  have hb := Mf.nums_lt h
  have hb2 : ∀ n ∈ m.nums, n < 2 ^ 64 := fun n hn => Nat.lt_trans (hb n hn) (by decide)
  have hn := Mf.nums_length m
  have r1 := Vy.row_put m.nums [] hb2 4 (by omega)
  rw [List.append_nil] at r1
  have r2 := Vy.row_put2 m.nums hb2 4 (by omega)
  have e4 : m.nums.length - 4 = 3 * m.segs.length := by omega
  rw [e4] at r2
  have hg : (m.nums.take 4).getD 3 0 = m.segs.length := by simp [Mf.nums]
  unfold Mf.read
  rw [r1]
  simp only
  rw [hg, r2]
  simp only
  rw [if_neg (by simp), if_neg (by omega), if_neg (by simp), if_neg (by simp), List.take_append_drop, Mf.ofN_nums h, if_pos h]

theorem Mf.get_put {m : Mf} (h : m.right = true) : Mf.get m.bytes = (m, 0) := by
  have e1 : (m.bytes.take (m.bytes.length - 4)) = [67, 77, 1] ++ Vy.put m.nums := by
    unfold Mf.bytes
    rw [Cr.seal_length, Nat.add_sub_cancel]
    unfold Cr.seal
    rw [List.take_left]
  unfold Mf.get
  rw [if_neg (by unfold Mf.bytes; rw [Cr.open_seal]; simp), e1, if_neg (by simp), if_neg (by simp)]
  simp only [List.cons_append, List.nil_append, List.drop_succ_cons, List.drop_zero]
  exact Mf.read_put h

theorem sgNums_toSgs : ∀ (k : Nat) (l : List Nat), l.length = k * 3 → (∀ x ∈ toSgs l, x.1 ≤ 1000000000 ∧ x.2.1 ≤ 1000000000 ∧ x.2.2 ≤ 1000000000) → sgNums (toSgs l) = l
  | 0, l, h, _ => by
    have : l = [] := by simpa using h
    subst this; rfl
  | k + 1, l, h, hb => by
    match l, h with
    | x :: y :: z :: l, h =>
      simp only [toSgs, List.mem_cons, forall_eq_or_imp] at hb
      have ih := sgNums_toSgs k l (by simp at h; omega) hb.2
      simp only [toSgs, sgNums, ih, List.cons_append, List.nil_append]
      rw [numI_le hb.1.1, numI_le hb.1.2.1, numI_le hb.1.2.2]
      simp
    | [x, y], h => simp at h; omega
    | [x], h => simp at h; omega
    | [], h => simp at h

theorem Mf.nums_ofN (l : List Nat) (k : Nat) (hl : l.length = 4 + k * 3) (h3 : l.getD 3 0 = k) (h : (Mf.ofN l).right = true) : (Mf.ofN l).nums = l := by
  obtain ⟨h1, h2, h4⟩ := Mf.right_parts h
  match l, hl with
  | a :: b :: c :: d :: l, hl =>
    simp only [List.length_cons] at hl
    have hk : l.length = k * 3 := by omega
    simp only [List.getD_cons_zero, List.getD_cons_succ] at h3
    subst h3
    simp only [Mf.ofN, List.getD_cons_zero, List.getD_cons_succ, List.drop_succ_cons, List.drop_zero] at h1 h2 h4
    have e1 : numI a = a := numI_le (by omega)
    have e2 : numI b = b := numI_le (by omega)
    have e3 : numI c = c := numI_le (by omega)
    have e4 : sgNums (toSgs l) = l := sgNums_toSgs d l hk fun x hx => by have := h4 x hx; omega
    have e5 : (toSgs l).length = d := toSgs_length d l hk
    simp [Mf.ofN, Mf.nums, e1, e2, e3, e4, e5]
  | [], hl => simp at hl; omega
  | [_], hl => simp at hl; omega
  | [_, _], hl => simp at hl; omega
  | [_, _, _], hl => simp at hl; omega

theorem Mf.read_back (s : List UInt8) (m : Mf) (h : Mf.read s = (m, 0)) : m.right = true ∧ Vy.put m.nums = s := by
  unfold Mf.read at h
  obtain ⟨⟨l4, x4, e4⟩, h4⟩ : ∃ q, Vy.row s 0 4 = q := ⟨_, rfl⟩
  rw [h4] at h
  simp only at h
  obtain ⟨⟨L, y, e2⟩, h5⟩ : ∃ q, Vy.row s x4 (3 * l4.getD 3 0) = q := ⟨_, rfl⟩
  rw [h5] at h
  simp only at h
  by_cases c1 : e4 = 0
  rotate_left
  · rw [if_pos c1] at h; simp only [Prod.mk.injEq] at h; exact absurd h.2 c1
  subst c1
  rw [if_neg (by simp)] at h
  by_cases c2 : 1000 < l4.getD 3 0
  · rw [if_pos c2] at h; simp at h
  rw [if_neg c2] at h
  by_cases c3 : e2 = 0
  rotate_left
  · rw [if_pos c3] at h; simp only [Prod.mk.injEq] at h; exact absurd h.2 c3
  subst c3
  rw [if_neg (by simp)] at h
  by_cases c4 : y < (s.length : Int)
  · rw [if_pos c4] at h; simp at h
  rw [if_neg c4] at h
  split at h
  rotate_left
  · simp at h
  rename_i c5
  simp only [Prod.mk.injEq, and_true] at h
  have a1 := (Vy.row_length _ _ _ _ _ h4).1
  have a2 := (Vy.row_length _ _ _ _ _ h5).1
  obtain ⟨b1, b2, b3, _⟩ := Vy.row_back s 4 0 l4 x4 (by omega) h4
  rw [show x4 = ((x4.toNat : Nat) : Int) by omega] at h5
  obtain ⟨d1, d2, d3, _⟩ := Vy.row_back s _ x4.toNat L y (by omega) h5
  have hlen : (l4 ++ L).length = 4 + l4.getD 3 0 * 3 := by simp only [List.length_append]; omega
  have hg : (l4 ++ L).getD 3 0 = l4.getD 3 0 := by
    rw [List.getD_eq_getElem?_getD, List.getD_eq_getElem?_getD, List.getElem?_append_left (by omega)]
  have e := Mf.nums_ofN (l4 ++ L) _ hlen hg c5
  rw [h] at e c5
  refine ⟨c5, ?_⟩
  rw [e, Vy.put_append, b3, d3]
  simp only [List.drop_zero, Nat.sub_zero]
  rw [show y.toNat - x4.toNat = (s.drop x4.toNat).length by simp; omega, List.take_length, List.take_append_drop]

theorem Cr.open_parts (t : List UInt8) (h : Cr.openOk t = true) : Cr.seal (t.take (t.length - 4)) = t := by
  unfold Cr.openOk at h
  simp only [Bool.and_eq_true, beq_iff_eq] at h
  exact h.2

theorem Mf.get_back (t : List UInt8) (m : Mf) (h : Mf.get t = (m, 0)) : m.right = true ∧ m.bytes = t := by
  unfold Mf.get at h
  split at h
  · simp at h
  rename_i h1
  split at h
  · simp at h
  split at h
  · simp at h
  rename_i h3
  obtain ⟨r, e⟩ := Mf.read_back _ _ h
  refine ⟨r, ?_⟩
  unfold Mf.bytes
  rw [e]
  have h3' : List.take 3 (List.take (t.length - 4) t) = [67, 77, 1] := by simpa using h3
  rw [← h3', List.take_append_drop]
  exact Cr.open_parts t (by simpa using h1)

theorem Mf.bytes_inj {a b : Mf} (ha : a.right = true) (hb : b.right = true) (h : a.bytes = b.bytes) : a = b := by
  have h1 := Mf.get_put ha
  rw [h, Mf.get_put hb] at h1
  simp only [Prod.mk.injEq, and_true] at h1
  exact h1.symm

theorem Mf.get_code (t : List UInt8) : (Mf.get t).2 ≠ 0 → (Mf.get t).1 = Mf.zero := by
  intro h
  unfold Mf.get Mf.read at h ⊢
  split
  · rfl
  rename_i h1
  rw [if_neg h1] at h
  split
  · rfl
  rename_i h2
  rw [if_neg h2] at h
  split
  · rfl
  rename_i h3
  rw [if_neg h3] at h
  split
  · rfl
  rename_i h4
  rw [if_neg h4] at h
  split
  · rfl
  rename_i h5
  rw [if_neg h5] at h
  split
  · rfl
  rename_i h6
  rw [if_neg h6] at h
  split
  · rfl
  rename_i h7
  rw [if_neg h7] at h
  split
  · rename_i h8
    rw [if_pos h8] at h
    exact absurd rfl h
  · rfl

end Go.Proofs.Ytbbgmaklmlagcaa
