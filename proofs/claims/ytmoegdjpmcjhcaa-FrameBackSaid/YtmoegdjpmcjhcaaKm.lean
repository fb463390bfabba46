/- Plain: rows of frames; what another byte does to a sum. -/
import Derived.Test.YtmoegdjpmcjhcaaKj
namespace Go.Proofs.Ytmoegdjpmcjhcaa

/-- Frames, one behind the other. -/
def Fr.cat (l : List (List UInt8)) : List UInt8 := (l.map fun p => (Fr.put p).1).flatten

@[simp] theorem Fr.cat_nil : Fr.cat [] = [] := rfl
theorem Fr.cat_cons (p : List UInt8) (l : List (List UInt8)) : Fr.cat (p :: l) = (Fr.put p).1 ++ Fr.cat l := by simp [Fr.cat]
theorem Fr.cat_append (l m : List (List UInt8)) : Fr.cat (l ++ m) = Fr.cat l ++ Fr.cat m := by simp [Fr.cat]
theorem Fr.cat_le (l : List (List UInt8)) : (Fr.cat l).length ≤ 313 * l.length := by
  induction l with
  | nil => simp
  | cons p l ih =>
    rw [Fr.cat_cons, List.length_append, List.length_cons]
    have := Fr.put_le p
    omega

/-- A payload that can be laid. -/
def Fr.ok (p : List UInt8) : Prop := p.length ≠ 0 ∧ p.length ≤ 300

theorem Fr.all_take (s : List UInt8) : ∀ (m a : Nat), a ≤ s.length → s.length - a ≤ m → ∀ l x f, Fr.all s a = (l, x, f) → (a : Int) ≤ x ∧ x ≤ s.length ∧ (∀ p ∈ l, Fr.ok p) ∧ Fr.cat l = (s.drop a).take (x.toNat - a) := by
  intro m
  induction m with
  | zero =>
    intro a ha hm l x f h
    have hn : (Fr.get s a).2.2 ≠ 0 := fun h0 => by have := Fr.get_way s a h0; omega
    rw [Fr.all_end s a (by omega) hn] at h
    simp only [Prod.mk.injEq] at h
    obtain ⟨rfl, rfl, _⟩ := h
    refine ⟨by omega, by omega, by simp, by simp⟩
  | succ m ih =>
    intro a ha hm l x f h
    by_cases h0 : (Fr.get s a).2.2 = 0
    · obtain ⟨g1, g2, g3⟩ := Fr.get_way s a h0
      rw [Fr.all_ok s a h0] at h
      obtain ⟨⟨p, y, e⟩, hq⟩ : ∃ r, Fr.get s a = r := ⟨_, rfl⟩
      rw [hq] at h g2 g3 h0
      dsimp only at h g2 g3 h0
      subst h0
      obtain ⟨y, rfl⟩ : ∃ n : Nat, y = n := ⟨y.toNat, by omega⟩
      obtain ⟨⟨l', x', f'⟩, hr⟩ : ∃ r, Fr.all s y = r := ⟨_, rfl⟩
      rw [hr] at h
      simp only [Prod.mk.injEq] at h
      obtain ⟨rfl, rfl, rfl⟩ := h
      obtain ⟨k1, k2, k3, k4⟩ := ih y (by omega) (by omega) l' x' f' hr
      have ht := Fr.get_tail s a ha
      rw [hq] at ht
      obtain ⟨t1, t2, t3⟩ := Fr.get_put _ _ _ ht
      refine ⟨by omega, by omega, ?_, ?_⟩
      · intro q hq'
        rcases List.mem_cons.1 hq' with rfl | hq'
        · exact t1
        · exact k3 q hq'
      · rw [Fr.cat_cons, k4, ← t3]
        have e1 : ((y : Int) - a).toNat = y - a := by omega
        have e2 : s.drop y = (s.drop a).drop (y - a) := by rw [List.drop_drop]; congr 1; omega
        rw [e1, e2, show x'.toNat - a = (y - a) + (x'.toNat - y) by omega, List.take_add]
    · rw [Fr.all_end s a (by omega) h0] at h
      simp only [Prod.mk.injEq] at h
      obtain ⟨rfl, rfl, _⟩ := h
      refine ⟨by omega, by omega, by simp, by simp⟩

theorem Fr.all_moved (s y : List UInt8) : ∀ (m k : Nat), k ≤ s.length → s.length - k ≤ m → Fr.all (y ++ s) ((y.length : Int) + k) = ((Fr.all s k).1, (Fr.all s k).2.1 + y.length, (Fr.all s k).2.2) := by
  intro m
  induction m with
  | zero =>
    intro k hk hm
    have hg := Fr.get_moved s y k hk
    have hn : (Fr.get s k).2.2 ≠ 0 := fun h0 => by have := Fr.get_way s k h0; omega
    rw [Fr.all_end s k (by omega) hn, Fr.all_end (y ++ s) _ (by rw [List.length_append]; omega) (by rw [hg]; exact hn), hg]
    dsimp only
    rw [Int.add_comm]
  | succ m ih =>
    intro k hk hm
    have hg := Fr.get_moved s y k hk
    by_cases h0 : (Fr.get s k).2.2 = 0
    · obtain ⟨g1, g2, g3⟩ := Fr.get_way s k h0
      rw [Fr.all_ok s k h0, Fr.all_ok (y ++ s) _ (by rw [hg]; exact h0), hg]
      dsimp only
      obtain ⟨z, hz⟩ : ∃ n : Nat, (Fr.get s k).2.1 = n := ⟨(Fr.get s k).2.1.toNat, by omega⟩
      rw [hz] at g2 g3 ⊢
      rw [Int.add_comm (z : Int), ih z (by omega) (by omega)]
    · rw [Fr.all_end s k (by omega) h0, Fr.all_end (y ++ s) _ (by rw [List.length_append]; omega) (by rw [hg]; exact h0), hg]
      dsimp only
      rw [Int.add_comm]

theorem Fr.all_cat (z : List UInt8) : ∀ l : List (List UInt8), (∀ p ∈ l, Fr.ok p) → Fr.all (Fr.cat l ++ z) 0 = (l ++ (Fr.all z 0).1, (Fr.cat l).length + (Fr.all z 0).2.1, (Fr.all z 0).2.2)
  | [], _ => by simp
  | p :: l, h => by
    have hp := h p (List.mem_cons_self ..)
    have ih := Fr.all_cat z l fun q hq => h q (List.mem_cons_of_mem _ hq)
    have hg := Fr.get_mid p (Fr.cat l ++ z) hp
    rw [Fr.cat_cons, List.append_assoc, Fr.all_ok _ _ (by rw [hg]), hg]
    dsimp only
    have hm := Fr.all_moved (Fr.cat l ++ z) (Fr.put p).1 _ 0 (by omega) (Nat.le_refl _)
    rw [Int.ofNat_zero, Int.add_zero] at hm
    rw [hm, ih]
    dsimp only
    rw [List.length_append]
    refine Prod.ext rfl (Prod.ext ?_ rfl)
    dsimp only
    push_cast
    omega

theorem Fr.all_cut (l : List (List UInt8)) (h : ∀ p ∈ l, Fr.ok p) (w n : Nat) (hw : w < l.length) (h1 : (Fr.cat (l.take w)).length < n) (h2 : n < (Fr.cat (l.take (w + 1))).length) :
    Fr.all ((Fr.cat l).take n) 0 = (l.take w, ((Fr.cat (l.take w)).length : Int), 3) := by
  have e : l = l.take w ++ l[w] :: l.drop (w + 1) := by rw [← List.drop_eq_getElem_cons hw, List.take_append_drop]
  have hp : Fr.ok l[w] := h _ (List.getElem_mem hw)
  rw [List.take_succ_eq_append_getElem hw, Fr.cat_append, Fr.cat_cons, Fr.cat_nil, List.append_nil, List.length_append] at h2
  have e2 : (Fr.cat l).take n = Fr.cat (l.take w) ++ (Fr.put l[w]).1.take (n - (Fr.cat (l.take w)).length) := by
    conv => lhs; rw [e, Fr.cat_append, Fr.cat_cons]
    rw [List.take_append, List.take_of_length_le (by omega), List.take_append_of_le_length (by omega)]
  have hc := Fr.get_cut l[w] (n - (Fr.cat (l.take w)).length) hp (by omega) (by omega)
  rw [e2, Fr.all_cat _ _ fun q hq => h q (List.mem_of_mem_take hq), Fr.all_end _ 0 (by omega) (by rw [hc]; show (3 : Int) ≠ 0; decide), hc]
  simp

theorem Fr.all_whole (l : List (List UInt8)) (h : ∀ p ∈ l, Fr.ok p) (w : Nat) (hw : w ≤ l.length) : Fr.all ((Fr.cat l).take (Fr.cat (l.take w)).length) 0 = (l.take w, ((Fr.cat (l.take w)).length : Int), 0) := by
  have e2 : (Fr.cat l).take (Fr.cat (l.take w)).length = Fr.cat (l.take w) ++ [] := by
    conv => lhs; rw [← List.take_append_drop w l, Fr.cat_append]
    simp
  rw [e2, Fr.all_cat _ _ fun q hq => h q (List.mem_of_mem_take hq), Fr.all_nil]
  simp

theorem Fr.get_at (l : List (List UInt8)) (h : ∀ p ∈ l, Fr.ok p) (w : Nat) (hw : w < l.length) : Fr.get (Fr.cat l) (Fr.cat (l.take w)).length = (l[w], ((Fr.cat (l.take (w + 1))).length : Int), 0) := by
  have e : l = l.take w ++ l[w] :: l.drop (w + 1) := by rw [← List.drop_eq_getElem_cons hw, List.take_append_drop]
  have hp : Fr.ok l[w] := h _ (List.getElem_mem hw)
  have e2 : Fr.cat l = Fr.cat (l.take w) ++ ((Fr.put l[w]).1 ++ Fr.cat (l.drop (w + 1))) := by
    conv => lhs; rw [e, Fr.cat_append, Fr.cat_cons]
  have hm := Fr.get_moved ((Fr.put l[w]).1 ++ Fr.cat (l.drop (w + 1))) (Fr.cat (l.take w)) 0 (by omega)
  rw [Int.ofNat_zero, Int.add_zero, Fr.get_mid _ _ hp] at hm
  rw [e2, hm, List.take_succ_eq_append_getElem hw, Fr.cat_append, Fr.cat_cons, Fr.cat_nil, List.append_nil, List.length_append]
  refine Prod.ext rfl (Prod.ext ?_ rfl)
  dsimp only
  push_cast
  omega

/-! Another byte -/

theorem Cr.tab_top : ∀ i < 16, ∀ j < 16, Cr.tab.getD i 0 / 268435456 = Cr.tab.getD j 0 / 268435456 → i = j := by decide

theorem xor_div (a b k : Nat) : (a ^^^ b) / 2 ^ k = (a / 2 ^ k) ^^^ (b / 2 ^ k) := by
  rw [← Nat.shiftRight_eq_div_pow, ← Nat.shiftRight_eq_div_pow, ← Nat.shiftRight_eq_div_pow]
  exact Nat.shiftRight_xor_distrib

theorem Cr.half_inj (n n' h h' : Nat) (hn : n < 4294967296) (hn' : n' < 4294967296) (hh : h < 16) (hh' : h' < 16) (e : Cr.half n h = Cr.half n' h') : n / 16 = n' / 16 ∧ (n % 16) ^^^ h = (n' % 16) ^^^ h' := by
  unfold Cr.half at e
  have h1 : (n % 16) ^^^ h < 16 := Nat.xor_lt_two_pow (n := 4) (by omega) hh
  have h2 : (n' % 16) ^^^ h' < 16 := Nat.xor_lt_two_pow (n := 4) (by omega) hh'
  have e2 := congrArg (· / 2 ^ 28) e
  simp only [xor_div] at e2
  have z1 : n / 16 / 2 ^ 28 = 0 := by omega
  have z2 : n' / 16 / 2 ^ 28 = 0 := by omega
  rw [z1, z2, Nat.zero_xor, Nat.zero_xor] at e2
  have e3 := Cr.tab_top _ h1 _ h2 (by simpa using e2)
  refine ⟨?_, e3⟩
  rw [e3] at e
  have := congrArg (· ^^^ Cr.tab.getD ((n' % 16) ^^^ h') 0) e
  simpa [Nat.xor_assoc] using this

theorem xor_right_inj (a b c : Nat) (h : a ^^^ c = b ^^^ c) : a = b := by
  have := congrArg (· ^^^ c) h
  simpa [Nat.xor_assoc] using this
theorem xor_left_inj (a b c : Nat) (h : c ^^^ a = c ^^^ b) : a = b := xor_right_inj a b c (by rw [Nat.xor_comm a, Nat.xor_comm b]; exact h)

theorem Cr.step_state (n n' : Nat) (b : UInt8) (hn : n < 4294967296) (hn' : n' < 4294967296) (e : Cr.step n b = Cr.step n' b) : n = n' := by
  unfold Cr.step at e
  have hb := b.toNat_lt
  have one : ∀ h < 16, ∀ n n', n < 4294967296 → n' < 4294967296 → Cr.half n h = Cr.half n' h → n = n' := by
    intro h hh n n' hn hn' e
    obtain ⟨e1, e2⟩ := Cr.half_inj n n' h h hn hn' hh hh e
    have := xor_right_inj _ _ _ e2
    omega
  exact one _ (by omega) _ _ hn hn' (one _ (by omega) _ _ (Cr.half_lt _ _ hn) (Cr.half_lt _ _ hn') e)

theorem Cr.step_byte (n : Nat) (b b' : UInt8) (hn : n < 4294967296) (e : Cr.step n b = Cr.step n b') : b = b' := by
  unfold Cr.step at e
  have hb := b.toNat_lt
  have hb' := b'.toNat_lt
  obtain ⟨e1, e2⟩ := Cr.half_inj _ _ _ _ (Cr.half_lt n _ hn) (Cr.half_lt n _ hn) (by omega) (by omega) e
  have key : ∀ h h', h < 16 → h' < 16 → Cr.half n h / 16 = Cr.half n h' / 16 → h = h' := by
    intro h h' hh hh' e1
    unfold Cr.half at e1
    have e1' := congrArg (· / 2 ^ 24) e1
    simp only [Nat.div_div_eq_div_mul, show 16 * 2 ^ 24 = 2 ^ 28 from rfl, xor_div] at e1'
    have z1 : n / (16 * 2 ^ 28) = 0 := by omega
    rw [z1, Nat.zero_xor, Nat.zero_xor] at e1'
    have h1 : (n % 16) ^^^ h < 16 := Nat.xor_lt_two_pow (n := 4) (by omega) hh
    have h2 : (n % 16) ^^^ h' < 16 := Nat.xor_lt_two_pow (n := 4) (by omega) hh'
    exact xor_left_inj _ _ _ (Cr.tab_top _ h1 _ h2 (by simpa using e1'))
  have k1 := key _ _ (by omega) (by omega) e1
  rw [k1] at e2
  have k2 := xor_left_inj _ _ _ e2
  apply UInt8.toNat_inj.1
  omega

theorem Cr.fold_state : ∀ (s : List UInt8) (n n' : Nat), n < 4294967296 → n' < 4294967296 → s.foldl Cr.step n = s.foldl Cr.step n' → n = n'
  | [], n, n', _, _, e => e
  | b :: s, n, n', hn, hn', e => Cr.step_state n n' b hn hn' (Cr.fold_state s _ _ (Cr.step_lt _ _ hn) (Cr.step_lt _ _ hn') e)

theorem Cr.sum_byte (x y : List UInt8) (c c' : UInt8) (e : Cr.sum (x ++ c :: y) = Cr.sum (x ++ c' :: y)) : c = c' := by
  unfold Cr.sum Cr.more at e
  have e1 := xor_left_inj _ _ _ e
  rw [List.foldl_append, List.foldl_append, List.foldl_cons, List.foldl_cons] at e1
  have l0 : x.foldl Cr.step (4294967295 ^^^ 0) < 4294967296 := Cr.steps_lt x _ (by decide)
  exact Cr.step_byte _ _ _ l0 (Cr.fold_state y _ _ (Cr.step_lt _ _ l0) (Cr.step_lt _ _ l0) e1)

theorem Cr.four_inj (n m : Nat) (hn : n < 4294967296) (hm : m < 4294967296) (e : Cr.four n = Cr.four m) : n = m := by
  unfold Cr.four at e
  simp only [List.cons.injEq, and_true] at e
  obtain ⟨e0, e1, e2, e3⟩ := e
  have f : ∀ a b : Nat, a < 256 → b < 256 → UInt8.ofNat a = UInt8.ofNat b → a = b := by
    intro a b ha hb h
    have := congrArg UInt8.toNat h
    simp at this
    omega
  have := f _ _ (by omega) (by omega) e0
  have := f _ _ (by omega) (by omega) e1
  have := f _ _ (by omega) (by omega) e2
  have := f _ _ (by omega) (by omega) e3
  omega

theorem Cr.turned (s x y : List UInt8) (c c' : UInt8) (h : Cr.seal s = x ++ c :: y) (hne : c' ≠ c) : Cr.openOk (x ++ c' :: y) = false := by
  by_cases ho : Cr.openOk (x ++ c' :: y) = true
  rotate_left
  · simpa using ho
  exfalso
  unfold Cr.openOk at ho
  simp only [Bool.and_eq_true, decide_eq_true_eq, beq_iff_eq] at ho
  obtain ⟨_, ho⟩ := ho
  have hl : (x ++ c' :: y).length = s.length + 4 := by
    have := congrArg List.length h
    rw [Cr.seal_length] at this
    simp at this ⊢
    omega
  rw [hl, Nat.add_sub_cancel] at ho
  have hf4 : ∀ n, (Cr.four n).length = 4 := fun n => rfl
  unfold Cr.seal at h ho
  by_cases hx : x.length < s.length
  · have hs : s = x ++ c :: (y.take (s.length - x.length - 1)) := by
      have := congrArg (List.take s.length) h
      rw [List.take_left, List.take_append, List.take_of_length_le (by omega)] at this
      rw [show s.length - x.length = (s.length - x.length - 1) + 1 by omega, List.take_succ_cons] at this
      exact this
    have ht : (x ++ c' :: y).take s.length = x ++ c' :: (y.take (s.length - x.length - 1)) := by
      rw [List.take_append, List.take_of_length_le (by omega), show s.length - x.length = (s.length - x.length - 1) + 1 by omega, List.take_succ_cons]
      rfl
    have d1 := congrArg (List.drop s.length) h
    rw [List.drop_left, List.drop_append, List.drop_of_length_le (by omega), List.nil_append, show s.length - x.length = (s.length - x.length - 1) + 1 by omega, List.drop_succ_cons] at d1
    have d2 := congrArg (List.drop s.length) ho
    rw [show List.drop s.length ((x ++ c' :: y).take s.length ++ Cr.four (Cr.sum ((x ++ c' :: y).take s.length))) = Cr.four (Cr.sum ((x ++ c' :: y).take s.length)) from by
      have : ((x ++ c' :: y).take s.length).length = s.length := by rw [List.length_take]; omega
      exact List.drop_left' this, List.drop_append, List.drop_of_length_le (by omega), List.nil_append, show s.length - x.length = (s.length - x.length - 1) + 1 by omega, List.drop_succ_cons, ← d1, ht] at d2
    have := Cr.four_inj _ _ (Cr.sum_lt _) (Cr.sum_lt _) d2
    rw [show Cr.sum s = Cr.sum (x ++ c :: (y.take (s.length - x.length - 1))) from congrArg Cr.sum hs] at this
    exact hne (Cr.sum_byte _ _ _ _ this)
  · have ht : (x ++ c' :: y).take s.length = s := by
      have := congrArg (List.take s.length) h
      rw [List.take_left, List.take_append_of_le_length (by omega)] at this
      rw [List.take_append_of_le_length (by omega)]
      exact this.symm
    rw [ht, h] at ho
    have := List.append_cancel_left ho
    simp at this
    exact hne this.symm

/-- A frame with another byte behind its length is bad by its sum. -/
theorem Fr.turned (p x y : List UInt8) (c c' : UInt8) (hp : Fr.ok p) (h : (Fr.put p).1 = x ++ c :: y) (hx : Vy.size p.length ≤ x.length) (hne : c' ≠ c) : Fr.get (x ++ c' :: y) 0 = ([], 0, 16) := by
  have hl := Fr.put_length p hp
  have hsz := Fr.size_bd p hp
  have hlen : (x ++ c' :: y).length = Vy.size p.length + p.length + 4 := by
    rw [h] at hl
    simp at hl ⊢
    omega
  rw [Fr.put_eq p hp] at h
  dsimp only at h
  have hx2 : x.take (Vy.size p.length) = Vy.enc p.length := by
    have := congrArg (List.take (Vy.size p.length)) h
    unfold Cr.seal at this
    rw [List.append_assoc, List.take_append_of_le_length (by rw [Vy.enc_length]; omega), List.take_of_length_le (by rw [Vy.enc_length]; omega), List.take_append_of_le_length hx] at this
    exact this.symm
  have e : x ++ c' :: y = [] ++ Vy.enc p.length ++ (x.drop (Vy.size p.length) ++ c' :: y) := by
    rw [List.nil_append, ← hx2, ← List.append_assoc, List.take_append_drop]
  have hv := Vy.get_mid [] (x.drop (Vy.size p.length) ++ c' :: y) p.length (by have := hp.2; omega)
  rw [← e] at hv
  have hv' : Vy.get (x ++ c' :: y) 0 = (p.length, (Vy.size p.length : Int), 0) := by simpa using hv
  have ho := Cr.turned _ x y c c' h hne
  unfold Fr.get
  rw [hv', hlen, if_neg (by omega), if_neg (by omega)]
  dsimp only
  rw [if_neg (by simp), if_neg (by have := hp.1; have := hp.2; omega), if_neg (by omega)]
  have e1 : ((Vy.size p.length : Int) + p.length + 4).toNat - (0 : Int).toNat = (x ++ c' :: y).length := by rw [hlen]; omega
  rw [e1, Int.toNat_zero, List.drop_zero, List.take_length, ho, if_pos rfl]

theorem Fr.allF_len (s : List UInt8) : ∀ (k : Nat) (a : Int), 0 ≤ a → a ≤ s.length → ((Fr.allF s k a).1.length : Int) ≤ s.length - a
  | 0, a, h0, h1 => by simp [Fr.allF]; omega
  | k + 1, a, h0, h1 => by
    unfold Fr.allF
    by_cases e : (Fr.get s a).2.2 = 0
    · obtain ⟨w1, w2, w3⟩ := Fr.get_way s a e
      rw [if_pos e]
      have := Fr.allF_len s k _ (by omega) w3
      simp only [List.length_cons]
      push_cast
      omega
    · rw [if_neg e]
      simp
      omega

theorem Fr.all_len (s : List UInt8) : (Fr.all s 0).1.length ≤ s.length := by
  have := Fr.allF_len s ((s.length : Int) + 1 - 0).toNat 0 (by omega) (by omega)
  unfold Fr.all
  omega

end Go.Proofs.Ytmoegdjpmcjhcaa
