/- Plain: bits turned within 32 neighbours are told by the sum. -/
import Derived.Test.YtbbgmaklmlagcaaGk
namespace Go.Proofs.Ytbbgmaklmlagcaa

/-- The sum's state behind a row of bits. -/
def Cr.bl (n : Nat) (l : List Nat) : Nat := l.foldl Cr.bit n

/-- A number's bits, and a row's number. -/
def bitsN : Nat → Nat → List Nat
  | 0, _ => []
  | k + 1, c => (c % 2) :: bitsN k (c / 2)
def valN : List Nat → Nat
  | [] => 0
  | b :: l => b + 2 * valN l
def bitsS (s : List UInt8) : List Nat := s.flatMap fun b => bitsN 8 b.toNat

theorem bitsN_length : ∀ (k c : Nat), (bitsN k c).length = k
  | 0, _ => rfl
  | k + 1, c => by simp [bitsN, bitsN_length k]
theorem bitsN_lt : ∀ (k c : Nat), ∀ b ∈ bitsN k c, b < 2
  | 0, _, b, h => by simp [bitsN] at h
  | k + 1, c, b, h => by
    simp only [bitsN, List.mem_cons] at h
    rcases h with rfl | h
    · omega
    · exact bitsN_lt k _ b h
theorem valN_bitsN : ∀ (k c : Nat), valN (bitsN k c) = c % 2 ^ k
  | 0, c => by simp [bitsN, valN]; omega
  | k + 1, c => by
    simp only [bitsN, valN, valN_bitsN k]
    rw [Nat.pow_succ, Nat.mul_comm (2 ^ k), Nat.mod_mul]
theorem valN_lt : ∀ (l : List Nat), (∀ b ∈ l, b < 2) → valN l < 2 ^ l.length
  | [], _ => by simp [valN]
  | b :: l, h => by
    have h1 := h b (List.mem_cons_self ..)
    have h2 := valN_lt l fun c hc => h c (List.mem_cons_of_mem _ hc)
    simp only [valN, List.length_cons, Nat.pow_succ]
    omega
theorem valN_zero : ∀ (l : List Nat), valN l = 0 → ∀ b ∈ l, b = 0
  | [], _, b, h => by simp at h
  | c :: l, h, b, hb => by
    simp only [valN] at h
    rcases List.mem_cons.1 hb with rfl | hb
    · omega
    · exact valN_zero l (by omega) b hb

theorem Cr.bits_bl : ∀ (k n c : Nat), Cr.bits k n c = Cr.bl n (bitsN k c)
  | 0, n, c => rfl
  | k + 1, n, c => by
    simp only [Cr.bits, bitsN]
    rw [Cr.bits_bl k]
    rfl

theorem Cr.bl_append (n : Nat) (l m : List Nat) : Cr.bl n (l ++ m) = Cr.bl (Cr.bl n l) m := by simp [Cr.bl]

theorem Cr.fold_bl : ∀ (s : List UInt8) (n : Nat), s.foldl Cr.step n = Cr.bl n (bitsS s)
  | [], n => rfl
  | b :: s, n => by
    rw [List.foldl_cons, Cr.fold_bl s, ← Cr.bits_step, Cr.bits_bl]
    show _ = Cr.bl n (bitsN 8 b.toNat ++ bitsS s)
    rw [Cr.bl_append]

theorem xor_mod2 (x y : Nat) : (x ^^^ y) % 2 = (x % 2) ^^^ (y % 2) := by
  have := Nat.xor_mod_two_pow (a := x) (b := y) (n := 1)
  simpa using this

theorem Cr.bit_split (n b : Nat) : Cr.bit n b = (n / 2) ^^^ (if n % 2 = b then 0 else 3988292384) := by
  unfold Cr.bit
  split <;> simp

theorem Cr.bit_lin (x y b d : Nat) (hb : b < 2) (hd : d < 2) : Cr.bit (x ^^^ y) (b ^^^ d) = Cr.bit x b ^^^ Cr.bit y d := by
  rw [Cr.bit_split, Cr.bit_split, Cr.bit_split, xor_half, xor_mod2]
  have e : (if x % 2 ^^^ y % 2 = b ^^^ d then (0 : Nat) else 3988292384) = (if x % 2 = b then 0 else 3988292384) ^^^ (if y % 2 = d then 0 else 3988292384) := by
    have hx : x % 2 = 0 ∨ x % 2 = 1 := by omega
    have hy : y % 2 = 0 ∨ y % 2 = 1 := by omega
    have hb' : b = 0 ∨ b = 1 := by omega
    have hd' : d = 0 ∨ d = 1 := by omega
    rcases hx with hx | hx <;> rcases hy with hy | hy <;> rcases hb' with rfl | rfl <;> rcases hd' with rfl | rfl <;> rw [hx, hy] <;> decide
  rw [e]
  generalize (if x % 2 = b then (0 : Nat) else 3988292384) = p
  generalize (if y % 2 = d then (0 : Nat) else 3988292384) = q
  rw [Nat.xor_assoc, Nat.xor_assoc, ← Nat.xor_assoc (y / 2) p q, Nat.xor_comm (y / 2) p, Nat.xor_assoc p]

theorem Cr.bl_lin : ∀ (l m : List Nat) (x y : Nat), l.length = m.length → (∀ b ∈ l, b < 2) → (∀ b ∈ m, b < 2) → Cr.bl (x ^^^ y) (List.zipWith (· ^^^ ·) l m) = Cr.bl x l ^^^ Cr.bl y m
  | [], [], x, y, _, _, _ => rfl
  | b :: l, d :: m, x, y, h, hl, hm => by
    show Cr.bl (Cr.bit (x ^^^ y) (b ^^^ d)) (List.zipWith (· ^^^ ·) l m) = Cr.bl (Cr.bit x b) l ^^^ Cr.bl (Cr.bit y d) m
    rw [Cr.bit_lin x y b d (hl b (List.mem_cons_self ..)) (hm d (List.mem_cons_self ..))]
    exact Cr.bl_lin l m _ _ (by simpa using h) (fun c hc => hl c (List.mem_cons_of_mem _ hc)) (fun c hc => hm c (List.mem_cons_of_mem _ hc))
  | [], _ :: _, _, _, h, _, _ => by simp at h
  | _ :: _, [], _, _, h, _, _ => by simp at h

theorem Cr.bit0_inj (x y : Nat) (hx : x < 4294967296) (hy : y < 4294967296) (e : Cr.bit x 0 = Cr.bit y 0) : x = y := by
  have top : ∀ z, z < 4294967296 → Cr.bit z 0 / 2 ^ 31 = z % 2 := by
    intro z hz
    unfold Cr.bit
    have : z / 2 / 2 ^ 31 = 0 := by omega
    split
    · omega
    · rw [xor_div, this]
      have : z % 2 = 1 := by omega
      rw [this]
      decide
  have h1 := top x hx
  have h2 := top y hy
  rw [e, h2] at h1
  unfold Cr.bit at e
  rw [h1] at e
  split at e
  · omega
  · have := xor_right_inj _ _ _ e
    omega

theorem Cr.bit0_lt (x b : Nat) (h : x < 4294967296) : Cr.bit x b < 4294967296 := Cr.bit_lt x b h

theorem Cr.zeros_inj : ∀ (k x : Nat), x < 4294967296 → Cr.bl x (List.replicate k 0) = 0 → x = 0
  | 0, x, _, h => h
  | k + 1, x, hx, h => by
    rw [List.replicate_succ] at h
    have := Cr.zeros_inj k (Cr.bit x 0) (Cr.bit0_lt x 0 hx) h
    exact Cr.bit0_inj x 0 hx (by decide) (by rw [this]; rfl)

theorem Cr.bit_in (n b : Nat) (hb : b < 2) : Cr.bit n b = Cr.bit (n ^^^ b) 0 := by
  have hb' : b = 0 ∨ b = 1 := by omega
  rw [Cr.bit_split, Cr.bit_split, xor_half, xor_mod2]
  have e1 : b / 2 = 0 := by omega
  rw [e1, Nat.xor_zero]
  congr 1
  have hn : n % 2 = 0 ∨ n % 2 = 1 := by omega
  rcases hn with hn | hn <;> rcases hb' with rfl | rfl <;> rw [hn] <;> decide

/-- Bits that come are as if they had stood in the state. -/
theorem Cr.bl_in : ∀ (l : List Nat) (n : Nat), (∀ b ∈ l, b < 2) → Cr.bl n l = Cr.bl (n ^^^ valN l) (List.replicate l.length 0)
  | [], n, _ => by simp [Cr.bl, valN]
  | b :: l, n, h => by
    have hb := h b (List.mem_cons_self ..)
    rw [List.length_cons, List.replicate_succ]
    show Cr.bl (Cr.bit n b) l = Cr.bl (Cr.bit (n ^^^ valN (b :: l)) 0) (List.replicate l.length 0)
    rw [Cr.bl_in l _ fun c hc => h c (List.mem_cons_of_mem _ hc)]
    congr 1
    have e : valN (b :: l) = b ^^^ (2 * valN l) := by
      simp only [valN]
      have h1 := Nat.two_pow_add_eq_or_of_lt (i := 1) (b := b) (by omega) (valN l)
      have h2 : 2 * valN l ||| b = b ^^^ (2 * valN l) := by
        apply Nat.eq_of_testBit_eq
        intro i
        rw [Nat.testBit_or, Nat.testBit_xor]
        cases i with
        | zero => simp [Nat.testBit_zero]
        | succ i =>
          have : b.testBit (i + 1) = false := Nat.testBit_lt_two_pow (Nat.lt_of_lt_of_le hb (by have := Nat.one_le_two_pow (n := i); rw [Nat.pow_succ]; omega))
          simp [this]
      rw [Nat.pow_one] at h1
      omega
    rw [e, ← Nat.xor_assoc, Cr.bit_xor _ _ _ (by omega), ← Cr.bit_in n b hb, Nat.mul_div_cancel_left _ (by decide)]

/-- What the state is behind bytes that bear their sum. -/
theorem Cr.residue (t : List UInt8) (h : Cr.openOk t = true) : Cr.bl 4294967295 (bitsS t) = Cr.bl 4294967295 (List.replicate 32 0) := by
  obtain ⟨h4, he⟩ := (Cr.openOk_iff t).1 h
  obtain ⟨b, hb⟩ : ∃ b, t.take (t.length - 4) = b := ⟨_, rfl⟩
  rw [hb] at he
  have ht : t = b ++ Cr.four (Cr.sum b) := by rw [← he, ← hb, List.take_append_drop]
  have hs := Cr.sum_lt b
  obtain ⟨q, hq⟩ : ∃ q, Cr.sum b = q := ⟨_, rfl⟩
  rw [hq] at ht hs
  have hn : b.foldl Cr.step 4294967295 = 4294967295 ^^^ q := by
    rw [← hq]
    show _ = 4294967295 ^^^ (4294967295 ^^^ b.foldl Cr.step (4294967295 ^^^ 0))
    rw [← Nat.xor_assoc, Nat.xor_self, Nat.zero_xor, Nat.xor_zero]
  rw [← Cr.fold_bl, ht, List.foldl_append, hn]
  have u : ∀ m : Nat, m < 256 → (UInt8.ofNat m).toNat = m := fun m hm => by simp; omega
  have e4 : (Cr.four q).foldl Cr.step (4294967295 ^^^ q) = Cr.bits 32 (4294967295 ^^^ q) q := by
    unfold Cr.four
    simp only [List.foldl_cons, List.foldl_nil]
    rw [← Cr.bits_step, ← Cr.bits_step, ← Cr.bits_step, ← Cr.bits_step, u _ (by omega), u _ (by omega), u _ (by omega), u _ (by omega)]
    have m8 : ∀ n c, Cr.bits 8 n (c % 256) = Cr.bits 8 n c := fun n c => Cr.bits_mod 8 n c
    rw [m8, m8, m8, m8]
    rw [show (32 : Nat) = 8 + (8 + (8 + 8)) from rfl, Cr.bits_add, Cr.bits_add, Cr.bits_add]
    simp only [Nat.div_div_eq_div_mul]
    try rfl
  rw [e4, Cr.bits_bl, Cr.bl_in _ _ (bitsN_lt 32 q), valN_bitsN, bitsN_length, Nat.mod_eq_of_lt hs, Nat.xor_assoc, Nat.xor_self, Nat.xor_zero]

theorem bitsS_length : ∀ s : List UInt8, (bitsS s).length = 8 * s.length
  | [] => rfl
  | b :: s => by
    show (bitsN 8 b.toNat ++ bitsS s).length = _
    rw [List.length_append, bitsN_length, bitsS_length s, List.length_cons]
    omega
theorem bitsS_lt (s : List UInt8) : ∀ b ∈ bitsS s, b < 2 := by
  intro b hb
  obtain ⟨x, _, hx⟩ := List.mem_flatMap.1 hb
  exact bitsN_lt 8 _ b hx
theorem bitsS_inj : ∀ s t : List UInt8, bitsS s = bitsS t → s = t
  | [], [], _ => rfl
  | [], b :: t, h => by have := congrArg List.length h; rw [bitsS_length, bitsS_length] at this; simp at this
  | b :: s, [], h => by have := congrArg List.length h; rw [bitsS_length, bitsS_length] at this; simp at this
  | b :: s, c :: t, h => by
    have h' : bitsN 8 b.toNat ++ bitsS s = bitsN 8 c.toNat ++ bitsS t := h
    obtain ⟨h1, h2⟩ := List.append_inj h' (by rw [bitsN_length, bitsN_length])
    have h3 := congrArg valN h1
    rw [valN_bitsN, valN_bitsN] at h3
    have := b.toNat_lt
    have := c.toNat_lt
    rw [bitsS_inj s t h2, UInt8.toNat_inj.1 (show b.toNat = c.toNat by omega)]

/-- THE LAW: two rows of bytes that bear their sums, and differ within 32 neighbouring bits at most, are one. -/
theorem Cr.burst (t t' : List UInt8) (hl : t.length = t'.length) (a : Nat) (h : ∀ i, (i < a ∨ a + 32 ≤ i) → (bitsS t)[i]? = (bitsS t')[i]?) (ho : Cr.openOk t = true) (ho' : Cr.openOk t' = true) : t = t' := by
  have e1 := Cr.residue t ho
  have e2 := Cr.residue t' ho'
  have hlb : (bitsS t).length = (bitsS t').length := by rw [bitsS_length, bitsS_length, hl]
  have hlin := Cr.bl_lin (bitsS t) (bitsS t') 4294967295 4294967295 hlb (bitsS_lt t) (bitsS_lt t')
  rw [e1, e2, Nat.xor_self, Nat.xor_self] at hlin
  obtain ⟨D, hD⟩ : ∃ D, List.zipWith (· ^^^ ·) (bitsS t) (bitsS t') = D := ⟨_, rfl⟩
  rw [hD] at hlin
  have hDget : ∀ i : Nat, D[i]? = (match (bitsS t)[i]?, (bitsS t')[i]? with | some (x : Nat), some (y : Nat) => some (x ^^^ y) | _, _ => (none : Option Nat)) := by
    intro i
    rw [← hD, List.getElem?_zipWith]
    cases (bitsS t)[i]? <;> cases (bitsS t')[i]? <;> rfl
  have hD0 : ∀ i x, (i < a ∨ a + 32 ≤ i) → D[i]? = some x → x = 0 := by
    intro i x hi hx
    rw [hDget, h i hi] at hx
    cases hy : (bitsS t')[i]? with
    | none => rw [hy] at hx; cases hx
    | some y => rw [hy] at hx; simp at hx; exact hx.symm
  have hD2 : ∀ x ∈ D, x < 2 := by
    intro x hx
    obtain ⟨i, hi⟩ := List.getElem?_of_mem hx
    rw [hDget] at hi
    cases hy : (bitsS t)[i]? with
    | none => rw [hy] at hi; cases hi
    | some y => cases hz : (bitsS t')[i]? with
      | none => rw [hy, hz] at hi; cases hi
      | some z =>
        rw [hy, hz] at hi
        simp at hi
        have := bitsS_lt t y (List.mem_of_getElem? hy)
        have := bitsS_lt t' z (List.mem_of_getElem? hz)
        rw [← hi]
        exact Nat.xor_lt_two_pow (n := 1) (by omega) (by omega)
  have rep : ∀ l : List Nat, (∀ x ∈ l, x = 0) → l = List.replicate l.length 0 := fun l hl => List.eq_replicate_iff.2 ⟨rfl, hl⟩
  have hsplit : D = D.take a ++ ((D.drop a).take 32 ++ (D.drop a).drop 32) := by rw [List.take_append_drop, List.take_append_drop]
  have z1 : D.take a = List.replicate (D.take a).length 0 := rep _ fun x hx => by
    obtain ⟨i, hi⟩ := List.getElem?_of_mem hx
    rw [List.getElem?_take] at hi
    split at hi
    · exact hD0 i x (.inl ‹_›) hi
    · cases hi
  have z3 : (D.drop a).drop 32 = List.replicate ((D.drop a).drop 32).length 0 := rep _ fun x hx => by
    obtain ⟨i, hi⟩ := List.getElem?_of_mem hx
    rw [List.drop_drop, List.getElem?_drop] at hi
    exact hD0 _ x (.inr (by omega)) hi
  have zz : ∀ k, Cr.bl 0 (List.replicate k 0) = 0 := by
    intro k
    induction k with
    | zero => rfl
    | succ k ih =>
      rw [List.replicate_succ]
      exact ih
  rw [hsplit, Cr.bl_append, Cr.bl_append, z1, zz, z3] at hlin
  obtain ⟨W, hW⟩ : ∃ W, (D.drop a).take 32 = W := ⟨_, rfl⟩
  have hWl : W.length ≤ 32 := by rw [← hW, List.length_take]; omega
  have hW2 : ∀ x ∈ W, x < 2 := fun x hx => by rw [← hW] at hx; exact hD2 x (List.mem_of_mem_drop (List.mem_of_mem_take hx))
  rw [hW, Cr.bl_in W 0 hW2, Nat.zero_xor] at hlin
  have hv : valN W < 4294967296 := Nat.lt_of_lt_of_le (valN_lt W hW2) (Nat.pow_le_pow_right (by decide) hWl)
  rw [← Cr.bl_append, List.replicate_append_replicate] at hlin
  have hv0 := Cr.zeros_inj _ _ hv hlin
  have hall : ∀ x ∈ D, x = 0 := by
    intro x hx
    rw [hsplit] at hx
    rcases List.mem_append.1 hx with hx | hx
    · rw [z1] at hx; exact (List.mem_replicate.1 hx).2
    · rcases List.mem_append.1 hx with hx | hx
      · rw [hW] at hx; exact valN_zero W hv0 x hx
      · rw [z3] at hx; exact (List.mem_replicate.1 hx).2
  refine bitsS_inj t t' (List.ext_getElem? fun i => ?_)
  have hg := hDget i
  cases hy : (bitsS t)[i]? with
  | none =>
    have : (bitsS t').length ≤ i := by rw [← hlb]; exact List.getElem?_eq_none_iff.1 hy
    rw [List.getElem?_eq_none this]
  | some y => cases hz : (bitsS t')[i]? with
    | none =>
      have : (bitsS t).length ≤ i := by rw [hlb]; exact List.getElem?_eq_none_iff.1 hz
      rw [List.getElem?_eq_none this] at hy
      cases hy
    | some z =>
      rw [hy, hz] at hg
      have h0 := hall _ (List.mem_of_getElem? hg)
      have : y = z := by
        have := congrArg (· ^^^ z) h0
        simpa [Nat.xor_assoc] using this
      rw [this]

end Go.Proofs.Ytbbgmaklmlagcaa
