/- XKp: Plain: the sum of layer 1, by halves and bit by bit.
XKa: Contracts: crc, and the document's answer of layer 1.
XKb: Contracts: crc.Seal, Open, and the document's answer of layer 1.
XKc: Contracts: the document's answer of layer 1: Sum, four, Seal, Open.
XKy: Plain: what another byte does to a sum; numbers stand alike wherever they stand. -/
import Derived.Test.YtbbgmaklmlagcaaGc
import Derived.Test.YtbbgmaklmlagcaaTypes
import Derived.Test.YtbbgmaklmlagcaaGv
namespace Go.Proofs.Ytbbgmaklmlagcaa

def Cr.tab : List Nat := [0, 498536548, 997073096, 651767980, 1994146192, 1802195444, 1303535960, 1342533948, 3988292384, 4027552580, 3604390888, 3412177804, 2607071920, 2262029012, 2685067896, 3183342108]
def Cr.half (n h : Nat) : Nat := (n / 16) ^^^ Cr.tab.getD ((n % 16) ^^^ h) 0
def Cr.step (n : Nat) (b : UInt8) : Nat := Cr.half (Cr.half n (b.toNat % 16)) (b.toNat / 16)
def Cr.more (n : Nat) (s : List UInt8) : Nat := 4294967295 ^^^ s.foldl Cr.step (4294967295 ^^^ n)
def Cr.sum (s : List UInt8) : Nat := Cr.more 0 s
def Cr.four (n : Nat) : List UInt8 := [UInt8.ofNat (n % 256), UInt8.ofNat (n / 256 % 256), UInt8.ofNat (n / 65536 % 256), UInt8.ofNat (n / 16777216 % 256)]
def Cr.seal (s : List UInt8) : List UInt8 := s ++ Cr.four (Cr.sum s)

@[simp] theorem Cr.tab_length : Cr.tab.length = 16 := rfl
@[simp] theorem Cr.tab_take : List.take 16 (Cr.tab.map aW) = Cr.tab.map aW := rfl

theorem xor_u8 (a b : Nat) (ha : a < 256) (hb : b < 256) : bitsA .xor .u8 (a : Int) (b : Int) = ((a ^^^ b : Nat) : Int) := by
  have h1 : (BitVec.ofInt 8 (a : Int)).toNat = a := by
    rw [BitVec.ofInt_natCast, BitVec.toNat_ofNat]; exact Nat.mod_eq_of_lt (by omega)
  have h2 : (BitVec.ofInt 8 (b : Int)).toNat = b := by
    rw [BitVec.ofInt_natCast, BitVec.toNat_ofNat]; exact Nat.mod_eq_of_lt (by omega)
  show IntKind.u8.wrap ((BitVec.ofInt 8 (a : Int) ^^^ BitVec.ofInt 8 (b : Int)).toNat : Int) = _
  rw [BitVec.toNat_xor, h1, h2, IntKind.wrap_u8]
  have := Nat.xor_lt_two_pow (n := 8) ha hb
  omega

theorem xor_u32 (a b : Nat) (ha : a < 4294967296) (hb : b < 4294967296) : bitsA .xor .u32 (a : Int) (b : Int) = ((a ^^^ b : Nat) : Int) := by
  have h1 : (BitVec.ofInt 32 (a : Int)).toNat = a := by
    rw [BitVec.ofInt_natCast, BitVec.toNat_ofNat]; exact Nat.mod_eq_of_lt (by omega)
  have h2 : (BitVec.ofInt 32 (b : Int)).toNat = b := by
    rw [BitVec.ofInt_natCast, BitVec.toNat_ofNat]; exact Nat.mod_eq_of_lt (by omega)
  show IntKind.u32.wrap ((BitVec.ofInt 32 (a : Int) ^^^ BitVec.ofInt 32 (b : Int)).toNat : Int) = _
  rw [BitVec.toNat_xor, h1, h2, IntKind.wrap_u32]
  have := Nat.xor_lt_two_pow (n := 32) ha hb
  omega

theorem and_u8_15 (a : Nat) (ha : a < 256) : bitsA .and .u8 (a : Int) 15 = ((a % 16 : Nat) : Int) := by
  have h1 : (BitVec.ofInt 8 (a : Int)).toNat = a := by
    rw [BitVec.ofInt_natCast, BitVec.toNat_ofNat]; exact Nat.mod_eq_of_lt (by omega)
  show IntKind.u8.wrap ((BitVec.ofInt 8 (a : Int) &&& BitVec.ofInt 8 15).toNat : Int) = _
  rw [BitVec.toNat_and, h1, show (BitVec.ofInt 8 15).toNat = 2 ^ 4 - 1 from rfl, Nat.and_two_pow_sub_one_eq_mod, IntKind.wrap_u8]
  omega

theorem Cr.tab_lt (i : Nat) : Cr.tab.getD i 0 < 4294967296 := by
  by_cases h : i < 16
  · have : ∀ j < 16, Cr.tab.getD j 0 < 4294967296 := by decide
    exact this i h
  · rw [List.getD_eq_getElem?_getD, List.getElem?_eq_none (by simp [Cr.tab]; omega)]; decide

theorem Cr.half_lt (n h : Nat) (hn : n < 4294967296) : Cr.half n h < 4294967296 :=
  Nat.xor_lt_two_pow (n := 32) (by omega) (Cr.tab_lt _)

theorem Cr.fold_lt (hs : List Nat) : ∀ (n : Nat), n < 4294967296 → hs.foldl Cr.half n < 4294967296 := by
  induction hs with
  | nil => exact fun n h => h
  | cons x xs ih => exact fun n h => ih _ (Cr.half_lt n x h)

theorem Cr.step_lt (n : Nat) (b : UInt8) (h : n < 4294967296) : Cr.step n b < 4294967296 := Cr.half_lt _ _ (Cr.half_lt _ _ h)
theorem Cr.steps_lt (s : List UInt8) : ∀ (n : Nat), n < 4294967296 → s.foldl Cr.step n < 4294967296 := by
  induction s with
  | nil => exact fun n h => h
  | cons x xs ih => exact fun n h => ih _ (Cr.step_lt n x h)
theorem Cr.more_lt (n : Nat) (s : List UInt8) (h : n < 4294967296) : Cr.more n s < 4294967296 :=
  Nat.xor_lt_two_pow (n := 32) (by omega) (Cr.steps_lt s _ (Nat.xor_lt_two_pow (n := 32) (by omega) h))
theorem Cr.sum_lt (s : List UInt8) : Cr.sum s < 4294967296 := Cr.more_lt 0 s (by omega)
theorem Cr.seal_length (s : List UInt8) : (Cr.seal s).length = s.length + 4 := by simp [Cr.seal, Cr.four]

/-! Bit by bit -/

def Cr.bit (n b : Nat) : Nat := if n % 2 = b then n / 2 else (n / 2) ^^^ 3988292384
def Cr.bits : Nat → Nat → Nat → Nat
  | 0, n, _ => n
  | k + 1, n, c => Cr.bits k (Cr.bit n (c % 2)) (c / 2)

theorem xor_half (a b : Nat) : (a ^^^ b) / 2 = (a / 2) ^^^ (b / 2) := by
  have := @Nat.xor_div_two a b
  exact this

theorem Cr.bit_xor (x y b : Nat) (hy : y % 2 = 0) : Cr.bit (x ^^^ y) b = Cr.bit x b ^^^ (y / 2) := by
  unfold Cr.bit
  have h1 : (x ^^^ y) % 2 = x % 2 := by
    have := Nat.xor_mod_two_pow (a := x) (b := y) (n := 1)
    simp only [Nat.pow_one] at this
    rw [this, hy, Nat.xor_zero]
  rw [h1, xor_half]
  split
  · rfl
  · rw [Nat.xor_assoc, Nat.xor_assoc, Nat.xor_comm (y / 2)]

theorem Cr.bits_xor : ∀ (k n c m : Nat), Cr.bits k (n ^^^ (2 ^ k * m)) c = Cr.bits k n c ^^^ m
  | 0, n, c, m => by simp [Cr.bits]
  | k + 1, n, c, m => by
    have e : 2 ^ (k + 1) * m = 2 * (2 ^ k * m) := by rw [Nat.pow_succ]; rw [Nat.mul_comm (2 ^ k) 2, Nat.mul_assoc]
    simp only [Cr.bits]
    rw [Cr.bit_xor _ _ _ (by rw [e]; omega), e, Nat.mul_div_cancel_left _ (by omega), Cr.bits_xor k]

theorem Cr.four_bits (n h : Nat) (hh : h < 16) : Cr.bits 4 n h = Cr.half n h := by
  have e : n = (n % 16) ^^^ (2 ^ 4 * (n / 16)) := by
    have h1 : n = 2 ^ 4 * (n / 16) + n % 16 := by omega
    have h2 := Nat.two_pow_add_eq_or_of_lt (i := 4) (b := n % 16) (by omega) (n / 16)
    have h3 : 2 ^ 4 * (n / 16) ||| n % 16 = (2 ^ 4 * (n / 16)) ^^^ (n % 16) := by
      apply Nat.eq_of_testBit_eq
      intro i
      rw [Nat.testBit_or, Nat.testBit_xor, Nat.testBit_two_pow_mul]
      by_cases hi : i < 4
      · have : ¬ (4 ≤ i) := by omega
        simp [this]
      · have : (n % 16).testBit i = false := Nat.testBit_lt_two_pow (Nat.lt_of_lt_of_le (show n % 16 < 2 ^ 4 by omega) (Nat.pow_le_pow_right (by omega) (by omega)))
        simp [this]
    rw [Nat.xor_comm, ← h3, ← h2]
    exact h1
  have key : ∀ r < 16, ∀ h < 16, Cr.bits 4 r h = Cr.tab.getD (r ^^^ h) 0 := by decide
  rw [e, Cr.bits_xor, key _ (by omega) h hh, ← e]
  unfold Cr.half
  rw [Nat.xor_comm]

theorem Cr.bits_add : ∀ (k m n c : Nat), Cr.bits (k + m) n c = Cr.bits m (Cr.bits k n c) (c / 2 ^ k)
  | 0, m, n, c => by simp [Cr.bits]
  | k + 1, m, n, c => by
    rw [show k + 1 + m = (k + m) + 1 by omega]
    simp only [Cr.bits]
    rw [Cr.bits_add k, Nat.div_div_eq_div_mul, Nat.pow_succ, Nat.mul_comm 2]

theorem Cr.bits_mod : ∀ (k n c : Nat), Cr.bits k n (c % 2 ^ k) = Cr.bits k n c
  | 0, n, c => rfl
  | k + 1, n, c => by
    simp only [Cr.bits]
    have h1 : c % 2 ^ (k + 1) % 2 = c % 2 := Nat.mod_mod_of_dvd c ⟨2 ^ k, by rw [Nat.pow_succ, Nat.mul_comm]⟩
    have h2 : c % 2 ^ (k + 1) / 2 = (c / 2) % 2 ^ k := by
      rw [Nat.pow_succ, Nat.mul_comm, Nat.mod_mul_right_div_self]
    rw [h1, h2, Cr.bits_mod k]

theorem Cr.bits_step (n : Nat) (b : UInt8) : Cr.bits 8 n b.toNat = Cr.step n b := by
  have hb := b.toNat_lt
  unfold Cr.step
  rw [show (8 : Nat) = 4 + 4 from rfl, Cr.bits_add, ← Cr.bits_mod 4 n b.toNat, Cr.four_bits _ _ (by omega), Cr.four_bits _ _ (by omega)]

end Go.Proofs.Ytbbgmaklmlagcaa

namespace Go.Proofs.Ytbbgmaklmlagcaa
open Go
set_option maxRecDepth 100000

set_option maxHeartbeats 1000000 in
theorem steps_ct : Ct Try.prog 121 [] [] (.agg (Cr.tab.map aW)) [] := by
  refine ct_run hmix goks_nil (n := 0) Try.func121 (v1 := .agg (Cr.tab.map aW)) (H1 := [.cells true (Cr.tab.map aW)]) ?_ (weak_pure (by simp))
  unfold Try.f121
  simp [Cr.tab, aW]

def stepsS : Summ := pureS fun | [] => some (.agg (Cr.tab.map aW)) | _ => none
theorem steps_sound : Sound Try.prog 121 stepsS := by
  refine sound_pure (enter_of Try.func121 rfl (by decide)) fun args v h => ?_
  split at h <;> cases h
  exact ⟨steps_ct, by simp, by simp⟩

set_option maxHeartbeats 1000000 in
theorem by_ct (n : Nat) (hs : List Nat) (hh : ∀ h ∈ hs, h < 16) (hn : n < 4294967296) (hl : hs.length ≤ 1000) :
    Ct Try.prog 122 [.agg (Cr.tab.map aW), .int .u32 n, .slice 0 0 hs.length 1 false] [.cells false (hs.map aB)] (.int .u32 (hs.foldl Cr.half n : Nat)) [.cells false (hs.map aB)] := by
  have hwr : ∀ k : Nat, k < hs.length → IntKind.i64.wrap ((k : Int) + 1) = k + 1 := fun k hk => wr_i64 (by omega) (by omega)
  obtain ⟨T, hT⟩ : ∃ T, Cr.tab.map aW = T := ⟨_, rfl⟩
  have hTl : T.length = 16 := by rw [← hT]; rfl
  have hTf : frees T = true := by rw [← hT]; simp
  have hTg : ∀ i < 16, T[i]? = some (.int .u32 (Cr.tab.getD i 0 : Nat)) := by
    intro i hi
    rw [← hT, List.getElem?_map, List.getElem?_eq_getElem (by simp [Cr.tab]; omega)]
    simp [aW, List.getElem?_eq_getElem (show i < Cr.tab.length by simp [Cr.tab]; omega)]
  rw [hT]
  refine ct_of_sim Try.func122 rfl ?_
  simp only [Try.ntmps122, List.length_cons, List.length_nil, List.replicate, List.cons_append, List.nil_append]
  refine Sim.step hmix goks_nil (n := 0) (by simp; exact ⟨rfl, rfl⟩) (by simp) ?_
  refine Sim.seq ?_
  refine Sim.step hmix goks_nil (n := 0) (by simp; exact ⟨rfl, rfl⟩) (by simp) ?_
  refine Sim.block (Sim.loopW (fun k : Nat => k ≤ hs.length)
    (fun k => [.agg T, .int .u32 ((hs.take k).foldl Cr.half n : Nat), .slice 0 0 hs.length 1 false, .ptr 1 0, .top, .top, .int .u32 0, .top, .top, .slice 0 0 hs.length 1 false, .int .i64 hs.length, .int .i64 k] ++ List.replicate 15 .top)
    (fun _ => [.cells false (hs.map aB), .cells true T]) (fun k => hs.length - k) 0 (by simp) (by omega) (Weak.mk' [0, 1] (by decide) (by decide) (by simp [hTf]) (by simp [hTf])) fun k hk => ?_)
  by_cases hlt : k < hs.length
  · obtain ⟨q, hq⟩ : ∃ q, (hs.take k).foldl Cr.half n = q := ⟨_, rfl⟩
    obtain ⟨h, hhk⟩ : ∃ h, hs[k]? = some h := ⟨_, List.getElem?_eq_getElem hlt⟩
    have hq32 : q < 4294967296 := by rw [← hq]; exact Cr.fold_lt _ _ hn
    have hh16 : h < 16 := hh h (List.mem_of_getElem? hhk)
    have hnext : (hs.take (k + 1)).foldl Cr.half n = Cr.half q h := by
      rw [List.take_add_one, hhk, List.foldl_append, hq]; rfl
    obtain ⟨a1, ha1⟩ : ∃ a1, q % 256 = a1 := ⟨_, rfl⟩
    obtain ⟨a2, ha2⟩ : ∃ a2, a1 % 16 = a2 := ⟨_, rfl⟩
    obtain ⟨a3, ha3⟩ : ∃ a3, a2 ^^^ h = a3 := ⟨_, rfl⟩
    obtain ⟨a4, ha4⟩ : ∃ a4, Cr.tab.getD a3 0 = a4 := ⟨_, rfl⟩
    obtain ⟨a5, ha5⟩ : ∃ a5, q / 16 = a5 := ⟨_, rfl⟩
    have l3 : a3 < 16 := by rw [← ha3]; exact Nat.xor_lt_two_pow (n := 4) (by omega) hh16
    have l4 : a4 < 4294967296 := by rw [← ha4]; exact Cr.tab_lt _
    have f1 : IntKind.u8.wrap (q : Int) = (a1 : Int) := by rw [IntKind.wrap_u8]; omega
    have f2 : bitsA .and .u8 (a1 : Int) 15 = (a2 : Int) := by rw [and_u8_15 a1 (by omega), ha2]
    have f3 : bitsA .xor .u8 (a2 : Int) (h : Int) = (a3 : Int) := by rw [xor_u8 a2 h (by omega) (by omega), ha3]
    have f4 : T[a3]? = some (.int .u32 (a4 : Nat)) := by rw [hTg a3 l3, ha4]
    have f5 : (q : Int).fdiv 16 = (a5 : Int) := by rw [Int.fdiv_eq_ediv_of_nonneg _ (by omega)]; omega
    have f6 : bitsA .xor .u32 (a5 : Int) (a4 : Int) = ((a5 ^^^ a4 : Nat) : Int) := xor_u32 a5 a4 (by omega) l4
    have hres : Cr.half q h = a5 ^^^ a4 := by
      unfold Cr.half
      rw [ha5, show q % 16 = a2 by omega, ha3, ha4]
    have l3' : (a3 : Int) < 16 := by omega
    have hg : hs[k] = h := by rw [List.getElem?_eq_getElem hlt] at hhk; cases hhk; rfl
    have hw := hwr k hlt
    rw [hq]
    clear hT hhk hq ha1 ha2 ha3 ha4 ha5 hTg
    refine Sim.exec hmix goks_nil (n := 0) (by simp [f1, f2, f3, f4, f5, f6, hw, hlt, l3', hg, aB]; exact ⟨rfl, rfl, rfl⟩) (by simp) ?_
    exact ⟨k + 1, by omega, Weak.mk' [0, 1] (by decide) (by decide) (by simp [hnext, hres, hTf]) (by simp [hTf]), by omega⟩
  · obtain rfl : k = hs.length := by omega
    refine Sim.exec hmix goks_nil (n := 0) (by simp; exact ⟨rfl, rfl, rfl⟩) (by simp) ?_
    refine Sim.exec hmix goks_nil (n := 0) (by simp; exact ⟨rfl, rfl, rfl⟩) (by simp) ?_
    refine ⟨.inr rfl, _, by simp; rfl, Weak.mk' [0] (by decide) (by decide) (by simp) (by simp)⟩

def byS : Summ := readS fun args H => match args with
  | [.agg T, .int .u32 n, .slice b off len 1 _] => match H[b]? with
    | some (.cells _ l) => match natsOf .u8 ((l.drop off).take len) with
      | some hs => if avsEq T (Cr.tab.map aW) = true ∧ off + len ≤ l.length ∧ (hs.all (· < 16)) = true ∧ 0 ≤ n ∧ n.toNat < 4294967296 ∧ len ≤ 1000 then some (.int .u32 (hs.foldl Cr.half n.toNat : Nat)) else none
      | none => none
    | _ => none
  | _ => none

theorem by_sound : Sound Try.prog 122 byS := by
  refine sound_read (enter_of Try.func122 rfl (by decide)) fun args H v h => ?_
  split at h <;> try cases h
  rename_i T n b off len c
  split at h <;> try cases h
  rename_i o l hb
  split at h <;> try cases h
  rename_i hs hhs
  split at h <;> cases h
  rename_i hc
  obtain ⟨c1, c2, c3, c4, c5, c6⟩ := hc
  obtain rfl := avsEq_eq c1
  have e := natsOf_eq hhs
  have hlen : hs.length = len := by have := congrArg List.length e; simp at this; omega
  have h0 := by_ct n.toNat hs (by simpa using c3) (by omega) (by omega)
  rw [hlen, show ((n.toNat : Nat) : Int) = n by omega] at h0
  refine ct_win h0 rfl [(b, off)] (by simp) ?_
  simp only [winH, hb]
  refine ⟨⟨by simp; omega, ?_⟩, by simp, trivial⟩
  rw [List.length_map, hlen, e]
  rfl

set_option maxHeartbeats 1000000 in
theorem more_ct (n : Nat) (s : List UInt8) (hn : n < 4294967296) (hs : s.length ≤ 9223372036854775806) : Ct Try.prog 109 [.int .u32 n, .str s] [] (.int .u32 (Cr.more n s : Nat)) [] := by
  have hΓ := goks_cons steps_sound (goks_cons by_sound goks_nil)
  obtain ⟨c, hc⟩ : ∃ c : Nat, 4294967295 ^^^ n = c := ⟨_, rfl⟩
  have hcl : c < 4294967296 := by rw [← hc]; exact Nat.xor_lt_two_pow (n := 32) (by omega) hn
  have fn : bitsA .xor .u32 4294967295 (n : Int) = (c : Int) := by rw [← hc]; exact xor_u32 4294967295 n (by omega) hn
  refine ct_of_sim Try.func109 rfl ?_
  simp only [Try.ntmps109, List.length_cons, List.length_nil, List.replicate, List.cons_append, List.nil_append]
  refine Sim.step hmix hΓ (n := 0) (by simp; exact ⟨rfl, rfl⟩) (by simp) ?_
  refine Sim.step hmix hΓ (n := 0) (by simp [stepsS, Cr.tab, aW]; exact ⟨rfl, rfl⟩) (by simp) ?_
  refine Sim.step hmix hΓ (n := 0) (by simp [fn]; exact ⟨rfl, rfl⟩) (by simp) ?_
  refine Sim.seq ?_
  refine Sim.step hmix hΓ (n := 0) (by simp; exact ⟨rfl, rfl⟩) (by simp) ?_
  refine Sim.block (Sim.loopW (fun k : Nat => k ≤ s.length)
    (fun k => [.top, .str s, .top, .top, .top, .ptr 0 0, .int .u32 ((s.take k).foldl Cr.step c : Nat), .top, .top, .top, .top, .top, .int .i64 s.length, .int .i64 k] ++ List.replicate 17 .top)
    (fun _ => [.cells true (Cr.tab.map aW)]) (fun k => s.length - k) 0 (by simp) (by omega) (Weak.mk' [0] (by decide) (by decide) (by simp) (by simp [Cr.tab, aW])) fun k hk => ?_)
  by_cases hlt : k < s.length
  · obtain ⟨q, hq⟩ : ∃ q, (s.take k).foldl Cr.step c = q := ⟨_, rfl⟩
    obtain ⟨b, hbk⟩ : ∃ b, s[k]? = some b := ⟨_, List.getElem?_eq_getElem hlt⟩
    have hg : s[k] = b := by rw [List.getElem?_eq_getElem hlt] at hbk; cases hbk; rfl
    have hq32 : q < 4294967296 := by rw [← hq]; exact Cr.steps_lt _ _ hcl
    have hnext : (s.take (k + 1)).foldl Cr.step c = Cr.step q b := by
      rw [List.take_add_one, hbk, List.foldl_append, hq]; rfl
    obtain ⟨h1, e1⟩ : ∃ h : Nat, b.toNat % 16 = h := ⟨_, rfl⟩
    obtain ⟨h2, e2⟩ : ∃ h : Nat, b.toNat / 16 = h := ⟨_, rfl⟩
    have hb := b.toNat_lt
    have f1 : bitsA .and .u8 (b.toNat : Int) 15 = (h1 : Int) := by rw [and_u8_15 b.toNat hb, e1]
    have f2 : (b.toNat : Int).fdiv 16 = (h2 : Int) := by rw [Int.fdiv_eq_ediv_of_nonneg _ (by omega)]; omega
    have l1 : h1 < 16 := by omega
    have l2 : h2 < 16 := by omega
    have hw : IntKind.i64.wrap ((k : Int) + 1) = k + 1 := wr_i64 (by omega) (by omega)
    have hst : Cr.step q b = Cr.half (Cr.half q h1) h2 := by unfold Cr.step; rw [e1, e2]
    rw [hq]
    clear hq hbk e1 e2 hb
    refine Sim.exec hmix hΓ (n := 0) (by simp (decide := true) [f1, f2, l1, l2, hw, hlt, hg, byS, hq32]; exact ⟨rfl, rfl, rfl⟩) (by simp) ?_
    exact ⟨k + 1, by omega, Weak.mk' [0] (by decide) (by decide) (by simp [hnext, hst]) (by simp), by omega⟩
  · obtain rfl : k = s.length := by omega
    have hq32 : s.foldl Cr.step c < 4294967296 := Cr.steps_lt _ _ hcl
    have fz : bitsA .xor .u32 4294967295 ((s.foldl Cr.step c : Nat) : Int) = ((Cr.more n s : Nat) : Int) := by
      unfold Cr.more; rw [hc]; exact xor_u32 4294967295 _ (by omega) hq32
    refine Sim.exec hmix hΓ (n := 0) (by simp; exact ⟨rfl, rfl, rfl⟩) (by simp) ?_
    refine Sim.exec hmix hΓ (n := 0) (by simp [fz]; exact ⟨rfl, rfl, rfl⟩) (by simp) ?_
    refine ⟨.inr rfl, _, by simp; rfl, Weak.mk' [] (by decide) (by decide) (by simp) (by simp)⟩

def moreS : Summ := pureS fun | [.int .u32 n, .str s] => if 0 ≤ n ∧ n.toNat < 4294967296 ∧ s.length ≤ 9223372036854775806 then some (.int .u32 (Cr.more n.toNat s : Nat)) else none | _ => none
theorem more_sound : Sound Try.prog 109 moreS := by
  refine sound_pure (enter_of Try.func109 rfl (by decide)) fun args v h => ?_
  split at h <;> try cases h
  rename_i n s
  split at h <;> cases h
  rename_i hc
  have h0 := more_ct n.toNat s (by omega) hc.2.2
  rw [show ((n.toNat : Nat) : Int) = n by omega] at h0
  exact ⟨h0, by simp, by simp⟩

set_option maxHeartbeats 1000000 in
theorem sum_ct (s : List UInt8) (hs : s.length ≤ 9223372036854775806) : Ct Try.prog 82 [.str s] [] (.int .u32 (Cr.sum s : Nat)) [] := by
  have hΓ := goks_cons more_sound goks_nil
  refine ct_run hmix hΓ (n := 0) Try.func82 (v1 := .int .u32 (Cr.sum s : Nat)) (H1 := []) ?_ (weak_pure (by simp))
  unfold Try.f82 Cr.sum
  simp [moreS, hs]

def sumS : Summ := pureS fun | [.str s] => if s.length ≤ 9223372036854775806 then some (.int .u32 (Cr.sum s : Nat)) else none | _ => none
theorem sum_sound : Sound Try.prog 82 sumS := by
  refine sound_pure (enter_of Try.func82 rfl (by decide)) fun args v h => ?_
  split at h <;> try cases h
  rename_i s
  split at h <;> cases h
  exact ⟨sum_ct s ‹_›, by simp, by simp⟩

end Go.Proofs.Ytbbgmaklmlagcaa

namespace Go.Proofs.Ytbbgmaklmlagcaa
open Go
set_option maxRecDepth 100000

set_option maxHeartbeats 4000000 in
theorem seal_ct (s : List UInt8) (hs : s.length ≤ 1000000000000) : Ct Try.prog 45 [.str s] [] (.str (Cr.seal s)) [] := by
  have hΓ := goks_cons sum_sound goks_nil
  have h1 : s.length ≤ 9223372036854775806 := by omega
  have h2 : s.length ≤ 9223372036854775807 := by omega
  have a1 : s.length + 1 ≤ 140737488355328 := by omega
  have a2 : s.length + 2 ≤ 140737488355328 := by omega
  have a3 : s.length + 3 ≤ 140737488355328 := by omega
  have a4 : s.length + 4 ≤ 140737488355328 := by omega
  have b1 : s.length + 1 ≤ 9223372036854775807 := by omega
  have b2 : s.length + 2 ≤ 9223372036854775807 := by omega
  have b3 : s.length + 3 ≤ 9223372036854775807 := by omega
  have b4 : s.length + 4 ≤ 9223372036854775807 := by omega
  obtain ⟨m, hm⟩ : ∃ m, Cr.sum s = m := ⟨_, rfl⟩
  have hml : m < 4294967296 := by rw [← hm]; exact Cr.sum_lt s
  have w1 : IntKind.u8.wrap (m : Int) = ((m % 256 : Nat) : Int) := by rw [IntKind.wrap_u8]; omega
  have w2 : IntKind.u8.wrap ((m : Int).fdiv 256) = ((m / 256 % 256 : Nat) : Int) := by rw [IntKind.wrap_u8, Int.fdiv_eq_ediv_of_nonneg _ (by omega)]; omega
  have w3 : IntKind.u8.wrap ((m : Int).fdiv 65536) = ((m / 65536 % 256 : Nat) : Int) := by rw [IntKind.wrap_u8, Int.fdiv_eq_ediv_of_nonneg _ (by omega)]; omega
  have w4 : IntKind.u8.wrap ((m : Int).fdiv 16777216) = ((m / 16777216 % 256 : Nat) : Int) := by rw [IntKind.wrap_u8, Int.fdiv_eq_ediv_of_nonneg _ (by omega)]; omega
  obtain ⟨c1, d1⟩ : ∃ c, m % 256 = c := ⟨_, rfl⟩
  obtain ⟨c2, d2⟩ : ∃ c, m / 256 % 256 = c := ⟨_, rfl⟩
  obtain ⟨c3, d3⟩ : ∃ c, m / 65536 % 256 = c := ⟨_, rfl⟩
  obtain ⟨c4, d4⟩ : ∃ c, m / 16777216 % 256 = c := ⟨_, rfl⟩
  have hres : Cr.seal s = s ++ [UInt8.ofNat c1, UInt8.ofNat c2, UInt8.ofNat c3, UInt8.ofNat c4] := by
    unfold Cr.seal Cr.four
    rw [hm, d1, d2, d3, d4]
  rw [d1] at w1
  rw [d2] at w2
  rw [d3] at w3
  rw [d4] at w4
  rw [hres]
  clear d1 d2 d3 d4 hres
  have g1 : IntKind.i64.wrap 1 = 1 := by decide
  refine ct_val hmix hΓ (n := 5) Try.func45 ?_ (by simp)
  unfold Try.f45
  simp (decide := true) [sumS, h1, h2, hm, a1, a2, a3, a4, b1, b2, b3, b4, w1, w2, w3, w4, List.take_of_length_le]

def sealS : Summ := pureS fun | [.str s] => if s.length ≤ 1000000000000 then some (.str (Cr.seal s)) else none | _ => none
theorem seal_sound : Sound Try.prog 45 sealS := by
  refine sound_pure (enter_of Try.func45 rfl (by decide)) fun args v h => ?_
  split at h <;> try cases h
  rename_i s
  split at h <;> cases h
  exact ⟨seal_ct s ‹_›, by simp, by simp⟩

def Cr.openOk (s : List UInt8) : Bool := 4 ≤ s.length && Cr.seal (s.take (s.length - 4)) == s

set_option maxHeartbeats 4000000 in
theorem open_ct (s : List UInt8) (hs : s.length ≤ 1000000000000) : Ct Try.prog 67 [.str s] [] (.tuple [.str (if Cr.openOk s then s.take (s.length - 4) else []), .bool (Cr.openOk s)]) [] := by
  have hΓ := goks_cons seal_sound goks_nil
  have hw : IntKind.i64.wrap ((s.length : Int) - 4) = (s.length : Int) - 4 := wr_i64 (by omega) (by omega)
  by_cases h4 : s.length < 4
  · have h4' : (s.length : Int) - 4 < 0 := by omega
    have h4'' : (s.length : Int) < 4 := by omega
    have e : Cr.openOk s = false := by unfold Cr.openOk; simp; omega
    rw [e]
    refine ct_val hmix hΓ (n := 0) Try.func67 ?_ (by simp)
    unfold Try.f67
    simp (decide := true) [hw, h4']
  · obtain ⟨n, hn⟩ : ∃ n, s.length = n + 4 := ⟨s.length - 4, by omega⟩
    have h4' : ¬ ((s.length : Int) - 4 < 0) := by omega
    have h4'' : ¬ ((s.length : Int) < 4) := by omega
    have hw2 : (s.length : Int) - 4 = (n : Int) := by omega
    have hle : n ≤ s.length := by omega
    have hle2 : n ≤ 1000000000000 := by omega
    have e0 : s.length - 4 = n := by omega
    by_cases hc : Cr.seal (s.take n) = s
    · have e : Cr.openOk s = true := by unfold Cr.openOk; rw [e0, hc]; simp; omega
      rw [e, e0]
      refine ct_val hmix hΓ (n := 0) Try.func67 ?_ (by simp)
      unfold Try.f67
      rw [hw2] at hw
      simp (decide := true) [hw2, hw, sealS, hle, hle2, hc]
    · have e : Cr.openOk s = false := by unfold Cr.openOk; rw [e0]; simp [hc]
      rw [e, e0]
      refine ct_val hmix hΓ (n := 0) Try.func67 ?_ (by simp)
      unfold Try.f67
      rw [hw2] at hw
      simp (decide := true) [hw2, hw, sealS, hle, hle2, hc]

def openS : Summ := pureS fun | [.str s] => if s.length ≤ 1000000000000 then some (.tuple [.str (if Cr.openOk s then s.take (s.length - 4) else []), .bool (Cr.openOk s)]) else none | _ => none
theorem open_sound : Sound Try.prog 67 openS := by
  refine sound_pure (enter_of Try.func67 rfl (by decide)) fun args v h => ?_
  split at h <;> try cases h
  rename_i s
  split at h <;> cases h
  exact ⟨open_ct s ‹_›, by simp, by simp⟩

/-! The document's answer of layer 1 -/

theorem turned_ct (n : Nat) (h : n < 4294967296) : Ct Try.prog 105 [.int .u32 n] [] (.int .u32 (4294967295 ^^^ n : Nat)) [] := by
  have e : (4294967295 : Int) - n = ((4294967295 ^^^ n : Nat) : Int) := by
    have : 4294967295 ^^^ n = 4294967295 - n := by
      have h1 : (4294967295 : Nat) = 2 ^ 32 - 1 := rfl
      apply Nat.eq_of_testBit_eq
      intro i
      have h3 : 4294967295 - n = 2 ^ 32 - (n + 1) := by omega
      rw [h3, Nat.testBit_two_pow_sub_succ (by omega), Nat.testBit_xor, h1, Nat.testBit_two_pow_sub_one]
      by_cases hi : i < 32
      · simp [hi]
      · have h32 : 32 ≤ i := by omega
        have : n.testBit i = false := Nat.testBit_lt_two_pow (Nat.lt_of_lt_of_le (show n < 2 ^ 32 by omega) (Nat.pow_le_pow_right (by omega) h32))
        simp [hi, this]
    rw [this]; omega
  have l : 4294967295 ^^^ n < 4294967296 := Nat.xor_lt_two_pow (n := 32) (by omega) h
  have w := wr_u32 (n := ((4294967295 ^^^ n : Nat) : Int)) (by omega) (by omega)
  refine ct_val hmix goks_nil (n := 0) Try.func105 ?_ (by simp)
  unfold Try.f105
  simp [w, e]

theorem bit_ct (n b : Nat) (h1 : n < 4294967296) : Ct Try.prog 106 [.int .u32 n, .int .u32 b] [] (.int .u32 (Cr.bit n b : Nat)) [] := by
  obtain ⟨m, hm⟩ : ∃ m, n % 2 = m := ⟨_, rfl⟩
  obtain ⟨d, hd⟩ : ∃ d, n / 2 = d := ⟨_, rfl⟩
  have e1 : (n : Int).tmod 2 = (m : Int) := by rw [tmod_nn (by omega)]; omega
  have e2 : (n : Int).tdiv 2 = (d : Int) := by rw [tdiv_nn (by omega)]; omega
  have e3 := wr_u32 (n := (d : Int)) (by omega) (by omega)
  have e4 : bitsA .xor .u32 (d : Int) 3988292384 = ((d ^^^ 3988292384 : Nat) : Int) := xor_u32 d 3988292384 (by omega) (by omega)
  unfold Cr.bit
  rw [hm, hd]
  by_cases h : m = b
  · refine ct_val hmix goks_nil (n := 0) Try.func106 ?_ (by simp)
    unfold Try.f106
    simp [e1, e2, e3, h]
  · have h' : ¬ (m : Int) = b := by omega
    refine ct_val hmix goks_nil (n := 0) Try.func106 ?_ (by simp)
    unfold Try.f106
    simp [e1, e2, e3, e4, h, h']

end Go.Proofs.Ytbbgmaklmlagcaa

namespace Go.Proofs.Ytbbgmaklmlagcaa
open Go
set_option maxRecDepth 100000

theorem Cr.bit_lt (n b : Nat) (h : n < 4294967296) : Cr.bit n b < 4294967296 := by
  unfold Cr.bit
  split
  · omega
  · exact Nat.xor_lt_two_pow (n := 32) (by omega) (by omega)

theorem Cr.bits_lt : ∀ (k n c : Nat), n < 4294967296 → Cr.bits k n c < 4294967296
  | 0, _n, _c, h => h
  | k + 1, _n, _c, h => Cr.bits_lt k _ _ (Cr.bit_lt _ _ h)

def bitS : Summ := pureS fun | [.int .u32 n, .int .u32 b] => if 0 ≤ n ∧ n.toNat < 4294967296 ∧ 0 ≤ b then some (.int .u32 (Cr.bit n.toNat b.toNat : Nat)) else none | _ => none
theorem bit_sound : Sound Try.prog 106 bitS := by
  refine sound_pure (enter_of Try.func106 rfl (by decide)) fun args v h => ?_
  split at h <;> try cases h
  rename_i n b
  split at h <;> cases h
  rename_i hc
  have h0 := bit_ct n.toNat b.toNat (by omega)
  rw [show ((n.toNat : Nat) : Int) = n by omega, show ((b.toNat : Nat) : Int) = b by omega] at h0
  exact ⟨h0, by simp, by simp⟩

def turnedS : Summ := pureS fun | [.int .u32 n] => if 0 ≤ n ∧ n.toNat < 4294967296 then some (.int .u32 (4294967295 ^^^ n.toNat : Nat)) else none | _ => none
theorem turned_sound : Sound Try.prog 105 turnedS := by
  refine sound_pure (enter_of Try.func105 rfl (by decide)) fun args v h => ?_
  split at h <;> try cases h
  rename_i n
  split at h <;> cases h
  rename_i hc
  have h0 := turned_ct n.toNat (by omega)
  rw [show ((n.toNat : Nat) : Int) = n by omega] at h0
  exact ⟨h0, by simp, by simp⟩

set_option maxHeartbeats 4000000 in
theorem rsum_ct (s : List UInt8) (hs : s.length ≤ 9223372036854775806) : Ct Try.prog 80 [.str s] [] (.int .u32 (Cr.sum s : Nat)) [] := by
  have hΓ := goks_cons bit_sound (goks_cons turned_sound goks_nil)
  refine ct_of_sim Try.func80 rfl ?_
  simp only [Try.ntmps80, List.length_cons, List.length_nil, List.replicate, List.cons_append, List.nil_append]
  refine Sim.step hmix hΓ (n := 0) (by simp; exact ⟨rfl, rfl⟩) (by simp) ?_
  refine Sim.step hmix hΓ (n := 0) (by simp [turnedS]; exact ⟨rfl, rfl⟩) (by simp) ?_
  refine Sim.seq ?_
  refine Sim.step hmix hΓ (n := 0) (by simp; exact ⟨rfl, rfl⟩) (by simp) ?_
  refine Sim.block (Sim.loopW (fun k : Nat => k ≤ s.length)
    (fun k => [.str s, .top, .top, .int .u32 ((s.take k).foldl Cr.step 4294967295 : Nat), .int .i64 k] ++ List.replicate 25 .top)
    (fun _ => []) (fun k => s.length - k) 0 (by simp) (by omega) (Weak.mk' [] (by decide) (by decide) (by simp) (by simp)) fun k hk => ?_)
  by_cases hlt : k < s.length
  · obtain ⟨n0, hq⟩ : ∃ q, (s.take k).foldl Cr.step 4294967295 = q := ⟨_, rfl⟩
    obtain ⟨b, hbk⟩ : ∃ b, s[k]? = some b := ⟨_, List.getElem?_eq_getElem hlt⟩
    have hg : s[k] = b := by rw [List.getElem?_eq_getElem hlt] at hbk; cases hbk; rfl
    have ln0 : n0 < 4294967296 := by rw [← hq]; exact Cr.steps_lt _ _ (by omega)
    have hnext : (s.take (k + 1)).foldl Cr.step 4294967295 = Cr.bits 8 n0 b.toNat := by
      rw [List.take_add_one, hbk, List.foldl_append, hq, Cr.bits_step]; rfl
    have hb := b.toNat_lt
    obtain ⟨c0, hc0⟩ : ∃ x, b.toNat = x := ⟨_, rfl⟩
    rw [hc0] at hb hnext
    have ew : IntKind.u32.wrap (c0 : Int) = (c0 : Int) := wr_u32 (by omega) (by omega)
    have hw : IntKind.i64.wrap ((k : Int) + 1) = k + 1 := wr_i64 (by omega) (by omega)
    rw [hq]
    clear hbk hq
    refine Sim.step hmix hΓ (n := 0) (by simp [hlt]; exact ⟨rfl, rfl⟩) (by simp) ?_
    refine Sim.seq (Sim.block ?_)
    refine Sim.step hmix hΓ (n := 0) (by simp [hlt, hg, hc0, ew]; exact ⟨rfl, rfl⟩) (by simp) ?_
    refine Sim.step hmix hΓ (n := 0) (by simp; exact ⟨rfl, rfl⟩) (by simp) ?_
    refine Sim.block (Sim.loopW (fun j : Nat => j ≤ 8)
      (fun j => [.str s, .top, .top, .int .u32 (Cr.bits j n0 c0 : Nat), .int .i64 k, .int .u32 (c0 / 2 ^ j : Nat), .int .i64 j] ++ List.replicate 23 .top)
      (fun _ => []) (fun j => 8 - j) 0 (by simp) (by omega) (Weak.mk' [] (by decide) (by decide) (by simp [Cr.bits]) (by simp)) fun j hj => ?_)
    by_cases hj8 : j < 8
    · have hsucc : Cr.bits (j + 1) n0 c0 = Cr.bit (Cr.bits j n0 c0) (c0 / 2 ^ j % 2) := by rw [Cr.bits_add]; rfl
      have hcs : c0 / 2 ^ (j + 1) = c0 / 2 ^ j / 2 := by rw [Nat.pow_succ, Nat.div_div_eq_div_mul]
      have hnl : Cr.bits j n0 c0 < 4294967296 := Cr.bits_lt j n0 c0 ln0
      have hcl : c0 / 2 ^ j ≤ 255 := Nat.le_trans (Nat.div_le_self _ _) (by omega)
      obtain ⟨n, hn⟩ : ∃ n, Cr.bits j n0 c0 = n := ⟨_, rfl⟩
      obtain ⟨c, hc⟩ : ∃ c, c0 / 2 ^ j = c := ⟨_, rfl⟩
      rw [hn, hc] at hsucc
      rw [hc] at hcs hcl
      rw [hn] at hnl
      obtain ⟨m, hm⟩ : ∃ x, c % 2 = x := ⟨_, rfl⟩
      obtain ⟨d, hd⟩ : ∃ x, c / 2 = x := ⟨_, rfl⟩
      have em : (c : Int).tmod 2 = (m : Int) := by rw [tmod_nn (by omega)]; omega
      have ed : (c : Int).tdiv 2 = (d : Int) := by rw [tdiv_nn (by omega)]; omega
      have ewd : IntKind.u32.wrap (d : Int) = (d : Int) := wr_u32 (by omega) (by omega)
      have hwj : IntKind.i64.wrap ((j : Int) + 1) = j + 1 := wr_i64 (by omega) (by omega)
      have hji : (j : Int) < 8 := by omega
      rw [hm] at hsucc
      rw [hd] at hcs
      rw [hn, hc]
      clear hn hc hm hd
      refine Sim.exec hmix hΓ (n := 0) (by simp [hji, bitS, hnl, em, ed, ewd, hwj]; exact ⟨rfl, rfl, rfl⟩) (by simp) ?_
      exact ⟨j + 1, by omega, Weak.mk' [] (by decide) (by decide) (by simp [hsucc, hcs]) (by simp), by omega⟩
    · obtain rfl : j = 8 := by omega
      refine Sim.exec hmix hΓ (n := 0) (by simp; exact ⟨rfl, rfl, rfl⟩) (by simp) ?_
      refine Sim.exec hmix hΓ (n := 0) (by simp [hw]; exact ⟨rfl, rfl, rfl⟩) (by simp) ?_
      exact ⟨k + 1, by omega, Weak.mk' [] (by decide) (by decide) (by simp [hnext]) (by simp), by omega⟩
  · obtain rfl : k = s.length := by omega
    have hq32 : s.foldl Cr.step 4294967295 < 4294967296 := Cr.steps_lt _ _ (by omega)
    have hsum : Cr.sum s = 4294967295 ^^^ s.foldl Cr.step 4294967295 := by unfold Cr.sum Cr.more; rw [Nat.xor_zero]
    rw [List.take_length]
    obtain ⟨q, hq⟩ : ∃ q, s.foldl Cr.step 4294967295 = q := ⟨_, rfl⟩
    rw [hq] at hq32 hsum
    rw [hq]
    obtain ⟨m, hm⟩ : ∃ m, Cr.sum s = m := ⟨_, rfl⟩
    rw [hm] at hsum
    rw [hm]
    clear hq hm
    refine Sim.exec hmix hΓ (n := 0) (by simp; exact ⟨rfl, rfl, rfl⟩) (by simp) ?_
    refine Sim.exec hmix hΓ (n := 0) (by simp [turnedS, hq32, ← hsum]; exact ⟨rfl, rfl, rfl⟩) (by simp) ?_
    refine ⟨.inr rfl, _, by simp; rfl, Weak.mk' [] (by decide) (by decide) (by simp) (by simp)⟩

def rsumS : Summ := pureS fun | [.str s] => if s.length ≤ 9223372036854775806 then some (.int .u32 (Cr.sum s : Nat)) else none | _ => none
theorem rsum_sound : Sound Try.prog 80 rsumS := by
  refine sound_pure (enter_of Try.func80 rfl (by decide)) fun args v h => ?_
  split at h <;> try cases h
  rename_i s
  split at h <;> cases h
  exact ⟨rsum_ct s ‹_›, by simp, by simp⟩

set_option maxHeartbeats 4000000 in
theorem four_ct (m : Nat) (hm : m < 4294967296) : Ct Try.prog 79 [.int .u32 m] [] (.str (Cr.four m)) [] := by
  obtain ⟨c1, d1⟩ : ∃ c, m % 256 = c := ⟨_, rfl⟩
  obtain ⟨q2, p2⟩ : ∃ c, m / 256 = c := ⟨_, rfl⟩
  obtain ⟨c2, d2⟩ : ∃ c, q2 % 256 = c := ⟨_, rfl⟩
  obtain ⟨q3, p3⟩ : ∃ c, m / 65536 = c := ⟨_, rfl⟩
  obtain ⟨c3, d3⟩ : ∃ c, q3 % 256 = c := ⟨_, rfl⟩
  obtain ⟨c4, d4⟩ : ∃ c, m / 16777216 = c := ⟨_, rfl⟩
  have t1 : (m : Int).tmod 256 = (c1 : Int) := by rw [tmod_nn (by omega)]; omega
  have t2 : (m : Int).tdiv 256 = (q2 : Int) := by rw [tdiv_nn (by omega)]; omega
  have t3 : (q2 : Int).tmod 256 = (c2 : Int) := by rw [tmod_nn (by omega)]; omega
  have t4 : (m : Int).tdiv 65536 = (q3 : Int) := by rw [tdiv_nn (by omega)]; omega
  have t5 : (q3 : Int).tmod 256 = (c3 : Int) := by rw [tmod_nn (by omega)]; omega
  have t6 : (m : Int).tdiv 16777216 = (c4 : Int) := by rw [tdiv_nn (by omega)]; omega
  have u1 : IntKind.u8.wrap (c1 : Int) = c1 := wr_u8 (by omega) (by omega)
  have u2 : IntKind.u8.wrap (c2 : Int) = c2 := wr_u8 (by omega) (by omega)
  have u3 : IntKind.u8.wrap (c3 : Int) = c3 := wr_u8 (by omega) (by omega)
  have u4 : IntKind.u8.wrap (c4 : Int) = c4 := wr_u8 (by omega) (by omega)
  have v1 : IntKind.u32.wrap (q2 : Int) = q2 := wr_u32 (by omega) (by omega)
  have v2 : IntKind.u32.wrap (q3 : Int) = q3 := wr_u32 (by omega) (by omega)
  have v3 : IntKind.u32.wrap (c4 : Int) = c4 := wr_u32 (by omega) (by omega)
  have hres : Cr.four m = [UInt8.ofNat c1, UInt8.ofNat c2, UInt8.ofNat c3, UInt8.ofNat c4] := by
    unfold Cr.four
    rw [d1, p2, d2, p3, d3, d4, show c4 % 256 = c4 by omega]
  rw [hres]
  clear hres d1 d2 d3 d4 p2 p3
  refine ct_val hmix goks_nil (n := 0) Try.func79 ?_ (by simp)
  unfold Try.f79
  simp [t1, t2, t3, t4, t5, t6, u1, u2, u3, u4, v1, v2, v3]

def fourS : Summ := pureS fun | [.int .u32 n] => if 0 ≤ n ∧ n.toNat < 4294967296 then some (.str (Cr.four n.toNat)) else none | _ => none
theorem four_sound : Sound Try.prog 79 fourS := by
  refine sound_pure (enter_of Try.func79 rfl (by decide)) fun args v h => ?_
  split at h <;> try cases h
  rename_i n
  split at h <;> cases h
  rename_i hc
  have h0 := four_ct n.toNat (by omega)
  rw [show ((n.toNat : Nat) : Int) = n by omega] at h0
  exact ⟨h0, by simp, by simp⟩

set_option maxHeartbeats 1000000 in
theorem rseal_ct (s : List UInt8) (hs : s.length ≤ 1000000000000) : Ct Try.prog 44 [.str s] [] (.str (Cr.seal s)) [] := by
  have hΓ := goks_cons rsum_sound (goks_cons four_sound goks_nil)
  have h1 : s.length ≤ 9223372036854775806 := by omega
  have h2 : s.length + 4 ≤ 9223372036854775807 := by omega
  have h3 := Cr.sum_lt s
  have hse : Cr.seal s = s ++ Cr.four (Cr.sum s) := rfl
  obtain ⟨m, hm⟩ : ∃ m, Cr.sum s = m := ⟨_, rfl⟩
  rw [hm] at h3 hse
  obtain ⟨f, hf⟩ : ∃ f, Cr.four m = f := ⟨_, rfl⟩
  have h4 : f.length = 4 := by rw [← hf]; rfl
  rw [hf] at hse
  rw [hse]
  clear hse
  refine ct_val hmix hΓ (n := 0) Try.func44 ?_ (by simp)
  unfold Try.f44
  simp [rsumS, fourS, h1, h2, h3, h4, hm, hf]

def rsealS : Summ := pureS fun | [.str s] => if s.length ≤ 1000000000000 then some (.str (Cr.seal s)) else none | _ => none
theorem rseal_sound : Sound Try.prog 44 rsealS := by
  refine sound_pure (enter_of Try.func44 rfl (by decide)) fun args v h => ?_
  split at h <;> try cases h
  rename_i s
  split at h <;> cases h
  exact ⟨rseal_ct s ‹_›, by simp, by simp⟩

theorem Cr.openOk_iff (s : List UInt8) : Cr.openOk s = true ↔ 4 ≤ s.length ∧ s.drop (s.length - 4) = Cr.four (Cr.sum (s.take (s.length - 4))) := by
  unfold Cr.openOk
  simp only [Bool.and_eq_true, decide_eq_true_eq, beq_iff_eq]
  refine and_congr_right fun h => ?_
  unfold Cr.seal
  constructor
  · intro e
    have : s.take (s.length - 4) ++ s.drop (s.length - 4) = s.take (s.length - 4) ++ Cr.four (Cr.sum (s.take (s.length - 4))) := by rw [List.take_append_drop, e]
    exact List.append_cancel_left this
  · intro e
    rw [← e, List.take_append_drop]

set_option maxHeartbeats 4000000 in
theorem ropen_ct (s : List UInt8) (hs : s.length ≤ 1000000000000) : Ct Try.prog 42 [.str s] [] (.tuple [.str (if Cr.openOk s then s.take (s.length - 4) else []), .bool (Cr.openOk s)]) [] := by
  have hΓ := goks_cons rsum_sound (goks_cons four_sound goks_nil)
  have hw : IntKind.i64.wrap ((s.length : Int) - 4) = (s.length : Int) - 4 := wr_i64 (by omega) (by omega)
  have hok := Cr.openOk_iff s
  by_cases h4 : s.length < 4
  · have h4' : (s.length : Int) - 4 < 0 := by omega
    have h4'' : (s.length : Int) < 4 := by omega
    have e : Cr.openOk s = false := by rw [Bool.eq_false_iff]; intro h; have := hok.1 h; omega
    rw [e]
    refine ct_val hmix hΓ (n := 0) Try.func42 ?_ (by simp)
    unfold Try.f42
    simp (decide := true) [hw, h4']
  · obtain ⟨n, hn⟩ : ∃ n, s.length = n + 4 := ⟨s.length - 4, by omega⟩
    have h4' : ¬ ((s.length : Int) - 4 < 0) := by omega
    have hw2 : (s.length : Int) - 4 = (n : Int) := by omega
    have hle : n ≤ s.length := by omega
    have hle2 : n ≤ 9223372036854775806 := by omega
    have e0 : s.length - 4 = n := by omega
    have e1 : s.length - n = 4 := by omega
    have h3 := Cr.sum_lt (s.take n)
    have et : List.take 4 (s.drop n) = s.drop n := List.take_of_length_le (by simp; omega)
    rw [e0] at hok
    obtain ⟨m, hm⟩ : ∃ m, Cr.sum (s.take n) = m := ⟨_, rfl⟩
    rw [hm] at h3 hok
    obtain ⟨f, hf⟩ : ∃ f, Cr.four m = f := ⟨_, rfl⟩
    rw [hf] at hok
    obtain ⟨t, ht⟩ : ∃ t, s.drop n = t := ⟨_, rfl⟩
    rw [ht] at et hok
    have etf : f.length = 4 := by rw [← hf]; rfl
    have et2 : List.take 4 f = f := List.take_of_length_le (by omega)
    rw [hw2] at hw
    by_cases hc : t = f
    · have e : Cr.openOk s = true := hok.2 ⟨by omega, hc⟩
      rw [e, e0]
      refine ct_val hmix hΓ (n := 0) Try.func42 ?_ (by simp)
      unfold Try.f42
      simp (decide := true) [hw2, hw, rsumS, fourS, hle, hle2, h3, e1, ht, et2, hm, hf, hc]
    · have e : Cr.openOk s = false := by rw [Bool.eq_false_iff]; intro h; exact hc (hok.1 h).2
      rw [e, e0]
      refine ct_val hmix hΓ (n := 0) Try.func42 ?_ (by simp)
      unfold Try.f42
      simp (decide := true) [hw2, hw, rsumS, fourS, hle, hle2, h3, e1, ht, et, hm, hf, hc]

def ropenS : Summ := pureS fun | [.str s] => if s.length ≤ 1000000000000 then some (.tuple [.str (if Cr.openOk s then s.take (s.length - 4) else []), .bool (Cr.openOk s)]) else none | _ => none
theorem ropen_sound : Sound Try.prog 42 ropenS := by
  refine sound_pure (enter_of Try.func42 rfl (by decide)) fun args v h => ?_
  split at h <;> try cases h
  rename_i s
  split at h <;> cases h
  exact ⟨ropen_ct s ‹_›, by simp, by simp⟩

end Go.Proofs.Ytbbgmaklmlagcaa

namespace Go.Proofs.Ytbbgmaklmlagcaa

theorem Vy.get_rel (s : List UInt8) (k : Nat) (hk : k ≤ s.length) : Vy.get s k = ((Vy.get (s.drop k) 0).1, (k : Int) + (Vy.get (s.drop k) 0).2.1, (Vy.get (s.drop k) 0).2.2) := by
  have hl : (s.drop k).length = s.length - k := List.length_drop
  by_cases h : s.length ≤ k
  · have h1 : Vy.get s k = (0, (k : Int), 3) := by unfold Vy.get; rw [if_pos (by omega)]
    have h2 : Vy.get (s.drop k) 0 = (0, 0, 3) := by unfold Vy.get; rw [if_pos (by omega)]
    rw [h1, h2]
    simp
  · have n1 : ¬ ((k : Int) < 0 ∨ (s.length : Int) ≤ k) := by omega
    have n2 : ¬ ((0 : Int) < 0 ∨ ((s.drop k).length : Int) ≤ 0) := by omega
    have e1 : (s.drop k).getD 0 0 = s.getD k 0 := by
      rw [List.getD_eq_getElem?_getD, List.getD_eq_getElem?_getD, List.getElem?_drop]
      rfl
    have e2 : (s.drop k).drop (0 + 1) = s.drop (k + 1) := by
      rw [List.drop_drop]
    unfold Vy.get
    rw [if_neg n1, if_neg n2]
    simp only [Int.toNat_natCast, Int.toNat_zero, e1, e2, hl, Nat.sub_zero]
    generalize s.getD k 0 = c
    generalize s.length - k = r
    by_cases h1 : c.toNat < 248
    · simp [h1]
    · simp only [h1, if_false]
      by_cases h2 : r ≤ c.toNat - 247
      · simp [h2]
      · simp only [h2, if_false]
        split
        · simp [Int.add_assoc]
        · simp

theorem Cr.open_seal (s : List UInt8) : Cr.openOk (Cr.seal s) = true := by
  unfold Cr.openOk
  have hl := Cr.seal_length s
  have e : (Cr.seal s).take ((Cr.seal s).length - 4) = s := by
    rw [hl, Nat.add_sub_cancel]
    unfold Cr.seal
    simp
  rw [e]
  simp [hl]

theorem Cr.tab_top : ∀ i < 16, ∀ j < 16, Cr.tab.getD i 0 / 268435456 = Cr.tab.getD j 0 / 268435456 → i = j := by decide

theorem xor_div (a b k : Nat) : (a ^^^ b) / 2 ^ k = (a / 2 ^ k) ^^^ (b / 2 ^ k) := by
  rw [← Nat.shiftRight_eq_div_pow, ← Nat.shiftRight_eq_div_pow, ← Nat.shiftRight_eq_div_pow]
  exact Nat.shiftRight_xor_distrib

theorem Cr.half_inj (n n' h h' : Nat) (hn : n < 4294967296) (hn' : n' < 4294967296) (hh : h < 16) (hh' : h' < 16) (e : Cr.half n h = Cr.half n' h') : n / 16 = n' / 16 ∧ (n % 16) ^^^ h = (n' % 16) ^^^ h' := by
  unfold Cr.half at e
  have h1 : (n % 16) ^^^ h < 16 := Nat.xor_lt_two_pow (n := 4) (by omega) hh
  have h2 : (n' % 16) ^^^ h' < 16 := Nat.xor_lt_two_pow (n := 4) (by omega) hh'
  have e2 := congrArg (· / 2 ^ 28) e
  simp only [xor_div] at e2
  have z1 : n / 16 / 2 ^ 28 = 0 := by omega
  have z2 : n' / 16 / 2 ^ 28 = 0 := by omega
  rw [z1, z2, Nat.zero_xor, Nat.zero_xor] at e2
  have e3 := Cr.tab_top _ h1 _ h2 (by simpa using e2)
  refine ⟨?_, e3⟩
  rw [e3] at e
  have := congrArg (· ^^^ Cr.tab.getD ((n' % 16) ^^^ h') 0) e
  simpa [Nat.xor_assoc] using this

theorem xor_right_inj (a b c : Nat) (h : a ^^^ c = b ^^^ c) : a = b := by
  have := congrArg (· ^^^ c) h
  simpa [Nat.xor_assoc] using this
theorem xor_left_inj (a b c : Nat) (h : c ^^^ a = c ^^^ b) : a = b := xor_right_inj a b c (by rw [Nat.xor_comm a, Nat.xor_comm b]; exact h)

theorem Cr.step_state (n n' : Nat) (b : UInt8) (hn : n < 4294967296) (hn' : n' < 4294967296) (e : Cr.step n b = Cr.step n' b) : n = n' := by
  unfold Cr.step at e
  have hb := b.toNat_lt
  have one : ∀ h < 16, ∀ n n', n < 4294967296 → n' < 4294967296 → Cr.half n h = Cr.half n' h → n = n' := by
    intro h hh n n' hn hn' e
    obtain ⟨e1, e2⟩ := Cr.half_inj n n' h h hn hn' hh hh e
    have := xor_right_inj _ _ _ e2
    omega
  exact one _ (by omega) _ _ hn hn' (one _ (by omega) _ _ (Cr.half_lt _ _ hn) (Cr.half_lt _ _ hn') e)

theorem Cr.step_byte (n : Nat) (b b' : UInt8) (hn : n < 4294967296) (e : Cr.step n b = Cr.step n b') : b = b' := by
  unfold Cr.step at e
  have hb := b.toNat_lt
  have hb' := b'.toNat_lt
  obtain ⟨e1, e2⟩ := Cr.half_inj _ _ _ _ (Cr.half_lt n _ hn) (Cr.half_lt n _ hn) (by omega) (by omega) e
  have key : ∀ h h', h < 16 → h' < 16 → Cr.half n h / 16 = Cr.half n h' / 16 → h = h' := by
    intro h h' hh hh' e1
    unfold Cr.half at e1
    have e1' := congrArg (· / 2 ^ 24) e1
    simp only [Nat.div_div_eq_div_mul, show 16 * 2 ^ 24 = 2 ^ 28 from rfl, xor_div] at e1'
    have z1 : n / (16 * 2 ^ 28) = 0 := by omega
    rw [z1, Nat.zero_xor, Nat.zero_xor] at e1'
    have h1 : (n % 16) ^^^ h < 16 := Nat.xor_lt_two_pow (n := 4) (by omega) hh
    have h2 : (n % 16) ^^^ h' < 16 := Nat.xor_lt_two_pow (n := 4) (by omega) hh'
    exact xor_left_inj _ _ _ (Cr.tab_top _ h1 _ h2 (by simpa using e1'))
  have k1 := key _ _ (by omega) (by omega) e1
  rw [k1] at e2
  have k2 := xor_left_inj _ _ _ e2
  apply UInt8.toNat_inj.1
  omega

theorem Cr.fold_state : ∀ (s : List UInt8) (n n' : Nat), n < 4294967296 → n' < 4294967296 → s.foldl Cr.step n = s.foldl Cr.step n' → n = n'
  | [], _n, _n', _, _, e => e
  | b :: s, n, n', hn, hn', e => Cr.step_state n n' b hn hn' (Cr.fold_state s _ _ (Cr.step_lt _ _ hn) (Cr.step_lt _ _ hn') e)

theorem Cr.sum_byte (x y : List UInt8) (c c' : UInt8) (e : Cr.sum (x ++ c :: y) = Cr.sum (x ++ c' :: y)) : c = c' := by
  unfold Cr.sum Cr.more at e
  have e1 := xor_left_inj _ _ _ e
  rw [List.foldl_append, List.foldl_append, List.foldl_cons, List.foldl_cons] at e1
  have l0 : x.foldl Cr.step (4294967295 ^^^ 0) < 4294967296 := Cr.steps_lt x _ (by decide)
  exact Cr.step_byte _ _ _ l0 (Cr.fold_state y _ _ (Cr.step_lt _ _ l0) (Cr.step_lt _ _ l0) e1)

theorem Cr.four_inj (n m : Nat) (hn : n < 4294967296) (hm : m < 4294967296) (e : Cr.four n = Cr.four m) : n = m := by
  unfold Cr.four at e
  simp only [List.cons.injEq, and_true] at e
  obtain ⟨e0, e1, e2, e3⟩ := e
  have f : ∀ a b : Nat, a < 256 → b < 256 → UInt8.ofNat a = UInt8.ofNat b → a = b := by
    intro a b ha hb h
    have := congrArg UInt8.toNat h
    simp at this
    omega
  have := f _ _ (by omega) (by omega) e0
  have := f _ _ (by omega) (by omega) e1
  have := f _ _ (by omega) (by omega) e2
  have := f _ _ (by omega) (by omega) e3
  omega

theorem Cr.turned (s x y : List UInt8) (c c' : UInt8) (h : Cr.seal s = x ++ c :: y) (hne : c' ≠ c) : Cr.openOk (x ++ c' :: y) = false := by
  by_cases ho : Cr.openOk (x ++ c' :: y) = true
  rotate_left
  · simpa using ho
  exfalso
  unfold Cr.openOk at ho
  simp only [Bool.and_eq_true, decide_eq_true_eq, beq_iff_eq] at ho
  obtain ⟨_, ho⟩ := ho
  have hl : (x ++ c' :: y).length = s.length + 4 := by
    have := congrArg List.length h
    rw [Cr.seal_length] at this
    simp at this ⊢
    omega
  rw [hl, Nat.add_sub_cancel] at ho
  have hf4 : ∀ n, (Cr.four n).length = 4 := fun n => rfl
  unfold Cr.seal at h ho
  by_cases hx : x.length < s.length
  · have hs : s = x ++ c :: (y.take (s.length - x.length - 1)) := by
      have := congrArg (List.take s.length) h
      rw [List.take_left, List.take_append, List.take_of_length_le (by omega)] at this
      rw [show s.length - x.length = (s.length - x.length - 1) + 1 by omega, List.take_succ_cons] at this
      exact this
    have ht : (x ++ c' :: y).take s.length = x ++ c' :: (y.take (s.length - x.length - 1)) := by
      rw [List.take_append, List.take_of_length_le (by omega), show s.length - x.length = (s.length - x.length - 1) + 1 by omega, List.take_succ_cons]
      rfl
    have d1 := congrArg (List.drop s.length) h
    rw [List.drop_left, List.drop_append, List.drop_of_length_le (by omega), List.nil_append, show s.length - x.length = (s.length - x.length - 1) + 1 by omega, List.drop_succ_cons] at d1
    have d2 := congrArg (List.drop s.length) ho
    rw [show List.drop s.length ((x ++ c' :: y).take s.length ++ Cr.four (Cr.sum ((x ++ c' :: y).take s.length))) = Cr.four (Cr.sum ((x ++ c' :: y).take s.length)) from by
      have : ((x ++ c' :: y).take s.length).length = s.length := by rw [List.length_take]; omega
      exact List.drop_left' this, List.drop_append, List.drop_of_length_le (by omega), List.nil_append, show s.length - x.length = (s.length - x.length - 1) + 1 by omega, List.drop_succ_cons, ← d1, ht] at d2
    have := Cr.four_inj _ _ (Cr.sum_lt _) (Cr.sum_lt _) d2
    rw [show Cr.sum s = Cr.sum (x ++ c :: (y.take (s.length - x.length - 1))) from congrArg Cr.sum hs] at this
    exact hne (Cr.sum_byte _ _ _ _ this)
  · have ht : (x ++ c' :: y).take s.length = s := by
      have := congrArg (List.take s.length) h
      rw [List.take_left, List.take_append_of_le_length (by omega)] at this
      rw [List.take_append_of_le_length (by omega)]
      exact this.symm
    rw [ht, h] at ho
    have := List.append_cancel_left ho
    simp at this
    exact hne this.symm

end Go.Proofs.Ytbbgmaklmlagcaa

