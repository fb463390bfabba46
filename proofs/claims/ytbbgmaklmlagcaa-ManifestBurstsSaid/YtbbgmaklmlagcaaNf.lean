/- Walk: cedillalaw23.ManifestBursts. -/
import Derived.Test.YtbbgmaklmlagcaaNd
import Derived.Test.YtbbgmaklmlagcaaKt
import Derived.Test.YtbbgmaklmlagcaaNa
namespace Go.Proofs.Ytbbgmaklmlagcaa
open Go
set_option maxRecDepth 100000
attribute [-simp] drawOk_eq adraw qrun acode aops

theorem bitsN_get : ∀ (k c i : Nat), i < k → (bitsN k c)[i]? = some (c / 2 ^ i % 2)
  | k + 1, c, 0, _ => by simp [bitsN]
  | k + 1, c, i + 1, h => by
    simp only [bitsN, List.getElem?_cons_succ]
    rw [bitsN_get k (c / 2) i (by omega), Nat.div_div_eq_div_mul, ← Nat.pow_succ', Nat.pow_succ]

theorem bitsS_get : ∀ (t : List UInt8) (i : Nat), (bitsS t)[i]? = t[i / 8]?.map fun b => b.toNat / 2 ^ (i % 8) % 2
  | [], i => by simp [bitsS]
  | b :: t, i => by
    have e : bitsS (b :: t) = bitsN 8 b.toNat ++ bitsS t := rfl
    rw [e]
    by_cases h : i < 8
    · rw [List.getElem?_append_left (by rw [bitsN_length]; exact h), bitsN_get 8 _ i h, show i / 8 = 0 by omega, show i % 8 = i by omega]
      rfl
    · rw [List.getElem?_append_right (by rw [bitsN_length]; omega), bitsN_length, bitsS_get t (i - 8)]
      rw [show i / 8 = (i - 8) / 8 + 1 by omega, show i % 8 = (i - 8) % 8 by omega, List.getElem?_cons_succ]

theorem u8_of {n : Nat} (h : n < 256) : (UInt8.ofNat n).toNat = n := by rw [UInt8.toNat_ofNat']; exact Nat.mod_eq_of_lt h

theorem div_bit (b k : Nat) : b / 2 ^ k % 2 = (b.testBit k).toNat := by
  rw [Nat.testBit_eq_decide_div_mod_eq]
  have : b / 2 ^ k % 2 < 2 := Nat.mod_lt _ (by omega)
  by_cases h : b / 2 ^ k % 2 = 1
  · simp [h]
  · simp [h]; omega

/-- One bit is turned: all others stand. -/
theorem bits_turn (t : List UInt8) (p : Nat) (hp : p / 8 < t.length) (c : UInt8) (hc : c.toNat = (t[p / 8]).toNat ^^^ 2 ^ (p % 8)) (i : Nat) (hi : i ≠ p) : (bitsS (t.set (p / 8) c))[i]? = (bitsS t)[i]? := by
  rw [bitsS_get, bitsS_get, List.getElem?_set]
  by_cases h : p / 8 = i / 8
  · have hr : p % 8 ≠ i % 8 := by omega
    rw [if_pos h, if_pos hp]
    rw [List.getElem?_eq_getElem (show i / 8 < t.length by omega)]
    simp only [Option.map_some, Option.some.injEq]
    rw [div_bit, div_bit, hc, Nat.testBit_xor, Nat.testBit_two_pow, decide_eq_false hr, Bool.xor_false]
    simp only [h]
  · rw [if_neg h]

theorem bkf_ok : GOk Try.prog (gams [(20, madeS), (27, mputS), (28, mgetS), (21, msameS), (14, trueS)]) :=
  goks_cons made_sound (goks_cons mput_sound (goks_cons mget_sound (goks_cons rsame_sound (goks_cons (true_sound Try.func14 rfl (by decide) mworks_ct) goks_nil))))
def buInl : List FuncId := [22]
theorem buΓ_ok : GOk Try.prog (runG Try.prog (gams [(20, madeS), (27, mputS), (28, mgetS), (21, msameS), (14, trueS)]) 0 buInl 1) := gok_run hmix bkf_ok 0 buInl 1

set_option maxHeartbeats 8000000 in
theorem bursts_ct (a : Mf) (at_ pat : Int) (ha : 0 ≤ at_) (ha2 : at_ ≤ 65535) :
    ∃ H', Ct Try.prog 5 [mfA 0 a, .int .u16 at_, .int .u32 pat] [.cells false (sgsA a.segs)] (.bool true) H' := by
  have hΓ := buΓ_ok
  refine ⟨[.cells false (sgsA a.segs)], ?_⟩
  refine ct_of_sim Try.func5 rfl ?_
  have ra := Mf.made_right a
  have ba : a.made.segs.length ≤ 20 := by unfold Mf.made; simp; omega
  obtain ⟨X, eX⟩ : ∃ M, a.made = M := ⟨_, rfl⟩
  rw [eX] at ra ba
  have lX : X.segs.length ≤ 1000000000000 := by omega
  have pX := Mf.bytes_le ra
  have gX := Mf.get_put ra
  have oX : Cr.openOk X.bytes = true := Cr.open_seal _
  have nX : 4 ≤ X.bytes.length := by simp only [Mf.bytes, Cr.seal_length]; omega
  have uX : X.put = (X.bytes, 0) := by unfold Mf.put; rw [if_pos ra]
  obtain ⟨s, hs⟩ : ∃ p, X.bytes = p := ⟨_, rfl⟩
  rw [hs] at pX gX uX oX nX
  have ls : s.length ≤ 1000000000000 := by omega
  obtain ⟨av, af, an, al⟩ := a
  obtain ⟨v, f, n, l⟩ := X
  simp only at lX
  simp only [Try.ntmps5, List.length_cons, List.length_nil, Nat.reduceAdd, Nat.reduceSub, List.replicate, List.cons_append, List.nil_append, mfA]
  refine Sim.step hmix hΓ (n := 0) (by simp; exact ⟨rfl, rfl⟩) (by simp) ?_
  refine Sim.step hmix hΓ (n := 0) (by simp [buInl, trueS]; exact ⟨rfl, rfl⟩) (by simp) ?_
  refine Sim.step hmix hΓ (n := 0) (by simp [buInl, madeS, mputS, rowSgs, eX, mfA, lX, uX]; exact ⟨rfl, rfl⟩) (by simp) ?_
  have ls2 : s.length ≤ 9223372036854775807 := by omega
  refine Sim.step hmix hΓ (n := 0) (by simp [ls2]; exact ⟨rfl, rfl⟩) (by simp) ?_
  refine Sim.seq (Sim.step hmix hΓ (n := 0) (by simp; exact ⟨rfl, rfl⟩) (by simp) ?_)
  have w0 : IntKind.i64.wrap at_ = at_ := wr_i64 (by omega) (by omega)
  obtain ⟨r, hr, lr⟩ := rem_nat at_ (8 * s.length) ha (by omega) (8 * (s.length : Int)) (by omega)
  have w1 : IntKind.i64.wrap (8 * (s.length : Int)) = 8 * (s.length : Int) := wr_i64 (by omega) (by omega)
  have z1 : ¬ (8 * (s.length : Int) = 0) := by omega
  refine Sim.block (Sim.loopW (fun x : Nat × List UInt8 => x.1 ≤ 32 ∧ x.2.length = s.length ∧ ∀ i, (i < r ∨ r + 32 ≤ i) → (bitsS x.2)[i]? = (bitsS s)[i]?)
    (fun x => [.top, .int .u16 at_, .int .u32 pat] ++ List.replicate 3 .top ++ [.bool false, .str s, .top, .slice 1 0 s.length 1 false, .int .i64 x.1] ++ List.replicate 80 .top) (fun x => [.cells false (sgsA al), .cells true (bytesA x.2)]) (fun x => 32 - x.1) (0, s) (by simp) (by simp) ?_ ?_)
  · exact Weak.mk' [0, 3] (by decide) (by decide) (by simp) (by simp)
  rintro ⟨k, b⟩ ⟨hk, hb, hbits⟩
  dsimp only at hk hb hbits ⊢
  by_cases hk2 : k < 32
  · have k2 : (k : Int) < 32 := by omega
    have hz : 0 < s.length := by omega
    refine Sim.step hmix hΓ (n := 0) (by simp [k2, hz]; exact ⟨rfl, rfl⟩) (by simp) ?_
    have w2 : IntKind.i64.wrap ((r : Int) + (k : Int)) = (r : Int) + (k : Int) := wr_i64 (by omega) (by omega)
    refine Sim.seq (Sim.block (Sim.step hmix hΓ (n := 0) (by simp [w0, w1, z1, hr, w2]; exact ⟨rfl, rfl⟩) (by simp) ?_))
    obtain ⟨t, ht⟩ : ∃ t, (bitsA BinOp.and IntKind.u32 (pat.fdiv (2 ^ min k 32)) 1 == 1) = t := ⟨_, rfl⟩
    have w3 : IntKind.i64.wrap ((k : Int) + 1) = (k : Int) + 1 := wr_i64 (by omega) (by omega)
    cases t
    · refine Sim.step hmix hΓ (n := 0) (by simp [ht]; exact ⟨rfl, rfl⟩) (by simp) ?_
      refine Sim.exec hmix hΓ (n := 0) (by simp; exact ⟨rfl, rfl, rfl⟩) (by simp) ?_
      refine Sim.exec hmix hΓ (n := 0) (by simp [w3]; exact ⟨rfl, rfl, rfl⟩) (by simp) ?_
      exact ⟨(k + 1, b), ⟨by show k + 1 ≤ 32; omega, hb, hbits⟩, Weak.mk' [0, 1] (by decide) (by decide) (by simp) (by simp), by show 32 - (k + 1) < 32 - k; omega⟩
    by_cases hp : r + k < 8 * s.length
    rotate_left
    · have hp' : ¬ ((r : Int) + (k : Int) < 8 * (s.length : Int)) := by omega
      refine Sim.step hmix hΓ (n := 0) (by simp [ht, w1, hp']; exact ⟨rfl, rfl⟩) (by simp) ?_
      refine Sim.exec hmix hΓ (n := 0) (by simp; exact ⟨rfl, rfl, rfl⟩) (by simp) ?_
      refine Sim.exec hmix hΓ (n := 0) (by simp [w3]; exact ⟨rfl, rfl, rfl⟩) (by simp) ?_
      exact ⟨(k + 1, b), ⟨by show k + 1 ≤ 32; omega, hb, hbits⟩, Weak.mk' [0, 1] (by decide) (by decide) (by simp) (by simp), by show 32 - (k + 1) < 32 - k; omega⟩
    have hp' : ((r : Int) + (k : Int) < 8 * (s.length : Int)) := by omega
    refine Sim.step hmix hΓ (n := 0) (by simp [ht, w1, hp']; exact ⟨rfl, rfl⟩) (by simp) ?_
    obtain ⟨q, hq⟩ : ∃ q, (r + k) / 8 = q := ⟨_, rfl⟩
    obtain ⟨m, hm⟩ : ∃ m, (r + k) % 8 = m := ⟨_, rfl⟩
    have e1 : ((r : Int) + (k : Int)).tdiv 8 = (q : Int) := by
      rw [Int.tdiv_eq_ediv_of_nonneg (by omega)]; omega
    have e2 : ((r : Int) + (k : Int)).tmod 8 = (m : Int) := by
      rw [tmod_nn (by omega)]; omega
    have w4 : IntKind.i64.wrap (q : Int) = q := wr_i64 (by omega) (by omega)
    have lq : q < s.length := by omega
    have lqb : q < b.length := by omega
    have m8 : m < 8 := by omega
    have p8 : 2 ^ m < 256 := Nat.lt_of_lt_of_le (Nat.pow_lt_pow_right (by omega) m8) (by decide)
    obtain ⟨z, hz⟩ : ∃ z : Nat, 2 ^ m = z := ⟨_, rfl⟩
    rw [hz] at p8
    have e3 : IntKind.u8.wrap (2 ^ min m 8) = (z : Int) := by
      rw [Nat.min_eq_left (by omega), show ((2 : Int) ^ m) = (z : Int) by rw [← hz]; simp]
      exact wr_u8 (by omega) (by omega)
    obtain ⟨c, hc⟩ : ∃ c : UInt8, c.toNat = (b[q]).toNat ^^^ z := by
      have : (b[q]).toNat ^^^ z < 256 := Nat.xor_lt_two_pow (n := 8) (b[q]).toNat_lt p8
      exact ⟨UInt8.ofNat ((b[q]).toNat ^^^ z), u8_of this⟩
    have e4 : bitsA BinOp.xor IntKind.u8 ((b[q]).toNat : Int) (z : Int) = (c.toNat : Int) := by
      rw [xor_u8 _ _ (b[q]).toNat_lt p8, hc]
    have lqb2 : q + 1 ≤ b.length := by omega
    refine Sim.exec hmix hΓ (n := 8) (by simp (decide := true) [e1, e2, e3, e4, w4, lq, lqb, lqb2]; exact ⟨drawOkG_split (by kernel_rfl) (by simp [apartF]), rfl, rfl, rfl⟩) (by simp) ?_
    refine Sim.exec hmix hΓ (n := 0) (by simp [w3]; exact ⟨rfl, rfl, rfl⟩) (by simp) ?_
    have eb : bytesA (b.set q c) = bytesA (b.take q) ++ .int .u8 c.toNat :: bytesA (b.drop (q + 1)) := by
      rw [List.set_eq_take_append_cons_drop, if_pos lqb]; simp [bytesA]
    refine ⟨(k + 1, b.set q c), ⟨by show k + 1 ≤ 32; omega, by simp [hb], fun i hi => ?_⟩, Weak.mk' [0, 1] (by decide) (by decide) (by simp) (by simp [eb]), by show 32 - (k + 1) < 32 - k; omega⟩
    rw [← hbits i hi, ← hq]
    exact bits_turn b (r + k) (by omega) c (by rw [hc, ← hz, ← hm]; simp only [hq]) i (by omega)
  have : k = 32 := by omega
  subst this
  refine Sim.exec hmix hΓ (n := 0) (by simp; exact ⟨rfl, rfl, rfl⟩) (by simp) ?_
  dsimp only
  rw [if_pos rfl]
  have lb : b.length ≤ 1000000000000 := by omega
  have lb2 : b.length ≤ 9223372036854775807 := by omega
  have tb : (bytesA b).take s.length = bytesA b := List.take_of_length_le (by simp [hb])
  have gc := Mf.get_code b
  have ge : Cr.openOk b = false → Mf.get b = (Mf.zero, 16) := fun h => by unfold Mf.get; rw [if_pos h]
  have gf := Mf.get_few b
  by_cases hbs : b = s
  · subst hbs
    have lz : 0 < b.length := by omega
    refine Sim.step hmix hΓ (n := 0) (by simp [buInl, mgetS, gX, lb, tb, mfA]; exact ⟨rfl, rfl⟩) (by simp) ?_
    refine Sim.exec hmix hΓ (n := 0) (by simp [buInl, tb, lz]; exact ⟨rfl, rfl, rfl⟩) (by simp) ?_
    exact ⟨.inr rfl, _, by simp [Try.f5] <;> rfl, Weak.mk' [0] (by decide) (by decide) (by simp) (by simp)⟩
  have hno : Cr.openOk b = false := by
    cases ho : Cr.openOk b
    · rfl
    · exact absurd (Cr.burst b s hb r hbits ho oX) hbs
  have gb := ge hno
  have sb : s.length ≤ b.length := by omega
  have hbe : (b == s) = false := by simp [hbs]
  refine Sim.step hmix hΓ (n := 0) (by simp [buInl, mgetS, gb, lb, tb, sb, mfA, Mf.zero, sgsA]; exact ⟨rfl, rfl⟩) (by simp) ?_
  refine Sim.step hmix hΓ (n := 0) (by simp [buInl, tb, sb, hbs]; exact ⟨rfl, rfl⟩) (by simp) ?_
  refine Sim.exec hmix hΓ (n := 0) (by simp [buInl, Try.f22, msameS, rowSgs, sgsOf]; exact ⟨rfl, rfl, rfl⟩) (by simp) ?_
  exact ⟨.inr rfl, _, by simp [Try.f5] <;> rfl, Weak.mk' [0] (by decide) (by decide) (by simp) (by simp)⟩

end Go.Proofs.Ytbbgmaklmlagcaa
