/- Contracts: crc, and the document's answer of layer 1. -/
import Derived.Test.YtmoegdjpmcjhcaaKp
import Derived.Test.YtmoegdjpmcjhcaaTypes
namespace Go.Proofs.Ytmoegdjpmcjhcaa
open Go
set_option maxRecDepth 100000

set_option maxHeartbeats 1000000 in
theorem steps_ct : Ct Try.prog 79 [] [] (.agg (Cr.tab.map aW)) [] := by
  refine ct_run hmix goks_nil (n := 0) Try.func79 (v1 := .agg (Cr.tab.map aW)) (H1 := [.cells true (Cr.tab.map aW)]) ?_ (weak_pure (by simp))
  unfold Try.f79
  simp [Cr.tab, aW]

def stepsS : Summ := pureS fun | [] => some (.agg (Cr.tab.map aW)) | _ => none
theorem steps_sound : Sound Try.prog 79 stepsS := by
  refine sound_pure (enter_of Try.func79 rfl (by decide)) fun args v h => ?_
  split at h <;> cases h
  exact ⟨steps_ct, by simp, by simp⟩

set_option maxHeartbeats 1000000 in
theorem by_ct (n : Nat) (hs : List Nat) (hh : ∀ h ∈ hs, h < 16) (hn : n < 4294967296) (hl : hs.length ≤ 1000) :
    Ct Try.prog 80 [.agg (Cr.tab.map aW), .int .u32 n, .slice 0 0 hs.length 1 false] [.cells false (hs.map aB)] (.int .u32 (hs.foldl Cr.half n : Nat)) [.cells false (hs.map aB)] := by
  have hwr : ∀ k : Nat, k < hs.length → IntKind.i64.wrap ((k : Int) + 1) = k + 1 := fun k hk => wr_i64 (by omega) (by omega)
  obtain ⟨T, hT⟩ : ∃ T, Cr.tab.map aW = T := ⟨_, rfl⟩
  have hTl : T.length = 16 := by rw [← hT]; rfl
  have hTf : frees T = true := by rw [← hT]; simp
  have hTg : ∀ i < 16, T[i]? = some (.int .u32 (Cr.tab.getD i 0 : Nat)) := by
    intro i hi
    rw [← hT, List.getElem?_map, List.getElem?_eq_getElem (by simp [Cr.tab]; omega)]
    simp [aW, List.getElem?_eq_getElem (show i < Cr.tab.length by simp [Cr.tab]; omega)]
  rw [hT]
  refine ct_of_sim Try.func80 rfl ?_
  simp only [Try.ntmps80, List.length_cons, List.length_nil, List.replicate, List.cons_append, List.nil_append]
  refine Sim.step hmix goks_nil (n := 0) (by simp; exact ⟨rfl, rfl⟩) (by simp) ?_
  refine Sim.seq ?_
  refine Sim.step hmix goks_nil (n := 0) (by simp; exact ⟨rfl, rfl⟩) (by simp) ?_
  refine Sim.block (Sim.loopW (fun k : Nat => k ≤ hs.length)
    (fun k => [.agg T, .int .u32 ((hs.take k).foldl Cr.half n : Nat), .slice 0 0 hs.length 1 false, .ptr 1 0, .top, .top, .int .u32 0, .top, .top, .slice 0 0 hs.length 1 false, .int .i64 hs.length, .int .i64 k] ++ List.replicate 15 .top)
    (fun _ => [.cells false (hs.map aB), .cells true T]) (fun k => hs.length - k) 0 (by simp) (by omega) (Weak.mk' [0, 1] (by decide) (by decide) (by simp [hTf]) (by simp [hTf])) fun k hk => ?_)
  by_cases hlt : k < hs.length
  · obtain ⟨q, hq⟩ : ∃ q, (hs.take k).foldl Cr.half n = q := ⟨_, rfl⟩
    obtain ⟨h, hhk⟩ : ∃ h, hs[k]? = some h := ⟨_, List.getElem?_eq_getElem hlt⟩
    have hq32 : q < 4294967296 := by rw [← hq]; exact Cr.fold_lt _ _ hn
    have hh16 : h < 16 := hh h (List.mem_of_getElem? hhk)
    have hnext : (hs.take (k + 1)).foldl Cr.half n = Cr.half q h := by
      rw [List.take_add_one, hhk, List.foldl_append, hq]; rfl
    obtain ⟨a1, ha1⟩ : ∃ a1, q % 256 = a1 := ⟨_, rfl⟩
    obtain ⟨a2, ha2⟩ : ∃ a2, a1 % 16 = a2 := ⟨_, rfl⟩
    obtain ⟨a3, ha3⟩ : ∃ a3, a2 ^^^ h = a3 := ⟨_, rfl⟩
    obtain ⟨a4, ha4⟩ : ∃ a4, Cr.tab.getD a3 0 = a4 := ⟨_, rfl⟩
    obtain ⟨a5, ha5⟩ : ∃ a5, q / 16 = a5 := ⟨_, rfl⟩
    have l3 : a3 < 16 := by rw [← ha3]; exact Nat.xor_lt_two_pow (n := 4) (by omega) hh16
    have l4 : a4 < 4294967296 := by rw [← ha4]; exact Cr.tab_lt _
    have f1 : IntKind.u8.wrap (q : Int) = (a1 : Int) := by rw [IntKind.wrap_u8]; omega
    have f2 : bitsA .and .u8 (a1 : Int) 15 = (a2 : Int) := by rw [and_u8_15 a1 (by omega), ha2]
    have f3 : bitsA .xor .u8 (a2 : Int) (h : Int) = (a3 : Int) := by rw [xor_u8 a2 h (by omega) (by omega), ha3]
    have f4 : T[a3]? = some (.int .u32 (a4 : Nat)) := by rw [hTg a3 l3, ha4]
    have f5 : (q : Int).fdiv 16 = (a5 : Int) := by rw [Int.fdiv_eq_ediv_of_nonneg _ (by omega)]; omega
    have f6 : bitsA .xor .u32 (a5 : Int) (a4 : Int) = ((a5 ^^^ a4 : Nat) : Int) := xor_u32 a5 a4 (by omega) l4
    have hres : Cr.half q h = a5 ^^^ a4 := by
      unfold Cr.half
      rw [ha5, show q % 16 = a2 by omega, ha3, ha4]
    have l3' : (a3 : Int) < 16 := by omega
    have hg : hs[k] = h := by rw [List.getElem?_eq_getElem hlt] at hhk; cases hhk; rfl
    have hw := hwr k hlt
    rw [hq]
    clear hT hhk hq ha1 ha2 ha3 ha4 ha5 hTg
    refine Sim.exec hmix goks_nil (n := 0) (by simp [f1, f2, f3, f4, f5, f6, hw, hlt, l3', hg, aB]; exact ⟨rfl, rfl, rfl⟩) (by simp) ?_
    exact ⟨k + 1, by omega, Weak.mk' [0, 1] (by decide) (by decide) (by simp [hnext, hres, hTf]) (by simp [hTf]), by omega⟩
  · obtain rfl : k = hs.length := by omega
    refine Sim.exec hmix goks_nil (n := 0) (by simp; exact ⟨rfl, rfl, rfl⟩) (by simp) ?_
    refine Sim.exec hmix goks_nil (n := 0) (by simp; exact ⟨rfl, rfl, rfl⟩) (by simp) ?_
    refine ⟨.inr rfl, _, by simp; rfl, Weak.mk' [0] (by decide) (by decide) (by simp) (by simp)⟩

def byS : Summ := readS fun args H => match args with
  | [.agg T, .int .u32 n, .slice b off len 1 _] => match H[b]? with
    | some (.cells _ l) => match natsOf .u8 ((l.drop off).take len) with
      | some hs => if avsEq T (Cr.tab.map aW) = true ∧ off + len ≤ l.length ∧ (hs.all (· < 16)) = true ∧ 0 ≤ n ∧ n.toNat < 4294967296 ∧ len ≤ 1000 then some (.int .u32 (hs.foldl Cr.half n.toNat : Nat)) else none
      | none => none
    | _ => none
  | _ => none

theorem by_sound : Sound Try.prog 80 byS := by
  refine sound_read (enter_of Try.func80 rfl (by decide)) fun args H v h => ?_
  split at h <;> try cases h
  rename_i T n b off len c
  split at h <;> try cases h
  rename_i o l hb
  split at h <;> try cases h
  rename_i hs hhs
  split at h <;> cases h
  rename_i hc
  obtain ⟨c1, c2, c3, c4, c5, c6⟩ := hc
  obtain rfl := avsEq_eq c1
  have e := natsOf_eq hhs
  have hlen : hs.length = len := by have := congrArg List.length e; simp at this; omega
  have h0 := by_ct n.toNat hs (by simpa using c3) (by omega) (by omega)
  rw [hlen, show ((n.toNat : Nat) : Int) = n by omega] at h0
  refine ct_win h0 rfl [(b, off)] (by simp) ?_
  simp only [winH, hb]
  refine ⟨⟨by simp; omega, ?_⟩, by simp, trivial⟩
  rw [List.length_map, hlen, e]
  rfl

set_option maxHeartbeats 1000000 in
theorem more_ct (n : Nat) (s : List UInt8) (hn : n < 4294967296) (hs : s.length ≤ 9223372036854775806) : Ct Try.prog 74 [.int .u32 n, .str s] [] (.int .u32 (Cr.more n s : Nat)) [] := by
  have hΓ := goks_cons steps_sound (goks_cons by_sound goks_nil)
  obtain ⟨c, hc⟩ : ∃ c : Nat, 4294967295 ^^^ n = c := ⟨_, rfl⟩
  have hcl : c < 4294967296 := by rw [← hc]; exact Nat.xor_lt_two_pow (n := 32) (by omega) hn
  have fn : bitsA .xor .u32 4294967295 (n : Int) = (c : Int) := by rw [← hc]; exact xor_u32 4294967295 n (by omega) hn
  refine ct_of_sim Try.func74 rfl ?_
  simp only [Try.ntmps74, List.length_cons, List.length_nil, List.replicate, List.cons_append, List.nil_append]
  refine Sim.step hmix hΓ (n := 0) (by simp; exact ⟨rfl, rfl⟩) (by simp) ?_
  refine Sim.step hmix hΓ (n := 0) (by simp [stepsS, Cr.tab, aW]; exact ⟨rfl, rfl⟩) (by simp) ?_
  refine Sim.step hmix hΓ (n := 0) (by simp [fn]; exact ⟨rfl, rfl⟩) (by simp) ?_
  refine Sim.seq ?_
  refine Sim.step hmix hΓ (n := 0) (by simp; exact ⟨rfl, rfl⟩) (by simp) ?_
  refine Sim.block (Sim.loopW (fun k : Nat => k ≤ s.length)
    (fun k => [.top, .str s, .top, .top, .top, .ptr 0 0, .int .u32 ((s.take k).foldl Cr.step c : Nat), .top, .top, .top, .top, .top, .int .i64 s.length, .int .i64 k] ++ List.replicate 17 .top)
    (fun _ => [.cells true (Cr.tab.map aW)]) (fun k => s.length - k) 0 (by simp) (by omega) (Weak.mk' [0] (by decide) (by decide) (by simp) (by simp [Cr.tab, aW])) fun k hk => ?_)
  by_cases hlt : k < s.length
  · obtain ⟨q, hq⟩ : ∃ q, (s.take k).foldl Cr.step c = q := ⟨_, rfl⟩
    obtain ⟨b, hbk⟩ : ∃ b, s[k]? = some b := ⟨_, List.getElem?_eq_getElem hlt⟩
    have hg : s[k] = b := by rw [List.getElem?_eq_getElem hlt] at hbk; cases hbk; rfl
    have hq32 : q < 4294967296 := by rw [← hq]; exact Cr.steps_lt _ _ hcl
    have hnext : (s.take (k + 1)).foldl Cr.step c = Cr.step q b := by
      rw [List.take_add_one, hbk, List.foldl_append, hq]; rfl
    obtain ⟨h1, e1⟩ : ∃ h : Nat, b.toNat % 16 = h := ⟨_, rfl⟩
    obtain ⟨h2, e2⟩ : ∃ h : Nat, b.toNat / 16 = h := ⟨_, rfl⟩
    have hb := b.toNat_lt
    have f1 : bitsA .and .u8 (b.toNat : Int) 15 = (h1 : Int) := by rw [and_u8_15 b.toNat hb, e1]
    have f2 : (b.toNat : Int).fdiv 16 = (h2 : Int) := by rw [Int.fdiv_eq_ediv_of_nonneg _ (by omega)]; omega
    have l1 : h1 < 16 := by omega
    have l2 : h2 < 16 := by omega
    have hw : IntKind.i64.wrap ((k : Int) + 1) = k + 1 := wr_i64 (by omega) (by omega)
    have hst : Cr.step q b = Cr.half (Cr.half q h1) h2 := by unfold Cr.step; rw [e1, e2]
    rw [hq]
    clear hq hbk e1 e2 hb
    refine Sim.exec hmix hΓ (n := 0) (by simp (decide := true) [f1, f2, l1, l2, hw, hlt, hg, byS, hq32]; exact ⟨rfl, rfl, rfl⟩) (by simp) ?_
    exact ⟨k + 1, by omega, Weak.mk' [0] (by decide) (by decide) (by simp [hnext, hst]) (by simp), by omega⟩
  · obtain rfl : k = s.length := by omega
    have hq32 : s.foldl Cr.step c < 4294967296 := Cr.steps_lt _ _ hcl
    have fz : bitsA .xor .u32 4294967295 ((s.foldl Cr.step c : Nat) : Int) = ((Cr.more n s : Nat) : Int) := by
      unfold Cr.more; rw [hc]; exact xor_u32 4294967295 _ (by omega) hq32
    refine Sim.exec hmix hΓ (n := 0) (by simp; exact ⟨rfl, rfl, rfl⟩) (by simp) ?_
    refine Sim.exec hmix hΓ (n := 0) (by simp [fz]; exact ⟨rfl, rfl, rfl⟩) (by simp) ?_
    refine ⟨.inr rfl, _, by simp; rfl, Weak.mk' [] (by decide) (by decide) (by simp) (by simp)⟩

def moreS : Summ := pureS fun | [.int .u32 n, .str s] => if 0 ≤ n ∧ n.toNat < 4294967296 ∧ s.length ≤ 9223372036854775806 then some (.int .u32 (Cr.more n.toNat s : Nat)) else none | _ => none
theorem more_sound : Sound Try.prog 74 moreS := by
  refine sound_pure (enter_of Try.func74 rfl (by decide)) fun args v h => ?_
  split at h <;> try cases h
  rename_i n s
  split at h <;> cases h
  rename_i hc
  have h0 := more_ct n.toNat s (by omega) hc.2.2
  rw [show ((n.toNat : Nat) : Int) = n by omega] at h0
  exact ⟨h0, by simp, by simp⟩

set_option maxHeartbeats 1000000 in
theorem sum_ct (s : List UInt8) (hs : s.length ≤ 9223372036854775806) : Ct Try.prog 64 [.str s] [] (.int .u32 (Cr.sum s : Nat)) [] := by
  have hΓ := goks_cons more_sound goks_nil
  refine ct_run hmix hΓ (n := 0) Try.func64 (v1 := .int .u32 (Cr.sum s : Nat)) (H1 := []) ?_ (weak_pure (by simp))
  unfold Try.f64 Cr.sum
  simp [moreS, hs]

def sumS : Summ := pureS fun | [.str s] => if s.length ≤ 9223372036854775806 then some (.int .u32 (Cr.sum s : Nat)) else none | _ => none
theorem sum_sound : Sound Try.prog 64 sumS := by
  refine sound_pure (enter_of Try.func64 rfl (by decide)) fun args v h => ?_
  split at h <;> try cases h
  rename_i s
  split at h <;> cases h
  exact ⟨sum_ct s ‹_›, by simp, by simp⟩

end Go.Proofs.Ytmoegdjpmcjhcaa
