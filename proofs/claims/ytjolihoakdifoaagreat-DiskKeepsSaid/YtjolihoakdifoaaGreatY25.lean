/- Parts of the proof of DiskKeeps: lemmas, each with its own conditions. -/
import Derived.Test.YtjolihoakdifoaaGreatY23
import Derived.Test.YtjolihoakdifoaaGreatY24
import Derived.Test.YtjolihoakdifoaaGreatY17
namespace Go.Proofs.YtjolihoakdifoaaGreat
open Go Go.Lib
set_option maxRecDepth 100000
attribute [-simp] drawOk_eq adraw qrun acode aops
set_option maxHeartbeats 64000000 in
theorem keeps_roundD {A : AHeap} (l : List DA) (hok : ∀ x ∈ l, x.ok) (L M : Nat) (hL : l.length = L) (hN : A.length = L + 2) (hid : ∀ rn : List Nat, (∀ i, i < L + 2 → rn[i]? = some i) → ∀ B ∈ A, AWb rn B B) (hA0 : A[0]? = some (.cells false (dasA 1 l)))
    (q : Nat) (hq : q ≤ 255) (i : Nat) (_hi : i ≤ L) (hi50 : i ≤ 50) (d : DS) (m : KM) (hk : KInv q (10 * i) (300 * i) d m) (hlt : i < L ∧ i < 50) (hp0 : ∀ h : i < l.length, i < 50 → l[i].w % 16 ≠ 0 ∧ l[i].w % 16 ≠ 1 ∧ l[i].w % 16 ≠ 6 ∧ l[i].w % 16 ≠ 7 ∧ l[i].w % 16 ≠ 8 ∧ l[i].w % 16 ≠ 9 ∧ l[i].w % 16 ≠ 10 ∧ l[i].w % 16 ≠ 11 ∧ l[i].w % 16 ≠ 12) :
    Sim Tryz.prog none (L + 2) (loopOf (restC 5 (bodyOf Tryz.f3))) (ksF L M q i) (ksH A d m) fun e F' H' => match e with
      | .normal => i < 50 ∧ i < L ∧ ∃ d' m', KInv q (10 * (i + 1)) (300 * (i + 1)) d' m' ∧ Weak (L + 2) F' H' (ksF L M q (i + 1)) (ksH A d' m')
      | e => e = .exit 0 ∧ Weak (L + 2) F' H' (ksF L M q i) (ksH A d m) := by
  have hΓ := dkΓ_ok
  simp only [bodyOf, Tryz.f3, Option.getD_some, restC, loopOf]
  have hX := behindX A hN
  have hXg := hX.get
  have hXg0 := hX.get0
  have hXs := hX.set
  have hXs0 := hX.set0
  have hA00 : ∀ h, A[0]'h = .cells false (dasA 1 l) := fun h => by rw [List.getElem?_eq_getElem h] at hA0; exact Option.some.inj hA0
  have tl := fun {T Tn F Fn} => Weak.tail2 hN hid (T := T) (Tn := Tn) (F := F) (Fn := Fn)
  have r0 : ∀ ts : List Nat, (List.range (L + 2) ++ ts)[0]? = some 0 := fun ts => range_at _ _ (by omega)
  have r1 : ∀ ts : List Nat, (List.range (L + 2) ++ ts)[L + 1]? = some (L + 1) := fun ts => range_at _ _ (by omega)
  have r2 : ∀ ts : List Nat, (List.range (L + 2) ++ ts)[L + 2]? = ts[0]? := fun ts => range_beh0 _ _
  have r3 : ∀ ts : List Nat, (List.range (L + 2) ++ ts)[L + 3]? = ts[1]? := fun ts => range_beh (L + 2) ts 1
  have keep : ∀ (i : Nat) (d : DS) (m : KM) (j : Nat) (T : AHeap) (F : List AV), j ≠ 0 → (ABlk.obj true d.blks :: T)[j]? = some (.map (kmA m)) → AWs (List.range (L + 2) ++ [0, j].map (L + 2 + ·)) (ksF L M q i) F → Weak (L + 2) F (A ++ .obj true d.blks :: T) (ksF L M q i) (ksH A d m) := fun i d m j T F hj hm hF => by
    refine tl [0, j] (by simp [hj.symm]) hF rfl fun i' t x y h1 h2 h3 => ?_
    match i', h1, h2 with
    | 0, h1, h2 => cases h1; cases h2; cases h3; exact ⟨rfl, rfl⟩
    | 1, h1, h2 => cases h1; cases h2; rw [hm] at h3; cases h3; exact AWb_km _ _
  unfold ksF ksH
  simp only [List.cons_append, List.nil_append, List.replicate]
  obtain ⟨hlt, h50⟩ := hlt
  have hltI : (i : Int) < L := by omega
  have h50I : (i : Int) < 50 := by omega
  have hil : i < l.length := by omega
  have hp1 := hp0 hil h50
  obtain ⟨x, hx⟩ : ∃ x, l[i] = x := ⟨_, rfl⟩
  rw [hx] at hp1
  have hxo := hok x (by rw [← hx]; exact List.getElem_mem hil)
  have g1 := das_get l 1 i hil
  rw [hx] at g1
  obtain ⟨xw, xa, xb, xs, xn, xl⟩ := x
  obtain ⟨b1, b2, b3, b4, b5, _, _⟩ := hxo
  dsimp only at b1 b2 b3 b4 b5
  simp only [daA] at g1
  have k1 : i * 6 + 6 ≤ L * 6 := by omega
  have ia2 : (xa : Int) ≤ 255 := by omega
  have ib2 : (xb : Int) ≤ 255 := by omega
  have y1 : IntKind.i64.wrap ((i : Int) + 1) = i + 1 := wr_i64 (by omega) (by omega)
  have hq2 : ∀ k : Nat, 1 + i < L + 2 + k := fun k => by omega
  have hds : d.small := DS.ok_mono hk.ok (by omega) (by omega)
  have nml : ∀ n : Nat, (nmD xs n).length ≤ 9223372036854775807 := fun n => by
    unfold nmD
    split
    · exact b4
    · have : n % 4 < 4 := Nat.mod_lt _ (by decide)
      have h4 : ∀ p, p < 4 → (([[97], [98], [99], [108, 111, 103]] : List (List UInt8)).getD p []).length ≤ 3 := by decide
      have := h4 _ this
      omega
  obtain ⟨nx, hnx⟩ : ∃ nx, nmD xs xa = nx := ⟨_, rfl⟩
  have hnxl := nml xa
  rw [hnx] at hnxl
  obtain ⟨ny, hny⟩ : ∃ ny, nmD xs xb = ny := ⟨_, rfl⟩
  have hnyl := nml xb
  rw [hny] at hnyl
  obtain ⟨z, hz⟩ : ∃ z, 1 + i = z := ⟨_, rfl⟩
  rw [hz] at g1 hq2
  obtain ⟨p, hp⟩ : ∃ p, xw % 16 = p := ⟨_, rfl⟩
  have hp16 : p < 16 := by omega
  dsimp only at hp1
  rw [hp] at hp1
  have v1 : (xw : Int).tmod 16 = p := by rw [Int.tmod_eq_emod_of_nonneg (by omega)]; omega
  have v2 : IntKind.u8.wrap (p : Int) = p := wr_u8 (by omega) (by omega)
  refine Sim.step hmix hΓ (n := 0) (by simp [hltI, h50I]; exact ⟨rfl, rfl⟩) (by simp [hN]) ?_
  refine Sim.seq (Sim.mono (Q := fun e F' H' => e = .normal ∧ ∃ d' m', KInv q (10 * (i + 1)) (300 * (i + 1)) d' m' ∧ Weak (L + 2) F' H' (ksF L M q i) (ksH A d' m')) (Sim.block ?_) ?_)
  rotate_left
  · rintro e F' H' hlen1 ⟨rfl, d', m', hk', hwk⟩
    dsimp only
    refine Sim.weak hwk hlen1 ?_
    clear hwk hlen1
    unfold ksF ksH
    simp only [List.cons_append, List.nil_append, List.replicate]
    refine Sim.exec hmix hΓ (n := 0) (by simp [y1]; exact ⟨rfl, rfl, rfl⟩) (by simp [hN]) ?_
    exact ⟨h50, hlt, d', m', hk', keep (i + 1) d' m' 1 _ _ (by decide) rfl (by simp [AW])⟩
  refine Sim.step hmix hΓ (n := 0) (by simp (decide := true) [hlt, hL, hA00, hN, k1, g1]; exact ⟨rfl, rfl⟩) (by simp [hN]) ?_
  refine Sim.step hmix hΓ (n := 0) (by simp (decide := true) [dkΓ, nameDS, hN, hq2, ia2, ib2, hnx, hny]; first | exact ⟨rfl, rfl⟩ | exact ⟨by kernel_rfl, rfl, rfl⟩) (by simp [hN]) ?_
  refine Sim.step hmix hΓ (n := 0) (by simp (decide := true) [dkΓ, dusedR, hN, hds]; first | exact ⟨rfl, rfl⟩ | exact ⟨by kernel_rfl, rfl, rfl⟩) (by simp [hN]) ?_
  refine Sim.step hmix hΓ (n := 0) (by simp (decide := true) [hN, v1]; exact ⟨rfl, rfl⟩) (by simp [hN]) ?_
  refine Sim.block ?_
  have fin : ∀ (d' : DS) (m' : KM) (j : Nat) (T : AHeap) (F : List AV), KInv q (10 * (i + 1)) (300 * (i + 1)) d' m' → j ≠ 0 → (ABlk.obj true d'.blks :: T)[j]? = some (.map (kmA m')) → AWs (List.range (L + 2) ++ [0, j].map (L + 2 + ·)) (ksF L M q i) F →
      AX.normal = AX.normal ∧ ∃ d' m', KInv q (10 * (i + 1)) (300 * (i + 1)) d' m' ∧ Weak (L + 2) F (A ++ .obj true d'.blks :: T) (ksF L M q i) (ksH A d' m') := fun d' m' j T F hk' hj hm hF => ⟨rfl, d', m', hk', keep i d' m' j T F hj hm hF⟩
  have q6 : p ≠ 0 ∧ p ≠ 1 ∧ p ≠ 6 ∧ p ≠ 7 ∧ p ≠ 8 ∧ p ≠ 9 ∧ p ≠ 10 ∧ p ≠ 11 ∧ p ≠ 12 := hp1
  obtain ⟨a0, a1, a6, a7, a8, a9, a10, a11, a12⟩ := q6
  have z0 : ((p : Int) == 0) = false := by simp; omega
  have z1 : ((p : Int) == 1) = false := by simp; omega
  have z6 : ((p : Int) == 6) = false := by simp; omega
  have z7 : ((p : Int) == 7) = false := by simp; omega
  have z8 : ((p : Int) == 8) = false := by simp; omega
  have z9 : ((p : Int) == 9) = false := by simp; omega
  have z10 : ((p : Int) == 10) = false := by simp; omega
  have z11 : ((p : Int) == 11) = false := by simp; omega
  have z12 : ((p : Int) == 12) = false := by simp; omega
  have n1 : ¬ (p : Int) = 1 := by omega
  have n6 : ¬ (p : Int) = 6 := by omega
  have n7 : ¬ (p : Int) = 7 := by omega
  have n8 : ¬ (p : Int) = 8 := by omega
  have n9 : ¬ (p : Int) = 9 := by omega
  have n10 : ¬ (p : Int) = 10 := by omega
  have n11 : ¬ (p : Int) = 11 := by omega
  have n12 : ¬ (p : Int) = 12 := by omega
  have hu := DS.sum_le hk.ok (by omega) (by omega) d.files.length
  rw [List.take_length, ← DS.used_sum] at hu
  have w1 : IntKind.i64.wrap (q : Int) = q := wr_i64 (by omega) (by omega)
  have w2 : IntKind.i64.wrap ((q : Int) - d.used) = (q : Int) - d.used := wr_i64 (by omega) (by omega)
  obtain ⟨R, hR⟩ : ∃ R, d.room = R := ⟨_, rfl⟩
  have hqu := hk.quota
  have w3 : max 0 ((q : Int) - d.used) = (R : Int) := by rw [← hR]; unfold DS.room; rw [hqu]; omega
  have hRe : (R : Int) = max 0 ((q : Int) - d.used) := w3.symm
  have o := hk.append nx xs 255 (by decide) hq
  have hua := used_append hk nx xs
  rw [hR] at hua
  obtain ⟨d', e, hcd⟩ : ∃ d' e, d.append nx xs = (d', e) := ⟨_, _, rfl⟩
  rw [hcd] at o hua
  dsimp only at o hua
  have hds' : d'.small := DS.ok_mono o.ok (by omega) (by omega)
  have qd : d.quota ≤ 1000000000000 := by rw [hqu]; omega
  obtain ⟨U, hU⟩ : ∃ U, d.used = U := ⟨_, rfl⟩
  obtain ⟨U', hU'⟩ : ∃ U', d'.used = U' := ⟨_, rfl⟩
  rw [hU, hU'] at hua
  rw [hU] at w2 w3 hRe ⊢
  obtain ⟨V, hV⟩ : ∃ V : Nat, max (U : Int) (q : Int) = V := ⟨max U q, by omega⟩
  refine Sim.step hmix hΓ (n := 0) (by simp (decide := true) [z0, z1]; exact ⟨rfl, rfl⟩) (by simp [hN]) ?_
  refine Sim.cond (t := false) (by simp) ?_
  rw [if_neg (by decide)]
  refine Sim.step hmix hΓ (n := 0) (by simp (decide := true) [z6]; exact ⟨rfl, rfl⟩) (by simp [hN]) ?_
  refine Sim.cond (t := false) (by simp) ?_
  rw [if_neg (by decide)]
  refine Sim.step hmix hΓ (n := 0) (by simp (decide := true) [z7, z8]; exact ⟨rfl, rfl⟩) (by simp [hN]) ?_
  refine Sim.cond (t := false) (by simp) ?_
  rw [if_neg (by decide)]
  refine Sim.step hmix hΓ (n := 0) (by simp (decide := true) [z9, z10]; exact ⟨rfl, rfl⟩) (by simp [hN]) ?_
  refine Sim.cond (t := false) (by simp) ?_
  rw [if_neg (by decide)]
  refine Sim.step hmix hΓ (n := 0) (by simp (decide := true) [z11]; exact ⟨rfl, rfl⟩) (by simp [hN]) ?_
  refine Sim.cond (t := false) (by simp) ?_
  rw [if_neg (by decide)]
  refine Sim.step hmix hΓ (n := 0) (by simp (decide := true) [z12]; exact ⟨rfl, rfl⟩) (by simp [hN]) ?_
  refine Sim.cond (t := false) (by simp) ?_
  rw [if_neg (by decide)]
  refine Sim.step hmix hΓ (n := 0) (by simp (decide := true) [-minA, minA_max, w1, w2, w3]; exact ⟨rfl, rfl⟩) (by simp [hN]) ?_
  refine Sim.step hmix hΓ (n := 0) (by simp (decide := true) [dkΓ, dapp1S, flatsA, flatA, hN, hXs0, hds, b4, qd, hcd]; exact ⟨rfl, rfl⟩) (by simp [hN]) ?_
  rcases hua with ⟨he, hr1, hu1⟩ | ⟨he, hr1, hu1⟩ | ⟨he1, he2, hu1⟩
  · subst he
    have c1 : ¬ (R : Int) < (xs.length : Int) := by omega
    have c2 : ¬ R < xs.length := by omega
    have c3 : ¬ (V : Int) < (U' : Int) := by omega
    have c4 : ¬ V < U' := by omega
    refine Sim.exec hmix hΓ (n := 0) (by simp (decide := true) [-minA, minA_max, dkΓ, dusedR, hN, hds', hU', hV, w1, c1, c3]; exact ⟨rfl, rfl, rfl⟩) (by simp [hN]) ?_
    dsimp only
    exact ⟨rfl, d', m, o.mono (by omega) (by omega), keep i d' m 1 _ _ (by decide) rfl (by simp [AW])⟩
  · subst he
    have c1 : ¬ (xs.length : Int) ≤ (R : Int) := by omega
    have c2 : ¬ xs.length ≤ R := by omega
    have c3 : ¬ (V : Int) < (U' : Int) := by omega
    have c4 : ¬ V < U' := by omega
    have c5 : ¬ (U' : Int) < (q : Int) := by omega
    have c6 : ¬ U' < q := by omega
    refine Sim.exec hmix hΓ (n := 0) (by simp (decide := true) [-minA, minA_max, dkΓ, dusedR, hN, hds', hU', hV, w1, c1, c3, c5]; exact ⟨rfl, rfl, rfl⟩) (by simp [hN]) ?_
    dsimp only
    exact ⟨rfl, d', m, o.mono (by omega) (by omega), keep i d' m 1 _ _ (by decide) rfl (by simp [AW])⟩
  · have c1 : (e == 0) = false := by simpa using he1
    have c2 : (e == 10) = false := by simpa using he2
    have c3 : ¬ (V : Int) < (U' : Int) := by omega
    have c4 : ¬ V < U' := by omega
    refine Sim.exec hmix hΓ (n := 0) (by simp (decide := true) [-minA, minA_max, dkΓ, dusedR, hN, hds', hU', hV, w1, c1, c2, c3]; exact ⟨rfl, rfl, rfl⟩) (by simp [hN]) ?_
    dsimp only
    exact ⟨rfl, d', m, o.mono (by omega) (by omega), keep i d' m 1 _ _ (by decide) rfl (by simp [AW])⟩
end Go.Proofs.YtjolihoakdifoaaGreat
namespace Go.Proofs.YtjolihoakdifoaaGreat
open Go Go.Lib
set_option maxRecDepth 100000
attribute [-simp] drawOk_eq adraw qrun acode aops
theorem keeps_round {A : AHeap} (l : List DA) (hok : ∀ x ∈ l, x.ok) (L M : Nat) (hL : l.length = L) (hN : A.length = L + 2) (hid : ∀ rn : List Nat, (∀ i, i < L + 2 → rn[i]? = some i) → ∀ B ∈ A, AWb rn B B) (hA0 : A[0]? = some (.cells false (dasA 1 l)))
    (q : Nat) (hq : q ≤ 255) (i : Nat) (hi : i ≤ L) (hi50 : i ≤ 50) (d : DS) (m : KM) (hk : KInv q (10 * i) (300 * i) d m) :
    Sim Tryz.prog none (L + 2) (loopOf (restC 5 (bodyOf Tryz.f3))) (ksF L M q i) (ksH A d m) fun e F' H' => match e with
      | .normal => i < 50 ∧ i < L ∧ ∃ d' m', KInv q (10 * (i + 1)) (300 * (i + 1)) d' m' ∧ Weak (L + 2) F' H' (ksF L M q (i + 1)) (ksH A d' m')
      | e => e = .exit 0 ∧ Weak (L + 2) F' H' (ksF L M q i) (ksH A d m) := by
  by_cases hlt : i < L ∧ i < 50
  · have hil : i < l.length := by omega
    by_cases c1 : l[i].w % 16 = 7 ∨ l[i].w % 16 = 8
    · exact keeps_roundB l hok L M hL hN hid hA0 q hq i hi hi50 d m hk hlt fun _ _ => c1
    by_cases c2 : l[i].w % 16 = 11 ∨ l[i].w % 16 = 12
    · exact keeps_roundC l hok L M hL hN hid hA0 q hq i hi hi50 d m hk hlt fun _ _ => c2
    by_cases c3 : l[i].w % 16 = 0 ∨ l[i].w % 16 = 1 ∨ l[i].w % 16 = 6 ∨ l[i].w % 16 = 9 ∨ l[i].w % 16 = 10
    · exact keeps_roundA l hok L M hL hN hid hA0 q hq i hi hi50 d m hk fun _ _ => c3
    · exact keeps_roundD l hok L M hL hN hid hA0 q hq i hi hi50 d m hk hlt fun _ _ => by omega
  · exact keeps_roundA l hok L M hL hN hid hA0 q hq i hi hi50 d m hk fun h h5 => absurd ⟨by omega, h5⟩ hlt
abbrev ksE : List AV := [.top, .top, .top, .top, .top, .top, .bool false] ++ List.replicate 238 .top
set_option maxHeartbeats 64000000 in
theorem keeps_ct (l : List DA) (hok : ∀ x ∈ l, x.ok) (nums : List Int) (hnums : ∀ x ∈ nums, 0 ≤ x ∧ x ≤ 65535) (hMl : nums.length ≤ 9223372036854775807) (q : Nat) (hq : q ≤ 255) :
    ∃ H', Ct Tryz.prog 3 [.int .u8 q, .sl 0 0 l.length 6 false, .sl (l.length + 1) 0 nums.length 1 false] (dasH l ++ [ABlk.cells false (numA nums)]) (.bool true) H' := by
  have hΓ := dkΓ_ok
  refine ⟨dasH l ++ [ABlk.cells false (numA nums)], ct_of_sim Tryz.func3 rfl ?_⟩
  simp only [Tryz.ntmps3, List.length_cons, List.length_nil, Nat.reduceAdd, Nat.reduceSub, List.replicate, List.cons_append, List.nil_append]
  have hl1 := dasH_length l
  have hid1 := dasH_id l
  have hA0 : (dasH l ++ [ABlk.cells false (numA nums)])[0]? = some (.cells false (dasA 1 l)) := rfl
  have hA1 : (dasH l ++ [ABlk.cells false (numA nums)])[l.length + 1]? = some (.cells false (numA nums)) := by
    rw [List.getElem?_append_right (by omega), hl1, Nat.sub_self]; rfl
  obtain ⟨L, hL⟩ : ∃ L, l.length = L := ⟨_, rfl⟩
  obtain ⟨M, hM⟩ : ∃ M, nums.length = M := ⟨_, rfl⟩
  obtain ⟨A, hA⟩ : ∃ A, dasH l ++ [ABlk.cells false (numA nums)] = A := ⟨_, rfl⟩
  have hN : A.length = L + 2 := by rw [← hA, List.length_append, hl1]; simp; omega
  have hid : ∀ rn : List Nat, (∀ i, i < L + 2 → rn[i]? = some i) → ∀ B ∈ A, AWb rn B B := fun rn hr B hB => by
    rw [← hA] at hB
    rcases List.mem_append.1 hB with h | h
    · exact hid1 rn (fun i hi => hr i (by omega)) B h
    · rw [List.mem_singleton.1 h]; exact ⟨id, AWs.refl _ _ (frees_numA _)⟩
  have hlen : (dasH l).length + 1 = L + 2 := by omega
  rw [hM] at hMl
  rw [hA, hL] at hA1
  rw [hA] at hA0
  rw [hL, hM, hA, hN]
  have hX := behindX A hN
  have hXg := hX.get
  have hXg0 := hX.get0
  have hXs := hX.set
  have hXs0 := hX.set0
  have hA11 : ∀ h, A[L + 1]'h = .cells false (numA nums) := fun h => by rw [List.getElem?_eq_getElem h] at hA1; exact Option.some.inj hA1
  have tl := fun {T Tn F Fn} => Weak.tail2 hN hid (T := T) (Tn := Tn) (F := F) (Fn := Fn)
  have r0 : ∀ ts : List Nat, (List.range (L + 2) ++ ts)[0]? = some 0 := fun ts => range_at _ _ (by omega)
  have r1 : ∀ ts : List Nat, (List.range (L + 2) ++ ts)[L + 1]? = some (L + 1) := fun ts => range_at _ _ (by omega)
  have r2 : ∀ ts : List Nat, (List.range (L + 2) ++ ts)[L + 2]? = ts[0]? := fun ts => range_beh0 _ _
  have r3 : ∀ ts : List Nat, (List.range (L + 2) ++ ts)[L + 3]? = ts[1]? := fun ts => range_beh (L + 2) ts 1
  have keep : ∀ (i : Nat) (d : DS) (m : KM) (j : Nat) (T : AHeap) (F : List AV), j ≠ 0 → (ABlk.obj true d.blks :: T)[j]? = some (.map (kmA m)) → AWs (List.range (L + 2) ++ [0, j].map (L + 2 + ·)) (ksF L M q i) F → Weak (L + 2) F (A ++ .obj true d.blks :: T) (ksF L M q i) (ksH A d m) := fun i d m j T F hj hm hF => by
    refine tl [0, j] (by simp [hj.symm]) hF rfl fun i' t x y h1 h2 h3 => ?_
    match i', h1, h2 with
    | 0, h1, h2 => cases h1; cases h2; cases h3; exact ⟨rfl, rfl⟩
    | 1, h1, h2 => cases h1; cases h2; rw [hm] at h3; cases h3; exact AWb_km _ _
  have hend : ∀ (T : AHeap) (F Fn : List AV), AWs (List.range (L + 2) ++ [].map (L + 2 + ·)) Fn F → Weak (L + 2) F (A ++ T) Fn A := fun T F Fn hF => by
    have := tl (T := T) (Tn := []) (F := F) (Fn := Fn) [] (by decide) hF rfl (fun j t x y h => by simp at h)
    rwa [List.append_nil] at this
  have w1 : IntKind.i64.wrap (q : Int) = q := wr_i64 (by omega) (by omega)
  have hi0 : KInv q 0 0 (DS.new q) [] := KInv.new q (by omega)
  refine Sim.step hmix hΓ (n := 0) (by simp; exact ⟨rfl, rfl⟩) (by simp [hN]) ?_
  refine Sim.step hmix hΓ (n := 0) (by simp [dkΓ, trueK]; exact ⟨rfl, rfl⟩) (by simp [hN]) ?_
  refine Sim.step hmix hΓ (n := 0) (by simp (decide := true) [dkΓ, dnewS, newS, hN, w1]; exact ⟨rfl, rfl⟩) (by simp [hN]) ?_
  refine Sim.step hmix hΓ (n := 0) (by simp; exact ⟨rfl, rfl⟩) (by simp [hN]) ?_
  refine Sim.step hmix hΓ (n := 0) (by simp [hN]; exact ⟨rfl, rfl⟩) (by simp [hN]) ?_
  refine Sim.seq (Sim.mono (Q := fun e F' H' => e = .normal ∧ ∃ i d m, KInv q 500 15000 d m ∧ Weak (L + 2) F' H' (ksF L M q i) (ksH A d m)) (Sim.step hmix hΓ (n := 0) (by simp; exact ⟨rfl, rfl⟩) (by simp [hN]) ?_) ?_)
  · refine Sim.block (Sim.loopW (fun s : Nat × DS × KM => s.1 ≤ L ∧ s.1 ≤ 50 ∧ KInv q (10 * s.1) (300 * s.1) s.2.1 s.2.2) (fun s => ksF L M q s.1) (fun s => ksH A s.2.1 s.2.2) (fun s => 50 - s.1) (0, DS.new q, []) (by simp [hN]) ⟨Nat.zero_le _, Nat.zero_le _, hi0⟩ ?_ fun s hs => ?_)
    · exact keep 0 (DS.new q) [] 1 _ _ (by decide) rfl (by simp [AW])
    · obtain ⟨i, d, m⟩ := s
      obtain ⟨h1, h2, h3⟩ := hs
      have hr := keeps_round l hok L M hL hN hid hA0 q hq i h1 h2 d m h3
      simp only [bodyOf, Tryz.f3, Option.getD_some, restC, loopOf] at hr
      refine hr.mono fun e F' H' _ hq => ?_
      cases e with
      | normal =>
        obtain ⟨g1, g2, d', m', g3, g4⟩ := hq
        exact ⟨(i + 1, d', m'), ⟨by dsimp only; omega, by dsimp only; omega, g3⟩, g4, by dsimp only; omega⟩
      | exit id =>
        obtain ⟨g1, g2⟩ := hq
        cases g1
        dsimp only
        rw [if_pos rfl]
        exact ⟨rfl, i, d, m, h3.mono (by dsimp only; omega) (by dsimp only; omega), g2⟩
      | ret => exact absurd hq.1 (by simp)
  rintro e F' H' hlen1 ⟨rfl, i, d, m, hk, hwk⟩
  dsimp only
  refine Sim.weak hwk hlen1 ?_
  clear hwk hlen1
  unfold ksF ksH
  simp only [List.cons_append, List.nil_append, List.replicate]
  have hds : d.small := DS.ok_mono hk.ok (by omega) (by omega)
  have hdk : d.ok 900000 1000000000 := DS.ok_mono hk.ok (by omega) (by omega)
  obtain ⟨R, hR⟩ : ∃ R : List Int, [60000, 60000, 60000, 60000, 60000, 60000, 60000, 60000, 60000, 60000, 60000, 60000, 60000, 60000, 60000, 60000, 60000, 60000, 60000, 60000, 60000, 60000, 60000, 60000, 60000, 60000, 60000, 60000, 60000, 60000, 60000] = R := ⟨_, rfl⟩
  have hRr : R = List.replicate (30 + 1) 60000 := by rw [← hR]; rfl
  have hro := DS.ok_restart hk.ok R
  have hll : d.list = d.fd.names := by unfold DS.list; rw [hk.up]; rfl
  have hffl : d.files.length = d.list.length := by simp [DS.files]
  have hrf : d.files.length < 14 → (d.restart R).files = d.files := fun h => by
    rw [hRr]
    refine ((restart_all hk.ok (by omega) (by omega) 30 (by rw [← hll, ← hffl]; omega)).1).trans (files_eq rfl rfl ?_)
    exact hk.up.symm
  obtain ⟨D, hD⟩ : ∃ D, d.restart R = D := ⟨_, rfl⟩
  rw [hD] at hro hrf
  have hDs : D.small := DS.ok_mono hro (by omega) (by omega)
  rw [← hR] at hD
  have hfll := DS.list_le hk.ok
  have hlx : d.files.length ≤ 9223372036854775807 := by omega
  refine Sim.step hmix hΓ (n := 0) (by simp (decide := true) [dkΓ, dfilesS, hN, hds]; exact ⟨rfl, rfl⟩) (by simp [hN]) ?_
  refine Sim.step hmix hΓ (n := 0) (by simp (decide := true) [dkΓ, dcopyDS, hN, hdk]; exact ⟨rfl, rfl⟩) (by simp [hN]) ?_
  refine Sim.step hmix hΓ (n := 0) (by simp (decide := true); exact ⟨rfl, rfl⟩) (by simp [hN]) ?_
  refine Sim.step hmix hΓ (n := 0) (by simp (decide := true) [dkΓ, drestS, rowArg, numsOf, hN, hXs, hds, hD]; exact ⟨rfl, rfl⟩) (by simp [hN]) ?_
  refine Sim.seq (Sim.mono (Q := fun e F' H' => e = .normal ∧ Weak (L + 2) F' H' (ksF L M q i) (ksH A d m)) ?_ ?_)
  · by_cases h14 : d.files.length < 14
    · have h14I : (d.files.length : Int) < 14 := by omega
      have hfe := hrf h14
      refine Sim.exec hmix hΓ (n := 0) (by simp (decide := true) [dkΓ, dfilesS, sameDS, hN, hDs, h14I, hfe, hlx]; exact ⟨rfl, rfl, rfl⟩) (by simp [hN]) ?_
      exact ⟨rfl, keep i d m 1 _ _ (by decide) rfl (by simp [AW])⟩
    · have h14I : ¬ (d.files.length : Int) < 14 := by omega
      refine Sim.exec hmix hΓ (n := 0) (by simp (decide := true) [h14I]; exact ⟨rfl, rfl, rfl⟩) (by simp [hN]) ?_
      exact ⟨rfl, keep i d m 1 _ _ (by decide) rfl (by simp [AW])⟩
  rintro e F' H' hlen1 ⟨rfl, hwk⟩
  dsimp only
  refine Sim.weak hwk hlen1 ?_
  clear hwk hlen1
  unfold ksF ksH
  simp only [List.cons_append, List.nil_append, List.replicate]
  obtain ⟨K, hK⟩ : ∃ K : Nat, min (M : Int) 30 = K := ⟨min M 30, by omega⟩
  have hKM : K ≤ M := by omega
  have hKMI : (K : Int) ≤ M := by omega
  have hK0 : (0 : Int) ≤ K := by omega
  have hn1 : (∀ x ∈ nums, 0 ≤ x ∧ x ≤ 65535) = True := by simpa using hnums
  obtain ⟨d1, hd1⟩ : ∃ d1, d.restart (nums.take K) = d1 := ⟨_, rfl⟩
  have hro1 := DS.ok_restart hk.ok (nums.take K)
  rw [hd1] at hro1
  have hds1 : d1.small := DS.ok_mono hro1 (by omega) (by omega)
  have hres : ∀ {k s : List UInt8}, KM.get m k = some (s, false) → (d1.readAt k 0 10000).2 = 0 ∧ s <+: (d1.readAt k 0 10000).1 := fun h => by rw [← hd1]; exact hk.restart (nums.take K) h
  refine Sim.step hmix hΓ (n := 0) (by simp (decide := true) [-minA, minA_min, dkΓ, drestS, rowArg, numsOf_at, hN, hXs0, hA11, hds, hd1, hK, hM, hKM, hKMI, hK0, hMl, hn1]; exact ⟨rfl, rfl⟩) (by simp [hN]) ?_
  refine Sim.seq (Sim.mono (Q := fun e F' H' => e = .normal ∧ Weak (L + 2) F' H' ksE A) ?_ ?_)
  rotate_left
  · rintro e F' H' hlen1 ⟨rfl, hwk⟩
    dsimp only
    refine Sim.weak hwk hlen1 ?_
    clear hwk hlen1
    unfold ksE
    simp only [List.cons_append, List.nil_append, List.replicate]
    refine Sim.exec hmix hΓ (n := 0) (by simp; exact ⟨rfl, rfl, rfl⟩) (by simp [hN]) ?_
    refine ⟨.inr rfl, _, by simp [Tryz.f3] <;> rfl, ?_⟩
    have := hend [] [.bool true] [.bool true] (by simp [AW])
    rwa [List.append_nil] at this
  refine Sim.weak (keep i d1 m 1 _ _ (by decide) rfl (by simp [AW])) (by simp [hN]) ?_
  unfold ksF ksH
  simp only [List.cons_append, List.nil_append, List.replicate]
  have hN2 : (A ++ [ABlk.obj true d1.blks, .dead, .dead]).length = L + 5 := by simp [hN]
  have hid2 : ∀ rn : List Nat, (∀ i, i < L + 5 → rn[i]? = some i) → ∀ B ∈ A ++ [ABlk.obj true d1.blks, .dead, .dead], AWb rn B B := fun rn hr B hB => by
    rcases List.mem_append.1 hB with h | h
    · exact hid rn (fun i hi => hr i (by omega)) B h
    · simp only [List.mem_cons, List.not_mem_nil, or_false] at h
      rcases h with rfl | rfl | rfl
      · exact ⟨rfl, rfl⟩
      · trivial
      · trivial
  have s2 : ∀ ts : List Nat, (List.range (L + 5) ++ ts)[L + 2]? = some (L + 2) := fun ts => range_at _ _ (by omega)
  have s3 : ∀ ts : List Nat, (List.range (L + 5) ++ ts)[L + 3]? = some (L + 3) := fun ts => range_at _ _ (by omega)
  have s4 : ∀ ts : List Nat, (List.range (L + 5) ++ ts)[L + 4]? = some (L + 4) := fun ts => range_at _ _ (by omega)
  have s0 : ∀ ts : List Nat, (List.range (L + 5) ++ ts)[0]? = some 0 := fun ts => range_at _ _ (by omega)
  have s1 : ∀ ts : List Nat, (List.range (L + 5) ++ ts)[L + 1]? = some (L + 1) := fun ts => range_at _ _ (by omega)
  refine Sim.rangeMap hΓ (n1 := L + 5) (l0 := [_]) (b := L + 3) (es := kmA m) (H1 := A ++ [.obj true d1.blks, .map (kmA m)]) (Hs := A ++ [.obj true d1.blks, .dead, .dead])
    (by simp [hN]) rfl (by simp; rfl) (Nat.le_refl _) rfl (by simp) (by simp) (by simp [hN]) (by simp; exact ⟨rfl, rfl⟩) ?_
    (by simp [hN]; rfl) (by simp [hN]) (by simp [hN]) rfl rfl (by simp) (by simp [hN]) (by simp; rfl) (by simp) ?_ rfl rfl ?_
  · intro e he
    obtain ⟨x, hx, rfl⟩ := List.mem_map.1 he
    exact ⟨rfl, rfl⟩
  · refine ⟨rfl, hend _ _ _ (by simp [AW])⟩
  · intro e he
    obtain ⟨⟨k, s, lo⟩, hx, rfl⟩ := List.mem_map.1 he
    have hget : KM.get m k = some (s, lo) := KM.mem_get hk.nd hx
    obtain ⟨rs, re, hre⟩ : ∃ rs re, d1.readAt k 0 10000 = (rs, re) := ⟨_, _, rfl⟩
    refine ⟨_, _, _, by simp; rfl, by simp, by simp, by simp [hN], by simp [hN, kvA, hXs]; exact ⟨rfl, rfl⟩, by simp [hN], ?_⟩
    refine Sim.step hmix hΓ (n := 0) (by simp (decide := true) [dkΓ, dreaS, hN, hXs0, hds1, hre]; exact ⟨rfl, rfl⟩) (by simp [hN]) ?_
    have fin : ∀ (T : AHeap) (F Fn : List AV), AWs (List.range (L + 5) ++ [].map (L + 5 + ·)) Fn F → Weak (L + 5) F (A ++ ABlk.obj true d1.blks :: .dead :: .dead :: T) Fn (A ++ [ABlk.obj true d1.blks, .dead, .dead]) := fun T F Fn hF => by
      have := Weak.tail2 hN2 hid2 (T := T) (Tn := []) (F := F) (Fn := Fn) [] (by decide) hF rfl (fun j t x y h => by simp at h)
      rw [List.append_nil, List.append_assoc] at this
      exact this
    cases lo with
    | true =>
      refine Sim.exec hmix hΓ (n := 0) (by simp (decide := true) [hN]; exact ⟨rfl, rfl, rfl⟩) (by simp [hN]) ?_
      exact ⟨rfl, fin _ _ _ (by simp [AW])⟩
    | false =>
      have hr := hres hget
      rw [hre] at hr
      obtain ⟨q1, q2⟩ := hr
      dsimp only at q1 q2
      subst q1
      have q3 : rs.take s.length = s := (List.prefix_iff_eq_take.1 q2).symm
      refine Sim.exec hmix hΓ (n := 0) (by simp (decide := true) [dkΓ, hasPreS, hN, q3]; exact ⟨rfl, rfl, rfl⟩) (by simp [hN]) ?_
      exact ⟨rfl, fin _ _ _ (by simp [AW])⟩
theorem row_u16s : ∀ {n : Nat} {l : List AV}, All2 PrimA (List.replicate n [Prim.int .u16]).flatten l → ∃ zs : List Int, l = numA zs ∧ zs.length = n ∧ ∀ z ∈ zs, 0 ≤ z ∧ z ≤ 65535
  | 0, [], _ => ⟨[], rfl, rfl, by simp⟩
  | n + 1, x :: l, h => by
    rw [List.replicate_succ, List.flatten_cons] at h
    obtain ⟨a, rfl, ha⟩ := h.1
    obtain ⟨zs, rfl, hl, hq⟩ := row_u16s (n := n) (l := l) h.2
    have ba := bounds_u16 ha
    refine ⟨a :: zs, rfl, by simp [hl], fun x hx => ?_⟩
    rcases List.mem_cons.1 hx with rfl | hx
    · exact ⟨ba.1, by omega⟩
    · exact hq x hx
  | 0, _ :: _, h => h.elim
  | n + 1, [], h => by
    rw [List.replicate_succ, List.flatten_cons] at h
    exact h.elim
def diskKeeps_shape : List AS := [.flat false [.one (.int .u8)], .rows da_ct, .flat false [.row [.int .u16]]]
theorem diskKeeps_law : ∀ xs H, AbsArgs2 diskKeeps_shape 0 xs H → ∃ H', Ct Tryz.prog 3 xs H (.bool true) H' := by
  intro xs H h0
  obtain ⟨x1, y1, rfl, ⟨a, rfl, ha⟩, h1⟩ := absArgs2_one h0
  obtain ⟨x0, y0, n0, ys, H1, H2, rfl, hx0, hm0, hd0, rfl, h2⟩ := absArgs2_rows h1
  obtain ⟨l, rfl, e2, rfl, e5⟩ := row_das _ _ _ _ hd0
  obtain ⟨x2, y2, ll, n2, H3, rfl, rfl, hx2, hm2, hl2, h3⟩ := absArgs2_row h2
  obtain ⟨nums, rfl, rfl, hb⟩ := row_u16s hl2
  obtain ⟨rfl, rfl⟩ := absArgs2_nil h3
  have ba := bounds_u8 ha
  unfold maxLen at hm0 hm2
  obtain ⟨q, rfl⟩ : ∃ q : Nat, a = q := ⟨a.toNat, by omega⟩
  obtain ⟨H', h⟩ := keeps_ct l e2 nums hb (by omega) q (by omega)
  refine ⟨H', ct_weak ?_ h⟩
  have hBl : (dasB l).length = l.length := by simp [dasB]
  simp only [List.length_singleton, hBl] at hx2
  have := das_weak (T := [.cells false (numA nums)]) (rest := [x2]) (restN := [.sl (l.length + 1) 0 nums.length 1 false]) hx0 e5 (fun B hB => by rw [List.mem_singleton.1 hB]; exact ⟨_, _, rfl, frees_numA _⟩) (fun rn hr => by
    rcases hx2 with ⟨h9, rfl⟩ | rfl
    · simp [AW, List.eq_nil_of_length_eq_zero h9]
    · have := hr (l.length + 1) (by simp)
      simp [AW, this, Nat.add_comm])
  obtain ⟨rn, g1, g2, g3, g4, g5⟩ := this
  have g6 : Weak (ABlk.cells false ys :: dasB l ++ [ABlk.cells false (numA nums)]).length (.int .u8 (q : Int) :: x0 :: [x2]) (ABlk.cells false ys :: dasB l ++ [ABlk.cells false (numA nums)]) (.int .u8 (q : Int) :: .sl 0 0 l.length 6 false :: [.sl (l.length + 1) 0 nums.length 1 false]) (dasH l ++ [ABlk.cells false (numA nums)]) := ⟨rn, g1, g2, g3, ⟨by simp [AW], g4⟩, g5⟩
  simpa using g6
end Go.Proofs.YtjolihoakdifoaaGreat
