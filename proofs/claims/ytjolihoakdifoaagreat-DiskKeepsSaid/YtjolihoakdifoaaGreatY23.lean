/- Parts of the proof of DiskKeeps: lemmas, each with its own conditions. -/
import Derived.Test.YtjolihoakdifoaaGreatY7
import Derived.Test.YtjolihoakdifoaaGreatY6
import Derived.Test.YtjolihoakdifoaaGreatTypes
import Derived.Test.YtjolihoakdifoaaGreatY21
import Derived.Test.YtjolihoakdifoaaGreatY22
namespace Go.Proofs.YtjolihoakdifoaaGreat
open Go
set_option maxRecDepth 100000
attribute [-simp] drawOk_eq adraw qrun acode aops
def hpInl : List FuncId := [64]
theorem hpΓ_ok : GOk Tryz.prog (runG Tryz.prog (gams []) 0 hpInl 2) := gok_run hmix goks_nil 0 hpInl 2
theorem haspre_ct (s p : List UInt8) : Ct Tryz.prog 23 [.str s, .str p] [] (.bool (decide (s.take p.length = p))) [] := by
  refine ct_val hmix hpΓ_ok (n := 0) Tryz.func23 ?_ (by simp)
  unfold Tryz.f23
  by_cases hl : p.length ≤ s.length
  · by_cases h : s.take p.length = p
    · simp [hpInl, Tryz.f64, h, hl]
    · simp [hpInl, Tryz.f64, h, hl]
  · have h : ¬ s.take p.length = p := fun e => by have := congrArg List.length e; simp at this; omega
    simp [hpInl, Tryz.f64, h, hl]
def hasPreS : Summ := pureS fun
  | [.str s, .str p] => some (.bool (decide (s.take p.length = p)))
  | _ => none
theorem haspre_sound : Sound Tryz.prog 23 hasPreS := by
  refine sound_pure (enter_of Tryz.func23 rfl (by decide)) fun args v h => ?_
  split at h <;> cases h
  exact ⟨haspre_ct _ _, rfl, rfl⟩
end Go.Proofs.YtjolihoakdifoaaGreat
namespace Go.Proofs.YtjolihoakdifoaaGreat
open Go Go.Lib
set_option maxRecDepth 100000
attribute [-simp] drawOk_eq adraw qrun acode aops
noncomputable def dkΓ : Gam := gams [(5, trueK), (6, dnewS), (7, nameDS), (11, smallDS), (9, dcreS), (18, dapp1S), (12, dsyncS),
  (10, dtruS), (13, dreaS), (14, dsyncDS), (15, againS), (16, drenS), (17, dremS), (8, dusedR),
  (19, dfilesS), (20, dcopyDS), (22, sameDS), (21, drestS), (23, hasPreS)]
theorem dkΓ_ok : GOk Tryz.prog dkΓ := goks_cons dkeepS0_sound (goks_cons dnew_sound (goks_cons nameD_sound (goks_cons smallD_sound (goks_cons dcre_sound (goks_cons dapp1_sound (goks_cons dsync_sound
  (goks_cons dtru_sound (goks_cons drea_sound (goks_cons dsyncD_sound (goks_cons again_sound (goks_cons dren_sound (goks_cons drem_sound (goks_cons dusedR_sound
  (goks_cons dfiles_sound (goks_cons dcopyD_sound (goks_cons sameD_sound (goks_cons drest_sound (goks_cons haspre_sound goks_nil))))))))))))))))))
def loopOf : Code → Code
  | .seq (.seq _ (.block _ (.loop x))) _ => x
  | _ => .skip
theorem km_put_cases (m : KM) (k : List UInt8) (v : List UInt8 × Bool) : (findA (kmA m) (.str k) 0 = some none ∧ kmA m ++ [(.str k, .agg [.str v.1, .bool v.2])] = kmA (KM.put m k v)) ∨
    ∃ i x, findA (kmA m) (.str k) 0 = some (some (i, x)) ∧ (kmA m).set i (.str k, .agg [.str v.1, .bool v.2]) = kmA (KM.put m k v) := by
  have hf := find_km k m 0
  cases h : KM.get m k with
  | none => rw [h] at hf; exact .inl ⟨hf, km_new v h⟩
  | some n => rw [h] at hf; exact .inr ⟨_, _, hf, by rw [Nat.zero_add]; exact km_set v h⟩
theorem KInv.acts {q A B : Nat} {d : DS} {m : KM} (h : KInv q A B d m) : d.syncDir.1.fd.acts = [] := by
  unfold DS.syncDir
  rw [DS.step_up h.arm h.up]
  rfl
abbrev ksF (L M : Nat) (q : Int) (i : Nat) : List AV := [.int .u8 q, .sl 0 0 L 6 false, .sl (L + 1) 0 M 1 false, .top, .top, .top, .bool false, .ptr (L + 2) 0, .map (L + 3), .int .i64 i] ++ List.replicate 235 .top
abbrev ksH (A : AHeap) (d : DS) (m : KM) : AHeap := A ++ [.obj true d.blks, .map (kmA m)]
set_option maxHeartbeats 64000000 in
theorem keeps_roundA {A : AHeap} (l : List DA) (hok : ∀ x ∈ l, x.ok) (L M : Nat) (hL : l.length = L) (hN : A.length = L + 2) (hid : ∀ rn : List Nat, (∀ i, i < L + 2 → rn[i]? = some i) → ∀ B ∈ A, AWb rn B B) (hA0 : A[0]? = some (.cells false (dasA 1 l)))
    (q : Nat) (_hq : q ≤ 255) (i : Nat) (hi : i ≤ L) (hi50 : i ≤ 50) (d : DS) (m : KM) (hk : KInv q (10 * i) (300 * i) d m) (hp0 : ∀ h : i < l.length, i < 50 → l[i].w % 16 = 0 ∨ l[i].w % 16 = 1 ∨ l[i].w % 16 = 6 ∨ l[i].w % 16 = 9 ∨ l[i].w % 16 = 10) :
    Sim Tryz.prog none (L + 2) (loopOf (restC 5 (bodyOf Tryz.f3))) (ksF L M q i) (ksH A d m) fun e F' H' => match e with
      | .normal => i < 50 ∧ i < L ∧ ∃ d' m', KInv q (10 * (i + 1)) (300 * (i + 1)) d' m' ∧ Weak (L + 2) F' H' (ksF L M q (i + 1)) (ksH A d' m')
      | e => e = .exit 0 ∧ Weak (L + 2) F' H' (ksF L M q i) (ksH A d m) := by
  have hΓ := dkΓ_ok
  simp only [bodyOf, Tryz.f3, Option.getD_some, restC, loopOf]
  have hX := behindX A hN
  have hXg := hX.get
  have hXg0 := hX.get0
  have hXs := hX.set
  have hXs0 := hX.set0
  have hA00 : ∀ h, A[0]'h = .cells false (dasA 1 l) := fun h => by rw [List.getElem?_eq_getElem h] at hA0; exact Option.some.inj hA0
  have tl := fun {T Tn F Fn} => Weak.tail2 hN hid (T := T) (Tn := Tn) (F := F) (Fn := Fn)
  have r0 : ∀ ts : List Nat, (List.range (L + 2) ++ ts)[0]? = some 0 := fun ts => range_at _ _ (by omega)
  have r1 : ∀ ts : List Nat, (List.range (L + 2) ++ ts)[L + 1]? = some (L + 1) := fun ts => range_at _ _ (by omega)
  have r2 : ∀ ts : List Nat, (List.range (L + 2) ++ ts)[L + 2]? = ts[0]? := fun ts => range_beh0 _ _
  have r3 : ∀ ts : List Nat, (List.range (L + 2) ++ ts)[L + 3]? = ts[1]? := fun ts => range_beh (L + 2) ts 1
  have keep : ∀ (i : Nat) (d : DS) (m : KM) (j : Nat) (T : AHeap) (F : List AV), j ≠ 0 → (ABlk.obj true d.blks :: T)[j]? = some (.map (kmA m)) → AWs (List.range (L + 2) ++ [0, j].map (L + 2 + ·)) (ksF L M q i) F → Weak (L + 2) F (A ++ .obj true d.blks :: T) (ksF L M q i) (ksH A d m) := fun i d m j T F hj hm hF => by
    refine tl [0, j] (by simp [hj.symm]) hF rfl fun i' t x y h1 h2 h3 => ?_
    match i', h1, h2 with
    | 0, h1, h2 => cases h1; cases h2; cases h3; exact ⟨rfl, rfl⟩
    | 1, h1, h2 => cases h1; cases h2; rw [hm] at h3; cases h3; exact AWb_km _ _
  unfold ksF ksH
  simp only [List.cons_append, List.nil_append, List.replicate]
  by_cases hlt : i < L ∧ i < 50
  rotate_left
  · by_cases h1 : i < L
    · have hltI : (i : Int) < L := by omega
      have h30 : ¬ (i : Int) < 50 := by omega
      refine Sim.exec hmix hΓ (n := 0) (by simp [hltI, h30]; exact ⟨rfl, rfl, rfl⟩) (by simp [hN]) ?_
      exact ⟨rfl, keep i d m 1 _ _ (by decide) rfl (by simp [AW])⟩
    · have hltI : ¬ (i : Int) < L := by omega
      refine Sim.exec hmix hΓ (n := 0) (by simp [hltI]; exact ⟨rfl, rfl, rfl⟩) (by simp [hN]) ?_
      exact ⟨rfl, keep i d m 1 _ _ (by decide) rfl (by simp [AW])⟩
  obtain ⟨hlt, h50⟩ := hlt
  have hltI : (i : Int) < L := by omega
  have h50I : (i : Int) < 50 := by omega
  have hil : i < l.length := by omega
  have hp1 := hp0 hil h50
  obtain ⟨x, hx⟩ : ∃ x, l[i] = x := ⟨_, rfl⟩
  rw [hx] at hp1
  have hxo := hok x (by rw [← hx]; exact List.getElem_mem hil)
  have g1 := das_get l 1 i hil
  rw [hx] at g1
  obtain ⟨xw, xa, xb, xs, xn, xl⟩ := x
  obtain ⟨b1, b2, b3, b4, b5, _, _⟩ := hxo
  dsimp only at b1 b2 b3 b4 b5
  simp only [daA] at g1
  have k1 : i * 6 + 6 ≤ L * 6 := by omega
  have ia2 : (xa : Int) ≤ 255 := by omega
  have ib2 : (xb : Int) ≤ 255 := by omega
  have y1 : IntKind.i64.wrap ((i : Int) + 1) = i + 1 := wr_i64 (by omega) (by omega)
  have hq2 : ∀ k : Nat, 1 + i < L + 2 + k := fun k => by omega
  have hds : d.small := DS.ok_mono hk.ok (by omega) (by omega)
  have nml : ∀ n : Nat, (nmD xs n).length ≤ 9223372036854775807 := fun n => by
    unfold nmD
    split
    · exact b4
    · have : n % 4 < 4 := Nat.mod_lt _ (by decide)
      have h4 : ∀ p, p < 4 → (([[97], [98], [99], [108, 111, 103]] : List (List UInt8)).getD p []).length ≤ 3 := by decide
      have := h4 _ this
      omega
  obtain ⟨nx, hnx⟩ : ∃ nx, nmD xs xa = nx := ⟨_, rfl⟩
  have hnxl := nml xa
  rw [hnx] at hnxl
  obtain ⟨ny, hny⟩ : ∃ ny, nmD xs xb = ny := ⟨_, rfl⟩
  have hnyl := nml xb
  rw [hny] at hnyl
  obtain ⟨z, hz⟩ : ∃ z, 1 + i = z := ⟨_, rfl⟩
  rw [hz] at g1 hq2
  obtain ⟨p, hp⟩ : ∃ p, xw % 16 = p := ⟨_, rfl⟩
  have hp16 : p < 16 := by omega
  dsimp only at hp1
  rw [hp] at hp1
  have v1 : (xw : Int).tmod 16 = p := by rw [Int.tmod_eq_emod_of_nonneg (by omega)]; omega
  have v2 : IntKind.u8.wrap (p : Int) = p := wr_u8 (by omega) (by omega)
  refine Sim.step hmix hΓ (n := 0) (by simp [hltI, h50I]; exact ⟨rfl, rfl⟩) (by simp [hN]) ?_
  refine Sim.seq (Sim.mono (Q := fun e F' H' => e = .normal ∧ ∃ d' m', KInv q (10 * (i + 1)) (300 * (i + 1)) d' m' ∧ Weak (L + 2) F' H' (ksF L M q i) (ksH A d' m')) (Sim.block ?_) ?_)
  rotate_left
  · rintro e F' H' hlen1 ⟨rfl, d', m', hk', hwk⟩
    dsimp only
    refine Sim.weak hwk hlen1 ?_
    clear hwk hlen1
    unfold ksF ksH
    simp only [List.cons_append, List.nil_append, List.replicate]
    refine Sim.exec hmix hΓ (n := 0) (by simp [y1]; exact ⟨rfl, rfl, rfl⟩) (by simp [hN]) ?_
    exact ⟨h50, hlt, d', m', hk', keep (i + 1) d' m' 1 _ _ (by decide) rfl (by simp [AW])⟩
  refine Sim.step hmix hΓ (n := 0) (by simp (decide := true) [hlt, hL, hA00, hN, k1, g1]; exact ⟨rfl, rfl⟩) (by simp [hN]) ?_
  refine Sim.step hmix hΓ (n := 0) (by simp (decide := true) [dkΓ, nameDS, hN, hq2, ia2, ib2, hnx, hny]; first | exact ⟨rfl, rfl⟩ | exact ⟨by kernel_rfl, rfl, rfl⟩) (by simp [hN]) ?_
  refine Sim.step hmix hΓ (n := 0) (by simp (decide := true) [dkΓ, dusedR, hN, hds]; first | exact ⟨rfl, rfl⟩ | exact ⟨by kernel_rfl, rfl, rfl⟩) (by simp [hN]) ?_
  refine Sim.step hmix hΓ (n := 0) (by simp (decide := true) [hN, v1]; exact ⟨rfl, rfl⟩) (by simp [hN]) ?_
  refine Sim.block ?_
  have fin : ∀ (d' : DS) (m' : KM) (j : Nat) (T : AHeap) (F : List AV), KInv q (10 * (i + 1)) (300 * (i + 1)) d' m' → j ≠ 0 → (ABlk.obj true d'.blks :: T)[j]? = some (.map (kmA m')) → AWs (List.range (L + 2) ++ [0, j].map (L + 2 + ·)) (ksF L M q i) F →
      AX.normal = AX.normal ∧ ∃ d' m', KInv q (10 * (i + 1)) (300 * (i + 1)) d' m' ∧ Weak (L + 2) F (A ++ .obj true d'.blks :: T) (ksF L M q i) (ksH A d' m') := fun d' m' j T F hk' hj hm hF => ⟨rfl, d', m', hk', keep i d' m' j T F hj hm hF⟩
  by_cases p0 : p = 0 ∨ p = 1
  · have o := hk.create nx
    obtain ⟨d', e, hcd⟩ : ∃ d' e, d.create nx = (d', e) := ⟨_, _, rfl⟩
    rw [hcd] at o
    rcases p0 with rfl | rfl <;> (
    refine Sim.exec hmix hΓ (n := 0) (by simp (decide := true) [dkΓ, dcreS, hN, hXs0, hds, hnxl, hcd]; exact ⟨rfl, rfl, rfl⟩) (by simp [hN]) ?_
    dsimp only
    exact ⟨rfl, d', m, o.mono (by omega) (by omega), keep i d' m 1 _ _ (by decide) rfl (by simp [AW])⟩)
  by_cases p6 : p = 6
  · subst p6
    have o := hk.truncate nx (smD xn)
    obtain ⟨d', e, hcd⟩ : ∃ d' e, d.truncate nx (smD xn) = (d', e) := ⟨_, _, rfl⟩
    rw [hcd] at o
    dsimp only at o
    by_cases he : e = 0
    · subst he
      rw [if_pos rfl] at o
      cases hg : KM.get m nx with
      | none =>
        rw [hg] at o
        dsimp only at o
        have hf := find_km nx m 0
        rw [hg] at hf
        simp only [Option.map_none] at hf
        refine Sim.exec hmix hΓ (n := 0) (by simp (decide := true) [dkΓ, dtruS, smallDS, hN, hXs, hXs0, hds, hq2, b5, hcd, hf]; exact ⟨rfl, rfl, rfl⟩) (by simp [hN]) ?_
        dsimp only
        exact ⟨rfl, d', m, o.mono (by omega) (by omega), keep i d' m 1 _ _ (by decide) rfl (by simp [AW])⟩
      | some v =>
        rw [hg] at o
        dsimp only at o
        have hf := find_km nx m 0
        rw [hg] at hf
        simp only [Option.map_some, Nat.zero_add, kvA] at hf
        have hs := km_set ([], v.2) hg
        simp only [kvA] at hs
        refine Sim.exec hmix hΓ (n := 0) (by simp (decide := true) [dkΓ, dtruS, smallDS, hN, hXs, hXs0, hds, hq2, b5, hcd, hf, hs]; exact ⟨rfl, rfl, rfl⟩) (by simp [hN]) ?_
        dsimp only
        exact ⟨rfl, d', _, o.mono (by omega) (by omega), keep i d' _ 1 _ _ (by decide) rfl (by simp [AW])⟩
    · have he' : (e == 0) = false := by simpa using he
      rw [if_neg he] at o
      refine Sim.exec hmix hΓ (n := 0) (by simp (decide := true) [dkΓ, dtruS, smallDS, hN, hXs0, hds, hq2, b5, hcd, he']; exact ⟨rfl, rfl, rfl⟩) (by simp [hN]) ?_
      dsimp only
      exact ⟨rfl, d', m, o.mono (by omega) (by omega), keep i d' m 1 _ _ (by decide) rfl (by simp [AW])⟩
  by_cases p9 : p = 9 ∨ p = 10
  · have o := hk.syncDir.again hk.acts
    obtain ⟨d', e, hcd⟩ : ∃ d' e, d.syncDir = (d', e) := ⟨_, _, rfl⟩
    rw [hcd] at o
    dsimp only at o
    have hds' : d'.small := DS.ok_mono o.ok (by omega) (by omega)
    rcases p9 with rfl | rfl <;> (
    refine Sim.exec hmix hΓ (n := 0) (by simp (decide := true) [dkΓ, dsyncDS, againS, hN, hXs0, hds, hds', hcd]; exact ⟨rfl, rfl, rfl⟩) (by simp [hN]) ?_
    dsimp only
    exact ⟨rfl, d', _, o.mono (by omega) (by omega), keep i d' _ 3 _ _ (by decide) rfl (by simp [AW])⟩)
  exact absurd hp1 (by omega)
end Go.Proofs.YtjolihoakdifoaaGreat
namespace Go.Proofs.YtjolihoakdifoaaGreat
open Go Go.Lib
set_option maxRecDepth 100000
attribute [-simp] drawOk_eq adraw qrun acode aops
set_option maxHeartbeats 64000000 in
theorem keeps_roundB {A : AHeap} (l : List DA) (hok : ∀ x ∈ l, x.ok) (L M : Nat) (hL : l.length = L) (hN : A.length = L + 2) (hid : ∀ rn : List Nat, (∀ i, i < L + 2 → rn[i]? = some i) → ∀ B ∈ A, AWb rn B B) (hA0 : A[0]? = some (.cells false (dasA 1 l)))
    (q : Nat) (_hq : q ≤ 255) (i : Nat) (_hi : i ≤ L) (hi50 : i ≤ 50) (d : DS) (m : KM) (hk : KInv q (10 * i) (300 * i) d m) (hlt : i < L ∧ i < 50) (hp0 : ∀ h : i < l.length, i < 50 → l[i].w % 16 = 7 ∨ l[i].w % 16 = 8) :
    Sim Tryz.prog none (L + 2) (loopOf (restC 5 (bodyOf Tryz.f3))) (ksF L M q i) (ksH A d m) fun e F' H' => match e with
      | .normal => i < 50 ∧ i < L ∧ ∃ d' m', KInv q (10 * (i + 1)) (300 * (i + 1)) d' m' ∧ Weak (L + 2) F' H' (ksF L M q (i + 1)) (ksH A d' m')
      | e => e = .exit 0 ∧ Weak (L + 2) F' H' (ksF L M q i) (ksH A d m) := by
  have hΓ := dkΓ_ok
  simp only [bodyOf, Tryz.f3, Option.getD_some, restC, loopOf]
  have hX := behindX A hN
  have hXg := hX.get
  have hXg0 := hX.get0
  have hXs := hX.set
  have hXs0 := hX.set0
  have hA00 : ∀ h, A[0]'h = .cells false (dasA 1 l) := fun h => by rw [List.getElem?_eq_getElem h] at hA0; exact Option.some.inj hA0
  have tl := fun {T Tn F Fn} => Weak.tail2 hN hid (T := T) (Tn := Tn) (F := F) (Fn := Fn)
  have r0 : ∀ ts : List Nat, (List.range (L + 2) ++ ts)[0]? = some 0 := fun ts => range_at _ _ (by omega)
  have r1 : ∀ ts : List Nat, (List.range (L + 2) ++ ts)[L + 1]? = some (L + 1) := fun ts => range_at _ _ (by omega)
  have r2 : ∀ ts : List Nat, (List.range (L + 2) ++ ts)[L + 2]? = ts[0]? := fun ts => range_beh0 _ _
  have r3 : ∀ ts : List Nat, (List.range (L + 2) ++ ts)[L + 3]? = ts[1]? := fun ts => range_beh (L + 2) ts 1
  have keep : ∀ (i : Nat) (d : DS) (m : KM) (j : Nat) (T : AHeap) (F : List AV), j ≠ 0 → (ABlk.obj true d.blks :: T)[j]? = some (.map (kmA m)) → AWs (List.range (L + 2) ++ [0, j].map (L + 2 + ·)) (ksF L M q i) F → Weak (L + 2) F (A ++ .obj true d.blks :: T) (ksF L M q i) (ksH A d m) := fun i d m j T F hj hm hF => by
    refine tl [0, j] (by simp [hj.symm]) hF rfl fun i' t x y h1 h2 h3 => ?_
    match i', h1, h2 with
    | 0, h1, h2 => cases h1; cases h2; cases h3; exact ⟨rfl, rfl⟩
    | 1, h1, h2 => cases h1; cases h2; rw [hm] at h3; cases h3; exact AWb_km _ _
  unfold ksF ksH
  simp only [List.cons_append, List.nil_append, List.replicate]
  obtain ⟨hlt, h50⟩ := hlt
  have hltI : (i : Int) < L := by omega
  have h50I : (i : Int) < 50 := by omega
  have hil : i < l.length := by omega
  have hp1 := hp0 hil h50
  obtain ⟨x, hx⟩ : ∃ x, l[i] = x := ⟨_, rfl⟩
  rw [hx] at hp1
  have hxo := hok x (by rw [← hx]; exact List.getElem_mem hil)
  have g1 := das_get l 1 i hil
  rw [hx] at g1
  obtain ⟨xw, xa, xb, xs, xn, xl⟩ := x
  obtain ⟨b1, b2, b3, b4, b5, _, _⟩ := hxo
  dsimp only at b1 b2 b3 b4 b5
  simp only [daA] at g1
  have k1 : i * 6 + 6 ≤ L * 6 := by omega
  have ia2 : (xa : Int) ≤ 255 := by omega
  have ib2 : (xb : Int) ≤ 255 := by omega
  have y1 : IntKind.i64.wrap ((i : Int) + 1) = i + 1 := wr_i64 (by omega) (by omega)
  have hq2 : ∀ k : Nat, 1 + i < L + 2 + k := fun k => by omega
  have hds : d.small := DS.ok_mono hk.ok (by omega) (by omega)
  have nml : ∀ n : Nat, (nmD xs n).length ≤ 9223372036854775807 := fun n => by
    unfold nmD
    split
    · exact b4
    · have : n % 4 < 4 := Nat.mod_lt _ (by decide)
      have h4 : ∀ p, p < 4 → (([[97], [98], [99], [108, 111, 103]] : List (List UInt8)).getD p []).length ≤ 3 := by decide
      have := h4 _ this
      omega
  obtain ⟨nx, hnx⟩ : ∃ nx, nmD xs xa = nx := ⟨_, rfl⟩
  have hnxl := nml xa
  rw [hnx] at hnxl
  obtain ⟨ny, hny⟩ : ∃ ny, nmD xs xb = ny := ⟨_, rfl⟩
  have hnyl := nml xb
  rw [hny] at hnyl
  obtain ⟨z, hz⟩ : ∃ z, 1 + i = z := ⟨_, rfl⟩
  rw [hz] at g1 hq2
  obtain ⟨p, hp⟩ : ∃ p, xw % 16 = p := ⟨_, rfl⟩
  have hp16 : p < 16 := by omega
  dsimp only at hp1
  rw [hp] at hp1
  have v1 : (xw : Int).tmod 16 = p := by rw [Int.tmod_eq_emod_of_nonneg (by omega)]; omega
  have v2 : IntKind.u8.wrap (p : Int) = p := wr_u8 (by omega) (by omega)
  refine Sim.step hmix hΓ (n := 0) (by simp [hltI, h50I]; exact ⟨rfl, rfl⟩) (by simp [hN]) ?_
  refine Sim.seq (Sim.mono (Q := fun e F' H' => e = .normal ∧ ∃ d' m', KInv q (10 * (i + 1)) (300 * (i + 1)) d' m' ∧ Weak (L + 2) F' H' (ksF L M q i) (ksH A d' m')) (Sim.block ?_) ?_)
  rotate_left
  · rintro e F' H' hlen1 ⟨rfl, d', m', hk', hwk⟩
    dsimp only
    refine Sim.weak hwk hlen1 ?_
    clear hwk hlen1
    unfold ksF ksH
    simp only [List.cons_append, List.nil_append, List.replicate]
    refine Sim.exec hmix hΓ (n := 0) (by simp [y1]; exact ⟨rfl, rfl, rfl⟩) (by simp [hN]) ?_
    exact ⟨h50, hlt, d', m', hk', keep (i + 1) d' m' 1 _ _ (by decide) rfl (by simp [AW])⟩
  refine Sim.step hmix hΓ (n := 0) (by simp (decide := true) [hlt, hL, hA00, hN, k1, g1]; exact ⟨rfl, rfl⟩) (by simp [hN]) ?_
  refine Sim.step hmix hΓ (n := 0) (by simp (decide := true) [dkΓ, nameDS, hN, hq2, ia2, ib2, hnx, hny]; first | exact ⟨rfl, rfl⟩ | exact ⟨by kernel_rfl, rfl, rfl⟩) (by simp [hN]) ?_
  refine Sim.step hmix hΓ (n := 0) (by simp (decide := true) [dkΓ, dusedR, hN, hds]; first | exact ⟨rfl, rfl⟩ | exact ⟨by kernel_rfl, rfl, rfl⟩) (by simp [hN]) ?_
  refine Sim.step hmix hΓ (n := 0) (by simp (decide := true) [hN, v1]; exact ⟨rfl, rfl⟩) (by simp [hN]) ?_
  refine Sim.block ?_
  have fin : ∀ (d' : DS) (m' : KM) (j : Nat) (T : AHeap) (F : List AV), KInv q (10 * (i + 1)) (300 * (i + 1)) d' m' → j ≠ 0 → (ABlk.obj true d'.blks :: T)[j]? = some (.map (kmA m')) → AWs (List.range (L + 2) ++ [0, j].map (L + 2 + ·)) (ksF L M q i) F →
      AX.normal = AX.normal ∧ ∃ d' m', KInv q (10 * (i + 1)) (300 * (i + 1)) d' m' ∧ Weak (L + 2) F (A ++ .obj true d'.blks :: T) (ksF L M q i) (ksH A d' m') := fun d' m' j T F hk' hj hm hF => ⟨rfl, d', m', hk', keep i d' m' j T F hj hm hF⟩
  by_cases p7 : p = 7 ∨ p = 8
  · have o := hk.sync nx
    obtain ⟨d', e, hcd⟩ : ∃ d' e, d.sync nx = (d', e) := ⟨_, _, rfl⟩
    rw [hcd] at o
    dsimp only at o
    have hds' : d'.small := DS.ok_mono o.ok (by omega) (by omega)
    by_cases he : e = 0
    · subst he
      rw [if_pos rfl] at o
      cases hg : KM.get m nx with
      | none =>
        rw [hg] at o
        dsimp only at o
        have hf := find_km nx m 0
        rw [hg] at hf
        simp only [Option.map_none] at hf
        rcases p7 with rfl | rfl <;> (
        refine Sim.exec hmix hΓ (n := 0) (by simp (decide := true) [dkΓ, dsyncS, hN, hXs, hXs0, hds, hcd, hf]; exact ⟨rfl, rfl, rfl⟩) (by simp [hN]) ?_
        dsimp only
        exact ⟨rfl, d', m, o.mono (by omega) (by omega), keep i d' m 1 _ _ (by decide) rfl (by simp [AW])⟩)
      | some v =>
        rw [hg] at o
        dsimp only at o
        have hf := find_km nx m 0
        rw [hg] at hf
        simp only [Option.map_some, Nat.zero_add, kvA] at hf
        obtain ⟨rs, hrs⟩ : ∃ rs, (d'.readAt nx 0 10000).1 = rs := ⟨_, rfl⟩
        rw [hrs] at o
        have hs := km_set (rs, v.2) hg
        simp only [kvA] at hs
        rcases p7 with rfl | rfl <;> (
        refine Sim.exec hmix hΓ (n := 0) (by simp (decide := true) [dkΓ, dsyncS, dreaS, hN, hXs, hXs0, hds, hds', hcd, hrs, hf, hs]; exact ⟨rfl, rfl, rfl⟩) (by simp [hN]) ?_
        dsimp only
        exact ⟨rfl, d', _, o.mono (by omega) (by omega), keep i d' _ 1 _ _ (by decide) rfl (by simp [AW])⟩)
    · have he' : (e == 0) = false := by simpa using he
      rw [if_neg he] at o
      rcases p7 with rfl | rfl <;> (
      refine Sim.exec hmix hΓ (n := 0) (by simp (decide := true) [dkΓ, dsyncS, hN, hXs0, hds, hcd, he']; exact ⟨rfl, rfl, rfl⟩) (by simp [hN]) ?_
      dsimp only
      exact ⟨rfl, d', m, o.mono (by omega) (by omega), keep i d' m 1 _ _ (by decide) rfl (by simp [AW])⟩)
  exact absurd hp1 (by omega)
end Go.Proofs.YtjolihoakdifoaaGreat
