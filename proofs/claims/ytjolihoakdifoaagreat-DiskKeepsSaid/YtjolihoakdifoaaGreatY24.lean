/- Parts of the proof of DiskKeeps: lemmas, each with its own conditions. -/
import Derived.Test.YtjolihoakdifoaaGreatY23
namespace Go.Proofs.YtjolihoakdifoaaGreat
open Go Go.Lib
set_option maxRecDepth 100000
attribute [-simp] drawOk_eq adraw qrun acode aops
set_option maxHeartbeats 64000000 in
theorem keeps_roundC {A : AHeap} (l : List DA) (hok : ∀ x ∈ l, x.ok) (L M : Nat) (hL : l.length = L) (hN : A.length = L + 2) (hid : ∀ rn : List Nat, (∀ i, i < L + 2 → rn[i]? = some i) → ∀ B ∈ A, AWb rn B B) (hA0 : A[0]? = some (.cells false (dasA 1 l)))
    (q : Nat) (_hq : q ≤ 255) (i : Nat) (_hi : i ≤ L) (hi50 : i ≤ 50) (d : DS) (m : KM) (hk : KInv q (10 * i) (300 * i) d m) (hlt : i < L ∧ i < 50) (hp0 : ∀ h : i < l.length, i < 50 → l[i].w % 16 = 11 ∨ l[i].w % 16 = 12) :
    Sim Tryz.prog none (L + 2) (loopOf (restC 5 (bodyOf Tryz.f3))) (ksF L M q i) (ksH A d m) fun e F' H' => match e with
      | .normal => i < 50 ∧ i < L ∧ ∃ d' m', KInv q (10 * (i + 1)) (300 * (i + 1)) d' m' ∧ Weak (L + 2) F' H' (ksF L M q (i + 1)) (ksH A d' m')
      | e => e = .exit 0 ∧ Weak (L + 2) F' H' (ksF L M q i) (ksH A d m) := by
  have hΓ := dkΓ_ok
  simp only [bodyOf, Tryz.f3, Option.getD_some, restC, loopOf]
  have hX := behindX A hN
  have hXg := hX.get
  have hXg0 := hX.get0
  have hXs := hX.set
  have hXs0 := hX.set0
  have hA00 : ∀ h, A[0]'h = .cells false (dasA 1 l) := fun h => by rw [List.getElem?_eq_getElem h] at hA0; exact Option.some.inj hA0
  have tl := fun {T Tn F Fn} => Weak.tail2 hN hid (T := T) (Tn := Tn) (F := F) (Fn := Fn)
  have r0 : ∀ ts : List Nat, (List.range (L + 2) ++ ts)[0]? = some 0 := fun ts => range_at _ _ (by omega)
  have r1 : ∀ ts : List Nat, (List.range (L + 2) ++ ts)[L + 1]? = some (L + 1) := fun ts => range_at _ _ (by omega)
  have r2 : ∀ ts : List Nat, (List.range (L + 2) ++ ts)[L + 2]? = ts[0]? := fun ts => range_beh0 _ _
  have r3 : ∀ ts : List Nat, (List.range (L + 2) ++ ts)[L + 3]? = ts[1]? := fun ts => range_beh (L + 2) ts 1
  have keep : ∀ (i : Nat) (d : DS) (m : KM) (j : Nat) (T : AHeap) (F : List AV), j ≠ 0 → (ABlk.obj true d.blks :: T)[j]? = some (.map (kmA m)) → AWs (List.range (L + 2) ++ [0, j].map (L + 2 + ·)) (ksF L M q i) F → Weak (L + 2) F (A ++ .obj true d.blks :: T) (ksF L M q i) (ksH A d m) := fun i d m j T F hj hm hF => by
    refine tl [0, j] (by simp [hj.symm]) hF rfl fun i' t x y h1 h2 h3 => ?_
    match i', h1, h2 with
    | 0, h1, h2 => cases h1; cases h2; cases h3; exact ⟨rfl, rfl⟩
    | 1, h1, h2 => cases h1; cases h2; rw [hm] at h3; cases h3; exact AWb_km _ _
  unfold ksF ksH
  simp only [List.cons_append, List.nil_append, List.replicate]
  obtain ⟨hlt, h50⟩ := hlt
  have hltI : (i : Int) < L := by omega
  have h50I : (i : Int) < 50 := by omega
  have hil : i < l.length := by omega
  have hp1 := hp0 hil h50
  obtain ⟨x, hx⟩ : ∃ x, l[i] = x := ⟨_, rfl⟩
  rw [hx] at hp1
  have hxo := hok x (by rw [← hx]; exact List.getElem_mem hil)
  have g1 := das_get l 1 i hil
  rw [hx] at g1
  obtain ⟨xw, xa, xb, xs, xn, xl⟩ := x
  obtain ⟨b1, b2, b3, b4, b5, _, _⟩ := hxo
  dsimp only at b1 b2 b3 b4 b5
  simp only [daA] at g1
  have k1 : i * 6 + 6 ≤ L * 6 := by omega
  have ia2 : (xa : Int) ≤ 255 := by omega
  have ib2 : (xb : Int) ≤ 255 := by omega
  have y1 : IntKind.i64.wrap ((i : Int) + 1) = i + 1 := wr_i64 (by omega) (by omega)
  have hq2 : ∀ k : Nat, 1 + i < L + 2 + k := fun k => by omega
  have hds : d.small := DS.ok_mono hk.ok (by omega) (by omega)
  have nml : ∀ n : Nat, (nmD xs n).length ≤ 9223372036854775807 := fun n => by
    unfold nmD
    split
    · exact b4
    · have : n % 4 < 4 := Nat.mod_lt _ (by decide)
      have h4 : ∀ p, p < 4 → (([[97], [98], [99], [108, 111, 103]] : List (List UInt8)).getD p []).length ≤ 3 := by decide
      have := h4 _ this
      omega
  obtain ⟨nx, hnx⟩ : ∃ nx, nmD xs xa = nx := ⟨_, rfl⟩
  have hnxl := nml xa
  rw [hnx] at hnxl
  obtain ⟨ny, hny⟩ : ∃ ny, nmD xs xb = ny := ⟨_, rfl⟩
  have hnyl := nml xb
  rw [hny] at hnyl
  obtain ⟨z, hz⟩ : ∃ z, 1 + i = z := ⟨_, rfl⟩
  rw [hz] at g1 hq2
  obtain ⟨p, hp⟩ : ∃ p, xw % 16 = p := ⟨_, rfl⟩
  have hp16 : p < 16 := by omega
  dsimp only at hp1
  rw [hp] at hp1
  have v1 : (xw : Int).tmod 16 = p := by rw [Int.tmod_eq_emod_of_nonneg (by omega)]; omega
  have v2 : IntKind.u8.wrap (p : Int) = p := wr_u8 (by omega) (by omega)
  refine Sim.step hmix hΓ (n := 0) (by simp [hltI, h50I]; exact ⟨rfl, rfl⟩) (by simp [hN]) ?_
  refine Sim.seq (Sim.mono (Q := fun e F' H' => e = .normal ∧ ∃ d' m', KInv q (10 * (i + 1)) (300 * (i + 1)) d' m' ∧ Weak (L + 2) F' H' (ksF L M q i) (ksH A d' m')) (Sim.block ?_) ?_)
  rotate_left
  · rintro e F' H' hlen1 ⟨rfl, d', m', hk', hwk⟩
    dsimp only
    refine Sim.weak hwk hlen1 ?_
    clear hwk hlen1
    unfold ksF ksH
    simp only [List.cons_append, List.nil_append, List.replicate]
    refine Sim.exec hmix hΓ (n := 0) (by simp [y1]; exact ⟨rfl, rfl, rfl⟩) (by simp [hN]) ?_
    exact ⟨h50, hlt, d', m', hk', keep (i + 1) d' m' 1 _ _ (by decide) rfl (by simp [AW])⟩
  refine Sim.step hmix hΓ (n := 0) (by simp (decide := true) [hlt, hL, hA00, hN, k1, g1]; exact ⟨rfl, rfl⟩) (by simp [hN]) ?_
  refine Sim.step hmix hΓ (n := 0) (by simp (decide := true) [dkΓ, nameDS, hN, hq2, ia2, ib2, hnx, hny]; first | exact ⟨rfl, rfl⟩ | exact ⟨by kernel_rfl, rfl, rfl⟩) (by simp [hN]) ?_
  refine Sim.step hmix hΓ (n := 0) (by simp (decide := true) [dkΓ, dusedR, hN, hds]; first | exact ⟨rfl, rfl⟩ | exact ⟨by kernel_rfl, rfl, rfl⟩) (by simp [hN]) ?_
  refine Sim.step hmix hΓ (n := 0) (by simp (decide := true) [hN, v1]; exact ⟨rfl, rfl⟩) (by simp [hN]) ?_
  refine Sim.block ?_
  have fin : ∀ (d' : DS) (m' : KM) (j : Nat) (T : AHeap) (F : List AV), KInv q (10 * (i + 1)) (300 * (i + 1)) d' m' → j ≠ 0 → (ABlk.obj true d'.blks :: T)[j]? = some (.map (kmA m')) → AWs (List.range (L + 2) ++ [0, j].map (L + 2 + ·)) (ksF L M q i) F →
      AX.normal = AX.normal ∧ ∃ d' m', KInv q (10 * (i + 1)) (300 * (i + 1)) d' m' ∧ Weak (L + 2) F (A ++ .obj true d'.blks :: T) (ksF L M q i) (ksH A d' m') := fun d' m' j T F hk' hj hm hF => ⟨rfl, d', m', hk', keep i d' m' j T F hj hm hF⟩
  by_cases p11 : p = 11
  · subst p11
    have o := hk.rename nx ny
    obtain ⟨d', e, hcd⟩ : ∃ d' e, d.rename nx ny = (d', e) := ⟨_, _, rfl⟩
    rw [hcd] at o
    dsimp only at o
    by_cases he : e = 0
    · subst he
      by_cases hxy : nx = ny
      · rw [if_neg (by simp [hxy])] at o
        subst hxy
        refine Sim.exec hmix hΓ (n := 0) (by simp (decide := true) [dkΓ, drenS, hN, hXs0, hds, hnyl, hcd]; exact ⟨rfl, rfl, rfl⟩) (by simp [hN]) ?_
        dsimp only
        exact ⟨rfl, d', m, o.mono (by omega) (by omega), keep i d' m 1 _ _ (by decide) rfl (by simp [AW])⟩
      · rw [if_pos ⟨rfl, hxy⟩] at o
        have hb : (nx == ny) = false := by simpa using hxy
        rcases km_put_cases m nx ([], true) with ⟨f1, s1⟩ | ⟨i1, v1, f1, s1⟩ <;> rcases km_put_cases (KM.put m nx ([], true)) ny ([], true) with ⟨f2, s2⟩ | ⟨i2, v2, f2, s2⟩ <;> (
        refine Sim.exec hmix hΓ (n := 0) (by simp (decide := true) [dkΓ, drenS, hN, hXs0, hds, hnyl, hcd, hb, f1, s1, f2, s2]; exact ⟨rfl, rfl, rfl⟩) (by simp [hN]) ?_
        dsimp only
        exact ⟨rfl, d', _, o.mono (by omega) (by omega), keep i d' _ 1 _ _ (by decide) rfl (by simp [AW])⟩)
    · have he' : (e == 0) = false := by simpa using he
      rw [if_neg (fun h => he h.1)] at o
      refine Sim.exec hmix hΓ (n := 0) (by simp (decide := true) [dkΓ, drenS, hN, hXs0, hds, hnyl, hcd, he']; exact ⟨rfl, rfl, rfl⟩) (by simp [hN]) ?_
      dsimp only
      exact ⟨rfl, d', m, o.mono (by omega) (by omega), keep i d' m 1 _ _ (by decide) rfl (by simp [AW])⟩
  by_cases p12 : p = 12
  · subst p12
    have o := hk.remove nx
    obtain ⟨d', e, hcd⟩ : ∃ d' e, d.remove nx = (d', e) := ⟨_, _, rfl⟩
    rw [hcd] at o
    dsimp only at o
    by_cases he : e = 0
    · subst he
      rw [if_pos rfl] at o
      rcases km_put_cases m nx ([], true) with ⟨f1, s1⟩ | ⟨i1, v1, f1, s1⟩ <;> (
      refine Sim.exec hmix hΓ (n := 0) (by simp (decide := true) [dkΓ, dremS, hN, hXs0, hds, hcd, f1, s1]; exact ⟨rfl, rfl, rfl⟩) (by simp [hN]) ?_
      dsimp only
      exact ⟨rfl, d', _, o.mono (by omega) (by omega), keep i d' _ 1 _ _ (by decide) rfl (by simp [AW])⟩)
    · have he' : (e == 0) = false := by simpa using he
      rw [if_neg he] at o
      refine Sim.exec hmix hΓ (n := 0) (by simp (decide := true) [dkΓ, dremS, hN, hXs0, hds, hcd, he']; exact ⟨rfl, rfl, rfl⟩) (by simp [hN]) ?_
      dsimp only
      exact ⟨rfl, d', m, o.mono (by omega) (by omega), keep i d' m 1 _ _ (by decide) rfl (by simp [AW])⟩
  exact absurd hp1 (by omega)
end Go.Proofs.YtjolihoakdifoaaGreat
