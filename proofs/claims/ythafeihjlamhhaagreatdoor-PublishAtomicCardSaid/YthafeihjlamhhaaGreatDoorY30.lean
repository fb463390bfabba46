/- Parts of the proof of PublishAtomic: lemmas, each with its own conditions. -/
import Derived.Test.YthafeihjlamhhaaGreatDoorY29
set_option maxHeartbeats 64000000
open List renaming take_of_length_le → q6Z, length_cons → q7Z, length_nil → q8Z, cons_append → q9Z, nil_append → qaZ, replicate → qbZ
open Nat renaming le_refl → qnZ
open Int renaming tmod_eq_emod_of_nonneg → rrZ
namespace Go.Proofs.YthafeihjlamhhaaGreatDoor
open _root_.Go.Proofs.Tryz renaming prog → Pz
set_option maxRecDepth 100000
section
open Go Go.Lib
attribute [-simp] drawOk_eq adraw qrun acode aops
theorem ct_out {P : Program} {f : FuncId} {args : List AV} {H H1 H' : AHeap} {v v1 : AV} (h : Ct P f args H v1 H1) (hw : Weak H.length [v1] H1 [v] H') : Ct P f args H v H' := by
 intro j w cargs hR hargs; refine (h j w cargs hR hargs).mono ?_; rintro e w' ⟨cv, j', rfl, g2, hs⟩; obtain ⟨j2, k1, k2⟩ := hw.step (qnZ _) hs (vs := [cv]) ⟨cv, [], rfl, g2, rfl⟩; simp only [VRs] at k2; obtain ⟨_, _, e, k3, _⟩ := k2; cases e; exact ⟨cv, j2, rfl, k3, k1⟩
theorem restart0_ct (d : DS) (hd : d.small) : Ct Pz 35 [.ptr 0 0, .nils] [.obj true d.blks] (.tuple []) [.obj true (d.restart []).blks] := by
 have h := restart_ct d hd (by decide) (by decide) [] (by simp) (by simp) 0 (qnZ _) false
 simp only [List.take_nil, numA] at h
 refine ct_out (ct_weak (Weak.mk' [0, 100] (by decide) rfl (by simp [AWs, AW]) (by simp [AWg, AWb])) h) (Weak.mk' [0] (by decide) rfl (by simp [AWs, AW]) (by simp [AWg, AWb]))
open Classical in
noncomputable def drest0S : Summ := objS dsD DS.blks fun d xs _ => match xs with
 | [.nils] => if d.small then some (d.restart [], .tuple []) else none
 | _ => none
theorem drest0_sound : Sound Pz 35 drest0S := by
 refine sound_obj (enter_of Tryz.func35 rfl (by decide)) (fun _ _ => dsD_eq) fun d xs H s' v b hg hb => ?_
 split at hg; rotate_left
 · cases hg
 split at hg <;> cases hg
 rename_i hs; exact ct_obj1 (restart0_ct d hs) rfl rfl hb
noncomputable def drestN : Summ := fun args H => match args with
 | [.ptr b 0, .nils] => drest0S [.ptr b 0, .nils] H
 | [.ptr b 0, .slice b2 o L sz c] => drestS [.ptr b 0, .slice b2 o L sz c] H
 | [.ptr b 0, .sl b2 o L sz c] => drestS [.ptr b 0, .sl b2 o L sz c] H
 | _ => none
theorem drestN_sound : Sound Pz 35 drestN := by
 refine ⟨drest_sound.enter, fun args H v H' W hs => ?_, fun args H v H' W hs => ?_⟩ <;> (unfold drestN at hs; split at hs)
 · exact drest0_sound.ct _ _ _ _ _ hs
 · exact drest_sound.ct _ _ _ _ _ hs
 · exact drest_sound.ct _ _ _ _ _ hs
 · cases hs
 · exact drest0_sound.keep _ _ _ _ _ hs
 · exact drest_sound.keep _ _ _ _ _ hs
 · exact drest_sound.keep _ _ _ _ _ hs
 · cases hs
noncomputable def patΓ0 : Gam := gams [(48, trueK_U4), (17, dnewS), (49, pmadeS), (51, pputS), (52, gotS), (54, dcreS), (33, darmS), (34, ddownS), (35, drestN)]
theorem patΓ_ok : GOk Pz (runG Pz patΓ0 0 [] 2) := gok_run hmix (goks_cons pubWS0_sound (goks_cons dnew_sound (goks_cons pmade_sound (goks_cons pputS_sound (goks_cons got_sound (goks_cons dcre_sound (goks_cons darm_sound (goks_cons ddown_sound (goks_cons drestN_sound goks_nil))))))))) 0 [] 2
abbrev paF (a : Int) (t : Nat) (M : Nat) (x : AV) : List AV := [.top, .int .u8 a, .sl 2 0 M 1 false, .top, .top, .top, .bool false, .ptr 5 0, .ptr 6 0, .ptr 7 0, .int .i64 t, x] ++ qbZ 99 .top
abbrev paH (l0 l1 : List Nat) (nums : List Int) (l l' : List Sg) (v f m v' f' m' : Int) (d : DS) : AHeap := [.cells false (l0.map aB), .cells false (l1.map aB), .cells false (numA nums), .cells true (sgsA l), .cells true (sgsA l'), .cells true [.int .i64 v, .int .i64 f, .int .i64 m, .sl 3 0 l.length 3 false], .cells true [.int .i64 v', .int .i64 f', .int .i64 m', .sl 4 0 l'.length 3 false], .obj true d.blks]
theorem atomic_ct (v0 f0 v1 f1 : Int) (hv0 : 0 ≤ v0 ∧ v0 ≤ 255) (hf0 : 0 ≤ f0 ∧ f0 ≤ 255) (hv1 : 0 ≤ v1 ∧ v1 ≤ 255) (hf1 : 0 ≤ f1 ∧ f1 ≤ 255) (o0 o1 : Bool) (l0 l1 : List Nat) (hl0 : ∀ c ∈ l0, c < 256) (hl1 : ∀ c ∈ l1, c < 256) (hn0 : l0.length ≤ 9223372036854775807) (hn1 : l1.length ≤ 9223372036854775807) (a : Int) (ha : 0 ≤ a ∧ a ≤ 255)
   (nums : List Int) (hnums : ∀ x ∈ nums, 0 ≤ x ∧ x ≤ 65535) (hMl : nums.length ≤ 9223372036854775807) :
   ∃ H', Ct Pz 9 [.agg [.int .u8 v0, .int .u8 f0, .sl 0 0 l0.length 1 false, .bool o0, .int .u8 v1, .int .u8 f1, .sl 1 0 l1.length 1 false, .bool o1], .int .u8 a, .sl 2 0 nums.length 1 false] [.cells false (l0.map aB), .cells false (l1.map aB), .cells false (numA nums)] (.bool true) H' := by
 have hΓ := patΓ_ok; refine ⟨[.cells false (l0.map aB), .cells false (l1.map aB), .cells false (numA nums)], ct_of_sim Tryz.func9 rfl ?_⟩; simp only [Tryz.ntmps9, q7Z, q8Z, Nat.reduceAdd, Nat.reduceSub, qbZ, q9Z, qaZ]; obtain ⟨M, hM⟩ : ∃ M, nums.length = M := ⟨_, rfl⟩; rw [hM] at hMl ⊢
 obtain ⟨J, hJ⟩ : ∃ J : Nat, min (M : Int) 20 = J := ⟨min M 20, by omega⟩
 have hJM : J ≤ M := by omega
 have hJMI : (J : Int) ≤ M := by omega
 have hJ0 : (0 : Int) ≤ J := by omega
 have hn1' : (∀ x ∈ nums, 0 ≤ x ∧ x ≤ 65535) = True := by simpa using hnums
 have a0 : (∀ x ∈ l0, x < 256) = True := by simpa using hl0
 have a1 : (∀ x ∈ l1, x < 256) = True := by simpa using hl1
 have t0 : (l0.map aB).take l0.length = l0.map aB := q6Z (by simp)
 have t1 : (l1.map aB).take l1.length = l1.map aB := q6Z (by simp)
 have rX := pdM_right hv0 hf0 hl0; have rY := pdM_right hv1 hf1 hl1; obtain ⟨X, eX⟩ : ∃ X, pdM v0 f0 l0 = X := ⟨_, rfl⟩; obtain ⟨Y, eY⟩ : ∃ Y, pdM v1 f1 l1 = Y := ⟨_, rfl⟩; rw [eX] at rX; rw [eY] at rY; have pX := Mf.bytes_few rX; have pY := Mf.bytes_few rY
 obtain ⟨t, ht⟩ : ∃ t : Nat, a.tmod 10 = t := ⟨(a.tmod 10).toNat, by rw [rrZ ha.1]; omega⟩
 have ht10 : t < 10 := by rw [rrZ ha.1] at ht; omega
 obtain ⟨u, hu⟩ : ∃ u : Nat, a.tmod 20 = u := ⟨(a.tmod 20).toNat, by rw [rrZ ha.1]; omega⟩
 have hu20 : u < 20 := by rw [rrZ ha.1] at hu; omega
 have w1 : IntKind.u8.wrap (t : Int) = t := wr_u8 (by omega) (by omega)
 have w2 : IntKind.i64.wrap (t : Int) = t := wr_i64 (by omega) (by omega)
 have w3 : IntKind.u8.wrap (u : Int) = u := wr_u8 (by omega) (by omega)
 obtain ⟨d1, hd1, ok1, q1, d4, e, hd4, ok4, he, hdw, q4, g5, g6, d7, hd7, ok7, g8⟩ := atomic_law X.bytes Y.bytes (by omega) (by omega) (decide (9 < u)) (t : Int) (by omega) (by omega) (nums.take J) []
 have gX : ∀ d, pubd d X.bytes → theM d = some X := fun d h => theM_eq rX h
 have gY : ∀ d, pubd d Y.bytes → theM d = some Y := fun d h => theM_eq rY h
 obtain ⟨D2, hD2⟩ : ∃ D2, (if decide (9 < u) = true then (d1.create nTmp).1 else d1) = D2 := ⟨_, rfl⟩
 rw [hD2] at hd4
 have k1s : d1.small := DS.ok_mono ok1 (by omega) (by omega)
 have okD2 : D2.ok 14 1048576 ∧ D2.quota = 1048576 := by
   rw [← hD2]; split
   · exact ⟨DS.ok_create ok1 nTmp, (create_quota d1 nTmp).trans q1⟩
   · exact ⟨DS.ok_mono ok1 (by omega) (qnZ _), q1⟩
 have sD2 : D2.small := DS.ok_mono okD2.1 (by omega) (by omega)
 have okA := DS.ok_arm okD2.1 (t : Int) (by omega)
 have kA : (D2.arm t).ok 800000 100000000 := DS.ok_mono okA (by omega) (by omega)
 have kAq : (D2.arm t).quota ≤ 1000000000 := by show D2.quota ≤ _; omega
 have s4 : d4.small := DS.ok_mono ok4 (by omega) (by omega)
 have ok5 := DS.ok_restart ok4 (nums.take J); have ok6 := DS.ok_restart ok5 []
 have q6 : ((d4.restart (nums.take J)).restart []).quota ≤ 1000000000 := by show d4.quota ≤ _; omega
 have ok8 := DS.ok_restart ok7 (nums.take J); obtain ⟨d5, hd5⟩ : ∃ d, d4.restart (nums.take J) = d := ⟨_, rfl⟩; rw [hd5] at ok5 ok6 q6 g5 g6 hd7; obtain ⟨d6, hd6⟩ : ∃ d, d5.restart [] = d := ⟨_, rfl⟩; rw [hd6] at ok6 q6 g6 hd7; obtain ⟨d8, hd8⟩ : ∃ d, d7.restart (nums.take J) = d := ⟨_, rfl⟩; rw [hd8] at ok8 g8
 have s5 : d5.small := DS.ok_mono ok5 (by omega) (by omega)
 have s6 : d6.small := DS.ok_mono ok6 (by omega) (by omega)
 have k6 : d6.ok 800000 100000000 := DS.ok_mono ok6 (by omega) (by omega)
 have s7 : d7.small := DS.ok_mono ok7 (by omega) (by omega)
 have s8 : d8.small := DS.ok_mono ok8 (by omega) (by omega)
 have gg8 := gY d8 g8; obtain ⟨DA, hDA⟩ : ∃ DA, D2.arm t = DA := ⟨_, rfl⟩; rw [hDA] at hd4 kA kAq
 have k0 : (DS.new 1048576).ok 800000 100000000 := DS.ok_mono (DS.ok_new 1048576 (by decide) (by decide)) (by omega) (by omega)
 have k0q : (DS.new 1048576).quota ≤ 1000000000 := by decide
 obtain ⟨D0, hD0⟩ : ∃ D0, DS.new 1048576 = D0 := ⟨_, rfl⟩; rw [hD0] at hd1 k0 k0q
 have f5 : ∃ m, theM d5 = some m ∧ (m = Y ∨ e ≠ 0 ∧ m = X) := by
   rcases g5 with h | ⟨h1, h⟩
   · exact ⟨Y, gY _ h, .inl rfl⟩
   · exact ⟨X, gX _ h, .inr ⟨h1, rfl⟩⟩
 have f6 : ∃ m, theM d6 = some m ∧ (m = Y ∨ e ≠ 0 ∧ m = X) := by
   rcases g6 with h | ⟨h1, h⟩
   · exact ⟨Y, gY _ h, .inl rfl⟩
   · exact ⟨X, gX _ h, .inr ⟨h1, rfl⟩⟩
 obtain ⟨m5, hm5, hc5⟩ := f5; obtain ⟨m6, hm6, hc6⟩ := f6; clear g5 g6 g8 gX gY
 have hdd : (e == 0) = !d4.down := by
   cases h : d4.down with
   | false => simp [hdw.1 h]
   | true =>
     have : e ≠ 0 := fun h0 => by have := hdw.2 h0; rw [h] at this; cases this
     simpa using this
 obtain ⟨v, f, m, l⟩ := X; obtain ⟨v', f', m', l'⟩ := Y; obtain ⟨p, hp⟩ : ∃ p, Mf.bytes ⟨v, f, m, l⟩ = p := ⟨_, rfl⟩; obtain ⟨p', hp'⟩ : ∃ p, Mf.bytes ⟨v', f', m', l'⟩ = p := ⟨_, rfl⟩; rw [hp] at hd1; rw [hp'] at hd4 hd7
 refine Sim.step hmix hΓ (n := 0) (by simp; exact ⟨rfl, rfl⟩) (by simp) ?_
 refine Sim.step hmix hΓ (n := 0) (by simp [patΓ0, trueK_U4]; exact ⟨rfl, rfl⟩) (by simp) ?_
 refine Sim.step hmix hΓ (n := 0) (by simp; exact ⟨rfl, rfl⟩) (by simp) ?_
 refine Sim.step hmix hΓ (n := 0) (by simp; exact ⟨rfl, rfl⟩) (by simp) ?_
 refine Sim.seq (Sim.draw hmix (by simp) ?_)
 refine SimR.many hΓ 10 (by simp [stageOps]; rfl) (by omega) (by kernel_rfl) (by simp +decide [patΓ0, pmadeS, rowNs, t0, t1, a0, a1, hn0, hn1, hv0, hf0, hv1, hf1, eX, eY, mfA, scA]; first | exact ⟨rfl, rfl⟩ | exact ⟨by kernel_rfl, rfl, rfl⟩) ?_
 refine SimR.done rfl ?_; dsimp only
 refine Sim.step hmix hΓ (n := 0) (by simp +decide [patΓ0, dnewS, newS, hD0]; exact ⟨rfl, rfl⟩) (by simp) ?_
 refine Sim.step hmix hΓ (n := 0) (by simp +decide [patΓ0, pputS, k0, k0q, rX, hp, hd1]; exact ⟨rfl, rfl⟩) (by simp) ?_
 refine Sim.step hmix hΓ (n := 0) (by simp +decide [ht, w2]; exact ⟨rfl, rfl⟩) (by simp) ?_
 have hfr : ∀ rn : List Nat, AWs rn (numA nums) (numA nums) := fun rn => AWs_flat _ (flatsA_num _)
 have fin : ∀ (T : AHeap), Weak 3 [.bool true] (.cells false (l0.map aB) :: .cells false (l1.map aB) :: .cells false (numA nums) :: T) [.bool true] [.cells false (l0.map aB), .cells false (l1.map aB), .cells false (numA nums)] := fun T =>
   Weak.mk' [0, 1, 2] (by decide) (by decide) (by simp) (by simp [AWb])
 refine Sim.seq (Sim.mono (Q := fun e' F' H' => e' = .normal ∧ Weak 3 F' H' (paF a t M .top) (paH l0 l1 nums l l' v f m v' f' m' D2)) ?_ ?_)
 · by_cases hc : 9 < u
   · have hcI : (9 : Int) < (u : Int) := by omega
     have hcb : decide (9 < u) = true := by simpa using hc
     rw [if_pos hcb] at hD2
     refine Sim.exec hmix hΓ (n := 0) (by simp +decide [patΓ0, dcreS, hu, hcI, k1s, hD2]; exact ⟨rfl, rfl, rfl⟩) (by simp) ?_
     exact ⟨rfl, Weak.mk' [0, 1, 2, 4, 5, 6, 7, 8] (by decide) (by decide) (by simp) (by simp [AWb])⟩
   · have hcI : ¬ (9 : Int) < (u : Int) := by omega
     have hcb : ¬ decide (9 < u) = true := by simpa using hc
     rw [if_neg hcb] at hD2; subst hD2
     refine Sim.exec hmix hΓ (n := 0) (by simp +decide [hu, hcI]; exact ⟨rfl, rfl, rfl⟩) (by simp) ?_
     exact ⟨rfl, Weak.mk' [0, 1, 2, 4, 5, 6, 7, 8] (by decide) (by decide) (by simp) (by simp [AWb])⟩
 rintro _ F6 H6 hl6 ⟨rfl, hw6⟩; refine Sim.weak hw6 hl6 ?_; clear hw6 hl6 F6 H6; dsimp only [paF, paH, qbZ, q9Z, qaZ]
 refine Sim.step hmix hΓ (n := 0) (by simp +decide [patΓ0, darmS, hDA]; exact ⟨rfl, rfl⟩) (by simp) ?_
 refine Sim.step hmix hΓ (n := 0) (by simp +decide [patΓ0, pputS, kA, kAq, rY, hp', hd4]; exact ⟨rfl, rfl⟩) (by simp) ?_
 refine Sim.seq (Sim.mono (Q := fun e' F' H' => e' = .normal ∧ Weak 3 F' H' (paF a t M (.int .i64 e)) (paH l0 l1 nums l l' v f m v' f' m' d4)) ?_ ?_)
 · cases hdn : d4.down with
   | false =>
     obtain rfl : e = 0 := hdw.1 hdn
     refine Sim.exec hmix hΓ (n := 0) (by simp +decide [patΓ0, ddownS, hdn]; exact ⟨rfl, rfl, rfl⟩) (by simp) ?_
     exact ⟨rfl, Weak.mk' [0, 1, 2, 3, 4, 5, 6, 7] (by decide) (by decide) (by simp) (by simp [AWb])⟩
   | true =>
     obtain rfl : e = 13 := by
       rcases he with h | h
       · have := hdw.2 h; rw [hdn] at this; cases this
       · exact h
     refine Sim.exec hmix hΓ (n := 0) (by simp +decide [patΓ0, ddownS, hdn]; exact ⟨rfl, rfl, rfl⟩) (by simp) ?_
     exact ⟨rfl, Weak.mk' [0, 1, 2, 3, 4, 5, 6, 7] (by decide) (by decide) (by simp) (by simp [AWb])⟩
 rintro _ F6 H6 hl6 ⟨rfl, hw6⟩; refine Sim.weak hw6 hl6 ?_; clear hw6 hl6 F6 H6; dsimp only [paF, paH, qbZ, q9Z, qaZ]
 refine Sim.step hmix hΓ (n := 0) (by simp +decide [-minA, minA_min, patΓ0, drestN, drest0S, drestS, rowArg, numsOf_at, s4, hd5, hJ, hM, hJM, hJMI, hJ0, hMl, hn1']; exact ⟨rfl, rfl⟩) (by simp) ?_
 refine Sim.seq (Sim.mono (Q := fun e' F' H' => e' = .normal ∧ Weak 3 F' H' (paF a t M (.int .i64 e)) (paH l0 l1 nums l l' v f m v' f' m' d5)) ?_ ?_)
 · by_cases hy : m5 = ⟨v', f', m', l'⟩
   · subst hy
     refine Sim.exec hmix hΓ (n := 0) (by simp +decide [patΓ0, gotS, hm5, s5]; exact ⟨rfl, rfl, rfl⟩) (by simp) ?_
     exact ⟨rfl, Weak.mk' [0, 1, 2, 3, 4, 5, 6, 7] (by decide) (by decide) (by simp) (by simp [AWb])⟩
   · obtain ⟨h1, rfl⟩ : e ≠ 0 ∧ m5 = ⟨v, f, m, l⟩ := by
       rcases hc5 with h | h
       · exact absurd h hy
       · exact h
     have h1b : (e == 0) = false := by simpa using h1
     simp only [Mf.mk.injEq] at hy
     refine Sim.exec hmix hΓ (n := 0) (by simp +decide [patΓ0, gotS, hm5, s5, hy, h1b]; exact ⟨rfl, rfl, rfl⟩) (by simp) ?_
     exact ⟨rfl, Weak.mk' [0, 1, 2, 3, 4, 5, 6, 7] (by decide) (by decide) (by simp) (by simp [AWb])⟩
 rintro _ F6 H6 hl6 ⟨rfl, hw6⟩; refine Sim.weak hw6 hl6 ?_; clear hw6 hl6 F6 H6; dsimp only [paF, paH, qbZ, q9Z, qaZ]
 refine Sim.step hmix hΓ (n := 0) (by simp +decide [patΓ0, drestN, drest0S, drestS, rowArg, s5, hd6]; exact ⟨rfl, rfl⟩) (by simp) ?_
 refine Sim.seq (Sim.mono (Q := fun e' F' H' => e' = .normal ∧ Weak 3 F' H' (paF a t M (.int .i64 e)) (paH l0 l1 nums l l' v f m v' f' m' d6)) ?_ ?_)
 · by_cases hy : m6 = ⟨v', f', m', l'⟩
   · subst hy
     refine Sim.exec hmix hΓ (n := 0) (by simp +decide [patΓ0, gotS, hm6, s6]; exact ⟨rfl, rfl, rfl⟩) (by simp) ?_
     exact ⟨rfl, Weak.mk' [0, 1, 2, 3, 4, 5, 6, 7] (by decide) (by decide) (by simp) (by simp [AWb])⟩
   · obtain ⟨h1, rfl⟩ : e ≠ 0 ∧ m6 = ⟨v, f, m, l⟩ := by
       rcases hc6 with h | h
       · exact absurd h hy
       · exact h
     have h1b : (e == 0) = false := by simpa using h1
     simp only [Mf.mk.injEq] at hy
     refine Sim.exec hmix hΓ (n := 0) (by simp +decide [patΓ0, gotS, hm6, s6, hy, h1b]; exact ⟨rfl, rfl, rfl⟩) (by simp) ?_
     exact ⟨rfl, Weak.mk' [0, 1, 2, 3, 4, 5, 6, 7] (by decide) (by decide) (by simp) (by simp [AWb])⟩
 rintro _ F6 H6 hl6 ⟨rfl, hw6⟩; refine Sim.weak hw6 hl6 ?_; clear hw6 hl6 F6 H6; dsimp only [paF, paH, qbZ, q9Z, qaZ]
 refine Sim.step hmix hΓ (n := 0) (by simp +decide [patΓ0, pputS, k6, q6, rY, hp', hd7]; exact ⟨rfl, rfl⟩) (by simp) ?_
 refine Sim.step hmix hΓ (n := 0) (by simp +decide [-minA, minA_min, patΓ0, drestN, drest0S, drestS, rowArg, numsOf_at, s7, hd8, hJ, hM, hJM, hJMI, hJ0, hMl, hn1']; exact ⟨rfl, rfl⟩) (by simp) ?_
 refine Sim.exec hmix hΓ (n := 0) (by simp +decide [patΓ0, gotS, gg8, s8]; exact ⟨rfl, rfl, rfl⟩) (by simp) ?_
 exact ⟨.inr rfl, _, by simp [Tryz.f9] <;> rfl, fin _⟩
def publishAtomic_shape : List AS := [.flat true pd_ct, .flat false [.one (.int .u8)], .flat false [.row [.int .u16]]]
theorem publishAtomic_law : ∀ xs H, AbsArgs2 publishAtomic_shape 0 xs H → ∃ H', Ct Pz 9 xs H (.bool true) H' := by
 intro xs H h0; obtain ⟨z1, y1, H1, H2, rfl, k0, rfl, h1⟩ := absArgs2_agg h0; obtain ⟨v0, f0, v1, f1, o0, o1, l0, l1, x0, x1, a1, a2, a3, a4, a5, a6, a7, a8, b0, b1, rfl, rfl⟩ := row_pd k0; obtain ⟨x, ys, rfl, ⟨a, rfl, ha⟩, h2⟩ := absArgs2_one h1; obtain ⟨y, zs, l, n, H2, rfl, rfl, hy, hm, hl, h3⟩ := absArgs2_row h2; obtain ⟨nums, rfl, rfl, hok⟩ := row_u16s hl; obtain ⟨rfl, rfl⟩ := absArgs2_nil h3; have ba := bounds_u8 ha; unfold maxLen at hm
 obtain ⟨H', h⟩ := atomic_ct v0 f0 v1 f1 a1 a2 a3 a4 o0 o1 l0 l1 a5 a6 a7 a8 a (by omega) nums hok (by omega)
 obtain ⟨w0, w1⟩ := pd_weak b0 b1 [0, 1, 2] rfl rfl
 have w2 : AW [0, 1, 2] (.sl 2 0 nums.length 1 false) y := by
   rcases hy with ⟨h, rfl⟩ | rfl
   · simp [AW, h]
   · simp [AW]
 have hfr : ∀ rn : List Nat, AWs rn (numA nums) (numA nums) := fun rn => AWs_flat _ (flatsA_num _)
 refine ⟨H', ct_weak ?_ h⟩
 exact Weak.mk' [0, 1, 2] (by decide) rfl ⟨⟨⟨rfl, rfl⟩, ⟨rfl, rfl⟩, w0, rfl, ⟨rfl, rfl⟩, ⟨rfl, rfl⟩, w1, rfl, trivial⟩, ⟨rfl, rfl⟩, w2, trivial⟩ (by simp [AWb])
end
end Go.Proofs.YthafeihjlamhhaaGreatDoor
