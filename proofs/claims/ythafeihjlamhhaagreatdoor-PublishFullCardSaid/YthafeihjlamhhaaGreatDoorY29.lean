/- Parts of the proof of PublishFull: lemmas, each with its own conditions. -/
import Derived.Test.YthafeihjlamhhaaGreatDoorY16
import Derived.Test.YthafeihjlamhhaaGreatDoorY4
import Derived.Test.YthafeihjlamhhaaGreatDoorY26
import Derived.Test.YthafeihjlamhhaaGreatDoorY27
import Derived.Test.YthafeihjlamhhaaGreatDoorY28
namespace Go.Proofs.YthafeihjlamhhaaGreatDoor
open Go Go.Lib
set_option maxRecDepth 100000
end Go.Proofs.YthafeihjlamhhaaGreatDoor
namespace Go.Proofs.YthafeihjlamhhaaGreatDoor
open Go Go.Lib
set_option maxRecDepth 100000
attribute [-simp] drawOk_eq adraw qrun acode aops
noncomputable def dusedQ : Summ := open Classical in fun args H => match args with
  | [.ptr b 0] => match H[b]? with
    | some (.obj true sub) => match dsD sub with
      | some d => if d.small then some (.int .i64 d.used, H, []) else none
      | none => none
    | _ => none
  | _ => none
theorem dusedQ_sound : Sound Tryz.prog 53 dusedQ := by
  refine ⟨enter_of Tryz.func53 rfl (by decide), fun args H v H' W hs => ?_, fun args H v H' W hs => ?_⟩ <;> (unfold dusedQ at hs; split at hs <;> try cases hs) <;> (split at hs <;> try cases hs) <;> (rename_i b _ sub hb; split at hs <;> try cases hs) <;> (rename_i d hd; split at hs <;> cases hs; rename_i hk)
  · have e := dsD_eq hd
    subst e
    have := ct_obj1 (ct_objD (used_ct d hk (by decide) (by decide)) rfl) rfl rfl hb
    obtain ⟨h1, h2⟩ := List.getElem?_eq_some_iff.1 hb
    rw [← h2, List.set_getElem_self] at this
    exact this
  · exact ⟨Nat.le_refl _, fun _ _ _ => rfl⟩
noncomputable def pfuΓ0 : Gam := gams [(48, trueK_U4), (17, dnewS), (49, pmadeS), (50, mputS), (51, pputS), (52, gotS), (53, dusedQ)]
theorem pfuΓ_ok : GOk Tryz.prog (runG Tryz.prog pfuΓ0 0 [] 2) := gok_run hmix (goks_cons pubWS0_sound (goks_cons dnew_sound (goks_cons pmade_sound (goks_cons mput_sound (goks_cons pputS_sound (goks_cons got_sound (goks_cons dusedQ_sound goks_nil))))))) 0 [] 2
set_option maxHeartbeats 64000000 in
theorem full_ct (v0 f0 v1 f1 : Int) (hv0 : 0 ≤ v0 ∧ v0 ≤ 255) (hf0 : 0 ≤ f0 ∧ f0 ≤ 255) (hv1 : 0 ≤ v1 ∧ v1 ≤ 255) (hf1 : 0 ≤ f1 ∧ f1 ≤ 255) (o0 o1 : Bool) (l0 l1 : List Nat) (hl0 : ∀ c ∈ l0, c < 256) (hl1 : ∀ c ∈ l1, c < 256) (hn0 : l0.length ≤ 9223372036854775807) (hn1 : l1.length ≤ 9223372036854775807) (q : Int) (hq : 0 ≤ q ∧ q ≤ 65535) :
    ∃ H', Ct Tryz.prog 8 [.agg [.int .u8 v0, .int .u8 f0, .sl 0 0 l0.length 1 false, .bool o0, .int .u8 v1, .int .u8 f1, .sl 1 0 l1.length 1 false, .bool o1], .int .u16 q] [.cells false (l0.map aB), .cells false (l1.map aB)] (.bool true) H' := by
  have hΓ := pfuΓ_ok
  refine ⟨[.cells false (l0.map aB), .cells false (l1.map aB)], ct_of_sim Tryz.func8 rfl ?_⟩
  simp only [Tryz.ntmps8, List.length_cons, List.length_nil, Nat.reduceAdd, Nat.reduceSub, List.replicate, List.cons_append, List.nil_append]
  have a0 : (∀ x ∈ l0, x < 256) = True := by simpa using hl0
  have a1 : (∀ x ∈ l1, x < 256) = True := by simpa using hl1
  have t0 : (l0.map aB).take l0.length = l0.map aB := List.take_of_length_le (by simp)
  have t1 : (l1.map aB).take l1.length = l1.map aB := List.take_of_length_le (by simp)
  have rX := pdM_right hv0 hf0 hl0
  have rY := pdM_right hv1 hf1 hl1
  obtain ⟨X, eX⟩ : ∃ X, pdM v0 f0 l0 = X := ⟨_, rfl⟩
  obtain ⟨Y, eY⟩ : ∃ Y, pdM v1 f1 l1 = Y := ⟨_, rfl⟩
  rw [eX] at rX
  rw [eY] at rY
  have pX := Mf.bytes_few rX
  have pY := Mf.bytes_few rY
  have lX : X.segs.length ≤ 1000000000000 := by have := (Mf.right_parts rX).2.1; omega
  have lY : Y.segs.length ≤ 1000000000000 := by have := (Mf.right_parts rY).2.1; omega
  have uX : X.put = (X.bytes, 0) := by unfold Mf.put; rw [if_pos rX]
  have uY : Y.put = (Y.bytes, 0) := by unfold Mf.put; rw [if_pos rY]
  obtain ⟨Q, rfl⟩ : ∃ Q : Nat, q = Q := ⟨q.toNat, by omega⟩
  obtain ⟨t, ht⟩ : ∃ t : Nat, Q % (Y.bytes.length + 20) = t := ⟨_, rfl⟩
  have ht2 : t ≤ 65535 := by
    have := Nat.mod_le Q (Y.bytes.length + 20)
    omega
  replace ht : (Q : Int).tmod ((Y.bytes.length : Int) + 20) = t := by
    rw [← ht, Int.tmod_eq_emod_of_nonneg (by omega)]
    push_cast
    rfl
  obtain ⟨n, hn⟩ : ∃ n, X.bytes.length + t = n := ⟨_, rfl⟩
  obtain ⟨d1, hd1, ok1, q1, d2, e, hd2, ok2, hge, hlt⟩ := full_law X.bytes Y.bytes n (by omega) (by omega)
  have gX : ∀ d, pubd d X.bytes → theM d = some X := fun d h => theM_eq rX h
  have gY : ∀ d, pubd d Y.bytes → theM d = some Y := fun d h => theM_eq rY h
  obtain ⟨P1, hP1⟩ : ∃ P, X.bytes.length = P := ⟨_, rfl⟩
  obtain ⟨P2, hP2⟩ : ∃ P, Y.bytes.length = P := ⟨_, rfl⟩
  rw [hP1] at hn hge hlt pX
  rw [hP2] at ht hge hlt pY
  have w1 : IntKind.i64.wrap (Q : Int) = Q := wr_i64 (by omega) (by omega)
  have w2 : IntKind.i64.wrap ((P2 : Int) + 20) = (P2 : Int) + 20 := wr_i64 (by omega) (by omega)
  have w3 : IntKind.i64.wrap (t : Int) = t := wr_i64 (by omega) (by omega)
  have w4 : IntKind.i64.wrap ((P1 : Int) + (t : Int)) = (n : Int) := by rw [wr_i64 (by omega) (by omega)]; omega
  have w5 : IntKind.i64.wrap ((P1 : Int) + (P2 : Int)) = (P1 : Int) + (P2 : Int) := wr_i64 (by omega) (by omega)
  have z20 : ¬ ((P2 : Int) + 20 = 0) := by omega
  have k0 : (DS.new n).ok 800000 100000000 := DS.ok_mono (DS.ok_new n (by omega) (by omega)) (by omega) (by omega)
  have k0q : (DS.new n).quota ≤ 1000000000 := by show (n : Int) ≤ _; omega
  have k1 : d1.ok 800000 100000000 := DS.ok_mono ok1 (by omega) (by omega)
  have k1q : d1.quota ≤ 1000000000 := by rw [q1]; omega
  have s2 : d2.small := DS.ok_mono ok2 (by omega) (by omega)
  obtain ⟨D0, hD0⟩ : ∃ D0, DS.new n = D0 := ⟨_, rfl⟩
  rw [hD0] at hd1 k0 k0q
  obtain ⟨v, f, m, l⟩ := X
  obtain ⟨v', f', m', l'⟩ := Y
  simp only at lX lY
  obtain ⟨p, hp⟩ : ∃ p, Mf.bytes ⟨v, f, m, l⟩ = p := ⟨_, rfl⟩
  obtain ⟨p', hp'⟩ : ∃ p, Mf.bytes ⟨v', f', m', l'⟩ = p := ⟨_, rfl⟩
  rw [hp] at uX hd1 gX hP1 hlt
  rw [hp'] at uY hd2 gY hP2 hge
  refine Sim.step hmix hΓ (n := 0) (by simp; exact ⟨rfl, rfl⟩) (by simp) ?_
  refine Sim.step hmix hΓ (n := 0) (by simp [pfuΓ0, trueK_U4]; exact ⟨rfl, rfl⟩) (by simp) ?_
  refine Sim.step hmix hΓ (n := 0) (by simp; exact ⟨rfl, rfl⟩) (by simp) ?_
  refine Sim.step hmix hΓ (n := 0) (by simp; exact ⟨rfl, rfl⟩) (by simp) ?_
  refine Sim.seq (Sim.draw hmix (by simp) ?_)
  refine SimR.many hΓ 10 (by simp [stageOps]; rfl) (by omega) (by kernel_rfl) (by simp (decide := true) [pfuΓ0, pmadeS, rowNs, t0, t1, a0, a1, hn0, hn1, hv0, hf0, hv1, hf1, eX, eY, mfA, scA]; first | exact ⟨rfl, rfl⟩ | exact ⟨by kernel_rfl, rfl, rfl⟩) ?_
  refine SimR.done rfl ?_
  dsimp only
  refine Sim.step hmix hΓ (n := 0) (by simp [pfuΓ0, mputS, rowSgs, lX, uX]; exact ⟨rfl, rfl⟩) (by simp) ?_
  refine Sim.step hmix hΓ (n := 0) (by simp [pfuΓ0, mputS, rowSgs, lY, uY]; exact ⟨rfl, rfl⟩) (by simp) ?_
  refine Sim.step hmix hΓ (n := 0) (by simp [hP1, hP2, w1, w2, w4, z20, ht]; exact ⟨rfl, rfl⟩) (by simp) ?_
  refine Sim.step hmix hΓ (n := 0) (by simp (decide := true) [pfuΓ0, dnewS, newS, hD0]; exact ⟨rfl, rfl⟩) (by simp) ?_
  refine Sim.step hmix hΓ (n := 0) (by simp (decide := true) [pfuΓ0, pputS, k0, k0q, rX, hp, hd1]; exact ⟨rfl, rfl⟩) (by simp) ?_
  refine Sim.step hmix hΓ (n := 0) (by simp (decide := true) [pfuΓ0, pputS, k1, k1q, rY, hp', hd2]; exact ⟨rfl, rfl⟩) (by simp) ?_
  have fin : ∀ (T : AHeap), Weak 2 [.bool true] (.cells false (l0.map aB) :: .cells false (l1.map aB) :: T) [.bool true] [.cells false (l0.map aB), .cells false (l1.map aB)] := fun T =>
    Weak.mk' [0, 1] (by decide) (by decide) (by simp) (by simp [AWb])
  by_cases hc : P1 + P2 ≤ n
  · obtain ⟨rfl, hpub⟩ := hge hc
    have hcI : (P1 : Int) + (P2 : Int) ≤ (n : Int) := by omega
    have g := gY d2 hpub
    refine Sim.exec hmix hΓ (n := 0) (by simp (decide := true) [pfuΓ0, gotS, hP1, hP2, w5, hcI, g, s2]; exact ⟨rfl, rfl, rfl⟩) (by simp) ?_
    exact ⟨.inr rfl, _, by simp [Tryz.f8] <;> rfl, fin _⟩
  · obtain ⟨rfl, hpub, hus⟩ := hlt (by omega)
    have hcI : ¬ ((P1 : Int) + (P2 : Int) ≤ (n : Int)) := by omega
    have g := gX d2 hpub
    refine Sim.step hmix hΓ (n := 0) (by simp (decide := true) [hP1, hP2, w5, hcI]; exact ⟨rfl, rfl⟩) (by simp) ?_
    refine Sim.exec hmix hΓ (n := 0) (by simp (decide := true) [pfuΓ0, gotS, dusedQ, g, s2, hus]; exact ⟨rfl, rfl, rfl⟩) (by simp) ?_
    exact ⟨.inr rfl, _, by simp [Tryz.f8] <;> rfl, fin _⟩
abbrev pd_ct : List CT := [.one (.int .u8), .one (.int .u8), .row [.int .u8], .one .bool, .one (.int .u8), .one (.int .u8), .row [.int .u8], .one .bool]
def publishFull_shape : List AS := [.flat true pd_ct, .flat false [.one (.int .u16)]]
theorem row_pd {ys : List AV} {H : AHeap} (h : AbsOk pd_ct 0 ys H) : ∃ (v0 f0 v1 f1 : Int) (o0 o1 : Bool) (l0 l1 : List Nat) (x0 x1 : AV), (0 ≤ v0 ∧ v0 ≤ 255) ∧ (0 ≤ f0 ∧ f0 ≤ 255) ∧ (0 ≤ v1 ∧ v1 ≤ 255) ∧ (0 ≤ f1 ∧ f1 ≤ 255) ∧ (∀ c ∈ l0, c < 256) ∧ (∀ c ∈ l1, c < 256) ∧
    l0.length ≤ 9223372036854775807 ∧ l1.length ≤ 9223372036854775807 ∧ (l0.length = 0 ∧ x0 = .nils ∨ x0 = .slice 0 0 l0.length 1 false) ∧ (l1.length = 0 ∧ x1 = .nils ∨ x1 = .slice 1 0 l1.length 1 false) ∧
    ys = [.int .u8 v0, .int .u8 f0, x0, .bool o0, .int .u8 v1, .int .u8 f1, x1, .bool o1] ∧ H = [.cells false (l0.map aB), .cells false (l1.map aB)] := by
  obtain ⟨x1, y1, rfl, ⟨v0, rfl, hv0⟩, k1⟩ := absOk_one h
  obtain ⟨x2, y2, rfl, ⟨f0, rfl, hf0⟩, k2⟩ := absOk_one k1
  obtain ⟨x3, y3, r0, n0, H0, rfl, rfl, hx0, hm0, hr0, k3⟩ := absOk_row_Eo k2
  obtain ⟨x4, y4, rfl, ⟨o0, rfl⟩, k4⟩ := absOk_one k3
  obtain ⟨x5, y5, rfl, ⟨v1, rfl, hv1⟩, k5⟩ := absOk_one k4
  obtain ⟨x6, y6, rfl, ⟨f1, rfl, hf1⟩, k6⟩ := absOk_one k5
  obtain ⟨x7, y7, r1, n1, H1, rfl, rfl, hx1, hm1, hr1, k7⟩ := absOk_row_Eo k6
  obtain ⟨x8, y8, rfl, ⟨o1, rfl⟩, k8⟩ := absOk_one k7
  obtain ⟨rfl, rfl⟩ := absOk_nil k8
  obtain ⟨l0, rfl, rfl, hl0⟩ := row_bytes hr0
  obtain ⟨l1, rfl, rfl, hl1⟩ := row_bytes hr1
  have b1 := bounds_u8 hv0
  have b2 := bounds_u8 hf0
  have b3 := bounds_u8 hv1
  have b4 := bounds_u8 hf1
  unfold maxLen at hm0 hm1
  exact ⟨v0, f0, v1, f1, o0, o1, l0, l1, x3, x7, by omega, by omega, by omega, by omega, hl0, hl1, by omega, by omega, hx0, hx1, rfl, rfl⟩
theorem pd_weak {l0 l1 : List Nat} {x0 x1 : AV} (h0 : l0.length = 0 ∧ x0 = .nils ∨ x0 = .slice 0 0 l0.length 1 false) (h1 : l1.length = 0 ∧ x1 = .nils ∨ x1 = .slice 1 0 l1.length 1 false) (rn : List Nat) (r0 : rn[0]? = some 0) (r1 : rn[1]? = some 1) :
    AW rn (.sl 0 0 l0.length 1 false) x0 ∧ AW rn (.sl 1 0 l1.length 1 false) x1 := by
  constructor
  · rcases h0 with ⟨h, rfl⟩ | rfl
    · simp [AW, h]
    · simp [AW, r0]
  · rcases h1 with ⟨h, rfl⟩ | rfl
    · simp [AW, h]
    · simp [AW, r1]
theorem publishFull_law : ∀ xs H, AbsArgs2 publishFull_shape 0 xs H → ∃ H', Ct Tryz.prog 8 xs H (.bool true) H' := by
  intro xs H h0
  obtain ⟨z1, y1, H1, H2, rfl, k0, rfl, h1⟩ := absArgs2_agg h0
  obtain ⟨v0, f0, v1, f1, o0, o1, l0, l1, x0, x1, a1, a2, a3, a4, a5, a6, a7, a8, b0, b1, rfl, rfl⟩ := row_pd k0
  obtain ⟨x, ys, rfl, ⟨q, rfl, hq⟩, h2⟩ := absArgs2_one h1
  obtain ⟨rfl, rfl⟩ := absArgs2_nil h2
  have bq := bounds_u16 hq
  obtain ⟨H', h⟩ := full_ct v0 f0 v1 f1 a1 a2 a3 a4 o0 o1 l0 l1 a5 a6 a7 a8 q (by omega)
  obtain ⟨w0, w1⟩ := pd_weak b0 b1 [0, 1] rfl rfl
  refine ⟨H', ct_weak ?_ h⟩
  exact Weak.mk' [0, 1] (by decide) rfl ⟨⟨⟨rfl, rfl⟩, ⟨rfl, rfl⟩, w0, rfl, ⟨rfl, rfl⟩, ⟨rfl, rfl⟩, w1, rfl, trivial⟩, ⟨rfl, rfl⟩, trivial⟩ (by simp [AWb])
end Go.Proofs.YthafeihjlamhhaaGreatDoor
