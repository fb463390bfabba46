/- The reference file's Stays. -/
import Derived.Test.YtaociohomeepmaaFz
namespace Go.Proofs.Ytaociohomeepmaa
open Go
set_option maxRecDepth 100000
attribute [-simp] drawOk_eq adraw qrun acode aops

theorem actA_at : ∀ (l : List FAct) (k j : Nat) (h : k < l.length), j < 3 → (actA l)[k * 3 + j]? = (l[k].cells)[j]?
  | a :: l, 0, j, _, hj => by
    simp only [actA, List.getElem_cons_zero]
    rw [List.getElem?_append_left (by simp; omega)]
    simp
  | a :: l, k + 1, j, h, hj => by
    have := actA_at l k j (by simpa using h) hj
    simp only [actA, List.getElem_cons_succ]
    rw [← this, show (k + 1) * 3 + j = a.cells.length + (k * 3 + j) by simp; omega, List.getElem?_append_right (by omega)]
    simp

set_option maxHeartbeats 8000000 in
theorem rstays_ct (f : PF) (d p : Int) (hs : f.small) :
    Ct Try.prog 42 [.ptr 0 0, .agg [.int .i64 d, .int .i64 p]] [.cells false [.str f.d, .sl 1 0 f.acts.length 3 false], .cells false (actA f.acts)] (.str (f.stays d p)) [.cells false [.str f.d, .sl 1 0 f.acts.length 3 false], .cells false (actA f.acts)] := by
  have hΓ := rfdΓ_ok
  obtain ⟨hfit, hk, hlen⟩ := hs
  refine ct_of_sim Try.func42 rfl ?_
  simp only [Try.ntmps42, List.length_cons, List.length_nil, Nat.reduceAdd, Nat.reduceSub, List.replicate, List.cons_append, List.nil_append]
  obtain ⟨HH, eH⟩ : ∃ HH, [ABlk.cells false [.str f.d, .sl 1 0 f.acts.length 3 false], .cells false (actA f.acts), .cells true [.int .i64 d, .int .i64 p]] = HH := ⟨_, rfl⟩
  obtain ⟨k, ek⟩ : ∃ k, f.acts.length = k := ⟨_, rfl⟩
  obtain ⟨n, en⟩ : ∃ n, (inI d 0 k).toNat = n := ⟨_, rfl⟩
  have en2 : max 0 (min d (k : Int)) = n := by unfold inI at en; omega
  have hnk : n ≤ k := by unfold inI at en; omega
  obtain ⟨T, hT⟩ : ∃ T, f.stays d p = T := ⟨_, rfl⟩
  have hT2 : T = runs f.d (f.acts.take n) ++ (match f.acts[n]? with
    | some (.add m) => m.take (inI p 0 m.length).toNat
    | _ => []) := by
    rw [← hT]; unfold PF.stays; simp only [ek, en]
    obtain ⟨q, hq⟩ : ∃ q, f.acts[n]? = q := ⟨_, rfl⟩
    rw [hq]
    rcases q with _ | (_ | _) <;> rfl
  have hlA : (actA f.acts).length = k * 3 := by simp [ek]
  have gA := fun i h => actA_get f.acts i h
  have gB := fun i j h hj => actA_at f.acts i j h hj
  rw [hT]
  obtain ⟨R, eR⟩ : ∃ R, actA f.acts = R := ⟨_, rfl⟩
  rw [eR] at hlA gA gB eH ⊢
  rw [ek] at eH hk ⊢
  have hRR : AWs [0, 1] R R := by rw [← eR]; simp
  refine Sim.step hmix hΓ (n := 0) (by simp; exact ⟨rfl, rfl⟩) (by simp) ?_
  refine Sim.step hmix hΓ (n := 0) (by simp; exact ⟨rfl, rfl⟩) (by simp) ?_
  refine Sim.step hmix hΓ (n := 0) (by simp (decide := true) [-minA, minA_min, minA_max, en2]; first | exact ⟨rfl, rfl⟩ | exact ⟨by kernel_rfl, rfl, rfl⟩) (by simp) ?_
  refine Sim.seq (Sim.step hmix hΓ (n := 0) (by simp; exact ⟨rfl, rfl⟩) (by simp) ?_)
  refine Sim.block (Sim.loopS (fun i : Nat => i ≤ n)
    (fun i => [.ptr 0 0, .top, .top, .ptr 2 0, .top, .str (runs f.d (f.acts.take i)), .int .i64 n, .int .i64 i] ++ List.replicate 65 .top)
    (fun _ => HH) (fun i => n - i) 0 (by simp) (by simp) ⟨by simp [runs], eH⟩ fun i hi => ?_)
  rw [← eH]
  by_cases hlt : i < n
  · have hik : i < f.acts.length := by omega
    have hikk : i < k := by omega
    obtain ⟨a, ha⟩ : ∃ a, f.acts[i] = a := ⟨_, rfl⟩
    have g1 := gA i hik
    have k1 : i * 3 + 3 ≤ k * 3 := by omega
    have e1 := runs_take f.d f.acts i hik
    have l1 := hlen (i + 1)
    have l2 := hlen i
    rw [e1] at l1
    rw [ha] at g1 e1 l1
    have y1 : IntKind.i64.wrap ((i : Int) + 1) = i + 1 := wr_i64 (by omega) (by omega)
    have hfc := fun n h => fits_at hfit (i := i) (n := n) h
    rw [List.getElem?_eq_getElem hik, ha] at hfc
    obtain ⟨u, hu⟩ : ∃ u, runs f.d (f.acts.take i) = u := ⟨_, rfl⟩
    rw [hu] at e1 l1 l2 hfc ⊢
    cases a with
    | add m =>
      simp only [FAct.run, List.length_append] at l1
      simp only [FAct.cells] at g1
      refine Sim.exec hmix hΓ (n := 0) (by simp (decide := true) [rdoneS, hlt, hikk, hlA, g1, k1, y1, l1]; exact ⟨rfl, rfl, rfl⟩) (by simp) ?_
      exact ⟨i + 1, by omega, ⟨by simp [e1, FAct.run], by first | exact eH | rfl⟩, by omega⟩
    | cut z =>
      simp only [FAct.cells] at g1
      have hz := hfc z rfl
      refine Sim.exec hmix hΓ (n := 0) (by simp (decide := true) [rdoneS, hlt, hikk, hlA, g1, k1, y1, hz, l2]; exact ⟨rfl, rfl, rfl⟩) (by simp) ?_
      exact ⟨i + 1, by omega, ⟨by simp [e1, FAct.run], by first | exact eH | rfl⟩, by omega⟩
  have : i = n := by omega
  subst this
  refine Sim.exec hmix hΓ (n := 0) (by simp; exact ⟨rfl, rfl, rfl⟩) (by simp) ?_
  dsimp only
  rw [if_pos rfl]
  obtain ⟨u, hu⟩ : ∃ u, runs f.d (f.acts.take i) = u := ⟨_, rfl⟩
  have l2 := hlen i
  rw [hu] at hT2 l2 ⊢
  by_cases hlast : i < k
  · have hik : i < f.acts.length := by omega
    obtain ⟨a, ha⟩ : ∃ a, f.acts[i] = a := ⟨_, rfl⟩
    have hlast2 : (i : Int) < (k : Int) := by omega
    have e1 := runs_take f.d f.acts i hik
    rw [ha, hu] at e1
    have l1 := hlen (i + 1)
    rw [e1] at l1
    have b0 := gB i 0 hik (by decide)
    have b2 := gB i 2 hik (by decide)
    rw [ha] at b0 b2
    rw [List.getElem?_eq_getElem hik, ha] at hT2
    have c0 : i * 3 < k * 3 := by omega
    have c2 : i * 3 + 2 < k * 3 := by omega
    simp only [Nat.add_zero] at b0
    cases a with
    | add m =>
      simp only [FAct.run, List.length_append] at l1
      simp only [FAct.cells, List.getElem?_cons_zero, List.getElem?_cons_succ] at b0 b2
      have b0' : ∀ h, R[i * 3]'h = .bool false := fun h => by rw [List.getElem?_eq_getElem h] at b0; exact Option.some.inj b0
      have b2' : ∀ h, R[i * 3 + 2]'h = .str m := fun h => by rw [List.getElem?_eq_getElem h] at b2; exact Option.some.inj b2
      simp only at hT2
      obtain ⟨z, hz⟩ : ∃ z, (inI p 0 m.length).toNat = z := ⟨_, rfl⟩
      rw [hz] at hT2
      have hz2 : max 0 (min p (m.length : Int)) = z := by unfold inI at hz; omega
      have hz3 : z ≤ m.length := by unfold inI at hz; omega
      have c5 : u.length + z ≤ 9223372036854775807 := by omega
      refine Sim.exec hmix hΓ (n := 0) (by simp (decide := true) [-minA, minA_min, minA_max, hlast, hlA, b0', b2', c0, c2, hz2, hz3, c5]; first | exact ⟨rfl, rfl, rfl⟩ | exact ⟨by kernel_rfl, rfl, rfl, rfl⟩) (by simp) ?_
      exact ⟨.inr rfl, _, by simp [Try.f42] <;> rfl, Weak.mk' [0, 1] (by decide) rfl (by simp [hT2]) (by simp [AWb, hRR])⟩
    | cut z =>
      simp only [FAct.cells, List.getElem?_cons_zero, List.getElem?_cons_succ] at b0 b2
      have b0' : ∀ h, R[i * 3]'h = .bool true := fun h => by rw [List.getElem?_eq_getElem h] at b0; exact Option.some.inj b0
      simp only [List.append_nil] at hT2
      refine Sim.exec hmix hΓ (n := 0) (by simp (decide := true) [hlast, hlA, b0', c0]; first | exact ⟨rfl, rfl, rfl⟩ | exact ⟨by kernel_rfl, rfl, rfl, rfl⟩) (by simp) ?_
      exact ⟨.inr rfl, _, by simp [Try.f42] <;> rfl, Weak.mk' [0, 1] (by decide) rfl (by simp [hT2]) (by simp [AWb, hRR])⟩
  · have ha : f.acts[i]? = none := List.getElem?_eq_none (by omega)
    rw [ha] at hT2
    simp only [List.append_nil] at hT2
    refine Sim.exec hmix hΓ (n := 0) (by simp [hlast]; exact ⟨rfl, rfl, rfl⟩) (by simp) ?_
    exact ⟨.inr rfl, _, by simp [Try.f42] <;> rfl, Weak.mk' [0, 1] (by decide) rfl (by simp [hT2]) (by simp [AWb, hRR])⟩

end Go.Proofs.Ytaociohomeepmaa
