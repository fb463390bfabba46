/- The reference file's Append. -/
import Derived.Test.YtaociohomeepmaaFx
namespace Go.Proofs.Ytaociohomeepmaa
open Go
set_option maxRecDepth 100000
attribute [-simp] drawOk_eq adraw qrun acode aops

theorem AWs_strs {rn : List Nat} (a : List (List UInt8)) : AWs rn (a.map AV.str) (a.map AV.str) := AWs_flat _ (by simp [flatsA, flatA])

theorem flat_take (a : List (List UInt8)) (i : Nat) (h : i < a.length) : (a.take (i + 1)).flatten = (a.take i).flatten ++ a[i] := by
  rw [List.take_add_one, List.getElem?_eq_getElem h, List.flatten_append]
  simp only [Option.toList, List.flatten_cons, List.flatten_nil, List.append_nil]

set_option maxHeartbeats 8000000 in
theorem rappend_ct (f : PF) (a : List (List UInt8)) (c : Bool) (hs : f.small) (hm : a.flatten.length ≤ 1000000000000 ∧ a.length ≤ 1000000000000) :
    Ct Try.prog 32 [.ptr 0 0, .sl 1 0 a.length 1 c] [.obj true f.rblks, .cells false (a.map .str)] (.tuple []) [.obj true (f.add a.flatten).rblks, .cells false (a.map .str)] := by
  have hΓ := rbΓ_ok
  have hk := hs.acts
  refine ct_of_sim Try.func32 rfl ?_
  simp only [Try.ntmps32, List.length_cons, List.length_nil, Nat.reduceAdd, Nat.reduceSub, List.replicate, List.cons_append, List.nil_append]
  obtain ⟨HH, eH⟩ : ∃ HH, [ABlk.obj true f.rblks, .cells false (a.map .str)] = HH := ⟨_, rfl⟩
  refine Sim.step hmix hΓ (n := 0) (by simp; exact ⟨rfl, rfl⟩) (by simp) ?_
  refine Sim.seq (Sim.step hmix hΓ (n := 0) (by simp; exact ⟨rfl, rfl⟩) (by simp) ?_)
  refine Sim.block (Sim.loopS (fun i : Nat => i ≤ a.length)
    (fun i => [.ptr 0 0, .sl 1 0 a.length 1 c, .top, .top, .str (a.take i).flatten, .int .i64 i] ++ List.replicate 27 .top)
    (fun _ => HH) (fun i => a.length - i) 0 (by simp) (by simp) ⟨by simp, eH⟩ fun i hi => ?_)
  rw [← eH]
  by_cases hlt : i < a.length
  · have e1 := flat_take a i hlt
    have l1 : (a.take (i + 1)).flatten.length ≤ a.flatten.length := by
      have := congrArg (fun z => (List.flatten z).length) (List.take_append_drop (i + 1) a)
      simp only [List.flatten_append, List.length_append] at this
      omega
    have y1 : IntKind.i64.wrap ((i : Int) + 1) = i + 1 := wr_i64 (by omega) (by omega)
    obtain ⟨u, hu⟩ : ∃ u, (a.take i).flatten = u := ⟨_, rfl⟩
    obtain ⟨x, hx⟩ : ∃ x, a[i] = x := ⟨_, rfl⟩
    rw [e1, hu, hx, List.length_append] at l1
    rw [hu, hx] at e1
    rw [hu]
    have c1 : u.length + x.length ≤ 9223372036854775807 := by omega
    refine Sim.exec hmix hΓ (n := 0) (by simp (decide := true) [hlt, hx, y1, c1]; exact ⟨rfl, rfl, rfl⟩) (by simp) ?_
    exact ⟨i + 1, by omega, ⟨by simp [e1], by first | exact eH | rfl⟩, by omega⟩
  have : i = a.length := by omega
  subst this
  refine Sim.exec hmix hΓ (n := 0) (by simp; exact ⟨rfl, rfl, rfl⟩) (by simp) ?_
  dsimp only
  rw [if_pos rfl]
  obtain ⟨m, em⟩ : ∃ m, a.flatten = m := ⟨_, rfl⟩
  rw [em] at hm ⊢
  by_cases hm0 : m = []
  · subst hm0
    refine Sim.exec hmix hΓ (n := 0) (by simp; exact ⟨rfl, rfl, rfl⟩) (by simp) ?_
    exact ⟨by first | exact .inl rfl | exact .inr rfl, _, by simp [Try.f32] <;> rfl, Weak.mk' [0, 1] (by decide) rfl (by simp) (by simp [AWb, PF.add])⟩
  have hadd : f.add m = ⟨f.d, f.acts ++ [.add m]⟩ := by unfold PF.add; rw [if_neg hm0]
  rw [hadd]
  refine Sim.aft (Aft.open (b := 0) rfl (by simp) (Aft.done (by simp [openH]) ?_))
  rw [open_ref]
  have b1 : f.acts.length * 32 ≤ 140737488355328 := by omega
  have b2 : f.acts.length ≤ 9223372036854775807 := by omega
  have b3 : (f.acts.length + 1) * 32 ≤ 140737488355328 := by omega
  have b4 : f.acts.length + 1 ≤ 9223372036854775807 := by omega
  by_cases hz : f.acts = []
  · refine Sim.after (Sim.exec hmix hΓ (n := 0) (by simp (decide := true) [actA, hm0, hz]; exact ⟨rfl, rfl, rfl⟩) (by simp) ?_)
    refine Aft.closeR (⟨f.d, f.acts ++ [.add m]⟩ : PF) 0 5 (x := .slice 5 0 1 3 false) rfl (by simp [AW, hz]) (by simp [hz, actA, FAct.cells]) (by decide) (by simp) (Aft.done (by simp) ⟨by first | exact .inl rfl | exact .inr rfl, _, by simp [Try.f32] <;> rfl, Weak.mk' [0, 1] (by decide) rfl (by simp) (AWg_closed (b := 0) (by simp) _ _ rfl fun i c x h1 h2 => ?_)⟩)
    match i, h1, h2 with
    | 0, h1, h2 => cases h1; cases h2; exact .inl ⟨rfl, rfl⟩
    | 1, h1, h2 => cases h1; cases h2; exact .inr ⟨⟨by decide, by decide⟩, by simp [AWb]⟩
  · refine Sim.after (Sim.exec hmix hΓ (n := 0) (by simp (decide := true) [hm0, hz, b1, b2, b3, b4]; exact ⟨rfl, rfl, rfl⟩) (by simp) ?_)
    refine Aft.closeR (⟨f.d, f.acts ++ [.add m]⟩ : PF) 0 6 (x := .slice 6 0 (f.acts.length + 1) 3 false) rfl (by simp [AW]) (by simp [actA_append, actA, FAct.cells]) (by decide) (by simp) (Aft.done (by simp) ⟨by first | exact .inl rfl | exact .inr rfl, _, by simp [Try.f32] <;> rfl, Weak.mk' [0, 1] (by decide) rfl (by simp) (AWg_closed (b := 0) (by simp) _ _ rfl fun i c x h1 h2 => ?_)⟩)
    match i, h1, h2 with
    | 0, h1, h2 => cases h1; cases h2; exact .inl ⟨rfl, rfl⟩
    | 1, h1, h2 => cases h1; cases h2; exact .inr ⟨⟨by decide, by decide⟩, by simp [AWb]⟩

end Go.Proofs.Ytaociohomeepmaa
