/- Contracts of the reference file's methods: Sync, Cut, ReadAt, Append. -/
import Derived.Test.YtaociohomeepmaaFw
namespace Go.Proofs.Ytaociohomeepmaa
open Go
set_option maxRecDepth 100000
attribute [-simp] drawOk_eq adraw qrun acode aops

@[simp] theorem cells_actA : ∀ l : List FAct, (actA l).all isCell = true
  | [] => rfl
  | a :: l => by
    have := cells_actA l
    cases a <;> simp [actA, FAct.cells, isCell] at this ⊢ <;> exact this
@[simp] theorem take_actA (l : List FAct) : (actA l).take (l.length * 3) = actA l := List.take_of_length_le (by simp)

theorem rbΓ_ok : GOk Try.prog (runG Try.prog (gams [(26, rbytesS)]) 0 [] 4) := gok_run hmix (goks_cons rbytes_sound goks_nil) 0 [] 4

theorem rsync_ct (f : PF) (hs : f.small) : Ct Try.prog 28 [.ptr 0 0] [.obj true f.rblks] (.tuple []) [.obj true (⟨f.now, []⟩ : PF).rblks] := by
  refine ct_of_sim Try.func28 rfl ?_
  simp only [Try.ntmps28, List.length_cons, List.length_nil, Nat.reduceAdd, Nat.reduceSub, List.replicate, List.cons_append, List.nil_append]
  refine Sim.aft (Aft.open (b := 0) rfl (by simp) (Aft.done (by simp [openH]) ?_))
  rw [open_ref]
  refine Sim.after (Sim.exec hmix rbΓ_ok (n := 0) (by simp [rbytesS, hs]; exact ⟨rfl, rfl, rfl⟩) (by simp) ?_)
  refine Aft.closeR ⟨f.now, []⟩ 0 2 (x := .nils) rfl (by simp [AW]) (by simp) (by decide) (by simp) (Aft.done (by simp) ⟨by first | exact .inl rfl | exact .inr rfl, _, by simp [Try.f28] <;> rfl, Weak.mk' [0] (by decide) rfl (by simp) (AWg_closed (b := 0) (by simp) _ _ rfl fun i c x h1 h2 => ?_)⟩)
  match i, h1, h2 with
  | 0, h1, h2 => cases h1; cases h2; exact .inl ⟨rfl, rfl⟩

set_option maxHeartbeats 2000000 in
theorem rread_ct (f : PF) (a n : Int) (hs : f.small) : Ct Try.prog 30 [.ptr 0 0, .int .i64 a, .int .i64 n] [.obj true f.rblks] (.tuple [.str (f.readAt a n).1, .int .i64 (f.readAt a n).2]) [.obj true f.rblks] := by
  have hn := PF.small_now hs
  obtain ⟨s, es⟩ : ∃ s, f.now = s := ⟨_, rfl⟩
  unfold PF.readAt
  rw [es]
  rw [es] at hn
  refine ct_runE hmix rbΓ_ok (n := 0) Try.func30 ?_
  unfold Try.f30
  by_cases h1 : a < 0
  · exact ⟨_, _, (by simp (decide := true) [rbytesS, hs, es, h1]; exact ⟨rfl, rfl⟩), Weak.mk' [0] (by decide) rfl (by simp [h1]) (by simp [AWb])⟩
  by_cases h2 : n < 0
  · exact ⟨_, _, (by simp (decide := true) [rbytesS, hs, es, h1, h2]; exact ⟨rfl, rfl⟩), Weak.mk' [0] (by decide) rfl (by simp [h1, h2]) (by simp [AWb])⟩
  by_cases h3 : (s.length : Int) < a
  · exact ⟨_, _, (by simp (decide := true) [rbytesS, hs, es, h1, h2, h3]; exact ⟨rfl, rfl⟩), Weak.mk' [0] (by decide) rfl (by simp [h1, h2, h3]) (by simp [AWb])⟩
  rw [if_neg (by omega)]
  have a0 : 0 ≤ a := by omega
  have a1 : a ≤ (s.length : Int) := by omega
  obtain ⟨k, ek⟩ : ∃ k, a.toNat = k := ⟨_, rfl⟩
  have hk : k ≤ s.length := by omega
  obtain ⟨z, ez⟩ : ∃ z : Nat, min n ((s.length - k : Nat) : Int) = z := ⟨(min n ((s.length - k : Nat) : Int)).toNat, by omega⟩
  have z1 : z ≤ s.length - k := by omega
  have z2 : (z : Int) ≤ ((s.length - k : Nat) : Int) := by omega
  have z3 : (s.drop k).take z = (s.drop k).take n.toNat := by
    by_cases hz : n.toNat ≤ s.length - k
    · rw [show z = n.toNat by omega]
    · rw [List.take_of_length_le (by simp; omega), List.take_of_length_le (by simp; omega)]
  refine ⟨_, _, (by simp (decide := true) [-minA, minA_min, rbytesS, hs, es, h1, h2, h3, a0, a1, ek, ez, z2]; exact ⟨rfl, rfl⟩), Weak.mk' [0] (by decide) rfl (by simp [ek, List.take_take, Nat.min_eq_left z1, z3]) (by simp [AWb])⟩

set_option maxHeartbeats 4000000 in
theorem rcut_ct (f : PF) (n : Int) (hs : f.small) :
    Ct Try.prog 27 [.ptr 0 0, .int .i64 n] [.obj true f.rblks] (.int .i64 (f.cut n).2) [.obj true (f.cut n).1.rblks] := by
  have hΓ := rbΓ_ok
  have hn := PF.small_now hs
  have hk := hs.acts
  refine ct_of_sim Try.func27 rfl ?_
  simp only [Try.ntmps27, List.length_cons, List.length_nil, Nat.reduceAdd, Nat.reduceSub, List.replicate, List.cons_append, List.nil_append]
  obtain ⟨s, es⟩ : ∃ s, f.now = s := ⟨_, rfl⟩
  unfold PF.cut
  rw [es]
  rw [es] at hn
  refine Sim.step hmix hΓ (n := 0) (by simp; exact ⟨rfl, rfl⟩) (by simp) ?_
  by_cases h1 : n < 0
  · rw [if_pos (.inl h1)]
    refine Sim.exec hmix hΓ (n := 0) (by simp (decide := true) [h1]; exact ⟨rfl, rfl, rfl⟩) (by simp) ?_
    exact ⟨.inr rfl, _, by simp [Try.f27] <;> rfl, Weak.mk' [0] (by decide) rfl (by simp) (by simp [AWb])⟩
  by_cases h2 : (s.length : Int) < n
  · rw [if_pos (.inr h2)]
    refine Sim.exec hmix hΓ (n := 0) (by simp (decide := true) [rbytesS, hs, es, h1, h2]; exact ⟨rfl, rfl, rfl⟩) (by simp) ?_
    exact ⟨.inr rfl, _, by simp [Try.f27] <;> rfl, Weak.mk' [0] (by decide) rfl (by simp) (by simp [AWb])⟩
  rw [if_neg (by omega)]
  by_cases h3 : n < s.length
  rotate_left
  · rw [if_neg h3]
    refine Sim.exec hmix hΓ (n := 0) (by simp (decide := true) [rbytesS, hs, es, h1, h2, h3]; exact ⟨rfl, rfl, rfl⟩) (by simp) ?_
    exact ⟨.inr rfl, _, by simp [Try.f27] <;> rfl, Weak.mk' [0] (by decide) rfl (by simp) (by simp [AWb])⟩
  rw [if_pos h3]
  refine Sim.aft (Aft.open (b := 0) rfl (by simp) (Aft.done (by simp [openH]) ?_))
  rw [open_ref]
  have b1 : f.acts.length * 32 ≤ 140737488355328 := by omega
  have b2 : f.acts.length ≤ 9223372036854775807 := by omega
  have b3 : (f.acts.length + 1) * 32 ≤ 140737488355328 := by omega
  have b4 : f.acts.length + 1 ≤ 9223372036854775807 := by omega
  have n0 : (n.toNat : Int) = n := by omega
  by_cases hz : f.acts = []
  · have ef : (⟨f.d, []⟩ : PF) = f := by rw [← hz]
    have hs2 : PF.small ⟨f.d, []⟩ := by rw [ef]; exact hs
    have es2 : PF.now ⟨f.d, []⟩ = s := by rw [ef]; exact es
    refine Sim.after (Sim.exec hmix hΓ (n := 0) (by simp (decide := true) [rbytesS, rowActs, actA, hs2, es2, h1, h2, h3, hz]; exact ⟨rfl, rfl, rfl⟩) (by simp) ?_)
    refine Aft.closeR (⟨f.d, f.acts ++ [.cut n.toNat]⟩ : PF) 0 4 (x := .slice 4 0 1 3 false) rfl (by simp [AW, hz]) (by simp [hz, actA, FAct.cells, n0]) (by decide) (by simp) (Aft.done (by simp) ⟨by first | exact .inl rfl | exact .inr rfl, _, by simp [Try.f27] <;> rfl, Weak.mk' [0] (by decide) rfl (by simp) (AWg_closed (b := 0) (by simp) _ _ rfl fun i c x h1 h2 => ?_)⟩)
    match i, h1, h2 with
    | 0, h1, h2 => cases h1; cases h2; exact .inl ⟨rfl, rfl⟩
  · refine Sim.after (Sim.exec hmix hΓ (n := 0) (by simp (decide := true) [rbytesS, hs, es, h1, h2, h3, hz, b1, b2, b3, b4]; exact ⟨rfl, rfl, rfl⟩) (by simp) ?_)
    refine Aft.closeR (⟨f.d, f.acts ++ [.cut n.toNat]⟩ : PF) 0 5 (x := .slice 5 0 (f.acts.length + 1) 3 false) rfl (by simp [AW]) (by simp [actA_append, actA, FAct.cells, n0]) (by decide) (by simp) (Aft.done (by simp) ⟨by first | exact .inl rfl | exact .inr rfl, _, by simp [Try.f27] <;> rfl, Weak.mk' [0] (by decide) rfl (by simp) (AWg_closed (b := 0) (by simp) _ _ rfl fun i c x h1 h2 => ?_)⟩)
    match i, h1, h2 with
    | 0, h1, h2 => cases h1; cases h2; exact .inl ⟨rfl, rfl⟩

end Go.Proofs.Ytaociohomeepmaa
