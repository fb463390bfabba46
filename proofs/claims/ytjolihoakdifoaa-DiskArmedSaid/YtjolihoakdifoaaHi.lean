/- A folder's contracts: New, Find, Pending, Survive, Sync. -/
import Derived.Test.YtjolihoakdifoaaHf
import Derived.Test.YtjolihoakdifoaaIt
namespace Go.Proofs.Ytjolihoakdifoaa
open Go Go.Lib
set_option maxRecDepth 100000
attribute [-simp] drawOk_eq adraw qrun acode aops

theorem new_ct : Ct Try.prog 14 [] [] (.ptr 0 0) [.obj true FD.new.blks] := by
  refine ct_of_sim Try.func14 rfl ?_
  simp only [Try.ntmps14, List.length_nil, Nat.reduceSub, List.replicate, List.nil_append]
  refine Sim.step hmix goks_nil (n := 0) (by simp; exact ⟨rfl, rfl⟩) (by simp) ?_
  refine Sim.step hmix goks_nil (n := 0) (by simp; exact ⟨rfl, rfl⟩) (by simp) ?_
  refine Sim.aft (Aft.closeFD FD.new 2 0 1 3 [] (fun i => i) (x := .nils) (o := true) rfl rfl rfl rfl (fun h => absurd h (by decide)) rfl (fun i hi => absurd hi (by simp [FD.new, nbD])) (fun i k B h => by simp at h) (by decide) (by simp) ?_)
  refine Aft.weak (Fn := [.ptr 0 0] ++ List.replicate 4 .top) (Hn := [.obj true FD.new.blks]) (Weak.mk' [2] (by decide) (by decide) (by simp) (AWg_closed (b := 2) (by simp) _ _ rfl fun i c x h1 h2 => ?_)) (by simp) (Aft.done (by simp) ?_)
  · match i, h1, h2 with
    | 0, h1, h2 => cases h1; cases h2; exact .inl ⟨rfl, rfl⟩
  refine Sim.exec hmix goks_nil (n := 0) (by simp; exact ⟨rfl, rfl, rfl⟩) (by simp) ?_
  exact ⟨.inr rfl, _, by simp [Try.f14] <;> rfl, Weak.mk' [0] (by decide) (by decide) (by simp) (by simp [AWb])⟩

def FD.find (f : FD) (k : List UInt8) : Int × Bool := match f.now.get k with
  | some v => (v, true)
  | none => (0, false)

theorem closeF1 (f : FD) {n0 : Nat} {F : List AV} {K : List AV → AHeap → Prop} (hn : n0 ≤ 1) (h : Aft n0 F [.obj true f.blks] K) (hF : ∀ rn : List Nat, AWs rn F F) :
    Aft n0 F (.cells true [.map 1, .map 2, .sl 3 0 f.acts.length 2 false, .int .i64 f.last] :: .map (entsA f.d) :: .map (entsA f.now) :: .cells true (rowD (fun i => 1 + 3 + i) 0 f.acts) :: boxesD f.acts) K := by
  refine Aft.closeFS f 0 1 rfl rfl rfl rfl (fun i B hB => ?_) (by decide) (by simp; omega) ?_
  · rw [show 1 + 3 + i = i + 1 + 1 + 1 + 1 by omega]
    simp only [List.getElem?_cons_succ]
    exact hB
  refine Aft.weak (Fn := F) (Hn := [.obj true f.blks]) ?_ (by simp; omega) h
  by_cases h0 : n0 = 0
  · subst h0
    exact Weak.mk' [0] (by decide) (by decide) (hF _) (AWg_closed (b := 0) (by simp) _ _ rfl fun i c x h1 h2 => by
      match i, h1, h2 with
      | 0, h1, h2 => cases h1; cases h2; exact .inl ⟨rfl, rfl⟩)
  · have : n0 = 1 := by omega
    subst this
    exact Weak.mk' [0] (by decide) (by decide) (hF _) (AWg_closed (b := 0) (by simp) _ _ rfl fun i c x h1 h2 => by
      match i, h1, h2 with
      | 0, h1, h2 => cases h1; cases h2; exact .inl ⟨rfl, rfl⟩)

set_option maxHeartbeats 8000000 in
theorem find_ct (f : FD) (k : List UInt8) : Ct Try.prog 22 [.ptr 0 0, .str k] [.obj true f.blks] (.tuple [.int .i64 (f.find k).1, .bool (f.find k).2]) [.obj true f.blks] := by
  refine ct_of_sim Try.func22 rfl ?_
  simp only [Try.ntmps22, List.length_cons, List.length_nil, Nat.reduceAdd, Nat.reduceSub, List.replicate, List.cons_append, List.nil_append]
  refine Sim.aft (Aft.open (b := 0) rfl (by simp) (Aft.done (by simp [openH]) ?_))
  rw [open_fd]
  simp only [List.length_cons, List.length_nil, Nat.reduceAdd, List.set_cons_zero, List.cons_append, List.nil_append]
  obtain ⟨R, eR⟩ : ∃ R, rowD (fun i => 4 + i) 0 f.acts = R := ⟨_, rfl⟩
  obtain ⟨X, eX⟩ : ∃ X, boxesD f.acts = X := ⟨_, rfl⟩
  rw [eX]
  refine Sim.step hmix goks_nil (n := 0) (by simp; exact ⟨rfl, rfl⟩) (by simp) ?_
  refine Sim.step hmix goks_nil (n := 0) (by simp; exact ⟨rfl, rfl⟩) (by simp) ?_
  have hf := find_ents k f.now 0
  obtain ⟨v, is, hv⟩ : ∃ v is, f.find k = (v, is) := ⟨_, _, rfl⟩
  rw [hv]
  refine Sim.seq (Sim.mono (Q := fun e F' H' => e = .normal ∧ LessF ([.top, .top, .top, .top, .int .i64 0, .bool false, .int .i64 v, .bool is] ++ List.replicate 13 .top) F' ∧ H' = .cells true [.map 1, .map 2, .sl 3 0 f.acts.length 2 false, .int .i64 f.last] :: .map (entsA f.d) :: .map (entsA f.now) :: .cells true (rowD (fun i => 1 + 3 + i) 0 f.acts) :: X) ?_ ?_)
  · unfold FD.find at hv
    cases hg : NM.get f.now k with
    | none =>
      rw [hg] at hf hv
      cases hv
      simp only [Option.map_none, Nat.zero_add] at hf
      refine Sim.exec hmix goks_nil (n := 0) (by simp (decide := true) [hf]; exact ⟨rfl, rfl, rfl⟩) (by simp) ?_
      exact ⟨rfl, by simp, rfl⟩
    | some u =>
      rw [hg] at hf hv
      cases hv
      simp only [Option.map_some, Nat.zero_add] at hf
      refine Sim.exec hmix goks_nil (n := 0) (by simp (decide := true) [hf]; exact ⟨rfl, rfl, rfl⟩) (by simp) ?_
      exact ⟨rfl, by simp, rfl⟩
  rintro e F' H' hlen ⟨rfl, hF, rfl⟩
  dsimp only
  refine Sim.less hF ?_
  rw [← eX]
  refine Sim.aft (closeF1 f (by decide) (Aft.done (by simp) ?_) (by simp))
  refine Sim.exec hmix goks_nil (n := 0) (by simp; exact ⟨rfl, rfl, rfl⟩) (by simp) ?_
  exact ⟨.inr rfl, _, by simp [Try.f22] <;> rfl, Weak.mk' [0] (by decide) (by decide) (by simp) (by simp [AWb])⟩

set_option maxHeartbeats 8000000 in
theorem pending_ct (f : FD) : Ct Try.prog 17 [.ptr 0 0] [.obj true f.blks] (.int .i64 f.acts.length) [.obj true f.blks] := by
  refine ct_of_sim Try.func17 rfl ?_
  simp only [Try.ntmps17, List.length_cons, List.length_nil, Nat.reduceAdd, Nat.reduceSub, List.replicate, List.cons_append, List.nil_append]
  refine Sim.aft (Aft.open (b := 0) rfl (by simp) (Aft.done (by simp [openH]) ?_))
  rw [open_fd]
  simp only [List.length_cons, List.length_nil, Nat.reduceAdd, List.set_cons_zero, List.cons_append, List.nil_append]
  obtain ⟨X, eX⟩ : ∃ X, boxesD f.acts = X := ⟨_, rfl⟩
  rw [eX]
  refine Sim.step hmix goks_nil (n := 0) (by simp; exact ⟨rfl, rfl⟩) (by simp) ?_
  refine Sim.step hmix goks_nil (n := 0) (by simp; exact ⟨rfl, rfl⟩) (by simp) ?_
  refine Sim.step hmix goks_nil (n := 0) (by simp; exact ⟨rfl, rfl⟩) (by simp) ?_
  refine Sim.less (Fn := [.top, .top, .int .i64 f.acts.length] ++ List.replicate 7 .top) (by simp) ?_
  rw [← eX]
  refine Sim.aft (closeF1 f (by decide) (Aft.done (by simp) ?_) (by simp))
  refine Sim.exec hmix goks_nil (n := 0) (by simp; exact ⟨rfl, rfl, rfl⟩) (by simp) ?_
  exact ⟨.inr rfl, _, by simp [Try.f17] <;> rfl, Weak.mk' [0] (by decide) (by decide) (by simp) (by simp [AWb])⟩

end Go.Proofs.Ytjolihoakdifoaa
