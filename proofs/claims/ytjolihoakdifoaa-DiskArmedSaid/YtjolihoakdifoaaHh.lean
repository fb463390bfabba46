/- A folder's contracts: Rename, Remove. -/
import Derived.Test.YtjolihoakdifoaaHg
namespace Go.Proofs.Ytjolihoakdifoaa
open Go Go.Lib
set_option maxRecDepth 100000
attribute [-simp] drawOk_eq adraw qrun acode aops

set_option maxHeartbeats 8000000 in
theorem remove_ct (f : FD) (k : List UInt8) (hok : f.small) :
    Ct Try.prog 63 [.ptr 0 0, .str k] [.obj true f.blks] (.int .i64 (f.remove k).2) [.obj true (f.remove k).1.blks] := by
  have hΓ := fmΓ_ok
  have hal : f.acts.length ≤ 1000000 := by have := hok.len; omega
  refine ct_of_sim Try.func63 rfl ?_
  simp only [Try.ntmps63, List.length_cons, List.length_nil, Nat.reduceAdd, Nat.reduceSub, List.replicate, List.cons_append, List.nil_append]
  refine Sim.step hmix hΓ (n := 0) (by simp; exact ⟨rfl, rfl⟩) (by simp) ?_
  refine Sim.step hmix hΓ (n := 0) (by simp; exact ⟨rfl, rfl⟩) (by simp) ?_
  refine Sim.aft (Aft.open (b := 0) rfl (by simp) (Aft.done (by simp [openH]) ?_))
  rw [open_fd]
  simp only [List.length_cons, List.length_nil, Nat.reduceAdd, List.set_cons_zero, List.cons_append, List.nil_append]
  obtain ⟨R, eR⟩ : ∃ R, rowD (fun i => 2+3 + i) 0 f.acts = R := ⟨_, rfl⟩
  obtain ⟨X, eX⟩ : ∃ X, boxesD f.acts = X := ⟨_, rfl⟩
  obtain ⟨k0, ek⟩ : ∃ k, f.acts.length = k := ⟨_, rfl⟩
  have hXg : ∀ (i : Nat) (B : ABlk), (boxesD f.acts)[i]? = some B → X[i]? = some B := fun i B h => by rw [← eX]; exact h
  rw [eR, eX, ek]
  have hf := find_ents k f.now 0
  cases hg : NM.get f.now k with
  | none =>
    have hc : f.remove k = (f, 9) := by unfold FD.remove; rw [hg]
    rw [hg] at hf
    simp only [Option.map_none, Nat.zero_add] at hf
    rw [hc]
    refine Sim.seq (Sim.step hmix hΓ (n := 0) (by simp (decide := true) [hf]; first | exact ⟨rfl, rfl⟩ | exact ⟨by kernel_rfl, rfl, rfl⟩) (by simp) ?_)
    refine Sim.aft (Aft.closeFS f 0 2 (by rw [ek]; rfl) rfl rfl (by rw [eR]; rfl) (fun i B hB => ?_) (by decide) (by simp) ?_)
    · rw [show 2 + 3 + i = i + 1 + 1 + 1 + 1 + 1 by omega]
      simp only [List.getElem?_cons_succ]
      exact hXg i B hB
    refine Aft.weak (Fn := [.ptr 0 0, .str k, .top, .ptr 1 0, .int .i64 0, .top, .bool false] ++ List.replicate 16 .top) (Hn := [.obj true f.blks, .cells true [.str k]]) (Weak.mk' [0, 1] (by decide) (by decide) (by simp) (AWg_closed (b := 0) (by simp) _ _ rfl fun i c x h1 h2 => ?_)) (by simp) (Aft.done (by simp) ?_)
    · match i, h1, h2 with
      | 0, h1, h2 => cases h1; cases h2; exact .inl ⟨rfl, rfl⟩
      | 1, h1, h2 => cases h1; cases h2; exact .inr ⟨⟨by decide, by decide⟩, by simp [AWb]⟩
    refine Sim.exec hmix hΓ (n := 0) (by simp; exact ⟨rfl, rfl, rfl⟩) (by simp) ?_
    exact ⟨.inr rfl, _, by simp [Try.f63] <;> rfl, Weak.mk' [0] (by decide) (by decide) (by simp) (by simp [AWb])⟩
  | some v =>
    have hc : f.remove k = (⟨f.d, f.acts ++ [.rem k], f.last⟩, 0) := by unfold FD.remove; rw [hg]
    rw [hg] at hf
    simp only [Option.map_some, Nat.zero_add] at hf
    rw [hc]
    refine Sim.step hmix hΓ (n := 0) (by simp (decide := true) [hf]; first | exact ⟨rfl, rfl⟩ | exact ⟨by kernel_rfl, rfl, rfl⟩) (by simp) ?_
    refine Sim.aft (Aft.closeFS f 0 2 (by rw [ek]; rfl) rfl rfl (by rw [eR]; rfl) (fun i B hB => ?_) (by decide) (by simp) ?_)
    · rw [show 2 + 3 + i = i + 1 + 1 + 1 + 1 + 1 by omega]
      simp only [List.getElem?_cons_succ]
      exact hXg i B hB
    refine Aft.weak (Fn := [.ptr 0 0, .str k, .top, .ptr 1 0, .int .i64 0] ++ List.replicate 18 .top) (Hn := [.obj true f.blks, .cells true [.str k]]) (Weak.mk' [0, 1] (by decide) (by decide) (by simp) (AWg_closed (b := 0) (by simp) _ _ rfl fun i c x h1 h2 => ?_)) (by simp) ?_
    · match i, h1, h2 with
      | 0, h1, h2 => cases h1; cases h2; exact .inl ⟨rfl, rfl⟩
      | 1, h1, h2 => cases h1; cases h2; exact .inr ⟨⟨by decide, by decide⟩, by simp [AWb]⟩
    refine Aft.freeze 1 (.str k) rfl (fun _ => rfl) (by simp) ?_
    simp only [List.set_cons_succ, List.set_cons_zero]
    refine Aft.done (by simp) ?_
    have hdo : doS [.ptr 0 0, .str remW, .func 91 [] [.ptr 1 0]] [.obj true f.blks, .obj false [.cells true [.str k]]] = some (.int .i64 0, [.obj true (⟨f.d, f.acts ++ [.rem k], f.last⟩ : FD).blks, .obj false [.cells true [.str k]]], [0]) := by
      simp only [doS, capOf, List.getElem?_cons_zero, List.getElem?_cons_succ, fdOf_blks]
      rw [if_pos ⟨by first | rfl | trivial, by first | rfl | trivial, ⟨v, hg⟩, hal, by decide⟩]
      rfl
    simp only [remW] at hdo
    refine Sim.exec hmix hΓ (n := 0) (by simp [fmInl, fmΓ0, hdo]; exact ⟨rfl, rfl, rfl⟩) (by simp) ?_
    exact ⟨.inr rfl, _, by simp [Try.f63] <;> rfl, Weak.mk' [0] (by decide) (by decide) (by simp) (by simp [AWb])⟩

set_option maxHeartbeats 8000000 in
theorem rename_ct (f : FD) (a b : List UInt8) (hok : f.small) (hbl : b.length ≤ 9223372036854775807) :
    Ct Try.prog 62 [.ptr 0 0, .str a, .str b] [.obj true f.blks] (.int .i64 (f.rename a b).2) [.obj true (f.rename a b).1.blks] := by
  have hΓ := fmΓ_ok
  have hal : f.acts.length ≤ 1000000 := by have := hok.len; omega
  refine ct_of_sim Try.func62 rfl ?_
  simp only [Try.ntmps62, List.length_cons, List.length_nil, Nat.reduceAdd, Nat.reduceSub, List.replicate, List.cons_append, List.nil_append]
  refine Sim.step hmix hΓ (n := 0) (by simp; exact ⟨rfl, rfl⟩) (by simp) ?_
  refine Sim.step hmix hΓ (n := 0) (by simp; exact ⟨rfl, rfl⟩) (by simp) ?_
  by_cases hm : mayF b
  rotate_left
  · have hc : f.rename a b = (f, 2) := by unfold FD.rename; rw [if_neg hm]
    rw [hc]
    by_cases h0 : b = []
    · subst h0
      refine Sim.exec hmix hΓ (n := 0) (by simp [fmInl, Try.f87]; exact ⟨rfl, rfl, rfl⟩) (by simp) ?_
      exact ⟨.inr rfl, _, by simp [Try.f62] <;> rfl, Weak.mk' [0] (by decide) (by decide) (by simp) (by simp [AWb])⟩
    · have h1 : 0 < b.length := List.length_pos_iff.2 h0
      have h2 : ¬ b.length ≤ 64 := fun h => hm ⟨h1, h⟩
      have h2i : ¬ (b.length : Int) ≤ 64 := by omega
      have h1i : (0 : Int) < b.length := by omega
      refine Sim.exec hmix hΓ (n := 0) (by simp [fmInl, Try.f87, h1, h2i]; exact ⟨rfl, rfl, rfl⟩) (by simp) ?_
      exact ⟨.inr rfl, _, by simp [Try.f62] <;> rfl, Weak.mk' [0] (by decide) (by decide) (by simp) (by simp [AWb])⟩
  have h1 : 0 < b.length := hm.1
  have h0 : ¬ b = [] := List.length_pos_iff.1 h1
  have h2i : (b.length : Int) ≤ 64 := by have := hm.2; omega
  have h1i : (0 : Int) < b.length := by omega
  refine Sim.step hmix hΓ (n := 0) (by simp [fmInl, Try.f87, h1, h2i]; exact ⟨rfl, rfl⟩) (by simp) ?_
  refine Sim.aft (Aft.open (b := 0) rfl (by simp) (Aft.done (by simp [openH]) ?_))
  rw [open_fd]
  simp only [List.length_cons, List.length_nil, Nat.reduceAdd, List.set_cons_zero, List.cons_append, List.nil_append]
  obtain ⟨R, eR⟩ : ∃ R, rowD (fun i => 3+3 + i) 0 f.acts = R := ⟨_, rfl⟩
  obtain ⟨X, eX⟩ : ∃ X, boxesD f.acts = X := ⟨_, rfl⟩
  obtain ⟨k0, ek⟩ : ∃ k, f.acts.length = k := ⟨_, rfl⟩
  obtain ⟨q, eq⟩ : ∃ q, nbD f.acts = q := ⟨_, rfl⟩
  have hX : X.length = q := by rw [← eX, ← eq, boxesD_length]
  have hXg : ∀ (i : Nat) (B : ABlk), (boxesD f.acts)[i]? = some B → X[i]? = some B := fun i B h => by rw [← eX]; exact h
  rw [eR, eX, ek]
  have hf := find_ents a f.now 0
  have close : ∀ (v : Int) (is : Bool) (n0 : Nat) (F : List AV) (K : List AV → AHeap → Prop), n0 ≤ 3 → Aft n0 F (closeH (.cells true [.map 3, .map 4, .sl 5 0 k0 2 false, .int .i64 f.last] :: .cells true [.str a] :: .cells true [.str b] :: .map (entsA f.d) :: .map (entsA f.now) :: .cells true R :: (X ++ [.cells true [.int .i64 v]])) 0 [3, 4, 5] true f.blks) K →
      Aft n0 F (.cells true [.map 3, .map 4, .sl 5 0 k0 2 false, .int .i64 f.last] :: .cells true [.str a] :: .cells true [.str b] :: .map (entsA f.d) :: .map (entsA f.now) :: .cells true R :: (X ++ [.cells true [.int .i64 v]])) K := by
    intro v _ n0 F K hn h
    refine Aft.closeFS f 0 3 (by rw [ek]; rfl) rfl rfl (by rw [eR]; rfl) (fun i B hB => ?_) (by decide) (by simp; omega) h
    rw [show 3 + 3 + i = i + 1 + 1 + 1 + 1 + 1 + 1 by omega]
    have h3 : i < X.length := (List.getElem?_eq_some_iff.1 (hXg i B hB)).1
    simp only [List.getElem?_cons_succ]
    rw [List.getElem?_append_left h3]
    exact hXg i B hB
  cases hg : NM.get f.now a with
  | none =>
    have hc : f.rename a b = (f, 9) := by unfold FD.rename; rw [if_pos hm, hg]
    rw [hg] at hf
    simp only [Option.map_none, Nat.zero_add] at hf
    rw [hc]
    refine Sim.step hmix hΓ (n := 0) (by simp (decide := true) [hf, hX]; first | exact ⟨rfl, rfl⟩ | exact ⟨by kernel_rfl, rfl, rfl⟩) (by simp) ?_
    refine Sim.aft (close 0 false _ _ _ (by decide) ?_)
    refine Aft.weak (Fn := [.ptr 0 0, .str a, .str b, .top, .top, .top, .int .i64 0, .top, .bool false] ++ List.replicate 19 .top) (Hn := [.obj true f.blks]) (Weak.mk' [0] (by decide) (by decide) (by simp) (AWg_closed (b := 0) (by simp) _ _ rfl fun i c x h1 h2 => ?_)) (by simp) (Aft.done (by simp) ?_)
    · match i, h1, h2 with
      | 0, h1, h2 => cases h1; cases h2; exact .inl ⟨rfl, rfl⟩
    refine Sim.exec hmix hΓ (n := 0) (by simp; exact ⟨rfl, rfl, rfl⟩) (by simp) ?_
    exact ⟨.inr rfl, _, by simp [Try.f62] <;> rfl, Weak.mk' [0] (by decide) (by decide) (by simp) (by simp [AWb])⟩
  | some v =>
    have hc : f.rename a b = (⟨f.d, f.acts ++ [.ren a b v], f.last⟩, 0) := by unfold FD.rename; rw [if_pos hm, hg]
    rw [hg] at hf
    simp only [Option.map_some, Nat.zero_add] at hf
    rw [hc]
    refine Sim.step hmix hΓ (n := 0) (by simp (decide := true) [hf, hX]; first | exact ⟨rfl, rfl⟩ | exact ⟨by kernel_rfl, rfl, rfl⟩) (by simp) ?_
    refine Sim.aft (close v true _ _ _ (by decide) ?_)
    refine Aft.weak (Fn := [.ptr 0 0, .str a, .str b, .top, .ptr 1 0, .ptr 2 0, .int .i64 0, .ptr 3 0, .bool true] ++ List.replicate 19 .top) (Hn := [.obj true f.blks, .cells true [.str a], .cells true [.str b], .cells true [.int .i64 v]]) (Weak.mk' [0, 1, 2, q + 6] (by simp) (by simp) (by simp) (AWg_closed (b := 0) (by simp) _ _ rfl fun i c x h1 h2 => ?_)) (by simp) ?_
    · match i, h1, h2 with
      | 0, h1, h2 => cases h1; cases h2; exact .inl ⟨rfl, rfl⟩
      | 1, h1, h2 => cases h1; cases h2; exact .inr ⟨⟨by decide, by decide⟩, by simp [AWb]⟩
      | 2, h1, h2 => cases h1; cases h2; exact .inr ⟨⟨by decide, by decide⟩, by simp [AWb]⟩
      | 3, h1, h2 =>
        cases h1; cases h2
        refine .inr ⟨⟨by omega, by simp⟩, ?_⟩
        rw [show q + 6 = (X.length + 0) + 1 + 1 + 1 + 1 + 1 + 1 by omega]
        simp [AWb]
    refine Aft.freeze 1 (.str a) rfl (fun _ => rfl) (by simp) ?_
    simp only [List.set_cons_succ, List.set_cons_zero]
    refine Aft.freeze 2 (.str b) rfl (fun _ => rfl) (by simp) ?_
    simp only [List.set_cons_succ, List.set_cons_zero]
    refine Aft.freeze 3 (.int .i64 v) rfl (fun _ => ⟨rfl, rfl⟩) (by simp) ?_
    simp only [List.set_cons_succ, List.set_cons_zero]
    refine Aft.done (by simp) ?_
    have hdo : doS [.ptr 0 0, .str renW, .func 90 [] [.ptr 1 0, .ptr 3 0, .ptr 2 0]] [.obj true f.blks, .obj false [.cells true [.str a]], .obj false [.cells true [.str b]], .obj false [.cells true [.int .i64 v]]] = some (.int .i64 0, [.obj true (⟨f.d, f.acts ++ [.ren a b v], f.last⟩ : FD).blks, .obj false [.cells true [.str a]], .obj false [.cells true [.str b]], .obj false [.cells true [.int .i64 v]]], [0]) := by
      simp only [doS, capOf, List.getElem?_cons_zero, List.getElem?_cons_succ, fdOf_blks]
      rw [if_pos ⟨by first | rfl | trivial, by first | rfl | trivial, hg, hal, by decide, by decide, by decide, by decide, by decide, by decide⟩]
      rfl
    simp only [renW] at hdo
    refine Sim.exec hmix hΓ (n := 0) (by simp [fmInl, fmΓ0, hdo]; exact ⟨rfl, rfl, rfl⟩) (by simp) ?_
    exact ⟨.inr rfl, _, by simp [Try.f62] <;> rfl, Weak.mk' [0] (by decide) (by decide) (by simp) (by simp [AWb])⟩

end Go.Proofs.Ytjolihoakdifoaa
