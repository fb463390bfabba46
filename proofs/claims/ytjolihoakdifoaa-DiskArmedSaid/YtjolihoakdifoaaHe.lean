/- A folder's contract of do. -/
import Derived.Test.YtjolihoakdifoaaHc
import Derived.Test.YtjolihoakdifoaaCo
import Derived.Test.YtjolihoakdifoaaLa
import Derived.Test.YtjolihoakdifoaaTypes
import Derived.Test.YtjolihoakdifoaaSp
import Derived.Test.YtjolihoakdifoaaBz
import Derived.Test.YtjolihoakdifoaaGe
namespace Go.Proofs.Ytjolihoakdifoaa
open Go Go.Lib
set_option maxRecDepth 100000
attribute [-simp] drawOk_eq adraw qrun acode aops

def doInl : List FuncId := [89, 90, 91]
theorem doΓ_ok : GOk Try.prog (runG Try.prog (gams []) 0 doInl 2) := gok_run hmix goks_nil 0 doInl 2

set_option maxHeartbeats 8000000 in
theorem do_cre_ct (f : FD) (k : List UInt8) (n : Int) (hg : NM.get f.now k = none) (hok : f.acts.length ≤ 1000000) :
    Ct Try.prog 88 [.ptr 0 0, .str [99, 114, 101, 97, 116, 101], .func 89 [] [.ptr 1 0, .ptr 2 0]] (.obj true f.blks :: [boxA (.int .i64 n), boxA (.str k)]) (.int .i64 0) (.obj true (⟨f.d, f.acts ++ [.cre k n], f.last⟩ : FD).blks :: [boxA (.int .i64 n), boxA (.str k)]) := by
  have hΓ := doΓ_ok
  simp only [boxA]
  refine ct_of_sim Try.func88 rfl ?_
  simp only [Try.ntmps88, List.length_cons, List.length_nil, Nat.reduceAdd, Nat.reduceSub, List.replicate, List.cons_append, List.nil_append]
  refine Sim.aft (Aft.open (b := 0) rfl (by simp) (Aft.done (by simp [openH]) ?_))
  rw [open_fd]
  simp only [List.length_cons, List.length_nil, Nat.reduceAdd, List.set_cons_zero, List.cons_append, List.nil_append]
  obtain ⟨R, eR⟩ : ∃ R, rowD (fun i => 3+3 + i) 0 f.acts = R := ⟨_, rfl⟩
  simp only [Nat.reduceAdd] at eR
  obtain ⟨X, eX⟩ : ∃ X, boxesD f.acts = X := ⟨_, rfl⟩
  obtain ⟨k0, ek⟩ : ∃ k, f.acts.length = k := ⟨_, rfl⟩
  obtain ⟨q, eq⟩ : ∃ q, nbD f.acts = q := ⟨_, rfl⟩
  have hR : R.length = k0 * 2 := by rw [← eR, ← ek]; simp
  have hX : X.length = q := by rw [← eX, ← eq, boxesD_length]
  rw [eR, eX, ek]
  rw [ek] at hok
  have b1 : (k0 + 1) * 24 ≤ 140737488355328 := by omega
  have b2 : k0 + 1 ≤ 9223372036854775807 := by omega
  have tR : R.take (k0 * 2) = R := List.take_of_length_le (by omega)
  have hf := find_ents k f.now 0
  rw [hg] at hf
  simp only [Option.map_none, Nat.zero_add] at hf
  have hs := ents_new n hg
  refine Sim.step hmix hΓ (n := 0) (by simp; exact ⟨rfl, rfl⟩) (by simp) ?_
  refine Sim.step hmix hΓ (n := 0) (by simp [hX]; exact ⟨rfl, rfl⟩) (by simp) ?_
  refine Sim.step hmix hΓ (n := 0) (by simp (decide := true) [appendC, appendC0, hX, hR, tR, b1, b2]; first | exact ⟨rfl, rfl⟩ | exact ⟨by kernel_rfl, rfl, rfl⟩) (by simp) ?_
  refine Sim.seq (Sim.draw hmix (by simp) ?_)
  refine SimR.many hΓ 6 (by simp [stageOps]; rfl) (by omega) (by kernel_rfl) (by simp (decide := true) [hX]; first | exact ⟨rfl, rfl⟩ | exact ⟨by kernel_rfl, rfl, rfl⟩) ?_
  refine SimR.one hΓ _ rfl (by kernel_rfl) (by simp (decide := true) [hX, doInl, Try.f89, hf, hs]; exact ⟨rfl, rfl⟩) ?_
  refine SimR.done rfl ?_
  dsimp only
  refine Sim.aft (Aft.closeFA f (.cre k n) f.last 0 3 4 (q + 8) 6 [1, 2] (y := .slice (q + 8) 0 (k0 + 1) 2 false) ?_ ?_ ?_ ?_ ?_ ?_ ?_ ?_ ?_ ?_ (by simp) ?_)
  · rfl
  · simp [AW, ek]
  · rfl
  · exact rfl
  · rw [eR, show q + 8 = (((((((X.length + 2) + 1) + 1) + 1) + 1) + 1) + 1) by omega]
    simp [DAct.fn]
  · intro i B hB
    rw [eX] at hB
    have h3 : i < X.length := (List.getElem?_eq_some_iff.1 hB).1
    rw [show 6 + i = ((((((i + 1) + 1) + 1) + 1) + 1) + 1) by omega]
    simp only [List.getElem?_cons_succ]
    rw [List.getElem?_append_left h3]
    exact hB
  · intro i c B h1 h2
    match i, h1, h2 with
    | 0, h1, h2 => cases h1; cases h2; rfl
    | 1, h1, h2 => cases h1; cases h2; rfl
  · rfl
  · simp <;> omega
  · intro c hc
    rw [eq]
    simp only [List.mem_cons, List.not_mem_nil, or_false] at hc
    omega
  · refine Aft.weak (Fn := List.replicate 39 .top) (Hn := [.obj true (⟨f.d, f.acts ++ [.cre k n], f.last⟩ : FD).blks, .obj false [.cells true [.int .i64 n]], .obj false [.cells true [.str k]]]) (Weak.mk' [0, 1, 2] (by decide) (by decide) (AWs_tops _ _ _ rfl) (AWg_closed (b := 0) (by simp) _ _ rfl fun i c x h1 h2 => ?_)) (by simp) (Aft.done (by simp) ?_)
    · match i, h1, h2 with
      | 0, h1, h2 => cases h1; cases h2; exact .inl ⟨rfl, rfl⟩
      | 1, h1, h2 => cases h1; cases h2; exact .inr ⟨⟨by simp, by simp⟩, ⟨rfl, rfl⟩⟩
      | 2, h1, h2 => cases h1; cases h2; exact .inr ⟨⟨by simp, by simp⟩, ⟨rfl, rfl⟩⟩
    refine Sim.exec hmix hΓ (n := 0) (by simp; exact ⟨rfl, rfl, rfl⟩) (by simp) ?_
    exact ⟨.inr rfl, _, by simp [Try.f88] <;> rfl, Weak.mk' [0, 1, 2] (by decide) (by decide) (by simp) (by simp [AWb])⟩

set_option maxHeartbeats 8000000 in
theorem do_ren_ct (f : FD) (a b : List UInt8) (n : Int) (hg : NM.get f.now a = some n) (hok : f.acts.length ≤ 1000000) :
    Ct Try.prog 88 [.ptr 0 0, .str [114, 101, 110, 97, 109, 101], .func 90 [] [.ptr 1 0, .ptr 2 0, .ptr 3 0]] (.obj true f.blks :: [boxA (.str a), boxA (.int .i64 n), boxA (.str b)]) (.int .i64 0) (.obj true (⟨f.d, f.acts ++ [.ren a b n], f.last⟩ : FD).blks :: [boxA (.str a), boxA (.int .i64 n), boxA (.str b)]) := by
  have hΓ := doΓ_ok
  simp only [boxA]
  refine ct_of_sim Try.func88 rfl ?_
  simp only [Try.ntmps88, List.length_cons, List.length_nil, Nat.reduceAdd, Nat.reduceSub, List.replicate, List.cons_append, List.nil_append]
  refine Sim.aft (Aft.open (b := 0) rfl (by simp) (Aft.done (by simp [openH]) ?_))
  rw [open_fd]
  simp only [List.length_cons, List.length_nil, Nat.reduceAdd, List.set_cons_zero, List.cons_append, List.nil_append]
  obtain ⟨R, eR⟩ : ∃ R, rowD (fun i => 4+3 + i) 0 f.acts = R := ⟨_, rfl⟩
  simp only [Nat.reduceAdd] at eR
  obtain ⟨X, eX⟩ : ∃ X, boxesD f.acts = X := ⟨_, rfl⟩
  obtain ⟨k0, ek⟩ : ∃ k, f.acts.length = k := ⟨_, rfl⟩
  obtain ⟨q, eq⟩ : ∃ q, nbD f.acts = q := ⟨_, rfl⟩
  have hR : R.length = k0 * 2 := by rw [← eR, ← ek]; simp
  have hX : X.length = q := by rw [← eX, ← eq, boxesD_length]
  rw [eR, eX, ek]
  rw [ek] at hok
  have b1 : (k0 + 1) * 24 ≤ 140737488355328 := by omega
  have b2 : k0 + 1 ≤ 9223372036854775807 := by omega
  have tR : R.take (k0 * 2) = R := List.take_of_length_le (by omega)
  have hf := find_ents a f.now 0
  rw [hg] at hf
  simp only [Option.map_some, Nat.zero_add] at hf
  have hd := ents_del hg
  refine Sim.step hmix hΓ (n := 0) (by simp; exact ⟨rfl, rfl⟩) (by simp) ?_
  refine Sim.step hmix hΓ (n := 0) (by simp [hX]; exact ⟨rfl, rfl⟩) (by simp) ?_
  refine Sim.step hmix hΓ (n := 0) (by simp (decide := true) [appendC, appendC0, hX, hR, tR, b1, b2]; first | exact ⟨rfl, rfl⟩ | exact ⟨by kernel_rfl, rfl, rfl⟩) (by simp) ?_
  refine Sim.seq (Sim.draw hmix (by simp) ?_)
  refine SimR.many hΓ 6 (by simp [stageOps]; rfl) (by omega) (by kernel_rfl) (by simp (decide := true) [hX]; first | exact ⟨rfl, rfl⟩ | exact ⟨by kernel_rfl, rfl, rfl⟩) ?_
  have hf2 := find_ents b (NM.del f.now a) 0
  cases hg2 : NM.get (NM.del f.now a) b with
  | none =>
    rw [hg2] at hf2
    simp only [Option.map_none, Nat.zero_add] at hf2
    have hs2 := ents_new n hg2
    refine SimR.one hΓ _ rfl (by kernel_rfl) (by simp (decide := true) [hX, doInl, mapDelA, Try.f90, hf, hd, hf2, hs2]; exact ⟨rfl, rfl⟩) ?_
    refine SimR.done rfl ?_
    dsimp only
    refine Sim.aft (Aft.closeFA f (.ren a b n) f.last 0 4 5 (q + 9) 7 [1, 2, 3] (y := .slice (q + 9) 0 (k0 + 1) 2 false) ?_ ?_ ?_ ?_ ?_ ?_ ?_ ?_ ?_ ?_ (by simp) ?_)
    · rfl
    · simp [AW, ek]
    · rfl
    · exact rfl
    · rw [eR, show q + 9 = ((((((((X.length + 2) + 1) + 1) + 1) + 1) + 1) + 1) + 1) by omega]
      simp [DAct.fn]
    · intro i B hB
      rw [eX] at hB
      have h3 : i < X.length := (List.getElem?_eq_some_iff.1 hB).1
      rw [show 7 + i = (((((((i + 1) + 1) + 1) + 1) + 1) + 1) + 1) by omega]
      simp only [List.getElem?_cons_succ]
      rw [List.getElem?_append_left h3]
      exact hB
    · intro i c B h1 h2
      match i, h1, h2 with
      | 0, h1, h2 => cases h1; cases h2; rfl
      | 1, h1, h2 => cases h1; cases h2; rfl
      | 2, h1, h2 => cases h1; cases h2; rfl
    · rfl
    · simp <;> omega
    · intro c hc
      rw [eq]
      simp only [List.mem_cons, List.not_mem_nil, or_false] at hc
      omega
    · refine Aft.weak (Fn := List.replicate 39 .top) (Hn := [.obj true (⟨f.d, f.acts ++ [.ren a b n], f.last⟩ : FD).blks, .obj false [.cells true [.str a]], .obj false [.cells true [.int .i64 n]], .obj false [.cells true [.str b]]]) (Weak.mk' [0, 1, 2, 3] (by decide) (by decide) (AWs_tops _ _ _ rfl) (AWg_closed (b := 0) (by simp) _ _ rfl fun i c x h1 h2 => ?_)) (by simp) (Aft.done (by simp) ?_)
      · match i, h1, h2 with
        | 0, h1, h2 => cases h1; cases h2; exact .inl ⟨rfl, rfl⟩
        | 1, h1, h2 => cases h1; cases h2; exact .inr ⟨⟨by simp, by simp⟩, ⟨rfl, rfl⟩⟩
        | 2, h1, h2 => cases h1; cases h2; exact .inr ⟨⟨by simp, by simp⟩, ⟨rfl, rfl⟩⟩
        | 3, h1, h2 => cases h1; cases h2; exact .inr ⟨⟨by simp, by simp⟩, ⟨rfl, rfl⟩⟩
      refine Sim.exec hmix hΓ (n := 0) (by simp; exact ⟨rfl, rfl, rfl⟩) (by simp) ?_
      exact ⟨.inr rfl, _, by simp [Try.f88] <;> rfl, Weak.mk' [0, 1, 2, 3] (by decide) (by decide) (by simp) (by simp [AWb])⟩
  | some v =>
    rw [hg2] at hf2
    simp only [Option.map_some, Nat.zero_add] at hf2
    have hs2 := ents_set (v := n) hg2
    refine SimR.one hΓ _ rfl (by kernel_rfl) (by simp (decide := true) [hX, doInl, mapDelA, Try.f90, hf, hd, hf2, hs2]; exact ⟨rfl, rfl⟩) ?_
    refine SimR.done rfl ?_
    dsimp only
    refine Sim.aft (Aft.closeFA f (.ren a b n) f.last 0 4 5 (q + 9) 7 [1, 2, 3] (y := .slice (q + 9) 0 (k0 + 1) 2 false) ?_ ?_ ?_ ?_ ?_ ?_ ?_ ?_ ?_ ?_ (by simp) ?_)
    · rfl
    · simp [AW, ek]
    · rfl
    · exact rfl
    · rw [eR, show q + 9 = ((((((((X.length + 2) + 1) + 1) + 1) + 1) + 1) + 1) + 1) by omega]
      simp [DAct.fn]
    · intro i B hB
      rw [eX] at hB
      have h3 : i < X.length := (List.getElem?_eq_some_iff.1 hB).1
      rw [show 7 + i = (((((((i + 1) + 1) + 1) + 1) + 1) + 1) + 1) by omega]
      simp only [List.getElem?_cons_succ]
      rw [List.getElem?_append_left h3]
      exact hB
    · intro i c B h1 h2
      match i, h1, h2 with
      | 0, h1, h2 => cases h1; cases h2; rfl
      | 1, h1, h2 => cases h1; cases h2; rfl
      | 2, h1, h2 => cases h1; cases h2; rfl
    · rfl
    · simp <;> omega
    · intro c hc
      rw [eq]
      simp only [List.mem_cons, List.not_mem_nil, or_false] at hc
      omega
    · refine Aft.weak (Fn := List.replicate 39 .top) (Hn := [.obj true (⟨f.d, f.acts ++ [.ren a b n], f.last⟩ : FD).blks, .obj false [.cells true [.str a]], .obj false [.cells true [.int .i64 n]], .obj false [.cells true [.str b]]]) (Weak.mk' [0, 1, 2, 3] (by decide) (by decide) (AWs_tops _ _ _ rfl) (AWg_closed (b := 0) (by simp) _ _ rfl fun i c x h1 h2 => ?_)) (by simp) (Aft.done (by simp) ?_)
      · match i, h1, h2 with
        | 0, h1, h2 => cases h1; cases h2; exact .inl ⟨rfl, rfl⟩
        | 1, h1, h2 => cases h1; cases h2; exact .inr ⟨⟨by simp, by simp⟩, ⟨rfl, rfl⟩⟩
        | 2, h1, h2 => cases h1; cases h2; exact .inr ⟨⟨by simp, by simp⟩, ⟨rfl, rfl⟩⟩
        | 3, h1, h2 => cases h1; cases h2; exact .inr ⟨⟨by simp, by simp⟩, ⟨rfl, rfl⟩⟩
      refine Sim.exec hmix hΓ (n := 0) (by simp; exact ⟨rfl, rfl, rfl⟩) (by simp) ?_
      exact ⟨.inr rfl, _, by simp [Try.f88] <;> rfl, Weak.mk' [0, 1, 2, 3] (by decide) (by decide) (by simp) (by simp [AWb])⟩

set_option maxHeartbeats 8000000 in
theorem do_rem_ct (f : FD) (k : List UInt8) (n : Int) (hg : NM.get f.now k = some n) (hok : f.acts.length ≤ 1000000) :
    Ct Try.prog 88 [.ptr 0 0, .str [114, 101, 109, 111, 118, 101], .func 91 [] [.ptr 1 0]] (.obj true f.blks :: [boxA (.str k)]) (.int .i64 0) (.obj true (⟨f.d, f.acts ++ [.rem k], f.last⟩ : FD).blks :: [boxA (.str k)]) := by
  have hΓ := doΓ_ok
  simp only [boxA]
  refine ct_of_sim Try.func88 rfl ?_
  simp only [Try.ntmps88, List.length_cons, List.length_nil, Nat.reduceAdd, Nat.reduceSub, List.replicate, List.cons_append, List.nil_append]
  refine Sim.aft (Aft.open (b := 0) rfl (by simp) (Aft.done (by simp [openH]) ?_))
  rw [open_fd]
  simp only [List.length_cons, List.length_nil, Nat.reduceAdd, List.set_cons_zero, List.cons_append, List.nil_append]
  obtain ⟨R, eR⟩ : ∃ R, rowD (fun i => 2+3 + i) 0 f.acts = R := ⟨_, rfl⟩
  simp only [Nat.reduceAdd] at eR
  obtain ⟨X, eX⟩ : ∃ X, boxesD f.acts = X := ⟨_, rfl⟩
  obtain ⟨k0, ek⟩ : ∃ k, f.acts.length = k := ⟨_, rfl⟩
  obtain ⟨q, eq⟩ : ∃ q, nbD f.acts = q := ⟨_, rfl⟩
  have hR : R.length = k0 * 2 := by rw [← eR, ← ek]; simp
  have hX : X.length = q := by rw [← eX, ← eq, boxesD_length]
  rw [eR, eX, ek]
  rw [ek] at hok
  have b1 : (k0 + 1) * 24 ≤ 140737488355328 := by omega
  have b2 : k0 + 1 ≤ 9223372036854775807 := by omega
  have tR : R.take (k0 * 2) = R := List.take_of_length_le (by omega)
  have hf := find_ents k f.now 0
  rw [hg] at hf
  simp only [Option.map_some, Nat.zero_add] at hf
  have hd := ents_del hg
  refine Sim.step hmix hΓ (n := 0) (by simp; exact ⟨rfl, rfl⟩) (by simp) ?_
  refine Sim.step hmix hΓ (n := 0) (by simp [hX]; exact ⟨rfl, rfl⟩) (by simp) ?_
  refine Sim.step hmix hΓ (n := 0) (by simp (decide := true) [appendC, appendC0, hX, hR, tR, b1, b2]; first | exact ⟨rfl, rfl⟩ | exact ⟨by kernel_rfl, rfl, rfl⟩) (by simp) ?_
  refine Sim.seq (Sim.draw hmix (by simp) ?_)
  refine SimR.many hΓ 6 (by simp [stageOps]; rfl) (by omega) (by kernel_rfl) (by simp (decide := true) [hX]; first | exact ⟨rfl, rfl⟩ | exact ⟨by kernel_rfl, rfl, rfl⟩) ?_
  refine SimR.one hΓ _ rfl (by kernel_rfl) (by simp (decide := true) [hX, doInl, mapDelA, Try.f91, hf, hd]; exact ⟨rfl, rfl⟩) ?_
  refine SimR.done rfl ?_
  dsimp only
  refine Sim.aft (Aft.closeFA f (.rem k) f.last 0 2 3 (q + 7) 5 [1] (y := .slice (q + 7) 0 (k0 + 1) 2 false) ?_ ?_ ?_ ?_ ?_ ?_ ?_ ?_ ?_ ?_ (by simp) ?_)
  · rfl
  · simp [AW, ek]
  · rfl
  · exact rfl
  · rw [eR, show q + 7 = ((((((X.length + 2) + 1) + 1) + 1) + 1) + 1) by omega]
    simp [DAct.fn]
  · intro i B hB
    rw [eX] at hB
    have h3 : i < X.length := (List.getElem?_eq_some_iff.1 hB).1
    rw [show 5 + i = (((((i + 1) + 1) + 1) + 1) + 1) by omega]
    simp only [List.getElem?_cons_succ]
    rw [List.getElem?_append_left h3]
    exact hB
  · intro i c B h1 h2
    match i, h1, h2 with
    | 0, h1, h2 => cases h1; cases h2; rfl
  · rfl
  · simp <;> omega
  · intro c hc
    rw [eq]
    simp only [List.mem_cons, List.not_mem_nil, or_false] at hc
    omega
  · refine Aft.weak (Fn := List.replicate 39 .top) (Hn := [.obj true (⟨f.d, f.acts ++ [.rem k], f.last⟩ : FD).blks, .obj false [.cells true [.str k]]]) (Weak.mk' [0, 1] (by decide) (by decide) (AWs_tops _ _ _ rfl) (AWg_closed (b := 0) (by simp) _ _ rfl fun i c x h1 h2 => ?_)) (by simp) (Aft.done (by simp) ?_)
    · match i, h1, h2 with
      | 0, h1, h2 => cases h1; cases h2; exact .inl ⟨rfl, rfl⟩
      | 1, h1, h2 => cases h1; cases h2; exact .inr ⟨⟨by simp, by simp⟩, ⟨rfl, rfl⟩⟩
    refine Sim.exec hmix hΓ (n := 0) (by simp; exact ⟨rfl, rfl, rfl⟩) (by simp) ?_
    exact ⟨.inr rfl, _, by simp [Try.f88] <;> rfl, Weak.mk' [0, 1] (by decide) (by decide) (by simp) (by simp [AWb])⟩

end Go.Proofs.Ytjolihoakdifoaa
