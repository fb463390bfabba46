/- Contracts of a file's methods: Append, Cut. -/
import Derived.Test.YtjolihoakdifoaaFo
namespace Go.Proofs.Ytjolihoakdifoaa
open Go
set_option maxRecDepth 100000
attribute [-simp] drawOk_eq adraw qrun acode aops

def fiInl : List FuncId := [41, 42, 43, 85, 44, 40, 83]
theorem fiΓ_ok : GOk Try.prog (runG Try.prog (gams [(19, joinS)]) 0 fiInl 4) := gok_run hmix (goks_cons join_sound goks_nil) 0 fiInl 4

def PF.add (f : PF) (m : List UInt8) : PF := if m = [] then f else ⟨f.d, f.acts ++ [.add m]⟩

set_option maxHeartbeats 4000000 in
theorem fappend_ct (f : PF) (l : List AV) (off n : Nat) (c : Bool) (a : List (List UInt8)) (hAl : ∀ rn, AWs rn l l) (hrs : rowStrs [.obj true f.blks, .cells false l] (.sl 1 off n 1 c) = some a) (hm : a.flatten.length ≤ 1000000000000 ∧ a.length ≤ 1000000000000) (hn : f.now.length ≤ 1000000000000) (hk : f.acts.length ≤ 1000000000000) :
    Ct Try.prog 8 [.ptr 0 0, .sl 1 off n 1 c] [.obj true f.blks, .cells false l] (.int .i64 0) [.obj true (f.add a.flatten).blks, .cells false l] := by
  have hΓ := fiΓ_ok
  have j3 : (a.map List.length).sum ≤ 140737488355328 := by rw [← List.length_flatten]; omega
  obtain ⟨m, em⟩ : ∃ m, a.flatten = m := ⟨_, rfl⟩
  rw [em] at hm ⊢
  have j1 : m.length ≤ 140737488355328 ∧ a.length ≤ 140737488355328 := by omega
  obtain ⟨B, eB⟩ : ∃ B, f.blks = B := ⟨_, rfl⟩
  rw [eB] at hrs
  refine ct_of_sim Try.func8 rfl ?_
  simp only [Try.ntmps8, List.length_cons, List.length_nil, Nat.reduceAdd, Nat.reduceSub, List.replicate, List.cons_append, List.nil_append]
  rw [eB]
  refine Sim.step hmix hΓ (n := 0) (by simp; exact ⟨rfl, rfl⟩) (by simp) ?_
  refine Sim.step hmix hΓ (n := 0) (by simp; exact ⟨rfl, rfl⟩) (by simp) ?_
  refine Sim.seq (Sim.step hmix hΓ (n := 0) (by simp [fiInl, joinS, hrs, em, j1, j3]; exact ⟨rfl, rfl⟩) (by simp) ?_)
  by_cases h0 : m = []
  · subst h0
    refine Sim.exec hmix hΓ (n := 0) (by simp; exact ⟨rfl, rfl, rfl⟩) (by simp) ?_
    dsimp only
    refine Sim.exec hmix hΓ (n := 0) (by simp; exact ⟨rfl, rfl, rfl⟩) (by simp) ?_
    exact ⟨.inr rfl, _, by simp [Try.f8] <;> rfl, Weak.mk' [0, 1] (by decide) (by decide) (by simp) (by simp [PF.add, eB, AWb, hAl])⟩
  have h0' : 0 < m.length := List.length_pos_iff.2 h0
  refine Sim.step hmix hΓ (n := 0) (by simp; exact ⟨rfl, rfl⟩) (by simp) ?_
  rw [← eB]
  refine Sim.aft (Aft.open (b := 0) rfl (by simp) (Aft.done (by simp [openH]) ?_))
  rw [open_file]
  obtain ⟨R, eR⟩ : ∃ R, rowF (List.length [ABlk.cells false l, ABlk.cells true [AV.str m]] + 2) f.acts = R := ⟨_, rfl⟩
  obtain ⟨X, eX⟩ : ∃ X, f.acts.map FAct.box = X := ⟨_, rfl⟩
  have hR : R.length = f.acts.length := by rw [← eR]; simp
  have hX : X.length = f.acts.length := by rw [← eX]; simp
  rw [eR, eX]
  obtain ⟨k, ek⟩ : ∃ k, f.acts.length = k := ⟨_, rfl⟩
  obtain ⟨s, es⟩ : ∃ s, f.now = s := ⟨_, rfl⟩
  rw [ek] at hR hX hk ⊢
  rw [es] at hn ⊢
  have b1 : (k + 1) * 8 ≤ 140737488355328 := by omega
  have b2 : k + 1 ≤ 9223372036854775807 := by omega
  have c1 : m.length ≤ 140737488355328 := by omega
  have c2 : (m.length : Int) < 4611686018427387904 := by omega
  have c3 : ¬ (4611686018427387904 : Int) < (m.length : Int) := by omega
  have c4 : s.length + m.length ≤ 9223372036854775807 := by omega
  have tR : R.take k = R := List.take_of_length_le (by omega)
  refine Sim.exec hmix hΓ (n := 0) (by simp (decide := true) [fiInl, Try.f41, Try.f42, Try.f43, Try.f83, h0, h0', hR, hX, tR, b1, b2, c2, c4]; exact ⟨rfl, rfl, rfl⟩) (by simp) ?_
  dsimp only
  have hadd : f.add m = f.did (.add m) := by unfold PF.add PF.did; rw [if_neg h0]
  have eR2 : R = rowF 4 f.acts := by rw [← eR]; rfl
  refine Sim.aft (Aft.freeze 2 (.str m) rfl (fun _ => rfl) (by simp) ?_)
  simp only [List.set_cons_succ, List.set_cons_zero]
  refine Aft.closeA f (.add m) 0 (k + 5) 4 2 (x := .slice (k + 1 + 1 + 1 + 1 + 1) 0 (k + 1) 1 false) ?_ ?_ ?_ ?_ ?_ (by omega) (by simp) ?_
  · simp [FAct.run, es]
  · simp [AW, ek]
  · rw [← eR2, show k + 5 = (X.length + 1) + 1 + 1 + 1 + 1 by omega]
    simp [FAct.fn]
  · intro i a' h2
    have h3 : i < X.length := by rw [hX, ← ek]; exact (List.getElem?_eq_some_iff.1 h2).1
    rw [show 4 + i = i + 1 + 1 + 1 + 1 by omega]
    simp only [List.getElem?_cons_succ]
    rw [List.getElem?_append_left h3, ← eX, List.getElem?_map, h2]
    rfl
  · rfl
  rw [← hadd]
  refine Aft.weak (Fn := List.replicate 15 .top) (Hn := [.obj true (f.add m).blks, .cells false l]) (Weak.mk' [0, 1] (by decide) (by decide) (AWs_tops _ _ _ rfl) (AWg_closed (b := 0) (by simp) _ _ rfl fun i c x h1 h2 => ?_)) (by simp) (Aft.done (by simp) ?_)
  · match i, h1, h2 with
    | 0, h1, h2 => cases h1; cases h2; exact .inl ⟨rfl, rfl⟩
    | 1, h1, h2 =>
      cases h1; cases h2
      refine .inr ⟨⟨by simp, by simp⟩, ?_⟩
      simp [AWb, hAl]
  refine Sim.exec hmix hΓ (n := 0) (by simp; exact ⟨rfl, rfl, rfl⟩) (by simp) ?_
  exact ⟨.inr rfl, _, by simp [Try.f8] <;> rfl, Weak.mk' [0, 1] (by decide) (by decide) (by simp) (by simp [AWb, hAl])⟩

/-- A cut, its answer. -/
def PF.cut (f : PF) (n : Int) : PF × Int := if n < 0 ∨ (f.now.length : Int) < n then (f, 17) else if n < f.now.length then (⟨f.d, f.acts ++ [.cut n.toNat]⟩, 0) else (f, 0)

set_option maxHeartbeats 4000000 in
theorem fcut_ct (f : PF) (n : Int) (_hn : f.now.length ≤ 1000000000000) (hk : f.acts.length ≤ 1000000000000) :
    Ct Try.prog 47 [.ptr 0 0, .int .i64 n] [.obj true f.blks] (.int .i64 (f.cut n).2) [.obj true (f.cut n).1.blks] := by
  have hΓ := fiΓ_ok
  refine ct_of_sim Try.func47 rfl ?_
  simp only [Try.ntmps47, List.length_cons, List.length_nil, Nat.reduceAdd, Nat.reduceSub, List.replicate, List.cons_append, List.nil_append]
  obtain ⟨B, eB⟩ : ∃ B, f.blks = .cells true [.str f.d, .sl 1 0 f.acts.length 1 false, .str f.now] :: B := ⟨_, rfl⟩
  obtain ⟨s, es⟩ : ∃ s, f.now = s := ⟨_, rfl⟩
  rw [es] at eB
  unfold PF.cut
  rw [es, eB]
  refine Sim.step hmix hΓ (n := 0) (by simp; exact ⟨rfl, rfl⟩) (by simp) ?_
  by_cases h1 : n < 0
  · rw [if_pos (.inl h1)]
    refine Sim.exec hmix hΓ (n := 0) (by simp (decide := true) [h1]; exact ⟨rfl, rfl, rfl⟩) (by simp) ?_
    exact ⟨.inr rfl, _, by simp [Try.f47] <;> rfl, Weak.mk' [0] (by decide) (by decide) (by simp) (by simp [AWb, eB])⟩
  by_cases h2 : (s.length : Int) < n
  · rw [if_pos (.inr h2)]
    refine Sim.exec hmix hΓ (n := 0) (by simp (decide := true) [h1, h2]; exact ⟨rfl, rfl, rfl⟩) (by simp) ?_
    exact ⟨.inr rfl, _, by simp [Try.f47] <;> rfl, Weak.mk' [0] (by decide) (by decide) (by simp) (by simp [AWb, eB])⟩
  rw [if_neg (by omega)]
  by_cases h3 : n < s.length
  rotate_left
  · rw [if_neg h3]
    refine Sim.exec hmix hΓ (n := 0) (by simp (decide := true) [h1, h2, h3]; exact ⟨rfl, rfl, rfl⟩) (by simp) ?_
    exact ⟨.inr rfl, _, by simp [Try.f47] <;> rfl, Weak.mk' [0] (by decide) (by decide) (by simp) (by simp [AWb, eB])⟩
  rw [if_pos h3]
  rw [← eB]
  refine Sim.aft (Aft.open (b := 0) rfl (by simp) (Aft.done (by simp [openH]) ?_))
  rw [open_file, es]
  obtain ⟨R, eR⟩ : ∃ R, rowF (List.length [ABlk.cells true [AV.int .i64 n]] + 2) f.acts = R := ⟨_, rfl⟩
  obtain ⟨X, eX⟩ : ∃ X, f.acts.map FAct.box = X := ⟨_, rfl⟩
  have hR : R.length = f.acts.length := by rw [← eR]; simp
  have hX : X.length = f.acts.length := by rw [← eX]; simp
  rw [eR, eX]
  obtain ⟨k, ek⟩ : ∃ k, f.acts.length = k := ⟨_, rfl⟩
  rw [ek] at hR hX hk ⊢
  have b1 : (k + 1) * 8 ≤ 140737488355328 := by omega
  have b2 : k + 1 ≤ 9223372036854775807 := by omega
  have c0 : 0 ≤ n := by omega
  have c1 : n ≤ (s.length : Int) := by omega
  have tR : R.take k = R := List.take_of_length_le (by omega)
  refine Sim.seq (Sim.mono (Q := fun e F' H' => e = .normal ∧ Weak 1 F' H' (List.replicate 31 .top) [.obj true (⟨f.d, f.acts ++ [.cut n.toNat]⟩ : PF).blks]) ?_ ?_)
  rotate_left
  · rintro e F' H' hl ⟨rfl, hw⟩
    dsimp only
    refine Sim.weak hw hl ?_
    refine Sim.exec hmix hΓ (n := 0) (by simp; exact ⟨rfl, rfl, rfl⟩) (by simp) ?_
    exact ⟨.inr rfl, _, by simp [Try.f47] <;> rfl, Weak.mk' [0] (by decide) (by decide) (by simp) (by simp [AWb])⟩
  refine Sim.after (Sim.exec hmix hΓ (n := 0) (by simp (decide := true) [fiInl, Try.f41, Try.f85, Try.f83, h1, h2, h3, hR, hX, tR, b1, b2, c0, c1]; exact ⟨rfl, rfl, rfl⟩) (by simp) ?_)
  have eR2 : R = rowF 3 f.acts := by rw [← eR]; rfl
  have en : (n.toNat : Int) = n := by omega
  refine Aft.freeze 1 (.int .i64 n) rfl (fun _ => ⟨rfl, rfl⟩) (by simp) ?_
  simp only [List.set_cons_succ, List.set_cons_zero]
  refine Aft.closeA f (.cut n.toNat) 0 (k + 4) 3 1 (x := .slice (k + 1 + 1 + 1 + 1) 0 (k + 1) 1 false) ?_ ?_ ?_ ?_ ?_ (by omega) (by simp) ?_
  · simp [FAct.run, es]
  · simp [AW, ek]
  · rw [← eR2, show k + 4 = (X.length + 1) + 1 + 1 + 1 by omega]
    simp [FAct.fn]
  · intro i a' h2
    have h3 : i < X.length := by rw [hX, ← ek]; exact (List.getElem?_eq_some_iff.1 h2).1
    rw [show 3 + i = i + 1 + 1 + 1 by omega]
    simp only [List.getElem?_cons_succ]
    rw [List.getElem?_append_left h3, ← eX, List.getElem?_map, h2]
    rfl
  · simp [FAct.box, en]
  exact Aft.done (by simp) ⟨by first | rfl | trivial, Weak.mk' [0] (by decide) (by decide) (AWs_tops _ _ _ (by simp)) (AWg_closed (b := 0) (by simp) _ _ rfl fun i c x h1 h2 => by
    match i, h1, h2 with
    | 0, h1, h2 => cases h1; cases h2; exact .inl ⟨rfl, rfl⟩)⟩

end Go.Proofs.Ytjolihoakdifoaa
