/- Contracts of a file's methods: New, Bytes, Durable, Len, Acts, ReadAt; summaries. -/
import Derived.Test.YtjolihoakdifoaaFq
namespace Go.Proofs.Ytjolihoakdifoaa
open Go
set_option maxRecDepth 100000
attribute [-simp] drawOk_eq adraw qrun acode aops

theorem blks_head (f : PF) : ∃ B, f.blks = .cells true [.str f.d, .sl 1 0 f.acts.length 1 false, .str f.now] :: B := ⟨_, rfl⟩

theorem fnew_ct (s : List UInt8) : Ct Try.prog 6 [.str s] [] (.ptr 0 0) [.obj true (⟨s, []⟩ : PF).blks] := by
  refine ct_of_sim Try.func6 rfl ?_
  simp only [Try.ntmps6, List.length_cons, List.length_nil, Nat.reduceAdd, Nat.reduceSub, List.replicate, List.cons_append, List.nil_append]
  refine Sim.after (Sim.exec hmix fiΓ_ok (n := 0) (by simp; exact ⟨rfl, rfl, rfl⟩) (by simp) ?_)
  refine Aft.closeD s 0 rfl (by simp) (Aft.done (by simp) ?_)
  exact ⟨.inr rfl, _, by simp [Try.f6] <;> rfl, Weak.mk' [0] (by decide) (by decide) (by simp) (AWg_closed (b := 0) (by simp) _ _ rfl fun i c x h1 h2 => by
    match i, h1, h2 with
    | 0, h1, h2 => cases h1; cases h2; exact .inl ⟨rfl, rfl⟩)⟩

theorem fbytes_ct (f : PF) : Ct Try.prog 55 [.ptr 0 0] [.obj true f.blks] (.str f.now) [.obj true f.blks] := by
  obtain ⟨B, eB⟩ := blks_head f
  rw [eB]
  refine ct_runE hmix fiΓ_ok (n := 0) Try.func55 ?_
  unfold Try.f55
  exact ⟨_, _, (by simp (decide := true); exact ⟨rfl, rfl⟩), Weak.mk' [0] (by decide) rfl (by simp) (by simp [AWb])⟩

theorem fbyΓ_ok : GOk Try.prog (runG Try.prog (gams []) 0 [55] 2) := gok_run hmix goks_nil 0 _ 2
theorem flen_ct (f : PF) : Ct Try.prog 56 [.ptr 0 0] [.obj true f.blks] (.int .i64 f.now.length) [.obj true f.blks] := by
  obtain ⟨B, eB⟩ := blks_head f
  rw [eB]
  refine ct_runE hmix fbyΓ_ok (n := 0) Try.func56 ?_
  unfold Try.f56
  exact ⟨_, _, (by simp (decide := true) [Try.f55]; exact ⟨rfl, rfl⟩), Weak.mk' [0] (by decide) rfl (by simp) (by simp [AWb])⟩

/-- What is read at a place. -/
def PF.readAt (f : PF) (a n : Int) : List UInt8 × Int := if a < 0 ∨ n < 0 ∨ (f.now.length : Int) < a then ([], 17) else ((f.now.drop a.toNat).take n.toNat, 0)

set_option maxHeartbeats 2000000 in
theorem freadAt_ct (f : PF) (a n : Int) (_hn : f.now.length ≤ 1000000000000) : Ct Try.prog 50 [.ptr 0 0, .int .i64 a, .int .i64 n] [.obj true f.blks] (.tuple [.str (f.readAt a n).1, .int .i64 (f.readAt a n).2]) [.obj true f.blks] := by
  obtain ⟨B, eB⟩ := blks_head f
  obtain ⟨s, es⟩ : ∃ s, f.now = s := ⟨_, rfl⟩
  unfold PF.readAt
  rw [eB, es]
  rw [es] at _hn
  refine ct_runE hmix fiΓ_ok (n := 0) Try.func50 ?_
  unfold Try.f50
  by_cases h1 : a < 0
  · exact ⟨_, _, (by simp (decide := true) [h1]; exact ⟨rfl, rfl⟩), Weak.mk' [0] (by decide) rfl (by simp [h1]) (by simp [AWb])⟩
  by_cases h2 : n < 0
  · exact ⟨_, _, (by simp (decide := true) [h1, h2]; exact ⟨rfl, rfl⟩), Weak.mk' [0] (by decide) rfl (by simp [h1, h2]) (by simp [AWb])⟩
  by_cases h3 : (s.length : Int) < a
  · exact ⟨_, _, (by simp (decide := true) [h1, h2, h3]; exact ⟨rfl, rfl⟩), Weak.mk' [0] (by decide) rfl (by simp [h1, h2, h3]) (by simp [AWb])⟩
  rw [if_neg (by omega)]
  have a0 : 0 ≤ a := by omega
  have a1 : a ≤ (s.length : Int) := by omega
  obtain ⟨k, ek⟩ : ∃ k, a.toNat = k := ⟨_, rfl⟩
  have hk : k ≤ s.length := by omega
  obtain ⟨z, ez⟩ : ∃ z : Nat, min n ((s.length - k : Nat) : Int) = z := ⟨(min n ((s.length - k : Nat) : Int)).toNat, by omega⟩
  have z1 : z ≤ s.length - k := by omega
  have z2 : (z : Int) ≤ ((s.length - k : Nat) : Int) := by omega
  have z3 : (s.drop k).take z = (s.drop k).take n.toNat := by
    by_cases hz : n.toNat ≤ s.length - k
    · rw [show z = n.toNat by omega]
    · rw [List.take_of_length_le (by simp; omega), List.take_of_length_le (by simp; omega)]
  refine ⟨_, _, (by simp (decide := true) [-minA, minA_min, h1, h2, h3, a0, a1, ek, ez, z2]; exact ⟨rfl, rfl⟩), Weak.mk' [0] (by decide) rfl (by simp [ek, List.take_take, Nat.min_eq_left z1, z3]) (by simp [AWb])⟩

/-- A file is closed as it was opened. -/
theorem Aft.closeS {n0 : Nat} {F : List AV} {K : List AV → AHeap → Prop} (f : PF) (T S : AHeap) (hn : n0 ≤ T.length + 2)
    (h : Aft n0 F (closeH (.cells true [.str f.d, .sl (T.length + 1) 0 f.acts.length 1 false, .str f.now] :: (T ++ .cells true (rowF (T.length + 2) f.acts) :: (f.acts.map FAct.box ++ S))) 0 [T.length + 1] true f.blks) K) :
    Aft n0 F (.cells true [.str f.d, .sl (T.length + 1) 0 f.acts.length 1 false, .str f.now] :: (T ++ .cells true (rowF (T.length + 2) f.acts) :: (f.acts.map FAct.box ++ S))) K := by
  refine Aft.closeF f 0 (T.length + 1) (List.range' (T.length + 2) f.acts.length) (o := true) (x := .sl (T.length + 1) 0 f.acts.length 1 false) rfl (by simp [AW]) ?_ (by simp) ?_ ?_ (by simp; omega) h
  · intro _
    rw [← rowF_N, List.getElem?_cons_succ, List.getElem?_append_right (Nat.le_refl _)]
    simp
  · intro i k a h1 h2
    have h3 : i < f.acts.length := (List.getElem?_eq_some_iff.1 h2).1
    rw [List.getElem?_range' h3] at h1
    simp only [Nat.one_mul, Option.some.injEq] at h1
    subst h1
    rw [show T.length + 2 + i = (T.length + (i + 1)) + 1 by omega, List.getElem?_cons_succ, List.getElem?_append_right (by omega)]
    rw [show T.length + (i + 1) - T.length = i + 1 by omega, List.getElem?_cons_succ, List.getElem?_append_left (by simpa using h3), List.getElem?_map, h2]
    rfl
  · simp only [List.nodup_cons, List.mem_cons, List.mem_range'_1]
    exact ⟨by omega, by omega, List.nodup_range'⟩

/-- Which file the blocks are. -/
noncomputable def fileD (sub : AHeap) : Option PF := open Classical in if h : ∃ f : PF, sub = f.blks then some h.choose else none
theorem fileD_eq {sub : AHeap} {f : PF} (h : fileD sub = some f) : sub = f.blks := by
  unfold fileD at h
  split at h
  · rename_i hx
    cases h
    exact hx.choose_spec
  · cases h
@[simp] theorem fileD_blks (f : PF) : fileD f.blks = some f := by
  unfold fileD
  rw [dif_pos ⟨f, rfl⟩]
  have := (show ∃ g : PF, f.blks = g.blks from ⟨f, rfl⟩).choose_spec
  have h2 := congrArg fileOf this
  rw [fileOf_blks, fileOf_blks] at h2
  exact h2.symm

end Go.Proofs.Ytjolihoakdifoaa
