/- Manifests that are made: cedillalaw23's mod and made. -/
import Derived.Test.YtbbgmaklmlagcaaMh
namespace Go.Proofs.Ytbbgmaklmlagcaa
open Go
set_option maxRecDepth 100000
attribute [-simp] drawOk_eq adraw qrun acode aops

def modI (n m : Int) : Int := (n.tmod m + m).tmod m

theorem modI_rng (n m : Int) (hm : 0 < m) : 0 ≤ modI n m ∧ modI n m < m := by
  have h1 := Int.lt_tmod_of_pos n hm
  have h2 := Int.tmod_lt_of_pos n hm
  unfold modI
  have h3 := Int.tmod_lt_of_pos (n.tmod m + m) hm
  exact ⟨Int.tmod_nonneg m (by omega), h3⟩

theorem mod_ct (n m : Int) (h0 : 0 < m) (h1 : m ≤ 4611686018427387904) : Ct Try.prog 24 [.int .i64 n, .int .i64 m] [] (.int .i64 (modI n m)) [] := by
  have g1 := Int.lt_tmod_of_pos n h0
  have g2 := Int.tmod_lt_of_pos n h0
  have hw : IntKind.i64.wrap (n.tmod m + m) = n.tmod m + m := wr_i64 (by omega) (by omega)
  have hm : ¬ m = 0 := by omega
  refine ct_val hmix goks_nil (n := 0) Try.func24 ?_ (by simp)
  unfold Try.f24
  simp [hm, hw, modI]

def modS : Summ := pureS fun | [.int .i64 n, .int .i64 m] => if 0 < m ∧ m ≤ 4611686018427387904 then some (.int .i64 (modI n m)) else none | _ => none
theorem mod_sound : Sound Try.prog 24 modS := by
  refine sound_pure (enter_of Try.func24 rfl (by decide)) fun args v h => ?_
  split at h <;> try cases h
  split at h <;> cases h
  rename_i hc
  exact ⟨mod_ct _ _ hc.1 hc.2, by simp, by simp⟩

/-- A segment that is made, at its place. -/
def mkS (s : Sg) (i : Nat) : Sg := (20 * modI s.1 1000000 + i + 1, 1 + modI s.2.1 100000, 1 + modI s.2.2 1000000000)
def mkSs : List Sg → Nat → List Sg
  | [], _ => []
  | s :: l, i => mkS s i :: mkSs l (i + 1)

@[simp] theorem mkSs_length : ∀ (l : List Sg) (i : Nat), (mkSs l i).length = l.length
  | [], _ => rfl
  | s :: l, i => by simp [mkSs, mkSs_length l]

theorem mkSs_snoc (x : Sg) : ∀ (l : List Sg) (i : Nat), mkSs (l ++ [x]) i = mkSs l i ++ [mkS x (i + l.length)]
  | [], i => by simp [mkSs]
  | s :: l, i => by
    simp only [List.cons_append, mkSs, mkSs_snoc x l (i + 1), List.length_cons]
    rw [show i + 1 + l.length = i + (l.length + 1) by omega]

def Mf.made (m : Mf) : Mf := ⟨modI m.v 900000001, 1 + modI m.f 900000000, 20000100 + modI m.n 800000000, mkSs (m.segs.take 20) 0⟩

theorem mkSs_mem : ∀ (l : List Sg) (i : Nat) (x : Sg), x ∈ mkSs l i → ∃ (s : Sg) (k : Nat), x = mkS s k ∧ i ≤ k ∧ k < i + l.length
  | [], i, x, h => by simp [mkSs] at h
  | s :: l, i, x, h => by
    simp only [mkSs, List.mem_cons] at h
    rcases h with rfl | h
    · exact ⟨s, i, rfl, Nat.le_refl _, by simp⟩
    · obtain ⟨s', k, h1, h2, h3⟩ := mkSs_mem l (i + 1) x h
      exact ⟨s', k, h1, by omega, by simp; omega⟩

theorem mkS_fst (s s' : Sg) (i k : Nat) (hi : i < 20) (hk : k < 20) (h : (mkS s i).1 = (mkS s' k).1) : i = k := by
  have h1 := modI_rng s.1 1000000 (by omega)
  have h2 := modI_rng s'.1 1000000 (by omega)
  simp only [mkS] at h
  omega

theorem mkSs_nodup : ∀ (l : List Sg) (i : Nat), i + l.length ≤ 20 → (numsS (mkSs l i)).Nodup
  | [], i, _ => by simp [mkSs, numsS]
  | s :: l, i, h => by
    have e : numsS (mkSs (s :: l) i) = (mkS s i).1 :: numsS (mkSs l (i + 1)) := rfl
    rw [e, List.nodup_cons]
    simp at h
    refine ⟨fun hm => ?_, mkSs_nodup l (i + 1) (by omega)⟩
    obtain ⟨x, hx, e2⟩ := List.mem_map.1 hm
    obtain ⟨s', k, rfl, h1, h2⟩ := mkSs_mem l (i + 1) x hx
    have := mkS_fst s' s k i (by omega) (by omega) e2
    omega

theorem Mf.made_right (m : Mf) : m.made.right = true := by
  unfold Mf.right Mf.counts Mf.made
  have h1 := modI_rng m.v 900000001 (by omega)
  have h2 := modI_rng m.f 900000000 (by omega)
  have h3 := modI_rng m.n 800000000 (by omega)
  simp only [Bool.and_eq_true, decide_eq_true_eq]
  refine ⟨by omega, by simp; omega, ?_, mkSs_nodup _ 0 (by simp; omega)⟩
  rw [List.all_eq_true]
  intro x hx
  obtain ⟨s, k, rfl, _, hk⟩ := mkSs_mem _ _ _ hx
  have g1 := modI_rng s.1 1000000 (by omega)
  have g2 := modI_rng s.2.1 100000 (by omega)
  have g3 := modI_rng s.2.2 1000000000 (by omega)
  simp at hk
  simp only [Sg.ok, mkS, decide_eq_true_eq]
  exact decide_eq_true (by omega)

theorem mdΓ_ok : GOk Try.prog (gams [(24, modS)]) := goks_cons mod_sound goks_nil

theorem sgs_snd (l : List Sg) (k : Nat) (x : Sg) (h : l[k]? = some x) : (sgsA l)[k * 3 + 1]? = some (.int .i64 x.2.1) ∧ (sgsA l)[k * 3 + 2]? = some (.int .i64 x.2.2) := by
  have hk := (List.getElem?_eq_some_iff.1 h).1
  have g := sgs_get l k hk
  rw [(List.getElem?_eq_some_iff.1 h).2] at g
  have e : ∀ i, i < 3 → (sgsA l)[k * 3 + i]? = (sgA x)[i]? := by
    intro i hi
    rw [← g, List.getElem?_take, if_pos hi, List.getElem?_drop]
  exact ⟨by rw [e 1 (by omega)]; rfl, by rw [e 2 (by omega)]; rfl⟩

set_option maxHeartbeats 8000000 in
theorem made_ct (m : Mf) : Ct Try.prog 20 [mfA 0 m] [.cells false (sgsA m.segs)] (mfA 1 m.made) [.cells false (sgsA m.segs), .cells true (sgsA m.made.segs)] := by
  have hΓ := mdΓ_ok
  unfold Mf.made mfA
  obtain ⟨mv, mf, mn, l⟩ := m
  simp only
  refine ct_of_sim Try.func20 rfl ?_
  simp only [Try.ntmps20, List.length_cons, List.length_nil, Nat.reduceAdd, Nat.reduceSub, List.replicate, List.cons_append, List.nil_append]
  have h2 := modI_rng mf 900000000 (by omega)
  have h3 := modI_rng mn 800000000 (by omega)
  have w1 : IntKind.i64.wrap (1 + modI mf 900000000) = 1 + modI mf 900000000 := wr_i64 (by omega) (by omega)
  have w2 : IntKind.i64.wrap (20000100 + modI mn 800000000) = 20000100 + modI mn 800000000 := wr_i64 (by omega) (by omega)
  refine Sim.step hmix hΓ (n := 0) (by simp; exact ⟨rfl, rfl⟩) (by simp) ?_
  refine Sim.step hmix hΓ (n := 0) (by simp (decide := true) [modS, w1]; exact ⟨rfl, rfl⟩) (by simp) ?_
  refine Sim.seq (Sim.step hmix hΓ (n := 0) (by simp; exact ⟨rfl, rfl⟩) (by simp) ?_)
  refine Sim.block (Sim.loopW (fun k : Nat => k ≤ l.length ∧ k ≤ 20)
    (fun k => [.top, .ptr 1 0, .ptr 2 0, .ptr 3 0, .int .i64 k] ++ List.replicate 58 .top)
    (fun k => [.cells false (sgsA l), .cells true [.int .i64 mv, .int .i64 mf, .int .i64 mn, .sl 0 0 l.length 3 false], .cells true [.int .i64 0, .int .i64 0, .int .i64 0, .nils], .cells true [.int .i64 (modI mv 900000001), .int .i64 (1 + modI mf 900000000), .int .i64 0, .sl 4 0 k 3 false], .cells true (sgsA (mkSs (l.take k) 0))]) (fun k => l.length - k) 0 (by simp) (by simp) (Weak.mk' [0, 1, 2, 3, 100] (by decide) (by decide) (by simp) (by simp [mkSs, sgsA])) fun k hk => ?_)
  obtain ⟨hk, hk20⟩ := hk
  have hend : ¬ (k < l.length ∧ k < 20) → l.take k = l.take 20 ∧ k = min l.length 20 := by
    intro h
    rcases Nat.lt_or_ge k 20 with h1 | h1
    · rw [List.take_of_length_le (by omega), List.take_of_length_le (by omega)]; exact ⟨rfl, by omega⟩
    · rw [show k = 20 by omega]; exact ⟨rfl, by omega⟩
  by_cases hlt : k < l.length ∧ k < 20
  · obtain ⟨c1, c2⟩ := hlt
    have c2' : (k : Int) < 20 := by omega
    obtain ⟨x, hx⟩ : ∃ x, l[k]? = some x := ⟨_, List.getElem?_eq_getElem c1⟩
    have e : mkSs (l.take (k + 1)) 0 = mkSs (l.take k) 0 ++ [mkS x k] := by
      rw [List.take_add_one, hx, Option.toList_some, mkSs_snoc]; simp; congr 1; omega
    obtain ⟨L, eL⟩ : ∃ L, mkSs (l.take k) 0 = L := ⟨_, rfl⟩
    have hL : L.length = k := by rw [← eL]; simp; omega
    rw [eL] at e ⊢
    have q1 : ∀ h, (sgsA l)[k * 3]'h = .int .i64 x.1 := fun h => by have := sgs_fst l k x hx; rw [List.getElem?_eq_getElem h] at this; simpa using this
    have q2 : ∀ h, (sgsA l)[k * 3 + 1]'h = .int .i64 x.2.1 := fun h => by have := (sgs_snd l k x hx).1; rw [List.getElem?_eq_getElem h] at this; simpa using this
    have q3 : ∀ h, (sgsA l)[k * 3 + 2]'h = .int .i64 x.2.2 := fun h => by have := (sgs_snd l k x hx).2; rw [List.getElem?_eq_getElem h] at this; simpa using this
    have g1 := modI_rng x.1 1000000 (by omega)
    have g2 := modI_rng x.2.1 100000 (by omega)
    have g3 := modI_rng x.2.2 1000000000 (by omega)
    have y1 : IntKind.i64.wrap (20 * modI x.1 1000000) = 20 * modI x.1 1000000 := wr_i64 (by omega) (by omega)
    have y2 : IntKind.i64.wrap (20 * modI x.1 1000000 + k) = 20 * modI x.1 1000000 + k := wr_i64 (by omega) (by omega)
    have y3 : IntKind.i64.wrap (20 * modI x.1 1000000 + k + 1) = 20 * modI x.1 1000000 + k + 1 := wr_i64 (by omega) (by omega)
    have y4 : IntKind.i64.wrap (1 + modI x.2.1 100000) = 1 + modI x.2.1 100000 := wr_i64 (by omega) (by omega)
    have y5 : IntKind.i64.wrap (1 + modI x.2.2 1000000000) = 1 + modI x.2.2 1000000000 := wr_i64 (by omega) (by omega)
    have y6 : IntKind.i64.wrap ((k : Int) + 1) = k + 1 := wr_i64 (by omega) (by omega)
    have z1 : k * 3 + 1 < l.length * 3 := by omega
    have z2 : k * 3 + 2 < l.length * 3 := by omega
    have tkL : (sgsA L).take (k * 3) = sgsA L := List.take_of_length_le (by simp; omega)
    have b1 : (k + 1) * 24 ≤ 140737488355328 := by omega
    have b2 : k + 1 ≤ 9223372036854775807 := by omega
    refine Sim.step hmix hΓ (n := 0) (by simp [c1, c2, c2']; exact ⟨rfl, rfl⟩) (by simp) ?_
    refine Sim.seq (Sim.block (Sim.draw hmix (by simp) ?_))
    refine SimR.many hΓ 31 (by simp [stageOps, blankOp]; rfl) (by omega) (by kernel_rfl) (by simp (decide := true) [modS, c1, q1, q2, q3, y1, y2, y3, y4, y5, z1, z2]; exact ⟨rfl, rfl⟩) ?_
    refine SimR.one hΓ _ rfl (by kernel_rfl) (by simp (decide := true) [hL, tkL, b1, b2]; exact ⟨rfl, rfl⟩) ?_
    refine SimR.many hΓ 34 (by simp [stageOps, blankOp]; rfl) (by omega) (by kernel_rfl) (by simp (decide := true); exact ⟨rfl, rfl⟩) ?_
    refine SimR.done rfl ?_
    dsimp only
    refine Sim.exec hmix hΓ (n := 0) (by simp [y6]; exact ⟨rfl, rfl, rfl⟩) (by simp) ?_
    exact ⟨k + 1, by omega, Weak.mk' [0, 1, 2, 3, 6] (by decide) (by decide) (by simp) (by simp [e, sgsA, sgA, mkS]), by omega⟩
  obtain ⟨e1, e2⟩ := hend hlt
  have hq : (if l.length < 20 then l.length else 20) = k := by split <;> omega
  by_cases c1 : k < l.length
  · have c2 : ¬ ((k : Int) < 20) := by omega
    refine Sim.exec hmix hΓ (n := 0) (by simp [c1, c2]; exact ⟨rfl, rfl, rfl⟩) (by simp) ?_
    dsimp only
    rw [if_pos rfl]
    refine Sim.step hmix hΓ (n := 0) (by simp [modS, w2]; exact ⟨rfl, rfl⟩) (by simp) ?_
    refine Sim.exec hmix hΓ (n := 0) (by simp; exact ⟨rfl, rfl, rfl⟩) (by simp) ?_
    exact ⟨.inr rfl, _, by simp [Try.f20] <;> rfl, Weak.mk' [0, 4] (by decide) (by decide) (by simp; omega) (by simp [e1])⟩
  · refine Sim.exec hmix hΓ (n := 0) (by simp [c1]; exact ⟨rfl, rfl, rfl⟩) (by simp) ?_
    dsimp only
    rw [if_pos rfl]
    refine Sim.step hmix hΓ (n := 0) (by simp [modS, w2]; exact ⟨rfl, rfl⟩) (by simp) ?_
    refine Sim.exec hmix hΓ (n := 0) (by simp; exact ⟨rfl, rfl, rfl⟩) (by simp) ?_
    exact ⟨.inr rfl, _, by simp [Try.f20] <;> rfl, Weak.mk' [0, 4] (by decide) (by decide) (by simp; omega) (by simp [e1])⟩

def madeS : Summ := readNewS fun args H => match args with
  | [x] => match mfOf H x with
    | some m => some (mfA 0 m.made, [.cells true (sgsA m.made.segs)])
    | _ => none
  | _ => none

theorem made_sound : Sound Try.prog 20 madeS := by
  refine sound_readNew (enter_of Try.func20 rfl (by decide)) fun args H v N h => ?_
  split at h <;> try cases h
  rename_i x
  split at h <;> try cases h
  rename_i m hx
  obtain ⟨b1, o1, w1, g1⟩ := mf_win hx
  refine ct_winN (H0 := [.cells false (sgsA m.segs)]) (args0 := [mfA 0 m]) ?_ rfl [(b1, o1)] ⟨w1 0 _ rfl, trivial⟩ ⟨g1, frees_sgs _, trivial⟩
  have := made_ct m
  simpa [mfA] using this

end Go.Proofs.Ytbbgmaklmlagcaa
