/- A folder's contracts: Survive. -/
import Derived.Test.YtjolihoakdifoaaHi
namespace Go.Proofs.Ytjolihoakdifoaa
open Go Go.Lib
set_option maxRecDepth 100000
attribute [-simp] drawOk_eq adraw qrun acode aops

theorem set_at1 (B0 : ABlk) (l : NM) (T : AHeap) (k : List UInt8) (v : Int) : mapSetA Try.prog (B0 :: .map (entsA l) :: T) 95 (.map 1) (.str k) (.int .i64 v) = some (B0 :: .map (entsA (NM.put l k v)) :: T) := by
  have hf := find_ents k l 0
  cases hg : NM.get l k with
  | none =>
    rw [hg] at hf
    simp only [Option.map_none, Nat.zero_add] at hf
    have hs := ents_new v hg
    simp [hf, hs]
  | some u =>
    rw [hg] at hf
    simp only [Option.map_some, Nat.zero_add] at hf
    have hs := ents_set (v := v) hg
    simp [hf, hs]
theorem del_at1 (B0 : ABlk) (l : NM) (T : AHeap) (k : List UInt8) : mapDelA Try.prog (B0 :: .map (entsA l) :: T) 95 (.map 1) (.str k) = some (B0 :: .map (entsA (NM.del l k)) :: T) := by
  have hf := find_ents k l 0
  cases hg : NM.get l k with
  | none =>
    rw [hg] at hf
    simp only [Option.map_none, Nat.zero_add] at hf
    simp [mapDelA, hf, del_none hg]
  | some u =>
    rw [hg] at hf
    simp only [Option.map_some, Nat.zero_add] at hf
    have hd := ents_del hg
    simp [mapDelA, hf, hd]

def svInl : List FuncId := doInl
theorem svΓ_ok : GOk Try.prog (runG Try.prog (gams [(70, mcloneS)]) 0 svInl 2) := gok_run hmix (goks_cons mclone_sound goks_nil) 0 svInl 2

/-- What the rounds leave behind: each act's two cells. -/
def junkD (g : Nat → Nat) : Nat → List DAct → AHeap
  | _, [] => []
  | k, x :: l => .cells true (x.fn g k) :: junkD g (k + x.nb) l
@[simp] theorem junkD_length (g : Nat → Nat) : ∀ (l : List DAct) (k : Nat), (junkD g k l).length = l.length
  | [], _ => rfl
  | x :: l, k => by simp [junkD, junkD_length g l]
theorem junkD_snoc (g : Nat → Nat) : ∀ (l : List DAct) (k i : Nat) (h : i < l.length), junkD g k (l.take (i + 1)) = junkD g k (l.take i) ++ [.cells true (l[i].fn g (k + nbD (l.take i)))]
  | x :: l, k, 0, _ => by simp [junkD, nbD]
  | x :: l, k, i + 1, h => by
    have ih := junkD_snoc g l (k + x.nb) i (by simpa using h)
    simp only [List.take_succ_cons, junkD, List.getElem_cons_succ, List.cons_append, ih, nbD, List.map_cons, List.sum_cons]
    rw [show k + x.nb + ((l.take i).map DAct.nb).sum = k + (x.nb + ((l.take i).map DAct.nb).sum) by omega]
theorem druns_take (l : NM) (xs : List DAct) (i : Nat) (h : i < xs.length) : druns l (xs.take (i + 1)) = xs[i].run (druns l (xs.take i)) := by
  rw [List.take_add_one, List.getElem?_eq_getElem h, Option.toList_some, druns_append]; rfl

set_option maxHeartbeats 16000000 in
theorem survive_ct (f : FD) (m : Int) (hal : f.acts.length ≤ 1000000) :
    Ct Try.prog 21 [.ptr 0 0, .int .i64 m] [.obj true f.blks] (.tuple []) [.obj true (f.survive m).blks] := by
  have hΓ := svΓ_ok
  refine ct_of_sim Try.func21 rfl ?_
  simp only [Try.ntmps21, List.length_cons, List.length_nil, Nat.reduceAdd, Nat.reduceSub, List.replicate, List.cons_append, List.nil_append]
  refine Sim.aft (Aft.open (b := 0) rfl (by simp) (Aft.done (by simp [openH]) ?_))
  rw [open_fd]
  simp only [List.length_cons, List.length_nil, Nat.reduceAdd, List.set_cons_zero, List.cons_append, List.nil_append]
  obtain ⟨R, eR⟩ : ∃ R, rowD (fun i => i + 4) 0 f.acts = R := ⟨_, rfl⟩
  rw [rowD_congr (g' := fun i => i + 4) (fun i => by omega), eR]
  obtain ⟨X, eX⟩ : ∃ X, boxesD f.acts = X := ⟨_, rfl⟩
  have hR : R.length = f.acts.length * 2 := by rw [← eR]; simp
  have hX : X.length = nbD f.acts := by rw [← eX, boxesD_length]
  have gR : ∀ (i : Nat) (h : i < f.acts.length), (R.drop (i * 2)).take 2 = f.acts[i].fn (fun i => i + 4) (nbD (f.acts.take i)) := fun i h => by
    have := rowD_get (fun i => i + 4) f.acts 0 i h
    rw [eR, Nat.zero_add] at this
    exact this
  have gX : ∀ (i : Nat) (h : i < f.acts.length) (q : Nat), q < (f.acts[i]).nb → X[nbD (f.acts.take i) + q]? = (f.acts[i].boxes)[q]? := fun i h q hq => by rw [← eX]; exact boxesD_get f.acts i h q hq
  rw [eX]
  obtain ⟨k0, ek⟩ : ∃ k, f.acts.length = k := ⟨_, rfl⟩
  obtain ⟨q0, eq⟩ : ∃ q, nbD f.acts = q := ⟨_, rfl⟩
  rw [eq] at hX
  obtain ⟨n, en⟩ : ∃ n, f.clamp m = n := ⟨_, rfl⟩
  have en1 := en
  unfold FD.clamp at en1
  rw [ek] at en1 hal hR ⊢
  have en2 : max 0 (min m (k0 : Int)) = n := by omega
  have hnk : n ≤ k0 := by omega
  have hnk2 : (n : Int) ≤ (k0 : Int) := by omega
  refine Sim.step hmix hΓ (n := 0) (by simp; exact ⟨rfl, rfl⟩) (by simp) ?_
  refine Sim.seq (Sim.step hmix hΓ (n := 0) (by simp (decide := true) [-minA, minA_min, minA_max, en2, hnk2]; first | exact ⟨rfl, rfl⟩ | exact ⟨by kernel_rfl, rfl, rfl⟩) (by simp) ?_)
  obtain ⟨HH, eH⟩ : ∃ HH : Nat → AHeap, HH = fun i => .cells true [.map 1, .map 2, .sl 3 0 k0 2 false, .int .i64 f.last] :: .map (entsA (druns f.d (f.acts.take i))) :: .map (entsA f.now) :: .cells true R :: (X ++ junkD (fun i => i + 4) 0 (f.acts.take i)) := ⟨_, rfl⟩
  refine Sim.mono (Q := fun e F' H' => e = .normal ∧ LessF ([.ptr 0 0] ++ List.replicate 44 .top) F' ∧ H' = HH n) ?_ ?_
  · refine Sim.block (Sim.loopS (fun i : Nat => i ≤ n)
      (fun i => [.ptr 0 0, .int .i64 m] ++ List.replicate 18 .top ++ [.sl 3 0 n 2 false, .int .i64 n, .int .i64 i] ++ List.replicate 22 .top)
      HH (fun i => n - i) 0 (by simp) (by simp) ⟨by simp, by rw [eH]; simp [druns, junkD]⟩ fun i hi => ?_)
    by_cases hlt : i < n
    rotate_left
    · have : i = n := by omega
      subst this
      have hH := congrFun eH i
      rw [hH]
      refine Sim.exec hmix hΓ (n := 0) (by simp; exact ⟨rfl, rfl, rfl⟩) (by simp) ?_
      dsimp only
      rw [if_pos rfl]
      exact ⟨by trivial, by simp, hH.symm ▸ rfl⟩
    have hik : i < f.acts.length := by omega
    obtain ⟨x, hx⟩ : ∃ x, f.acts[i] = x := ⟨_, rfl⟩
    obtain ⟨kk, hkk⟩ : ∃ kk, nbD (f.acts.take i) = kk := ⟨_, rfl⟩
    obtain ⟨J, hJe⟩ : ∃ J, junkD (fun i => i + 4) 0 (f.acts.take i) = J := ⟨_, rfl⟩
    have hJ : J.length = i := by rw [← hJe, junkD_length, List.length_take]; omega
    have hj := junkD_snoc (fun i => i + 4) f.acts 0 i hik
    have g1 := gR i hik
    have gXi := gX i hik
    have e1 := druns_take f.d f.acts i hik
    rw [hx] at hj g1 gXi e1
    rw [hkk] at hj g1 gXi
    rw [hJe, Nat.zero_add] at hj
    obtain ⟨cur, hcur⟩ : ∃ cur, druns f.d (f.acts.take i) = cur := ⟨_, rfl⟩
    rw [hcur] at e1
    have hN : ∀ c : ABlk, (X ++ (J ++ [c]))[q0 + i]? = some c := fun c => by
      rw [← List.append_assoc, show q0 + i = (X ++ J).length by rw [List.length_append, hX, hJ], List.getElem?_append_right (Nat.le_refl _)]; simp
    have k1 : i * 2 + 2 ≤ k0 * 2 := by omega
    have hltI : (i : Int) < n := by omega
    have y1 : IntKind.i64.wrap ((i : Int) + 1) = i + 1 := wr_i64 (by omega) (by omega)
    have hH := congrFun eH i
    have hH1 := congrFun eH (i + 1)
    try dsimp only at hH hH1
    rw [hcur, hJe] at hH
    rw [hH]
    rw [hj, e1] at hH1
    refine Sim.step hmix hΓ (n := 0) (by simp [hltI]; exact ⟨rfl, rfl⟩) (by simp) ?_
    refine Sim.step hmix hΓ (n := 0) (by simp; exact ⟨rfl, rfl⟩) (by simp) ?_
    refine Sim.seq (Sim.block ?_)
    cases x with
    | cre k v =>
      simp only [DAct.fn] at g1
      have p0 : ∀ c, (X ++ (J ++ [c]))[kk]? = some (.obj false [.cells true [.int .i64 v]]) := fun c => by
        have h := gXi 0 (by simp [DAct.nb])
        rw [Nat.add_zero] at h
        rw [List.getElem?_append_left (List.getElem?_eq_some_iff.1 h).1]
        exact h
      have p1 : ∀ c, (X ++ (J ++ [c]))[kk + 1]? = some (.obj false [.cells true [.str k]]) := fun c => by
        have h := gXi 1 (by simp [DAct.nb])
        rw [List.getElem?_append_left (List.getElem?_eq_some_iff.1 h).1]
        exact h
      refine Sim.step hmix hΓ (n := 0) (by simp (decide := true) [hlt, hR, k1, g1, hX, hJ]; exact ⟨rfl, rfl⟩) (by simp) ?_
      refine Sim.draw hmix (by simp) ?_
      refine SimR.many hΓ 6 (by simp [stageOps]; rfl) (by omega) (by kernel_rfl) (by simp (decide := true) [hX, hJ]; first | exact ⟨rfl, rfl⟩ | exact ⟨by kernel_rfl, rfl, rfl⟩) ?_
      refine SimR.one hΓ _ rfl (by kernel_rfl) (by simp (decide := true) [-mapSetA, svInl, doInl, Try.f89, set_at1, p0, p1]; exact ⟨rfl, rfl⟩) ?_
      refine SimR.done rfl ?_
      dsimp only
      refine Sim.exec hmix hΓ (n := 0) (by simp [y1]; exact ⟨rfl, rfl, rfl⟩) (by simp) ?_
      exact ⟨i + 1, by omega, ⟨by simp, by rw [hH1]; simp [DAct.run, DAct.fn]⟩, by omega⟩
    | ren a b v =>
      simp only [DAct.fn] at g1
      have p0 : ∀ c, (X ++ (J ++ [c]))[kk]? = some (.obj false [.cells true [.str a]]) := fun c => by
        have h := gXi 0 (by simp [DAct.nb])
        rw [Nat.add_zero] at h
        rw [List.getElem?_append_left (List.getElem?_eq_some_iff.1 h).1]
        exact h
      have p1 : ∀ c, (X ++ (J ++ [c]))[kk + 1]? = some (.obj false [.cells true [.int .i64 v]]) := fun c => by
        have h := gXi 1 (by simp [DAct.nb])
        rw [List.getElem?_append_left (List.getElem?_eq_some_iff.1 h).1]
        exact h
      have p2 : ∀ c, (X ++ (J ++ [c]))[kk + 2]? = some (.obj false [.cells true [.str b]]) := fun c => by
        have h := gXi 2 (by simp [DAct.nb])
        rw [List.getElem?_append_left (List.getElem?_eq_some_iff.1 h).1]
        exact h
      refine Sim.step hmix hΓ (n := 0) (by simp (decide := true) [hlt, hR, k1, g1, hX, hJ]; exact ⟨rfl, rfl⟩) (by simp) ?_
      refine Sim.draw hmix (by simp) ?_
      refine SimR.many hΓ 6 (by simp [stageOps]; rfl) (by omega) (by kernel_rfl) (by simp (decide := true) [hX, hJ]; first | exact ⟨rfl, rfl⟩ | exact ⟨by kernel_rfl, rfl, rfl⟩) ?_
      refine SimR.one hΓ _ rfl (by kernel_rfl) (by simp (decide := true) [-mapSetA, svInl, doInl, Try.f90, set_at1, del_at1, p0, p1, p2]; exact ⟨rfl, rfl⟩) ?_
      refine SimR.done rfl ?_
      dsimp only
      refine Sim.exec hmix hΓ (n := 0) (by simp [y1]; exact ⟨rfl, rfl, rfl⟩) (by simp) ?_
      exact ⟨i + 1, by omega, ⟨by simp, by rw [hH1]; simp [DAct.run, DAct.fn]⟩, by omega⟩
    | rem k =>
      simp only [DAct.fn] at g1
      have p0 : ∀ c, (X ++ (J ++ [c]))[kk]? = some (.obj false [.cells true [.str k]]) := fun c => by
        have h := gXi 0 (by simp [DAct.nb])
        rw [Nat.add_zero] at h
        rw [List.getElem?_append_left (List.getElem?_eq_some_iff.1 h).1]
        exact h
      refine Sim.step hmix hΓ (n := 0) (by simp (decide := true) [hlt, hR, k1, g1, hX, hJ]; exact ⟨rfl, rfl⟩) (by simp) ?_
      refine Sim.draw hmix (by simp) ?_
      refine SimR.many hΓ 6 (by simp [stageOps]; rfl) (by omega) (by kernel_rfl) (by simp (decide := true) [hX, hJ]; first | exact ⟨rfl, rfl⟩ | exact ⟨by kernel_rfl, rfl, rfl⟩) ?_
      refine SimR.one hΓ _ rfl (by kernel_rfl) (by simp (decide := true) [-mapSetA, svInl, doInl, Try.f91, del_at1, p0]; exact ⟨rfl, rfl⟩) ?_
      refine SimR.done rfl ?_
      dsimp only
      refine Sim.exec hmix hΓ (n := 0) (by simp [y1]; exact ⟨rfl, rfl, rfl⟩) (by simp) ?_
      exact ⟨i + 1, by omega, ⟨by simp, by rw [hH1]; simp [DAct.run, DAct.fn]⟩, by omega⟩
  rintro e F' H' hlen ⟨rfl, hF, rfl⟩
  dsimp only
  refine Sim.less hF ?_
  obtain ⟨J, hJe⟩ : ∃ J, junkD (fun i => i + 4) 0 (f.acts.take n) = J := ⟨_, rfl⟩
  have hJ : J.length = n := by rw [← hJe, junkD_length, List.length_take]; omega
  obtain ⟨cur, hcur⟩ : ∃ cur, druns f.d (f.acts.take n) = cur := ⟨_, rfl⟩
  have hsv : f.survive m = ⟨cur, [], f.last⟩ := by unfold FD.survive; rw [en, hcur]
  have hH := congrFun eH n
  try dsimp only at hH
  rw [hcur, hJe] at hH
  rw [hsv, hH]
  refine Sim.after (Sim.exec hmix hΓ (n := 0) (by simp (decide := true) [svInl, mcloneS, hX, hJ]; exact ⟨rfl, rfl, rfl⟩) (by simp) ?_)
  refine Aft.closeFD (⟨cur, [], f.last⟩ : FD) 0 1 (q0 + n + 4) (q0 + n + 5) [] (fun i => i) (x := .nils) (o := true) ?_ rfl rfl ?_ (fun h => absurd h ?_) rfl (fun i hi => absurd hi (by simp [nbD])) (fun i k B h => by simp at h) ?_ (by simp) ?_
  · rfl
  · rw [show q0 + n + 4 = ((X ++ J).length) + 1 + 1 + 1 + 1 by rw [List.length_append, hX, hJ]]
    simp only [List.getElem?_cons_succ]
    rw [← List.append_assoc, List.getElem?_append_right (Nat.le_refl _)]
    simp [FD.now, druns]
  · simp; omega
  · simp <;> omega
  refine Aft.weak (Fn := List.replicate 45 .top) (Hn := [.obj true (⟨cur, [], f.last⟩ : FD).blks]) (Weak.mk' [0] (by decide) (by decide) (AWs_tops _ _ _ rfl) (AWg_closed (b := 0) (by simp) _ _ rfl fun i c x h1 h2 => ?_)) (by simp) (Aft.done (by simp) ?_)
  · match i, h1, h2 with
    | 0, h1, h2 => cases h1; cases h2; exact .inl ⟨rfl, rfl⟩
  exact ⟨.inl rfl, _, by simp [Try.f21] <;> rfl, Weak.mk' [0] (by decide) (by decide) (by simp) (by simp [AWb])⟩

end Go.Proofs.Ytjolihoakdifoaa
