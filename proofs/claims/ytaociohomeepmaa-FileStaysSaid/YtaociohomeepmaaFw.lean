/- The reference file as an object; its bytes, told of open and of closed ones. -/
import Derived.Test.YtaociohomeepmaaFv
namespace Go.Proofs.Ytaociohomeepmaa
open Go
set_option maxRecDepth 100000
attribute [-simp] drawOk_eq adraw qrun acode aops

/-- A contract of the state told otherwise, ahead and behind. -/
theorem Ct.aft {P : Program} {f : FuncId} {args : List AV} {H H' : AHeap} {v : AV}
    (h : Aft H.length args H fun F1 H1 => H.length ≤ H1.length ∧ ∃ v1 H2, Ct P f F1 H1 v1 H2 ∧ Aft H.length [v1] H2 fun F2 H3 => F2 = [v] ∧ H3 = H') : Ct P f args H v H' := by
  intro j w cargs hR hargs
  obtain ⟨F1, H1, j1, ⟨hl, v1, H2, h1, h2⟩, h3, s1⟩ := h j w _ hR hargs
  refine Calls.mono (h1 j1 w cargs s1.rel h3) ?_
  rintro e w' ⟨cv, j2, rfl, h4, s2⟩
  obtain ⟨F2, H3, j3, ⟨rfl, rfl⟩, h5, s3⟩ := h2 j2 w' [cv] s2.rel ⟨cv, [], rfl, h4, rfl⟩
  obtain ⟨u, us, e, h6, _⟩ := h5
  cases e
  exact ⟨cv, j3, rfl, h6, s1.trans ((s2.weaken hl).trans s3 (Nat.le_refl _)) (Nat.le_refl _)⟩

/-- Which acts a row holds. -/
def rowActs : List AV → Option (List FAct)
  | [] => some []
  | .bool false :: .int .i64 0 :: .str m :: l => match rowActs l with
    | some a => some (.add m :: a)
    | none => none
  | .bool true :: .int .i64 n :: .str [] :: l => if 0 ≤ n then match rowActs l with
    | some a => some (.cut n.toNat :: a)
    | none => none else none
  | _ => none
@[simp] theorem rowActs_actA : ∀ (l : List FAct), rowActs (actA l) = some l
  | [] => rfl
  | a :: l => by cases a <;> simp [actA, FAct.cells, rowActs, rowActs_actA l]
theorem rowActs_eq : ∀ {l : List AV} {a : List FAct}, rowActs l = some a → l = actA a := by
  intro l
  induction l using rowActs.induct with
  | case1 => intro a h; cases h; rfl
  | case2 m l b hb ih => intro a h; simp only [rowActs, hb] at h; cases h; rw [ih hb]; rfl
  | case3 m l hb ih => intro a h; simp only [rowActs, hb] at h; cases h
  | case4 n l hn b hb ih => intro a h; simp only [rowActs, hb, if_pos hn] at h; cases h; rw [ih hb]; simp [actA, FAct.cells, Int.toNat_of_nonneg hn]
  | case5 n l hn hb ih => intro a h; simp only [rowActs, hb, if_pos hn] at h; cases h
  | case6 n l hn => intro a h; simp only [rowActs, if_neg hn] at h; cases h
  | case7 l h1 h2 h3 => intro a h; unfold rowActs at h; split at h <;> simp_all

/-- Which reference file the blocks are. -/
def refOf : AHeap → Option PF
  | [.cells true [.str d, .sl 1 0 n 3 false], .cells true l] => match rowActs l with
    | some a => if n = a.length then some ⟨d, a⟩ else none
    | none => none
  | _ => none
@[simp] theorem refOf_rblks (f : PF) : refOf f.rblks = some f := by simp [refOf, PF.rblks]
theorem refOf_eq {sub : AHeap} {f : PF} (h : refOf sub = some f) : sub = f.rblks := by
  unfold refOf at h
  split at h <;> try cases h
  split at h <;> try cases h
  rename_i a ha
  split at h <;> cases h
  rename_i hn
  rw [rowActs_eq ha, hn]; rfl

theorem open_ref (f : PF) (T : AHeap) : openH (.obj true f.rblks :: T) 0 f.rblks = .cells true [.str f.d, .sl (T.length + 1) 0 f.acts.length 3 false] :: (T ++ [.cells true (actA f.acts)]) := by
  unfold openH
  simp [PF.rblks, reB, reAs, reA, openG, reAs_flat]

/-- A reference file is closed. -/
theorem Aft.closeR {n0 : Nat} {F : List AV} {H : AHeap} {K : List AV → AHeap → Prop} (f : PF) (b r : Nat) {x : AV} (hb : H[b]? = some (.cells true [.str f.d, x])) (hx : AW [b, r] (.sl 1 0 f.acts.length 3 false) x)
    (hr : r < H.length → H[r]? = some (.cells true (actA f.acts))) (hne : b ≠ r) (hn : n0 ≤ H.length) (h : Aft n0 F (closeH H b [r] true f.rblks) K) : Aft n0 F H K := by
  refine Aft.close (o := true) (b := b) (rs := [b, r]) (ks := [r]) rfl (by simp [hne]) (List.getElem?_eq_some_iff.1 hb).1 ?_ ?_ ⟨_, rfl, rfl⟩ ?_ hn h
  · intro c x hc hcb _ _
    simp only [List.mem_cons, List.not_mem_nil, or_false] at hc
    rcases hc with rfl | rfl
    · exact absurd rfl hcb
    · simp
  · refine ⟨?_, ?_, trivial⟩
    · split
      · rw [List.getD_eq_getElem?_getD, hb]
        exact ⟨fun h => h, rfl, hx, trivial⟩
      · trivial
    · split
      · rename_i h1
        rw [List.getD_eq_getElem?_getD, hr h1]
        exact ⟨fun h => h, AWs_actA _⟩
      · trivial
  · intro i y hy hd
    match i, hy with
    | 0, hy => cases hy; rfl
    | 1, hy => cases hy; rfl

/-- Bytes, beside whatever there is. -/
theorem rbytes_in (f : PF) (hok : f.ok 1000000000000) {H : AHeap} {b r : Nat} {o o2 : Bool} (hb : H[b]? = some (.cells o [.str f.d, .sl r 0 f.acts.length 3 false])) (hr : H[r]? = some (.cells o2 (actA f.acts))) (hne : b ≠ r) :
    Ct Try.prog 26 [.ptr b 0] H (.str f.now) H := by
  have hbl : b < H.length := (List.getElem?_eq_some_iff.1 hb).1
  have hrl : r < H.length := (List.getElem?_eq_some_iff.1 hr).1
  have := ct_frame (H := H) (args := [.ptr b 0]) (rbytes_ct f hok) [b, r] (by simp [hne]) ⟨⟨rfl, rfl⟩, trivial⟩ ⟨by rw [List.getD_eq_getElem?_getD, hb]; exact ⟨by simp, rfl, ⟨rfl, rfl, rfl, rfl, fun h => h⟩, trivial⟩, hbl, by rw [List.getD_eq_getElem?_getD, hr]; exact ⟨by simp, AWs_actA _⟩, hrl, trivial⟩ rfl
  simpa [setOwn, ABlk.own, reB, reA] using this

/-- Bytes of a closed one. -/
theorem rbytes_obj (f : PF) (hok : f.ok 1000000000000) : Ct Try.prog 26 [.ptr 0 0] [.obj true f.rblks] (.str f.now) [.obj true f.rblks] := by
  refine Ct.aft (Aft.open (b := 0) rfl (by simp) (Aft.done (by simp [openH]) ?_))
  rw [open_ref]
  refine ⟨by simp, .str f.now, _, rbytes_in f hok (b := 0) (r := 1) rfl rfl (by decide), ?_⟩
  refine Aft.closeR f 0 1 (x := .sl 1 0 f.acts.length 3 false) rfl ⟨rfl, rfl, rfl, rfl, fun h => h⟩ (fun _ => rfl) (by decide) (by simp) ?_
  refine Aft.weak (Fn := [.str f.now]) (Hn := [.obj true f.rblks]) (Weak.mk' [0] (by decide) rfl ⟨rfl, trivial⟩ (AWg_closed (b := 0) (by simp) _ _ rfl fun i c x h1 h2 => ?_)) (by simp) (Aft.done (by simp) ⟨rfl, rfl⟩)
  match i, h1, h2 with
  | 0, h1, h2 => cases h1; cases h2; exact .inl ⟨rfl, rfl⟩

noncomputable section
open Classical

def rbytesS : Summ := fun args H => match args with
  | [.ptr b 0] => match H.getD b .dead with
    | .cells _ [.str d, .sl r 0 n 3 false] => match H.getD r .dead with
      | .cells _ l => match rowActs l with
        | some a => if n = a.length ∧ b ≠ r ∧ PF.small ⟨d, a⟩ then some (.str (PF.now ⟨d, a⟩), H, []) else none
        | none => none
      | _ => none
    | .obj true sub => match refOf sub with
      | some f => if f.small then some (.str f.now, H, []) else none
      | none => none
    | _ => none
  | _ => none

end

theorem getD_some {H : AHeap} {b : Nat} {x : ABlk} (h : H.getD b .dead = x) (hx : x ≠ .dead) : H[b]? = some x := by
  rw [List.getD_eq_getElem?_getD] at h
  cases hy : H[b]? with
  | none => rw [hy] at h; exact absurd h.symm hx
  | some y => rw [hy] at h; exact congrArg some h

theorem rbytes_sound : Sound Try.prog 26 rbytesS := by
  refine ⟨enter_of Try.func26 rfl (by decide), fun args H v H' W h => ?_, fun args H v H' W h => ?_⟩
  · unfold rbytesS at h
    split at h <;> try cases h
    rename_i b
    split at h <;> try cases h
    · rename_i d r n hb
      split at h <;> try cases h
      rename_i l hr
      split at h <;> try cases h
      rename_i a ha
      split at h <;> cases h
      rename_i hc
      obtain ⟨rfl, hne, hs⟩ := hc
      rw [rowActs_eq ha] at hr
      exact rbytes_in ⟨d, a⟩ hs (getD_some hb (by simp)) (getD_some hr (by simp)) hne
    · rename_i sub hb
      split at h <;> try cases h
      rename_i f hf
      split at h <;> cases h
      rename_i hs
      rw [refOf_eq hf] at hb
      have hb2 := getD_some hb (by simp)
      have := ct_obj1 (rbytes_obj f hs) rfl rfl hb2
      obtain ⟨h1, h2⟩ := List.getElem?_eq_some_iff.1 hb2
      rw [← h2, List.set_getElem_self] at this
      exact this
  · unfold rbytesS at h
    split at h <;> try cases h
    split at h <;> try cases h
    · split at h <;> try cases h
      split at h <;> try cases h
      split at h <;> cases h
      exact ⟨Nat.le_refl _, fun _ _ _ => rfl⟩
    · split at h <;> try cases h
      split at h <;> cases h
      exact ⟨Nat.le_refl _, fun _ _ _ => rfl⟩

end Go.Proofs.Ytaociohomeepmaa
