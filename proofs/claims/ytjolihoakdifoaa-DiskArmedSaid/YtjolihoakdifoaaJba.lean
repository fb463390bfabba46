/- XJc: A disk, as an object: what it is; calls in just one state.
XJd: A disk's steps.
XJe: What is read of a disk: Down, List, Files, Used. -/
import Derived.Test.YtjolihoakdifoaaJa
import Derived.Test.YtjolihoakdifoaaEd
import Derived.Test.YtjolihoakdifoaaHl
namespace Go.Proofs.Ytjolihoakdifoaa
open Go Go.Lib
set_option maxRecDepth 100000

/-- A function that is called in just this state. -/
noncomputable def oneAt (args : List AV) (H : AHeap) (v : AV) (H' : AHeap) : Summ := open Classical in fun a h => if a = args ∧ h = H then some (v, H', List.range H.length) else none
theorem oneAt_sound {P : Program} {f : FuncId} {args : List AV} {H H' : AHeap} {v : AV} (he : ∀ cargs w, (callFunc f cargs).run P w = .ok (.enter f cargs) w) (h : Ct P f args H v H') (hl : H.length ≤ H'.length) : Sound P f (oneAt args H v H') := by
  refine ⟨he, fun a h1 v1 H1 W hs => ?_, fun a h1 v1 H1 W hs => ?_⟩ <;> (unfold oneAt at hs; split at hs <;> cases hs) <;> (rename_i hc; obtain ⟨rfl, rfl⟩ := hc)
  · exact h
  · exact ⟨hl, fun b hb hn => absurd (List.mem_range.2 hb) hn⟩
@[simp] theorem oneAt_at (args : List AV) (H : AHeap) (v : AV) (H' : AHeap) : oneAt args H v H' args H = some (v, H', List.range H.length) := by
  unfold oneAt; rw [if_pos ⟨rfl, rfl⟩]

/-- A function by its walk, the end told just so. -/
theorem ct_of_simE {P : Program} {f : FuncId} {fn : Func} {c : Code} (hf : P.funcs[f]? = some fn) (hb : fn.body = some c) {args : List AV} {H H' : AHeap} {v : AV}
    (h : Sim P none H.length c (args ++ List.replicate (fn.ntmps - args.length) undefA) H fun x F1 H1 => (x = .normal ∨ x = .ret) ∧ resA P fn.results.toList F1 H1 = some v ∧ H1 = H') : Ct P f args H v H' := by
  intro j w cargs hR hargs
  refine (callsIn_wide (n := 0)).1 ?_
  refine callsIn_of_wp_marks hf hb trivial ?_ rfl
  have hl := hargs.length
  have hF : VRs j (args ++ List.replicate (fn.ntmps - args.length) undefA) (cargs ++ Array.replicate (fn.ntmps - cargs.size) undef).toList := by
    rw [Array.toList_append, Array.toList_replicate, hl, Array.length_toList]
    exact hargs.append (VRs.replicate (v := undef) (show VR j undefA undef from ⟨#[], rfl, rfl⟩) _)
  refine wpIn_mono (h w.heap.size j w { tmps := cargs ++ Array.replicate (fn.ntmps - cargs.size) undef, defers := [] } 0 (Nat.le_refl _) hR hF (DefOk.nil _ _)) ?_
  rintro e a' w' ⟨x, F', H1, j', rfl, ⟨hx, hv1, rfl⟩, h3, h4, h5⟩
  refine body_end hR.glo.1.2 hx hv1 h3 h4 h5 fun cv w2 g2 hs => ?_
  exact ⟨cv, j', rfl, g2, hs⟩

/-- What a function does to an object's blocks, it does to the object. -/
theorem ct_opened {P : Program} {f : FuncId} {xs : List AV} {v v' : AV} {sub H' H'' : AHeap} (h : Ct P f xs sub v H') (hne : 1 ≤ sub.length) (hA : Aft 1 [v] H' fun F H => F = [v'] ∧ H = H'') : Ct P f xs [.obj true sub] v' H'' := by
  intro j w cargs hR hargs
  obtain ⟨j1, hle, s1⟩ := Step.open (n := 1) hR (b := 0) rfl (by simp)
  have e : openH [.obj true sub] 0 sub = sub := by
    have hg : ∀ i, openG 0 1 i = i := fun i => by unfold openG; split <;> omega
    cases sub with
    | nil => simp at hne
    | cons B r =>
      unfold openH
      simp only [List.length_cons, List.length_nil, List.getD_cons_zero, List.set_cons_zero, List.drop_succ_cons, List.drop_zero, List.cons_append, List.nil_append, Nat.zero_add]
      rw [reB_id hg, List.map_congr_left (fun B _ => reB_id hg B)]
      simp
  rw [e] at s1
  refine (h j1 w cargs s1.rel (VRs.mono hle _ _ hargs)).mono ?_
  rintro e w' ⟨cv, j2, rfl, hv, s2⟩
  obtain ⟨F3, H3, j3, ⟨rfl, rfl⟩, h3, s3⟩ := hA j2 w' [cv] s2.rel ⟨cv, [], rfl, hv, rfl⟩
  obtain ⟨cv', ws, e1, h4, h5⟩ := h3
  cases e1
  exact ⟨cv, j3, rfl, h4, (s1.trans s2 hne).trans s3 (Nat.le_refl _)⟩

theorem setOwn_same {g : Nat → Nat} {H : AHeap} {em : List Nat} {H0 H1 : AHeap} (hn : em.Nodup) (hl : ∀ x ∈ em, x < H.length) (hle : H0.length ≤ H1.length)
    (h : ∀ (i e : Nat) (B0 B1 : ABlk), em[i]? = some e → H0[i]? = some B0 → B0.own = true → H1[i]? = some B1 → H[e]? = some (reB g B1)) : setOwn g H em H0 H1 = H := by
  refine List.ext_getElem? fun c => ?_
  by_cases hc : ∃ (i : Nat) (B : ABlk), em[i]? = some c ∧ H0[i]? = some B ∧ B.own = true
  · obtain ⟨i, B, h1, h2, h3⟩ := hc
    have hi : i < H1.length := by have := (List.getElem?_eq_some_iff.1 h2).1; omega
    have h4 : H1[i]? = some H1[i] := List.getElem?_eq_getElem hi
    rw [setOwn_at g H em H0 H1 i c B _ hn hl h1 h2 h3 h4, h i c B _ h1 h2 h3 h4]
  · refine setOwn_other g H em H0 H1 c fun i B h1 h2 h3 => hc ⟨i, B, h1, h2, h3⟩

/-- What a function makes of blocks that it leaves alone, it makes of them where more blocks lie behind. -/
theorem ct_more {P : Program} {f : FuncId} {args : List AV} {v v' : AV} {H0 N N' T : AHeap} (h : Ct P f args H0 v (H0 ++ N)) (ha : ∀ rn : List Nat, (∀ i, i < H0.length → rn[i]? = some i) → AWs rn args args)
    (hB : ∀ rn : List Nat, (∀ i, i < H0.length → rn[i]? = some i) → ∀ B ∈ H0, AWb rn B B) (hf : ∀ g : Nat → Nat, (∀ i, i < H0.length → g i = i) → ∀ B ∈ H0, reB g B = B) (ho : allOwn N = true)
    (hv : ∀ g : Nat → Nat, (∀ i, i < H0.length → g i = i) → (∀ i, H0.length ≤ i → g i = i + T.length) → reA g v = v' ∧ N.map (reB g) = N') : Ct P f args (H0 ++ T) v' (H0 ++ T ++ N') := by
  have hr : ∀ i, i < H0.length → (List.range H0.length)[i]? = some i := fun i hi => List.getElem?_range hi
  have hg1 : ∀ i, i < H0.length → nameG (List.range H0.length) (H0 ++ T).length i = i := fun i hi => by unfold nameG; rw [hr i hi]
  have hg2 : ∀ i, H0.length ≤ i → nameG (List.range H0.length) (H0 ++ T).length i = i + T.length := fun i hi => by
    unfold nameG
    rw [List.getElem?_eq_none (by simpa using hi)]
    simp only [List.length_append, List.length_range]; omega
  have hH : ∀ (X : AHeap) (k : Nat), (∀ B ∈ X, AWb (List.range H0.length) B B) → (∀ i B, X[i]? = some B → (H0 ++ T)[k + i]? = some B) → AWh (List.range H0.length) (H0 ++ T) X (List.range' k X.length) := by
    intro X
    induction X with
    | nil => intro k _ _; trivial
    | cons B X ih =>
      intro k h1 h2
      rw [List.length_cons, List.range'_succ]
      have h0 := h2 0 B rfl
      rw [Nat.add_zero] at h0
      refine ⟨?_, (List.getElem?_eq_some_iff.1 h0).1, ih (k + 1) (fun C hC => h1 C (List.mem_cons_of_mem _ hC)) fun i C hC => ?_⟩
      · rw [List.getD_eq_getElem?_getD, h0]; exact h1 B (List.mem_cons_self ..)
      · rw [show k + 1 + i = k + (i + 1) by omega]; exact h2 (i + 1) C (by simpa using hC)
  have := ct_frame (H := H0 ++ T) (args := args) h (List.range H0.length) List.nodup_range (ha _ hr) (by
    have h1 := hH H0 0 (hB _ hr) fun i B hi => by rw [Nat.zero_add, List.getElem?_append_left (List.getElem?_eq_some_iff.1 hi).1]; exact hi
    rw [← List.range_eq_range'] at h1
    exact h1) (by rw [List.drop_left]; exact ho)
  obtain ⟨h1, h2⟩ := hv _ hg1 hg2
  rw [List.drop_left, h1, h2, setOwn_same List.nodup_range (fun x hx => by have := List.mem_range.1 hx; simp; omega) (by simp) (fun i e B0 B1 k1 k2 k3 k4 => ?_)] at this
  · exact this
  · have hi : i < H0.length := (List.getElem?_eq_some_iff.1 k2).1
    rw [hr i hi] at k1
    cases k1
    rw [List.getElem?_append_left hi] at k4
    rw [List.getElem?_append_left hi, k4, hf _ hg1 B1 (List.mem_of_getElem? k4)]

/-! The blocks -/

/-- Files as a map's entries. -/
def fileM (g : Nat → Nat) : Nat → FS → List (AV × AV)
  | _, [] => []
  | k, e :: l => (.int .i64 e.1, .ptr (g k) 0) :: fileM g (k + 1) l
def filesB (l : FS) : AHeap := l.map fun e => .obj true e.2.blks
@[simp] theorem fileM_length (g : Nat → Nat) : ∀ (k : Nat) (l : FS), (fileM g k l).length = l.length
  | _, [] => rfl
  | k, e :: l => by simp [fileM, fileM_length g (k + 1) l]
@[simp] theorem filesB_length (l : FS) : (filesB l).length = l.length := by simp [filesB]
theorem filesB_get {l : FS} {i : Nat} {e : Int × PF} (h : l[i]? = some e) : (filesB l)[i]? = some (.obj true e.2.blks) := by simp [filesB, h]
theorem find_files (g : Nat → Nat) (n : Int) : ∀ (k : Nat) (l : FS) (i : Nat), findA (fileM g k l) (.int .i64 n) i = some ((FS.get l n).map fun _ => (i + FS.at l n, .ptr (g (k + FS.at l n)) 0))
  | k, [], i => by simp [fileM, findA, FS.get]
  | k, e :: l, i => by
    have ih := find_files g n (k + 1) l (i + 1)
    by_cases h : e.1 = n
    · subst h
      simp [fileM, findA, primEq, FS.get, FS.at, FS.keys]
    · have h2 : (n == e.1) = false := by simpa using (fun q => h q.symm)
      have h3 : (e.1 == n) = false := by simpa using h
      simp only [fileM, findA, primEq, h2, ih, FS.get, h, if_false, FS.at, FS.keys, List.map_cons]
      rw [List.idxOf_cons, h3]
      cases FS.get l n <;> simp
      exact ⟨by omega, by congr 1; omega⟩
theorem fileM_app (g : Nat → Nat) : ∀ (k : Nat) (l : FS) (e : Int × PF), fileM g k (l ++ [e]) = fileM g k l ++ [(.int .i64 e.1, .ptr (g (k + l.length)) 0)]
  | k, [], e => rfl
  | k, x :: l, e => by
    simp only [List.cons_append, fileM, fileM_app g (k + 1) l e, List.length_cons]
    rw [show k + 1 + l.length = k + (l.length + 1) by omega]
theorem fileM_upd (g : Nat → Nat) (n : Int) (h : PF → PF) : ∀ (k : Nat) (l : FS), fileM g k (FS.upd l n h) = fileM g k l
  | k, [] => rfl
  | k, e :: l => by
    unfold FS.upd
    split
    · rename_i hn; simp [fileM, hn]
    · simp only [fileM, fileM_upd g n h (k + 1) l]
theorem filesB_upd {l : FS} {n : Int} {f : PF} (h : PF → PF) (hf : FS.get l n = some f) : filesB (FS.upd l n h) = (filesB l).set (FS.at l n) (.obj true (h f).blks) := by
  rw [FS.upd_set h hf]
  simp [filesB, List.map_set]
theorem fileM_congr {g g' : Nat → Nat} : ∀ (k : Nat) (l : FS), (∀ i, k ≤ i → i < k + l.length → g i = g' i) → fileM g k l = fileM g' k l
  | _, [], _ => rfl
  | k, e :: l, h => by
    simp only [fileM]
    rw [h k (Nat.le_refl _) (by simp), fileM_congr (k + 1) l fun i h1 h2 => h i (by omega) (by simp; omega)]
theorem AWs_fileM1 (rn : List Nat) (g g' : Nat → Nat) : ∀ (k : Nat) (l : FS), AWs rn ((fileM g k l).map (·.1)) ((fileM g' k l).map (·.1))
  | _, [] => trivial
  | k, _ :: l => ⟨⟨rfl, rfl⟩, AWs_fileM1 rn g g' (k + 1) l⟩
theorem AWs_fileM2 (rn : List Nat) (g g' : Nat → Nat) : ∀ (k : Nat) (l : FS), (∀ i, k ≤ i → i < k + l.length → rn[g i]? = some (g' i)) → AWs rn ((fileM g k l).map (·.2)) ((fileM g' k l).map (·.2))
  | _, [], _ => trivial
  | k, _ :: l, h => ⟨⟨h k (Nat.le_refl _) (by simp), rfl⟩, AWs_fileM2 rn g g' (k + 1) l fun i h1 h2 => h i (by omega) (by simp; omega)⟩
theorem AWb_fileM {rn : List Nat} {g g' : Nat → Nat} {l : FS} (h : ∀ i, i < l.length → rn[g i]? = some (g' i)) : AWb rn (.map (fileM g 0 l)) (.map (fileM g' 0 l)) :=
  ⟨AWs_fileM1 rn g g' 0 l, AWs_fileM2 rn g g' 0 l fun i _ h2 => h i (by omega)⟩
theorem reB_fileM {h g : Nat → Nat} : ∀ (k : Nat) (l : FS), (fileM g k l).map (fun e => (reA h e.1, reA h e.2)) = fileM (fun i => h (g i)) k l
  | _, [] => rfl
  | k, _ :: l => by simp only [fileM, List.map_cons, reA, reB_fileM (k + 1) l]

/-- The blocks of a disk. -/
def DS.cell0 (d : DS) (fo m : Nat) : ABlk := .cells true [.ptr fo 0, .map m, .int .i64 d.quota, .int .i64 d.steps, .int .i64 d.armed, .bool d.down]
def DS.blks (d : DS) : AHeap := d.cell0 1 2 :: .obj true d.fd.blks :: .map (fileM (fun i => i + 3) 0 d.fs) :: filesB d.fs
theorem DS.blks_length (d : DS) : d.blks.length = d.fs.length + 3 := by simp [DS.blks]
theorem DS.blks_id (d : DS) (rn : List Nat) (hr : ∀ i, i < d.blks.length → rn[i]? = some i) : ∀ B ∈ d.blks, AWb rn B B := by
  rw [DS.blks_length] at hr
  intro B hB
  simp only [DS.blks, DS.cell0, List.mem_cons] at hB
  rcases hB with rfl | rfl | rfl | hB
  · exact ⟨id, ⟨hr 1 (by omega), rfl⟩, hr 2 (by omega), ⟨rfl, rfl⟩, ⟨rfl, rfl⟩, ⟨rfl, rfl⟩, rfl, trivial⟩
  · exact ⟨rfl, rfl⟩
  · exact AWb_fileM fun i hi => hr (i + 3) (by omega)
  · obtain ⟨e, _, rfl⟩ := List.mem_map.1 hB
    exact ⟨rfl, rfl⟩
theorem DS.blks_fix (d : DS) (g : Nat → Nat) (hg : ∀ i, i < d.blks.length → g i = i) : ∀ B ∈ d.blks, reB g B = B := by
  rw [DS.blks_length] at hg
  intro B hB
  simp only [DS.blks, DS.cell0, List.mem_cons] at hB
  rcases hB with rfl | rfl | rfl | hB
  · simp [reB, reAs, reA, hg 1 (by omega), hg 2 (by omega)]
  · rfl
  · simp only [reB]
    rw [reB_fileM, fileM_congr 0 d.fs fun i _ hi => hg (i + 3) (by omega)]
  · obtain ⟨e, _, rfl⟩ := List.mem_map.1 hB
    rfl

/-- Blocks that stay as they are, and behind them what is forgotten and renamed. -/
theorem Weak.tailG {A T Tn : AHeap} {F Fn : List AV} {N : Nat} (hN : A.length = N) (hA : ∀ rn : List Nat, (∀ i, i < N → rn[i]? = some i) → ∀ B ∈ A, AWb rn B B) (ts : List Nat) (hts : ts.Nodup)
    (hF : AWs (List.range N ++ ts.map (N + ·)) Fn F) (hT : AWg (List.range N ++ ts.map (N + ·)) (A ++ T) Tn (ts.map (N + ·))) : Weak N F (A ++ T) Fn (A ++ Tn) := by
  have hr : ∀ i, i < N → (List.range N ++ ts.map (N + ·))[i]? = some i := fun i hi => by
    rw [List.getElem?_append_left (by simpa using hi), List.getElem?_range hi]
  refine Weak.mk' (List.range N ++ ts.map (N + ·)) ?_ ?_ hF (AWg.append ?_ hT)
  · rw [List.nodup_append]
    refine ⟨List.nodup_range, ?_, fun a ha b hb => ?_⟩
    · rw [List.nodup_iff_pairwise_ne, List.pairwise_map]
      exact (List.nodup_iff_pairwise_ne.1 hts).imp fun h e => h (by omega)
    · obtain ⟨c, _, rfl⟩ := List.mem_map.1 hb
      have := List.mem_range.1 ha
      omega
  · rw [List.take_left' (by simp)]
  · refine AWg.of _ _ (by simp [hN]) fun i x b hx hb hlt => ?_
    have hi : i < N := by rw [← hN]; exact (List.getElem?_eq_some_iff.1 hx).1
    have hbi : b = i := by rw [List.getElem?_range hi] at hb; cases hb; rfl
    subst hbi
    rw [List.getD_eq_getElem?_getD, List.getElem?_append_left (by omega), hx]
    exact hA _ hr x (List.mem_of_getElem? hx)

/-- A disk's blocks, wherever they lie. -/
structure DAt (H : AHeap) (d : DS) (b fo m : Nat) (g : Nat → Nat) : Prop where
  c0 : H[b]? = some (d.cell0 fo m)
  fold : H[fo]? = some (.obj true d.fd.blks)
  map : H[m]? = some (.map (fileM g 0 d.fs))
  file : ∀ (i : Nat) e, d.fs[i]? = some e → H[g i]? = some (.obj true e.2.blks)
  nd : (b :: fo :: m :: (List.range d.fs.length).map g).Nodup

theorem DAt.awg {H : AHeap} {d : DS} {b fo m : Nat} {g : Nat → Nat} (h : DAt H d b fo m g) (rn : List Nat) (hr : ∀ i, i < d.fs.length + 3 → rn[i]? = (b :: fo :: m :: (List.range d.fs.length).map g)[i]?) :
    AWg rn H d.blks (b :: fo :: m :: (List.range d.fs.length).map g) := by
  refine AWg.of _ _ (by simp [DS.blks]) fun i x c hx hc hlt => ?_
  have hil : i < d.fs.length + 3 := by rw [← DS.blks_length]; exact (List.getElem?_eq_some_iff.1 hx).1
  rw [List.getD_eq_getElem?_getD]
  match i, hx, hc with
  | 0, hx, hc =>
    cases hx; cases hc
    rw [h.c0]
    exact ⟨id, ⟨hr 1 (by omega), rfl⟩, hr 2 (by omega), ⟨rfl, rfl⟩, ⟨rfl, rfl⟩, ⟨rfl, rfl⟩, rfl, trivial⟩
  | 1, hx, hc =>
    cases hx; cases hc
    rw [h.fold]
    exact ⟨rfl, rfl⟩
  | 2, hx, hc =>
    cases hx; cases hc
    rw [h.map]
    refine AWb_fileM fun i hi => ?_
    rw [hr (i + 3) (by omega)]
    simp [hi]
  | i + 3, hx, hc =>
    simp only [DS.blks, List.getElem?_cons_succ] at hx hc
    have hi : i < d.fs.length := by omega
    have he := List.getElem?_eq_getElem hi
    rw [filesB_get he] at hx
    cases hx
    simp [hi] at hc
    subst hc
    rw [h.file i _ he]
    exact ⟨rfl, rfl⟩

/-- From blocks that hold a disk to the disk's blocks alone. -/
theorem DAt.weak {H : AHeap} {d : DS} {b fo m : Nat} {g : Nat → Nat} (h : DAt H d b fo m g) {F Fn : List AV} {n : Nat} (hn : (b :: fo :: m :: (List.range d.fs.length).map g).take n = List.range n) (hF : AWs (b :: fo :: m :: (List.range d.fs.length).map g) Fn F) :
    Weak n F H Fn d.blks :=
  Weak.mk' _ h.nd hn hF (h.awg _ fun _ _ => rfl)

/-- The disk's blocks are put together to one. -/
theorem Aft.closeDS (d : DS) {T Tn : AHeap} {v v' : AV} (ts : List Nat) (hts : ts.Nodup) (hlen : Tn.length = ts.length) (hF : AW (0 :: ts.map (d.fs.length + 3 + ·)) v' v)
    (hT : ∀ (i t : Nat) x, ts[i]? = some t → Tn[i]? = some x → ∃ y, T[t]? = some y ∧ AWb (0 :: ts.map (d.fs.length + 3 + ·)) x y) : Aft 1 [v] (d.blks ++ T) fun F H => F = [v'] ∧ H = .obj true d.blks :: Tn := by
  have hl := d.blks_length
  have hr : ∀ i, i < d.blks.length → (List.range d.blks.length)[i]? = some i := fun i hi => List.getElem?_range hi
  refine Aft.close (o := true) (b := 0) (sub := d.blks) (rs := List.range d.blks.length) (ks := List.range' 1 (d.fs.length + 2)) (hr 0 (by omega)) List.nodup_range (by simp; omega) ?_ ?_ ⟨d.cell0 1 2, rfl, rfl⟩ ?_ (by simp; omega) ?_
  · intro c x hc h0 _ _
    have := List.mem_range.1 hc
    rw [List.mem_range'_1]; omega
  · refine AWg.of _ _ (by simp) fun i x b hx hb hlt => ?_
    have hi : i < d.blks.length := (List.getElem?_eq_some_iff.1 hx).1
    rw [hr i hi] at hb; cases hb
    rw [List.getD_eq_getElem?_getD, List.getElem?_append_left hi, hx]
    exact d.blks_id _ hr x (List.mem_of_getElem? hx)
  · intro i y hy hd
    have hm := List.mem_of_getElem? hy
    simp only [DS.blks, DS.cell0, List.mem_cons] at hm
    rcases hm with rfl | rfl | rfl | hm
    · rfl
    · rfl
    · rfl
    · obtain ⟨e, _, rfl⟩ := List.mem_map.1 hm
      rfl
  · refine Aft.weak (Fn := [v']) (Hn := .obj true d.blks :: Tn) (Weak.mk' (0 :: ts.map (d.fs.length + 3 + ·)) ?_ rfl ⟨hF, trivial⟩ (AWg_closed (b := 0) (by simp; omega) _ _ (by simp [hlen]) fun i c x h1 h2 => ?_)) (by simp; omega) (Aft.done (by simp) ⟨rfl, rfl⟩)
    · rw [List.nodup_cons]
      refine ⟨fun h => ?_, ?_⟩
      · obtain ⟨a, _, h⟩ := List.mem_map.1 h; omega
      · rw [List.nodup_iff_pairwise_ne, List.pairwise_map]
        exact (List.nodup_iff_pairwise_ne.1 hts).imp fun h e => h (by omega)
    · cases i with
      | zero =>
        cases h1; cases h2; exact .inl ⟨rfl, rfl⟩
      | succ i =>
        simp only [List.getElem?_cons_succ, List.getElem?_map] at h1 h2
        obtain ⟨t, ht, rfl⟩ := Option.map_eq_some_iff.1 h1
        obtain ⟨y, hy, hw⟩ := hT i t x ht h2
        refine .inr ⟨⟨by omega, by rw [List.mem_range'_1]; omega⟩, ?_⟩
        rw [List.getD_eq_getElem?_getD, List.getElem?_append_right (by omega), hl, Nat.add_sub_cancel_left, hy]
        exact hw

/-- Which disk an object is. -/
noncomputable def dsD (sub : AHeap) : Option DS := open Classical in if h : ∃ d : DS, sub = d.blks then some h.choose else none
theorem dsD_eq {sub : AHeap} {d : DS} (h : dsD sub = some d) : sub = d.blks := by
  unfold dsD at h
  split at h
  · rename_i hx
    cases h
    exact hx.choose_spec
  · cases h
theorem fileM_inj (g : Nat → Nat) : ∀ (k : Nat) {l m : FS}, fileM g k l = fileM g k m → filesB l = filesB m → l = m
  | _, [], [], _, _ => rfl
  | _, [], _ :: _, h, _ => by simp [fileM] at h
  | _, _ :: _, [], h, _ => by simp [fileM] at h
  | k, (a, x) :: l, (b, y) :: m, h, h' => by
    simp only [fileM, List.cons.injEq, Prod.mk.injEq, AV.int.injEq, true_and, and_true] at h
    simp only [filesB, List.map_cons, List.cons.injEq, ABlk.obj.injEq, true_and] at h'
    have h3 := congrArg fileD h'.1
    rw [fileD_blks, fileD_blks] at h3
    rw [h.1, Option.some.inj h3, fileM_inj g (k + 1) h.2 h'.2]
theorem dblks_inj {d e : DS} (h : d.blks = e.blks) : d = e := by
  obtain ⟨fd, fs, q, s, a, w⟩ := d
  obtain ⟨fd', fs', q', s', a', w'⟩ := e
  simp only [DS.blks, DS.cell0, List.cons.injEq, ABlk.cells.injEq, ABlk.obj.injEq, ABlk.map.injEq, AV.int.injEq, AV.bool.injEq, true_and, and_true] at h
  obtain ⟨⟨h1, h2, h3, h4⟩, h5, h6, h7⟩ := h
  rw [h1, h2, h3, h4, blks_inj h5, fileM_inj _ 0 h6 h7]
@[simp] theorem dsD_blks (d : DS) : dsD d.blks = some d := by
  unfold dsD
  have h : ∃ e : DS, d.blks = e.blks := ⟨d, rfl⟩
  rw [dif_pos h]
  have := Classical.choose_spec h
  exact congrArg some (dblks_inj this).symm

end Go.Proofs.Ytjolihoakdifoaa

namespace Go.Proofs.Ytjolihoakdifoaa
open Go Go.Lib
set_option maxRecDepth 100000
attribute [-simp] drawOk_eq adraw qrun acode aops

theorem DS.blks_head (d : DS) (T : AHeap) : d.blks ++ T = .cells true [.ptr 1 0, .map 2, .int .i64 d.quota, .int .i64 d.steps, .int .i64 d.armed, .bool d.down] :: (.obj true d.fd.blks :: .map (fileM (fun i => i + 3) 0 d.fs) :: (filesB d.fs ++ T)) := rfl

set_option maxHeartbeats 8000000 in
/-- A step is counted, and done if it may be done. -/
theorem step_ct (d : DS) (T : AHeap) (F : FuncId) (caps : List AV) {v : AV} {H' : AHeap} (he : ∀ cargs w, (callFunc F cargs).run Try.prog w = .ok (.enter F cargs) w) (hF : F ≠ yl)
    (hs : 0 ≤ d.steps ∧ d.steps ≤ 4611686018427387903) (ha : 0 ≤ d.armed ∧ d.armed ≤ 4611686018427387903) (hlen : (d.blks ++ T).length ≤ H'.length)
    (hdown : d.count.down = true → v = .int .i64 13 ∧ H' = d.count.blks ++ T)
    (hup : d.count.down = false → Ct Try.prog F caps (d.count.blks ++ T) v H') :
    Ct Try.prog 74 [.ptr 0 0, .func F [] caps] (d.blks ++ T) v H' := by
  have hw : IntKind.i64.wrap (d.steps + 1) = d.steps + 1 := wr_i64 (by omega) (by omega)
  have hb := DS.blks_head d T
  have hb2 := DS.blks_head d.count T
  rw [DS.count_fd, DS.count_fs, DS.count_quota, DS.count_steps] at hb2
  obtain ⟨rest, hrest⟩ : ∃ rest : AHeap, .obj true d.fd.blks :: .map (fileM (fun i => i + 3) 0 d.fs) :: (filesB d.fs ++ T) = rest := ⟨_, rfl⟩
  rw [hrest] at hb hb2
  obtain ⟨a', ea⟩ : ∃ a', d.count.armed = a' := ⟨_, rfl⟩
  obtain ⟨w', ew⟩ : ∃ w', d.count.down = w' := ⟨_, rfl⟩
  rw [ea, ew] at hb2
  rw [ew] at hdown hup
  rw [hb2] at hdown hup
  rw [hb] at hlen ⊢
  refine ct_of_simE Try.func74 rfl ?_
  simp only [Try.ntmps74, List.length_cons, List.length_nil, Nat.reduceAdd, Nat.reduceSub, List.replicate, List.cons_append, List.nil_append]
  refine Sim.step hmix goks_nil (n := 0) (by simp; exact ⟨rfl, rfl⟩) (by simp) ?_
  refine Sim.step hmix goks_nil (n := 0) (by simp; exact ⟨rfl, rfl⟩) (by simp) ?_
  refine Sim.step hmix goks_nil (n := 0) (by simp [hw]; exact ⟨rfl, rfl⟩) (by simp) ?_
  refine Sim.seq (Sim.mono (Q := fun e F' H1 => e = .normal ∧ LessF ([.ptr 0 0, .func F [] caps, .top, .top, .int .i64 0] ++ List.replicate 42 .top) F' ∧ H1 = .cells true [.ptr 1 0, .map 2, .int .i64 d.quota, .int .i64 (d.steps + 1), .int .i64 a', .bool w'] :: rest) ?_ ?_)
  · by_cases h1 : 0 < d.armed
    · cases h2 : d.down with
      | true =>
        have e : d.count = ⟨d.fd, d.fs, d.quota, d.steps + 1, d.armed, d.down⟩ := by unfold DS.count; rw [if_neg (by simp [h2])]
        rw [e] at ea ew
        dsimp only at ea ew
        rw [h2] at ew
        subst ea; subst ew
        refine Sim.exec hmix goks_nil (n := 0) (by simp [h1]; exact ⟨rfl, rfl, rfl⟩) (by simp) ?_
        exact ⟨rfl, by simp, rfl⟩
      | false =>
        have e : d.count = ⟨d.fd, d.fs, d.quota, d.steps + 1, d.armed - 1, decide (d.armed - 1 = 0)⟩ := by unfold DS.count; rw [if_pos ⟨h1, h2⟩]
        rw [e] at ea ew
        dsimp only at ea ew
        have hw1 : IntKind.i64.wrap (d.armed - 1) = d.armed - 1 := wr_i64 (by omega) (by omega)
        rw [ea] at hw1 ew
        have ew' : (a' == 0) = w' := by rw [← ew]; by_cases h : a' = 0 <;> simp [h]
        refine Sim.exec hmix goks_nil (n := 0) (by simp [h1, ea, hw1, ew']; exact ⟨rfl, rfl, rfl⟩) (by simp) ?_
        exact ⟨rfl, by simp, rfl⟩
    · have e : d.count = ⟨d.fd, d.fs, d.quota, d.steps + 1, d.armed, d.down⟩ := by unfold DS.count; rw [if_neg (by simp [h1])]
      rw [e] at ea ew
      dsimp only at ea ew
      subst ea; subst ew
      refine Sim.exec hmix goks_nil (n := 0) (by simp [h1]; exact ⟨rfl, rfl, rfl⟩) (by simp) ?_
      exact ⟨rfl, by simp, rfl⟩
  rintro e F' H1 hlen1 ⟨rfl, hF, rfl⟩
  dsimp only
  refine Sim.less hF ?_
  clear hF hlen1
  simp only [List.cons_append, List.nil_append, List.replicate]
  cases w' with
  | true =>
    obtain ⟨rfl, rfl⟩ := hdown rfl
    refine Sim.exec hmix goks_nil (n := 0) (by simp; exact ⟨rfl, rfl, rfl⟩) (by simp) ?_
    exact ⟨.inr rfl, by simp [Try.f74], rfl⟩
  | false =>
    have hΓ : GOk Try.prog (gams [(F, oneAt caps (.cells true [.ptr 1 0, .map 2, .int .i64 d.quota, .int .i64 (d.steps + 1), .int .i64 a', .bool false] :: rest) v H')]) := goks_cons (oneAt_sound he (hup rfl) (by simpa using hlen)) goks_nil (hg := hF)
    refine Sim.step hmix hΓ (n := 0) (by simp; exact ⟨rfl, rfl⟩) (by simp) ?_
    have hF' : ¬ F = 1000000000 := hF
    refine Sim.exec hmix hΓ (n := 0) (by simp [hF']; exact ⟨rfl, rfl, rfl⟩) (by simp) ?_
    exact ⟨.inr rfl, by simp [Try.f74], rfl⟩

end Go.Proofs.Ytjolihoakdifoaa

namespace Go.Proofs.Ytjolihoakdifoaa
open Go Go.Lib
set_option maxRecDepth 100000
attribute [-simp] drawOk_eq adraw qrun acode aops

/-- A disk's blocks, and more behind them. -/
def DS.heap (d : DS) (T : AHeap) : AHeap := d.cell0 1 2 :: .obj true d.fd.blks :: .map (fileM (fun i => i + 3) 0 d.fs) :: (filesB d.fs ++ T)
theorem DS.heap_eq (d : DS) (T : AHeap) : d.heap T = d.blks ++ T := rfl
theorem DS.heap_length (d : DS) (T : AHeap) : (d.heap T).length = d.fs.length + T.length + 3 := by simp [DS.heap]

/-- The blocks behind a part of known length. -/
structure Behind (X : AHeap) (n : Nat) : Prop where
  len : X.length = n
  get : ∀ (T : AHeap) (j : Nat), (X ++ T)[n + j]? = T[j]?
  get0 : ∀ (T : AHeap), (X ++ T)[n]? = T[0]?
  set : ∀ (T : AHeap) (j : Nat) v, (X ++ T).set (n + j) v = X ++ T.set j v
  set0 : ∀ (T : AHeap) v, (X ++ T).set n v = X ++ T.set 0 v
theorem behind (fs : FS) : Behind (filesB fs) fs.length := by
  have hl : (filesB fs).length = fs.length := filesB_length fs
  refine ⟨hl, fun T j => ?_, fun T => ?_, fun T j v => ?_, fun T v => ?_⟩
  · rw [List.getElem?_append_right (by omega), hl]; congr 1; omega
  · rw [List.getElem?_append_right (by omega), hl, Nat.sub_self]
  · rw [List.set_append_right _ _ (by omega), hl]; congr 2; omega
  · rw [List.set_append_right _ _ (by omega), hl, Nat.sub_self]

/-- Behind a disk's blocks, things are forgotten and renamed. -/
theorem DS.tail (d : DS) {T Tn : AHeap} {F Fn : List AV} (ts : List Nat) (hts : ts.Nodup)
    (hF : AWs (List.range (d.fs.length + 3) ++ ts.map (d.fs.length + 3 + ·)) Fn F) (hlen : Tn.length = ts.length)
    (hT : ∀ (i t : Nat) x y, ts[i]? = some t → Tn[i]? = some x → T[t]? = some y → AWb (List.range (d.fs.length + 3) ++ ts.map (d.fs.length + 3 + ·)) x y) : Weak (d.fs.length + 3) F (d.heap T) Fn (d.heap Tn) := by
  have hl := d.blks_length
  rw [DS.heap_eq, DS.heap_eq]
  refine Weak.tailG hl (fun rn hr => d.blks_id rn (by rw [hl]; exact hr)) ts hts hF (AWg.of _ _ (by simp [hlen]) fun i x b hx hb hlt => ?_)
  rw [List.getElem?_map] at hb
  obtain ⟨t, ht, rfl⟩ := Option.map_eq_some_iff.1 hb
  rw [List.length_append, hl] at hlt
  have htl : t < T.length := by omega
  rw [List.getD_eq_getElem?_getD, List.getElem?_append_right (by omega), hl, Nat.add_sub_cancel_left, List.getElem?_eq_getElem htl]
  exact hT i t x _ ht hx (List.getElem?_eq_getElem htl)

theorem range_at (n : Nat) (ts : List Nat) {i : Nat} (hi : i < n) : (List.range n ++ ts)[i]? = some i := by
  rw [List.getElem?_append_left (by simpa using hi), List.getElem?_range hi]
theorem range_beh (n : Nat) (ts : List Nat) (i : Nat) : (List.range n ++ ts)[n + i]? = ts[i]? := by
  rw [List.getElem?_append_right (by simp)]; simp
theorem range_beh0 (n : Nat) (ts : List Nat) : (List.range n ++ ts)[n]? = ts[0]? := by
  rw [List.getElem?_append_right (by simp)]; simp

theorem rg0 (n : Nat) (ts : List Nat) : (List.range (n + 3) ++ ts)[0]? = some 0 := range_at _ _ (by omega)
theorem rg3 (n : Nat) (ts : List Nat) : (List.range (n + 3) ++ ts)[n + 3]? = ts[0]? := range_beh0 _ _
theorem rg4 (n : Nat) (ts : List Nat) : (List.range (n + 3) ++ ts)[n + 4]? = ts[1]? := range_beh (n + 3) ts 1
theorem rg5 (n : Nat) (ts : List Nat) : (List.range (n + 3) ++ ts)[n + 5]? = ts[2]? := range_beh (n + 3) ts 2
theorem rg6 (n : Nat) (ts : List Nat) : (List.range (n + 3) ++ ts)[n + 6]? = ts[3]? := range_beh (n + 3) ts 3

def dnInl : List FuncId := [28]
noncomputable def liΓ0 : Gam := gams [(20, fnamesS)]
theorem liΓ_ok : GOk Try.prog (runG Try.prog liΓ0 0 dnInl 2) := gok_run hmix (goks_cons fnames_sound goks_nil) 0 dnInl 2

set_option maxHeartbeats 8000000 in
theorem list_ct (d : DS) (hsm : d.fd.small) : Ct Try.prog 32 [.ptr 0 0] (d.heap []) (.sl (d.fs.length + 3) 0 d.list.length 1 false) (d.heap [.cells true (d.list.map .str)]) := by
  have hΓ := liΓ_ok
  have hlen := d.heap_length []
  obtain ⟨n, hn⟩ : ∃ n, d.fs.length = n := ⟨_, rfl⟩
  have hX := behind d.fs
  have tl := fun {T Tn F Fn} => DS.tail d (T := T) (Tn := Tn) (F := F) (Fn := Fn)
  rw [hn] at hlen hX tl
  refine ct_of_sim Try.func32 rfl ?_
  simp only [Try.ntmps32, List.length_cons, List.length_nil, Nat.reduceAdd, Nat.reduceSub, List.replicate, List.cons_append, List.nil_append]
  rw [hlen, hn]
  unfold DS.heap DS.cell0
  have hXl := hX.len
  obtain ⟨X, eX⟩ : ∃ X, filesB d.fs = X := ⟨_, rfl⟩
  rw [eX] at hX hXl ⊢
  refine Sim.step hmix hΓ (n := 0) (by simp; exact ⟨rfl, rfl⟩) (by simp [hXl]) ?_
  cases hd : d.down with
  | true =>
    have hl : d.list = [] := by unfold DS.list; rw [hd]; rfl
    rw [hl]
    refine Sim.exec hmix hΓ (n := 0) (by simp (decide := true) [dnInl, Try.f28]; exact ⟨rfl, rfl, rfl⟩) (by simp [hXl]) ?_
    refine ⟨.inr rfl, _, by simp [Try.f32] <;> rfl, ?_⟩
    have := tl (T := []) (Tn := [.cells true []]) (F := [.nils]) (Fn := [.sl (n + 3) 0 0 1 false]) [100] (by decide) (by simp [AWs, AW]) rfl (fun i t x y h1 h2 h3 => by simp at h3)
    unfold DS.heap DS.cell0 at this
    rw [eX, hd] at this
    simpa using this
  | false =>
    have hl : d.list = d.fd.names := by unfold DS.list; rw [hd]; rfl
    rw [hl]
    refine Sim.step hmix hΓ (n := 0) (by simp (decide := true) [dnInl, Try.f28]; exact ⟨rfl, rfl⟩) (by simp [hXl]) ?_
    refine Sim.exec hmix hΓ (n := 0) (by simp (decide := true) [liΓ0, fnamesS, hsm, hXl]; exact ⟨rfl, rfl, rfl⟩) (by simp [hXl]) ?_
    refine ⟨.inr rfl, _, by simp [Try.f32] <;> rfl, ?_⟩
    have := tl (T := [.cells true (d.fd.names.map .str)]) (Tn := [.cells true (d.fd.names.map .str)]) (F := [.sl (n + 3) 0 d.fd.names.length 1 false]) (Fn := [.sl (n + 3) 0 d.fd.names.length 1 false]) [0] (by decide) (by simp [AWs, AW]) rfl (fun i t x y h1 h2 h3 => by
      match i, h1, h2 with
      | 0, h1, h2 => cases h1; cases h2; cases h3; exact ⟨id, (AWs_free (frees_map d.fd.names AV.str fun _ => rfl)).2 trivial⟩)
    unfold DS.heap DS.cell0 at this
    rw [eX, hd] at this
    simpa using this

end Go.Proofs.Ytjolihoakdifoaa

