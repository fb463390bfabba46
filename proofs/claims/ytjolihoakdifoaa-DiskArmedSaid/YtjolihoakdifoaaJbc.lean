/- XJh: What is done to a disk: Create, SyncDir, Remove.
XJi: What is done to a disk's names: SyncDir, Remove.
XJj: A step of a disk's file.
XJk: A step of a disk's file: of, Sync. -/
import Derived.Test.YtjolihoakdifoaaJbb
namespace Go.Proofs.Ytjolihoakdifoaa
open Go Go.Lib
set_option maxRecDepth 100000
attribute [-simp] drawOk_eq adraw qrun acode aops

/-- A box of the disk, and one of a text. -/
def boxD : ABlk := .cells true [.ptr 0 0]
def boxS (k : List UInt8) : ABlk := .cells true [.str k]

/-- What Create's step leaves behind, if it makes a file. -/
def madeH (d : DS) (fd : FD) (n : Int) (T : AHeap) (B : ABlk) : AHeap :=
  d.cell0 1 2 :: .obj true fd.blks :: .map (fileM (fun i => i + 3) 0 d.fs ++ [(.int .i64 n, .ptr (d.fs.length + 3 + T.length) 0)]) :: (filesB d.fs ++ (T ++ [B]))

noncomputable def crΓ0 : Gam := gams [(61, fcreS), (6, fnewS)]
theorem crΓ_ok : GOk Try.prog crΓ0 := goks_cons fcre_sound (goks_cons fnew_sound goks_nil)

theorem DS.small_fd {d : DS} {A B : Nat} (h : d.ok A B) (hA : A ≤ 1000000) : d.fd.small := FD.ok_mono h.fd hA
theorem DS.fresh {d : DS} {A B : Nat} (h : d.ok A B) : FS.get d.fs (d.fd.last + 1) = none := FS.get_none.2 fun hm => by have := h.rng _ hm; omega

set_option maxHeartbeats 16000000 in
theorem create1_ct (d : DS) {A B : Nat} (hok : d.ok A B) (hA : A ≤ 1000000) (k : List UInt8) (hk : k.length ≤ 9223372036854775807) :
    Ct Try.prog 75 [.ptr (d.fs.length + 3) 0, .ptr (d.fs.length + 4) 0] (d.heap [boxD, boxS k]) (.int .i64 (d.fd.create k).2.2)
      (if (d.fd.create k).2.2 = 0 then madeH d (d.fd.create k).1 (d.fd.create k).2.1 [boxD, boxS k] (.obj true (⟨[], []⟩ : PF).blks) else (⟨(d.fd.create k).1, d.fs, d.quota, d.steps, d.armed, d.down⟩ : DS).heap [boxD, boxS k]) := by
  have hΓ := crΓ_ok
  have hsm := DS.small_fd hok hA
  obtain ⟨n, hn⟩ : ∃ n, d.fs.length = n := ⟨_, rfl⟩
  have hX := behind d.fs
  rw [hn] at hX
  refine ct_of_simE Try.func75 rfl ?_
  simp only [Try.ntmps75, List.length_cons, List.length_nil, Nat.reduceAdd, Nat.reduceSub, List.replicate, List.cons_append, List.nil_append]
  have hXl := hX.len
  have hXg := hX.get
  have hXg0 := hX.get0
  have hXs := hX.set
  have hXs0 := hX.set0
  have hz : (d.fd.create k).2.2 = 0 → (d.fd.create k).2.1 = d.fd.last + 1 := by
    unfold FD.create
    split
    · split
      · intro h; exact absurd h (by dsimp only; omega)
      · intro _; rfl
    · intro h; exact absurd h (by dsimp only; omega)
  obtain ⟨f', num, e, hc⟩ : ∃ f' num e, d.fd.create k = (f', num, e) := ⟨_, _, _, rfl⟩
  rw [hc] at hz ⊢
  dsimp only at hz ⊢
  have hfr := DS.fresh hok
  unfold DS.heap madeH DS.cell0 boxD boxS
  rw [hn]
  have hlook := find_files (fun i => i + 3) num 0 d.fs 0
  obtain ⟨X, eX⟩ : ∃ X, filesB d.fs = X := ⟨_, rfl⟩
  rw [eX] at hXl hXg hXg0 hXs hXs0 ⊢
  refine Sim.step hmix hΓ (n := 0) (by simp; exact ⟨rfl, rfl⟩) (by simp [hXl]) ?_
  refine Sim.seq (Sim.draw hmix (by simp) ?_)
  refine SimR.many hΓ 5 (by simp [stageOps]; rfl) (by omega) (by kernel_rfl) (by simp (decide := true) [hXl]; first | exact ⟨rfl, rfl⟩ | exact ⟨by kernel_rfl, rfl, rfl⟩) ?_
  refine SimR.one hΓ _ rfl (by kernel_rfl) (by simp (decide := true) [crΓ0, fcreS, hsm, hk, hc]; exact ⟨rfl, rfl⟩) ?_
  refine SimR.many hΓ 11 (by simp [stageOps, blankOp]; rfl) (by omega) (by kernel_rfl) (by simp (decide := true); first | exact ⟨rfl, rfl⟩ | exact ⟨by kernel_rfl, rfl, rfl⟩) ?_
  refine SimR.done rfl ?_
  dsimp only
  by_cases he : e = 0
  · subst he
    have hnum := hz rfl
    subst hnum
    rw [hfr] at hlook
    simp only [Option.map_none] at hlook
    refine Sim.seq (Sim.step hmix hΓ (n := 0) (by simp; exact ⟨rfl, rfl⟩) (by simp [hXl]) (Sim.cond (t := true) (by simp) ?_))
    rw [if_pos rfl]
    refine Sim.draw hmix (by simp) ?_
    refine SimR.many hΓ 6 (by simp [stageOps]; rfl) (by omega) (by kernel_rfl) (by simp (decide := true) [crΓ0, fnewS, hXl]; first | exact ⟨rfl, rfl⟩ | exact ⟨by kernel_rfl, rfl, rfl⟩) ?_
    refine SimR.one hΓ _ rfl (by kernel_rfl) (by simp (decide := true) [hlook]; exact ⟨rfl, rfl⟩) ?_
    refine SimR.done rfl ?_
    dsimp only
    refine Sim.exec hmix hΓ (n := 0) (by simp; exact ⟨rfl, rfl, rfl⟩) (by simp [hXl]) ?_
    refine ⟨.inr rfl, by simp [Try.f75], ?_⟩
    simp
  · have he' : (e == 0) = false := by simpa using he
    refine Sim.step hmix hΓ (n := 0) (by simp (decide := true) [he']; exact ⟨rfl, rfl⟩) (by simp [hXl]) ?_
    refine Sim.exec hmix hΓ (n := 0) (by simp; exact ⟨rfl, rfl, rfl⟩) (by simp [hXl]) ?_
    refine ⟨.inr rfl, by simp [Try.f75], ?_⟩
    simp [he]

theorem names_made (n t : Nat) : (0 :: 1 :: 2 :: (List.range (n + 1)).map fun i => if i < n then i + 3 else n + 3 + t) = List.range (n + 3) ++ [n + 3 + t] := by
  refine List.ext_getElem? fun i => ?_
  rcases Nat.lt_or_ge i (n + 3) with h | h
  · rw [List.getElem?_append_left (by simpa using h), List.getElem?_range h]
    match i, h with
    | 0, _ => rfl
    | 1, _ => rfl
    | 2, _ => rfl
    | i + 3, h =>
      simp only [List.getElem?_cons_succ]
      rw [List.getElem?_map, List.getElem?_range (by omega), Option.map_some, if_pos (by omega)]
  · obtain ⟨j, rfl⟩ : ∃ j, i = n + 3 + j := ⟨i - (n + 3), by omega⟩
    rw [range_beh, show n + 3 + j = n + j + 1 + 1 + 1 by omega]
    simp only [List.getElem?_cons_succ]
    cases j with
    | zero => simp
    | succ j => simp

/-- A made file behind other blocks: the disk. -/
theorem madeH_weak (d : DS) (fd : FD) (n : Int) (T : AHeap) (f : PF) (v : AV) (hv : flatT v = true) :
    Weak (d.fs.length + 3) [v] (madeH d fd n T (.obj true f.blks)) [v] ((⟨fd, d.fs ++ [(n, f)], d.quota, d.steps, d.armed, d.down⟩ : DS).heap []) := by
  obtain ⟨N, hN⟩ : ∃ N, d.fs.length = N := ⟨_, rfl⟩
  have hX := behind d.fs
  rw [hN] at hX
  have hat : DAt (madeH d fd n T (.obj true f.blks)) ⟨fd, d.fs ++ [(n, f)], d.quota, d.steps, d.armed, d.down⟩ 0 1 2 (fun i => if i < N then i + 3 else N + 3 + T.length) := by
    unfold madeH
    refine ⟨rfl, rfl, ?_, fun i e he => ?_, ?_⟩
    · simp only [List.getElem?_cons_succ, List.getElem?_cons_zero]
      rw [fileM_app, fileM_congr 0 d.fs (fun i _ hi => if_pos (by omega))]
      simp [hN]
    · dsimp only at he ⊢
      by_cases hi : i < N
      · rw [if_pos hi]
        simp only [List.getElem?_cons_succ]
        rw [List.getElem?_append_left (by omega)] at he
        rw [List.getElem?_append_left (by rw [hX.len]; exact hi), filesB_get he]
      · rw [if_neg hi]
        have hie : i = N := by
          have := (List.getElem?_eq_some_iff.1 he).1
          simp at this; omega
        subst hie
        rw [List.getElem?_append_right (by omega), hN, Nat.sub_self] at he
        simp at he
        subst he
        rw [show i + 3 + T.length = i + T.length + 1 + 1 + 1 by omega]
        simp only [List.getElem?_cons_succ]
        rw [hX.get, List.getElem?_append_right (Nat.le_refl _), Nat.sub_self]
        rfl
    · dsimp only
      rw [List.length_append, hN]
      simp only [List.length_cons, List.length_nil, Nat.zero_add]
      rw [names_made, List.nodup_append]
      exact ⟨List.nodup_range, by simp, fun a ha b hb => by have := List.mem_range.1 ha; simp at hb; omega⟩
  have := hat.weak (F := [v]) (Fn := [v]) (n := N + 3) (by
    dsimp only
    rw [List.length_append, hN]
    simp only [List.length_cons, List.length_nil, Nat.zero_add]
    rw [names_made, List.take_left' (by simp)]) ⟨AW_flatT _ hv, trivial⟩
  rw [hN, DS.heap_eq, List.append_nil]
  exact this

/-- A disk's blocks and some more: the disk's alone. -/
theorem heap_weak (d : DS) (T : AHeap) (v : AV) (hv : flatT v = true) : Weak (d.fs.length + 3) [v] (d.heap T) [v] (d.heap []) :=
  DS.tail d [] (by decide) ⟨AW_flatT _ hv, trivial⟩ rfl fun i t x y h => by simp at h

set_option maxHeartbeats 8000000 in
theorem create_ctD (d : DS) {A B : Nat} (hok : d.ok A B) (hA : A ≤ 999999) (k : List UInt8) (hk : k.length ≤ 9223372036854775807) :
    Ct Try.prog 29 [.ptr 0 0, .str k] (d.heap []) (.int .i64 (d.create k).2) ((d.create k).1.heap []) := by
  have hc := DS.ok_count hok
  have hl1 : (d.heap [boxD, boxS k]).length = d.fs.length + 5 := by rw [DS.heap_length]; simp
  obtain ⟨H1, hH1⟩ : ∃ H1 : AHeap, H1 = (if d.count.down = true then d.count.heap [boxD, boxS k] else if (d.count.fd.create k).2.2 = 0 then madeH d.count (d.count.fd.create k).1 (d.count.fd.create k).2.1 [boxD, boxS k] (.obj true (⟨[], []⟩ : PF).blks) else (⟨(d.count.fd.create k).1, d.count.fs, d.count.quota, d.count.steps, d.count.armed, d.count.down⟩ : DS).heap [boxD, boxS k]) := ⟨_, rfl⟩
  have hl2 : (d.heap [boxD, boxS k]).length ≤ H1.length := by
    rw [hH1, hl1]
    split
    · simp [DS.heap_length]
    split
    · simp [madeH]
    · simp [DS.heap_length]
  have hst := step_ct d [boxD, boxS k] 75 [.ptr (d.fs.length + 3) 0, .ptr (d.fs.length + 4) 0] (v := .int .i64 (d.create k).2) (H' := H1) (enter_of Try.func75 rfl (by decide)) (by decide)
    ⟨hok.s0, by have := hok.s1; omega⟩ ⟨hok.a0, hok.a1⟩ hl2 (fun hd => ?_) (fun hd => ?_)
  rotate_left
  · refine ⟨by unfold DS.create DS.step; rw [if_pos hd], by rw [hH1, if_pos hd]; rfl⟩
  · have := create1_ct d.count hc (by omega) k hk
    rw [DS.count_fs] at this
    have hd' : ¬ d.count.down = true := by rw [hd]; decide
    have e : (d.create k).2 = (d.count.fd.create k).2.2 := by
      unfold DS.create DS.step
      rw [if_neg hd']
      dsimp only
      split
      · rename_i h; rw [h]
      · rfl
    rw [e, hH1, if_neg hd']
    rw [DS.count_fs]
    exact this
  have hΓ : GOk Try.prog (gams [(74, oneAt [.ptr 0 0, .func 75 [] [.ptr (d.fs.length + 3) 0, .ptr (d.fs.length + 4) 0]] (d.heap [boxD, boxS k]) (.int .i64 (d.create k).2) H1)]) :=
    goks_cons (oneAt_sound (enter_of Try.func74 rfl (by decide)) hst hl2) goks_nil
  have hfin : Weak (d.fs.length + 3) [.int .i64 (d.create k).2] H1 [.int .i64 (d.create k).2] ((d.create k).1.heap []) := by
    rw [hH1]
    unfold DS.create DS.step
    by_cases hd : d.count.down = true
    · rw [if_pos hd, if_pos hd]
      have := heap_weak d.count [boxD, boxS k] (.int .i64 13) rfl
      rw [DS.count_fs] at this
      exact this
    · rw [if_neg hd, if_neg hd]
      by_cases he : (d.count.fd.create k).2.2 = 0
      · simp only [if_pos he]
        have := madeH_weak d.count (d.count.fd.create k).1 (d.count.fd.create k).2.1 [boxD, boxS k] ⟨[], []⟩ (.int .i64 0) rfl
        rw [DS.count_fs] at this ⊢
        exact this
      · simp only [if_neg he]
        have := heap_weak (⟨(d.count.fd.create k).1, d.count.fs, d.count.quota, d.count.steps, d.count.armed, d.count.down⟩ : DS) [boxD, boxS k] (.int .i64 (d.count.fd.create k).2.2) rfl
        dsimp only at this
        rw [DS.count_fs] at this ⊢
        exact this
  refine ct_of_sim Try.func29 rfl ?_
  simp only [Try.ntmps29, List.length_cons, List.length_nil, Nat.reduceAdd, Nat.reduceSub, List.replicate, List.cons_append, List.nil_append]
  rw [DS.heap_length]
  simp only [List.length_nil, Nat.add_zero]
  have hX := behind d.fs
  obtain ⟨n, hn⟩ : ∃ n, d.fs.length = n := ⟨_, rfl⟩
  rw [hn] at hX hΓ hfin ⊢
  have hXl := hX.len
  have hXg := hX.get
  have hXg0 := hX.get0
  generalize (d.create k).2 = e at hΓ hfin ⊢
  generalize (d.create k).1.heap [] = HF at hfin ⊢
  clear hst hl1 hH1
  unfold DS.heap DS.cell0 boxD boxS at hΓ
  unfold DS.heap DS.cell0
  obtain ⟨X, eX⟩ : ∃ X, filesB d.fs = X := ⟨_, rfl⟩
  rw [eX] at hXl hXg hXg0 hΓ ⊢
  refine Sim.step hmix hΓ (n := 0) (by simp; exact ⟨rfl, rfl⟩) (by simp [hXl]) ?_
  refine Sim.exec hmix hΓ (n := 0) (by simp [hXl]; exact ⟨rfl, rfl, rfl⟩) (by simp [hXl]) ?_
  exact ⟨.inr rfl, _, by simp [Try.f29] <;> rfl, hfin⟩

end Go.Proofs.Ytjolihoakdifoaa

namespace Go.Proofs.Ytjolihoakdifoaa
open Go Go.Lib
set_option maxRecDepth 100000
attribute [-simp] drawOk_eq adraw qrun acode aops

/-- A step whose closure leaves the disk's files where they are. -/
theorem stepped (d : DS) {A B : Nat} (hok : d.ok A B) (hA : A ≤ 999999) (T T2 : AHeap) (F : FuncId) (caps : List AV) (g : DS → DS × Int) (he : ∀ cargs w, (callFunc F cargs).run Try.prog w = .ok (.enter F cargs) w) (hF : F ≠ yl)
    (hfs : (g d.count).1.fs.length = d.fs.length) (hT : T.length ≤ T2.length) (hcl : d.count.down = false → Ct Try.prog F caps (d.count.heap T) (.int .i64 (g d.count).2) ((g d.count).1.heap T2)) :
    ∃ H1, Ct Try.prog 74 [.ptr 0 0, .func F [] caps] (d.heap T) (.int .i64 (d.step g).2) H1 ∧ (d.heap T).length ≤ H1.length ∧ (∃ T3, H1 = (d.step g).1.heap T3 ∧ T.length ≤ T3.length) ∧ (d.step g).1.fs.length = d.fs.length ∧
      Sound Try.prog 74 (oneAt [.ptr 0 0, .func F [] caps] (d.heap T) (.int .i64 (d.step g).2) H1) := by
  have e : (d.step g).1.fs.length = d.fs.length := by
    unfold DS.step
    split
    · rw [DS.count_fs]
    · exact hfs
  obtain ⟨T3, hT3⟩ : ∃ T3, T3 = (if d.count.down = true then T else T2) := ⟨_, rfl⟩
  have hl3 : T.length ≤ T3.length := by rw [hT3]; split <;> omega
  have hl : (d.heap T).length ≤ ((d.step g).1.heap T3).length := by rw [DS.heap_length, DS.heap_length, e]; omega
  have hct : Ct Try.prog 74 [.ptr 0 0, .func F [] caps] (d.heap T) (.int .i64 (d.step g).2) ((d.step g).1.heap T3) := by
    refine step_ct d T F caps he hF ⟨hok.s0, by have := hok.s1; omega⟩ ⟨hok.a0, hok.a1⟩ hl (fun hd => ?_) fun hd => ?_
    · unfold DS.step
      rw [if_pos hd, hT3, if_pos hd]
      exact ⟨rfl, rfl⟩
    · have := hcl hd
      unfold DS.step
      rw [if_neg (by rw [hd]; decide), hT3, if_neg (by rw [hd]; decide)]
      exact this
  exact ⟨_, hct, hl, ⟨T3, rfl, hl3⟩, e, oneAt_sound (enter_of Try.func74 rfl (by decide)) hct hl⟩

theorem heap_weak' {d e : DS} (T : AHeap) (v : AV) (hv : flatT v = true) (h : e.fs.length = d.fs.length) : Weak (d.fs.length + 3) [v] (e.heap T) [v] (e.heap []) := by
  rw [← h]; exact heap_weak e T v hv

/-- The names' part of a disk is another one. -/
def DS.fdTo (d : DS) (f : FD) : DS := ⟨f, d.fs, d.quota, d.steps, d.armed, d.down⟩

noncomputable def syΓ1 : Gam := gams [(16, fsyn0S)]
theorem syΓ1_ok : GOk Try.prog syΓ1 := goks_cons fsyn0_sound goks_nil

set_option maxHeartbeats 8000000 in
theorem syncDir1_ct (d : DS) (hk : d.fd.acts.length ≤ 1000000) : Ct Try.prog 81 [.ptr (d.fs.length + 3) 0] (d.heap [boxD]) (.int .i64 0) ((d.fdTo (d.fd.survive d.fd.acts.length)).heap [boxD]) := by
  have hΓ := syΓ1_ok
  obtain ⟨n, hn⟩ : ∃ n, d.fs.length = n := ⟨_, rfl⟩
  have hX := behind d.fs
  rw [hn] at hX
  refine ct_of_simE Try.func81 rfl ?_
  simp only [Try.ntmps81, List.length_cons, List.length_nil, Nat.reduceAdd, Nat.reduceSub, List.replicate, List.cons_append, List.nil_append]
  have hXl := hX.len
  have hXg := hX.get
  have hXg0 := hX.get0
  unfold DS.heap DS.cell0 boxD DS.fdTo
  rw [hn]
  obtain ⟨X, eX⟩ : ∃ X, filesB d.fs = X := ⟨_, rfl⟩
  rw [eX] at hXl hXg hXg0 ⊢
  refine Sim.step hmix hΓ (n := 0) (by simp; exact ⟨rfl, rfl⟩) (by simp [hXl]) ?_
  refine Sim.step hmix hΓ (n := 0) (by simp [syΓ1, fsyn0S, hk, hXl]; exact ⟨rfl, rfl⟩) (by simp [hXl]) ?_
  refine Sim.exec hmix hΓ (n := 0) (by simp; exact ⟨rfl, rfl, rfl⟩) (by simp [hXl]) ?_
  exact ⟨.inr rfl, by simp [Try.f81], rfl⟩

set_option maxHeartbeats 8000000 in
theorem syncDir_ctD (d : DS) {A B : Nat} (hok : d.ok A B) (hA : A ≤ 999999) : Ct Try.prog 36 [.ptr 0 0] (d.heap []) (.int .i64 d.syncDir.2) (d.syncDir.1.heap []) := by
  have hc := DS.ok_count hok
  obtain ⟨H1, hct, hl, ⟨T3, hT3, _⟩, hfs, hsound⟩ := stepped d hok hA [boxD] [boxD] 81 [.ptr (d.fs.length + 3) 0] (fun d => (⟨d.fd.survive d.fd.acts.length, d.fs, d.quota, d.steps, d.armed, d.down⟩, 0)) (enter_of Try.func81 rfl (by decide)) (by decide)
    (by dsimp only; rw [DS.count_fs]) (Nat.le_refl _) fun _ => by
      have := syncDir1_ct d.count (by have := hc.fd.len; omega)
      rw [DS.count_fs] at this
      exact this
  have hΓ := goks_cons hsound goks_nil
  have hfin := heap_weak' (d := d) T3 (.int .i64 d.syncDir.2) rfl hfs
  rw [← hT3] at hfin
  unfold DS.syncDir at hfin ⊢
  refine ct_of_sim Try.func36 rfl ?_
  simp only [Try.ntmps36, List.length_cons, List.length_nil, Nat.reduceAdd, Nat.reduceSub, List.replicate, List.cons_append, List.nil_append]
  rw [DS.heap_length]
  simp only [List.length_nil, Nat.add_zero]
  clear hct hT3
  generalize DS.step d _ = R at hΓ hfin ⊢
  generalize R.1.heap [] = HF at hfin ⊢
  generalize R.2 = e at hΓ hfin ⊢
  have hX := behind d.fs
  obtain ⟨n, hn⟩ : ∃ n, d.fs.length = n := ⟨_, rfl⟩
  rw [hn] at hX hΓ hfin ⊢
  have hXl := hX.len
  have hXg := hX.get
  have hXg0 := hX.get0
  unfold DS.heap DS.cell0 boxD at hΓ
  unfold DS.heap DS.cell0
  obtain ⟨X, eX⟩ : ∃ X, filesB d.fs = X := ⟨_, rfl⟩
  rw [eX] at hXl hXg hXg0 hΓ ⊢
  refine Sim.step hmix hΓ (n := 0) (by simp; exact ⟨rfl, rfl⟩) (by simp [hXl]) ?_
  refine Sim.exec hmix hΓ (n := 0) (by simp [hXl]; exact ⟨rfl, rfl, rfl⟩) (by simp [hXl]) ?_
  exact ⟨.inr rfl, _, by simp [Try.f36] <;> rfl, hfin⟩

noncomputable def rmΓ1 : Gam := gams [(63, fremS)]
theorem rmΓ1_ok : GOk Try.prog rmΓ1 := goks_cons frem_sound goks_nil

set_option maxHeartbeats 8000000 in
theorem remove1_ct (d : DS) (hsm : d.fd.small) (k : List UInt8) : Ct Try.prog 80 [.ptr (d.fs.length + 3) 0, .ptr (d.fs.length + 4) 0] (d.heap [boxD, boxS k]) (.int .i64 (d.fd.remove k).2) ((d.fdTo (d.fd.remove k).1).heap [boxD, boxS k]) := by
  have hΓ := rmΓ1_ok
  obtain ⟨n, hn⟩ : ∃ n, d.fs.length = n := ⟨_, rfl⟩
  have hX := behind d.fs
  rw [hn] at hX
  refine ct_of_simE Try.func80 rfl ?_
  simp only [Try.ntmps80, List.length_cons, List.length_nil, Nat.reduceAdd, Nat.reduceSub, List.replicate, List.cons_append, List.nil_append]
  have hXl := hX.len
  have hXg := hX.get
  have hXg0 := hX.get0
  unfold DS.heap DS.cell0 boxD boxS DS.fdTo
  rw [hn]
  obtain ⟨X, eX⟩ : ∃ X, filesB d.fs = X := ⟨_, rfl⟩
  rw [eX] at hXl hXg hXg0 ⊢
  refine Sim.step hmix hΓ (n := 0) (by simp; exact ⟨rfl, rfl⟩) (by simp [hXl]) ?_
  refine Sim.seq (Sim.draw hmix (by simp) ?_)
  refine SimR.many hΓ 5 (by simp [stageOps]; rfl) (by omega) (by kernel_rfl) (by simp (decide := true) [hXl]; first | exact ⟨rfl, rfl⟩ | exact ⟨by kernel_rfl, rfl, rfl⟩) ?_
  refine SimR.one hΓ _ rfl (by kernel_rfl) (by simp (decide := true) [rmΓ1, fremS, hsm]; exact ⟨rfl, rfl⟩) ?_
  refine SimR.many hΓ 7 (by simp [stageOps, blankOp]; rfl) (by omega) (by kernel_rfl) (by simp (decide := true); first | exact ⟨rfl, rfl⟩ | exact ⟨by kernel_rfl, rfl, rfl⟩) ?_
  refine SimR.done rfl ?_
  dsimp only
  refine Sim.exec hmix hΓ (n := 0) (by simp; exact ⟨rfl, rfl, rfl⟩) (by simp [hXl]) ?_
  exact ⟨.inr rfl, by simp [Try.f80], rfl⟩

set_option maxHeartbeats 8000000 in
theorem remove_ctD (d : DS) {A B : Nat} (hok : d.ok A B) (hA : A ≤ 999999) (k : List UInt8) : Ct Try.prog 35 [.ptr 0 0, .str k] (d.heap []) (.int .i64 (d.remove k).2) ((d.remove k).1.heap []) := by
  have hc := DS.ok_count hok
  obtain ⟨H1, hct, hl, ⟨T3, hT3, _⟩, hfs, hsound⟩ := stepped d hok hA [boxD, boxS k] [boxD, boxS k] 80 [.ptr (d.fs.length + 3) 0, .ptr (d.fs.length + 4) 0] (fun d => (⟨(d.fd.remove k).1, d.fs, d.quota, d.steps, d.armed, d.down⟩, (d.fd.remove k).2)) (enter_of Try.func80 rfl (by decide)) (by decide)
    (by dsimp only; rw [DS.count_fs]) (Nat.le_refl _) fun _ => by
      have := remove1_ct d.count (DS.small_fd hc (by omega)) k
      rw [DS.count_fs] at this
      exact this
  have hΓ := goks_cons hsound goks_nil
  have hfin := heap_weak' (d := d) T3 (.int .i64 (d.remove k).2) rfl hfs
  rw [← hT3] at hfin
  unfold DS.remove at hfin ⊢
  refine ct_of_sim Try.func35 rfl ?_
  simp only [Try.ntmps35, List.length_cons, List.length_nil, Nat.reduceAdd, Nat.reduceSub, List.replicate, List.cons_append, List.nil_append]
  rw [DS.heap_length]
  simp only [List.length_nil, Nat.add_zero]
  clear hct hT3
  generalize DS.step d _ = R at hΓ hfin ⊢
  generalize R.1.heap [] = HF at hfin ⊢
  generalize R.2 = e at hΓ hfin ⊢
  have hX := behind d.fs
  obtain ⟨n, hn⟩ : ∃ n, d.fs.length = n := ⟨_, rfl⟩
  rw [hn] at hX hΓ hfin ⊢
  have hXl := hX.len
  have hXg := hX.get
  have hXg0 := hX.get0
  unfold DS.heap DS.cell0 boxD boxS at hΓ
  unfold DS.heap DS.cell0
  obtain ⟨X, eX⟩ : ∃ X, filesB d.fs = X := ⟨_, rfl⟩
  rw [eX] at hXl hXg hXg0 hΓ ⊢
  refine Sim.step hmix hΓ (n := 0) (by simp; exact ⟨rfl, rfl⟩) (by simp [hXl]) ?_
  refine Sim.exec hmix hΓ (n := 0) (by simp [hXl]; exact ⟨rfl, rfl, rfl⟩) (by simp [hXl]) ?_
  exact ⟨.inr rfl, _, by simp [Try.f35] <;> rfl, hfin⟩

end Go.Proofs.Ytjolihoakdifoaa

namespace Go.Proofs.Ytjolihoakdifoaa
open Go Go.Lib
set_option maxRecDepth 100000
attribute [-simp] drawOk_eq adraw qrun acode aops

theorem behindX (X : AHeap) {n : Nat} (hl : X.length = n) : Behind X n := by
  refine ⟨hl, fun T j => ?_, fun T => ?_, fun T j v => ?_, fun T v => ?_⟩
  · rw [List.getElem?_append_right (by omega), hl]; congr 1; omega
  · rw [List.getElem?_append_right (by omega), hl, Nat.sub_self]
  · rw [List.set_append_right _ _ (by omega), hl]; congr 2; omega
  · rw [List.set_append_right _ _ (by omega), hl, Nat.sub_self]

def boxF (F : FuncId) (caps : List AV) : ABlk := .cells true [.func F [] caps]
/-- What is done of a file. -/
def ofG (k : List UInt8) (g : DS → PF → PF × Int) (d : DS) : DS × Int := match d.fd.now.get k with
  | none => (d, 9)
  | some n => match FS.get d.fs n with
    | none => (d, 1)
    | some f => (⟨d.fd, FS.upd d.fs n fun _ => (g d f).1, d.quota, d.steps, d.armed, d.down⟩, (g d f).2)
theorem of_step (d : DS) (k : List UInt8) (g : DS → PF → PF × Int) : d.of k g = d.step (ofG k g) := rfl
def DS.fileTo (d : DS) (n : Int) (f : PF) : DS := ⟨d.fd, FS.upd d.fs n fun _ => f, d.quota, d.steps, d.armed, d.down⟩

noncomputable def ofΓ1 (F : FuncId) (S : Summ) : Gam := gams [(22, ffindS), (F, S)]

set_option maxHeartbeats 16000000 in
theorem of1_ct (d : DS) {A B : Nat} (hok : d.ok A B) (T0 T2 : AHeap) (k : List UInt8) (F : FuncId) (caps : List AV) (g : DS → PF → PF × Int) (he : ∀ cargs w, (callFunc F cargs).run Try.prog w = .ok (.enter F cargs) w) (hF : F ≠ yl) (hF2 : F ≠ 22)
    (hT2 : T0.length + 3 ≤ T2.length)
    (hcl : ∀ v f, d.fd.now.get k = some v → FS.get d.fs v = some f → Ct Try.prog F (.ptr (FS.at d.fs v + 3) 0 :: caps) (d.heap (T0 ++ [boxD, boxS k, boxF F caps])) (.int .i64 (g d f).2) ((d.fileTo v (g d f).1).heap T2)) :
    Ct Try.prog 99 [.ptr (d.fs.length + T0.length + 3) 0, .ptr (d.fs.length + T0.length + 4) 0, .ptr (d.fs.length + T0.length + 5) 0] (d.heap (T0 ++ [boxD, boxS k, boxF F caps])) (.int .i64 (ofG k g d).2) ((ofG k g d).1.heap (if (d.fd.now.get k).isSome then T2 else T0 ++ [boxD, boxS k, boxF F caps])) := by
  obtain ⟨n, hn⟩ : ∃ n, d.fs.length + T0.length = n := ⟨_, rfl⟩
  have hX := behindX (filesB d.fs ++ T0) (n := n) (by rw [List.length_append, filesB_length, hn])
  have hlen : (d.heap (T0 ++ [boxD, boxS k, boxF F caps])).length = n + 6 := by rw [DS.heap_length, List.length_append, ← hn]; simp; omega
  refine ct_of_simE Try.func99 rfl ?_
  simp only [Try.ntmps99, List.length_cons, List.length_nil, Nat.reduceAdd, Nat.reduceSub, List.replicate, List.cons_append, List.nil_append]
  rw [hlen, hn]
  have hXl := hX.len
  have hXg := hX.get
  have hXg0 := hX.get0
  have hlook : ∀ v f, d.fd.now.get k = some v → FS.get d.fs v = some f → findA (fileM (fun i => i + 3) 0 d.fs) (.int .i64 v) 0 = some (some (FS.at d.fs v, .ptr (FS.at d.fs v + 3) 0)) := fun v f _ hf => by
    have := find_files (fun i => i + 3) v 0 d.fs 0
    rw [hf] at this
    simpa using this
  have hheap : d.heap (T0 ++ [boxD, boxS k, boxF F caps]) = .cells true [.ptr 1 0, .map 2, .int .i64 d.quota, .int .i64 d.steps, .int .i64 d.armed, .bool d.down] :: .obj true d.fd.blks :: .map (fileM (fun i => i + 3) 0 d.fs) :: (filesB d.fs ++ T0 ++ [.cells true [.ptr 0 0], .cells true [.str k], .cells true [.func F [] caps]]) := by
    unfold DS.heap DS.cell0
    rw [List.append_assoc]; rfl
  cases hg : d.fd.now.get k with
  | none =>
    have hfind : d.fd.find k = (0, false) := by unfold FD.find; rw [hg]
    have e : ofG k g d = (d, 9) := by unfold ofG; rw [hg]
    rw [e]
    simp only [Option.isSome_none, Bool.false_eq_true, if_false]
    have hΓ : GOk Try.prog (gams [(22, ffindS)]) := goks_cons ffind_sound goks_nil
    rw [hheap]
    obtain ⟨X, eX⟩ : ∃ X, filesB d.fs ++ T0 = X := ⟨_, rfl⟩
    rw [eX] at hXl hXg hXg0 ⊢
    refine Sim.step hmix hΓ (n := 0) (by simp; exact ⟨rfl, rfl⟩) (by simp [hXl]) ?_
    refine Sim.seq (Sim.draw hmix (by simp [hXl]) ?_)
    refine SimR.many hΓ 5 (by simp [stageOps]; rfl) (by omega) (by kernel_rfl) (by simp (decide := true) [hXl]; first | exact ⟨rfl, rfl⟩ | exact ⟨by kernel_rfl, rfl, rfl⟩) ?_
    refine SimR.one hΓ _ rfl (by kernel_rfl) (by simp (decide := true) [ffindS, hfind]; exact ⟨rfl, rfl⟩) ?_
    refine SimR.many hΓ 11 (by simp [stageOps, blankOp]; rfl) (by omega) (by kernel_rfl) (by simp (decide := true); first | exact ⟨rfl, rfl⟩ | exact ⟨by kernel_rfl, rfl, rfl⟩) ?_
    refine SimR.done rfl ?_
    dsimp only
    refine Sim.exec hmix hΓ (n := 0) (by simp; exact ⟨rfl, rfl, rfl⟩) (by simp [hXl]) ?_
    exact ⟨.inr rfl, by simp [Try.f99], rfl⟩
  | some v =>
    have hfind : d.fd.find k = (v, true) := FD.find_get hg
    obtain ⟨f, hf, hfok⟩ := DS.has_file hok hg
    have e : ofG k g d = (d.fileTo v (g d f).1, (g d f).2) := by unfold ofG; rw [hg]; dsimp only; rw [hf]; rfl
    rw [e]
    simp only [Option.isSome_some, if_true]
    have hl := hlook v f hg hf
    have hc := hcl v f hg hf
    have hle : (d.heap (T0 ++ [boxD, boxS k, boxF F caps])).length ≤ ((d.fileTo v (g d f).1).heap T2).length := by
      rw [hlen, DS.heap_length]
      have : (d.fileTo v (g d f).1).fs.length = d.fs.length := by
        have := congrArg List.length (FS.keys_upd d.fs v fun _ => (g d f).1)
        simpa [FS.keys, DS.fileTo] using this
      rw [this]; omega
    have hΓ : GOk Try.prog (gams [(22, ffindS), (F, oneAt (.ptr (FS.at d.fs v + 3) 0 :: caps) (d.heap (T0 ++ [boxD, boxS k, boxF F caps])) (.int .i64 (g d f).2) ((d.fileTo v (g d f).1).heap T2))]) :=
      goks_cons ffind_sound (goks_cons (oneAt_sound he hc hle) goks_nil (hg := hF))
    have hF' : ¬ F = 1000000000 := hF
    have hF2' : ¬ F = 22 := hF2
    rw [hlen] at hle
    generalize (g d f).2 = r at hΓ ⊢
    generalize (d.fileTo v (g d f).1).heap T2 = HF at hΓ hle ⊢
    generalize FS.at d.fs v = q at hΓ hl ⊢
    rw [hheap] at hΓ ⊢
    obtain ⟨X, eX⟩ : ∃ X, filesB d.fs ++ T0 = X := ⟨_, rfl⟩
    rw [eX] at hXl hXg hXg0 hΓ ⊢
    refine Sim.step hmix hΓ (n := 0) (by simp; exact ⟨rfl, rfl⟩) (by simp [hXl]) ?_
    refine Sim.seq (Sim.draw hmix (by simp [hXl]) ?_)
    refine SimR.many hΓ 5 (by simp [stageOps]; rfl) (by omega) (by kernel_rfl) (by simp (decide := true) [hXl]; first | exact ⟨rfl, rfl⟩ | exact ⟨by kernel_rfl, rfl, rfl⟩) ?_
    refine SimR.one hΓ _ rfl (by kernel_rfl) (by simp (decide := true) [ffindS, hfind]; exact ⟨rfl, rfl⟩) ?_
    refine SimR.many hΓ 11 (by simp [stageOps, blankOp]; rfl) (by omega) (by kernel_rfl) (by simp (decide := true); first | exact ⟨rfl, rfl⟩ | exact ⟨by kernel_rfl, rfl, rfl⟩) ?_
    refine SimR.done rfl ?_
    dsimp only
    refine Sim.step hmix hΓ (n := 0) (by simp; exact ⟨rfl, rfl⟩) (by simp [hXl]) ?_
    refine Sim.seq (Sim.draw hmix (by simp [hXl]) ?_)
    refine SimR.many hΓ 7 (by simp [stageOps]; rfl) (by omega) (by kernel_rfl) (by simp (decide := true) [hl, hXl]; first | exact ⟨rfl, rfl⟩ | exact ⟨by kernel_rfl, rfl, rfl⟩) ?_
    refine SimR.one hΓ _ rfl (by kernel_rfl) (by simp (decide := true) [hF', hF2']; exact ⟨rfl, rfl⟩) ?_
    refine SimR.many hΓ 9 (by simp [stageOps, blankOp]; rfl) (by omega) (by kernel_rfl) (by simp (decide := true); first | exact ⟨rfl, rfl⟩ | exact ⟨by kernel_rfl, rfl, rfl⟩) ?_
    refine SimR.done rfl ?_
    dsimp only
    refine Sim.exec hmix hΓ (n := 0) (by simp; exact ⟨rfl, rfl, rfl⟩) hle ?_
    exact ⟨.inr rfl, by simp [Try.f99], rfl⟩

end Go.Proofs.Ytjolihoakdifoaa

namespace Go.Proofs.Ytjolihoakdifoaa
open Go Go.Lib
set_option maxRecDepth 100000
attribute [-simp] drawOk_eq adraw qrun acode aops

theorem fileTo_len (d : DS) (v : Int) (f : PF) : (d.fileTo v f).fs.length = d.fs.length := by
  have := congrArg List.length (FS.keys_upd d.fs v fun _ => f)
  simpa [FS.keys, DS.fileTo] using this
theorem ofG_len (d : DS) (k : List UInt8) (g : DS → PF → PF × Int) : (ofG k g d).1.fs.length = d.fs.length := by
  unfold ofG
  split
  · rfl
  split
  · rfl
  · exact fileTo_len d _ _

set_option maxHeartbeats 16000000 in
theorem of_ctD (d : DS) {A B : Nat} (hok : d.ok A B) (hA : A ≤ 999999) (T0 T2 : AHeap) (k : List UInt8) (F : FuncId) (caps : List AV) (g : DS → PF → PF × Int) (he : ∀ cargs w, (callFunc F cargs).run Try.prog w = .ok (.enter F cargs) w) (hF : F ≠ yl) (hF2 : F ≠ 22)
    (hT2 : T0.length + 3 ≤ T2.length)
    (hcl : ∀ v f, d.fd.now.get k = some v → FS.get d.fs v = some f → Ct Try.prog F (.ptr (FS.at d.fs v + 3) 0 :: caps) (d.count.heap (T0 ++ [boxD, boxS k, boxF F caps])) (.int .i64 (g d.count f).2) ((d.count.fileTo v (g d.count f).1).heap T2)) :
    ∃ H1, Ct Try.prog 76 [.ptr 0 0, .str k, .func F [] caps] (d.heap T0) (.int .i64 (d.of k g).2) H1 ∧ (d.heap T0).length ≤ H1.length ∧ (∃ T3, H1 = (d.of k g).1.heap T3 ∧ T0.length ≤ T3.length) ∧ (d.of k g).1.fs.length = d.fs.length := by
  have hc := DS.ok_count hok
  obtain ⟨H1, hct, hl, ⟨T3, hT3, hl3⟩, hfs, hsound⟩ := stepped d hok hA (T0 ++ [boxD, boxS k, boxF F caps]) (if (d.fd.now.get k).isSome then T2 else T0 ++ [boxD, boxS k, boxF F caps]) 99 [.ptr (d.fs.length + T0.length + 3) 0, .ptr (d.fs.length + T0.length + 4) 0, .ptr (d.fs.length + T0.length + 5) 0] (ofG k g) (enter_of Try.func99 rfl (by decide)) (by decide)
    (by rw [ofG_len, DS.count_fs]) (by split <;> simp <;> omega) fun _ => by
      have := of1_ct d.count hc T0 T2 k F caps g he hF hF2 hT2 (by rw [DS.count_fd, DS.count_fs]; exact hcl)
      rw [DS.count_fs, DS.count_fd] at this
      exact this
  have hΓ := goks_cons hsound goks_nil
  rw [of_step]
  refine ⟨H1, ?_, by rw [DS.heap_length] at hl ⊢; simp at hl; omega, ⟨T3, hT3, by simp at hl3; omega⟩, hfs⟩
  obtain ⟨n, hn⟩ : ∃ n, d.fs.length + T0.length = n := ⟨_, rfl⟩
  have hX := behindX (filesB d.fs ++ T0) (n := n) (by rw [List.length_append, filesB_length, hn])
  have hlen : (d.heap T0).length = n + 3 := by rw [DS.heap_length, ← hn]
  refine ct_of_simE Try.func76 rfl ?_
  simp only [Try.ntmps76, List.length_cons, List.length_nil, Nat.reduceAdd, Nat.reduceSub, List.replicate, List.cons_append, List.nil_append]
  rw [hlen]
  have hXl := hX.len
  have hXg := hX.get
  have hXg0 := hX.get0
  have hheap : d.heap (T0 ++ [boxD, boxS k, boxF F caps]) = .cells true [.ptr 1 0, .map 2, .int .i64 d.quota, .int .i64 d.steps, .int .i64 d.armed, .bool d.down] :: .obj true d.fd.blks :: .map (fileM (fun i => i + 3) 0 d.fs) :: (filesB d.fs ++ T0 ++ [.cells true [.ptr 0 0], .cells true [.str k], .cells true [.func F [] caps]]) := by
    unfold DS.heap DS.cell0
    rw [List.append_assoc]; rfl
  have hle : n + 3 ≤ H1.length := by rw [DS.heap_length] at hl; simp at hl; omega
  rw [hn, hheap] at hΓ
  clear hct hT3 hl hheap
  unfold DS.heap DS.cell0
  generalize (DS.step d (ofG k g)).2 = e at hΓ ⊢
  obtain ⟨X, eX⟩ : ∃ X, filesB d.fs ++ T0 = X := ⟨_, rfl⟩
  rw [eX] at hXl hXg hXg0 hΓ ⊢
  refine Sim.step hmix hΓ (n := 0) (by simp [hXl]; exact ⟨rfl, rfl⟩) (by simp [hXl]) ?_
  refine Sim.step hmix hΓ (n := 0) (by simp [hXl]; exact ⟨rfl, rfl⟩) (by simp [hXl]) ?_
  refine Sim.exec hmix hΓ (n := 0) (by simp; exact ⟨rfl, rfl, rfl⟩) hle ?_
  exact ⟨.inr rfl, by simp [Try.f76], rfl⟩

/-- A file's block is another one. -/
theorem fileTo_heap {d : DS} {v : Int} {f : PF} (g : PF) (hf : FS.get d.fs v = some f) (T : AHeap) : (d.fileTo v g).heap T = d.cell0 1 2 :: .obj true d.fd.blks :: .map (fileM (fun i => i + 3) 0 d.fs) :: (filesB d.fs ++ T).set (FS.at d.fs v) (.obj true g.blks) := by
  unfold DS.heap DS.fileTo DS.cell0
  dsimp only
  rw [fileM_upd, filesB_upd (fun _ => g) hf, List.set_append_left _ _ (by rw [filesB_length]; exact FS.at_lt hf)]
theorem heap_file {d : DS} {v : Int} {f : PF} (hf : FS.get d.fs v = some f) (T : AHeap) : (filesB d.fs ++ T)[FS.at d.fs v]? = some (.obj true f.blks) := by
  rw [List.getElem?_append_left (by rw [filesB_length]; exact FS.at_lt hf)]
  exact filesB_get (FS.at_get hf)

noncomputable def sfΓ1 : Gam := gams [(9, fsyncS)]
theorem sfΓ1_ok : GOk Try.prog sfΓ1 := goks_cons fsync_sound goks_nil

theorem sync1_ct (d : DS) (T : AHeap) (v : Int) (f : PF) (hf : FS.get d.fs v = some f) : Ct Try.prog 78 [.ptr (FS.at d.fs v + 3) 0] (d.heap T) (.int .i64 0) ((d.fileTo v ⟨f.now, []⟩).heap T) := by
  have hΓ := sfΓ1_ok
  rw [fileTo_heap _ hf]
  have hq := heap_file hf T
  refine ct_of_simE Try.func78 rfl ?_
  simp only [Try.ntmps78, List.length_cons, List.length_nil, Nat.reduceAdd, Nat.reduceSub, List.replicate, List.cons_append, List.nil_append]
  unfold DS.heap DS.cell0
  obtain ⟨X, eX⟩ : ∃ X, filesB d.fs ++ T = X := ⟨_, rfl⟩
  obtain ⟨q, eq⟩ : ∃ q, FS.at d.fs v = q := ⟨_, rfl⟩
  rw [eX] at hq ⊢
  rw [eq] at hq ⊢
  refine Sim.step hmix hΓ (n := 0) (by simp; exact ⟨rfl, rfl⟩) (by simp) ?_
  refine Sim.exec hmix hΓ (n := 0) (by simp [sfΓ1, fsyncS, hq]; exact ⟨rfl, rfl, rfl⟩) (by simp) ?_
  exact ⟨.inr rfl, by simp [Try.f78], rfl⟩

theorem sync_ctD (d : DS) {A B : Nat} (hok : d.ok A B) (hA : A ≤ 999999) (k : List UInt8) : Ct Try.prog 31 [.ptr 0 0, .str k] (d.heap []) (.int .i64 (d.sync k).2) ((d.sync k).1.heap []) := by
  obtain ⟨H1, hct, hl, ⟨T3, hT3, _⟩, hfs⟩ := of_ctD d hok hA [] [boxD, boxS k, boxF 78 []] k 78 [] (fun _ f => (⟨f.now, []⟩, 0)) (enter_of Try.func78 rfl (by decide)) (by decide) (by decide) (by simp) fun v f _ hf => by
    have := sync1_ct d.count [boxD, boxS k, boxF 78 []] v f (by rw [DS.count_fs]; exact hf)
    rw [DS.count_fs] at this
    exact this
  have hΓ := goks_cons (oneAt_sound (enter_of Try.func76 rfl (by decide)) hct hl) goks_nil
  have hfin := heap_weak' (d := d) T3 (.int .i64 (d.sync k).2) rfl hfs
  unfold DS.sync at hfin ⊢
  rw [← hT3] at hfin
  refine ct_of_sim Try.func31 rfl ?_
  simp only [Try.ntmps31, List.length_cons, List.length_nil, Nat.reduceAdd, Nat.reduceSub, List.replicate, List.cons_append, List.nil_append]
  rw [DS.heap_length] at hl ⊢
  simp only [List.length_nil, Nat.add_zero] at hl ⊢
  clear hct hT3
  generalize DS.of d k _ = R at hΓ hfin ⊢
  generalize R.1.heap [] = HF at hfin ⊢
  generalize R.2 = e at hΓ hfin ⊢
  have hX : (d.heap []).length = d.fs.length + 3 := by rw [DS.heap_length]; rfl
  generalize d.heap [] = H0 at hΓ hX ⊢
  refine Sim.step hmix hΓ (n := 0) (by simp; exact ⟨rfl, rfl⟩) (by omega) ?_
  refine Sim.exec hmix hΓ (n := 0) (by simp; exact ⟨rfl, rfl, rfl⟩) (by omega) ?_
  exact ⟨.inr rfl, _, by simp [Try.f31] <;> rfl, hfin⟩

end Go.Proofs.Ytjolihoakdifoaa

