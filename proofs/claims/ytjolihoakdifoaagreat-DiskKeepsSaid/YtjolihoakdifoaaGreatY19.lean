/- Parts of the proof of DiskKeeps: lemmas, each with its own conditions. -/
import Derived.Test.YtjolihoakdifoaaGreatY15
import Derived.Test.YtjolihoakdifoaaGreatY16
namespace Go.Proofs.YtjolihoakdifoaaGreat
open Go Go.Lib
set_option maxRecDepth 100000
attribute [-simp] drawOk_eq adraw qrun acode aops
noncomputable def rnΓ1 : Gam := gams [(47, frenS)]
theorem rnΓ1_ok : GOk Tryz.prog rnΓ1 := goks_cons fren_sound goks_nil
set_option maxHeartbeats 8000000 in
theorem rename1_ct (d : DS) (hsm : d.fd.small) (k k2 : List UInt8) (hk2 : k2.length ≤ 9223372036854775807) : Ct Tryz.prog 46 [.ptr (d.fs.length + 3) 0, .ptr (d.fs.length + 4) 0, .ptr (d.fs.length + 5) 0] (d.heap [boxD, boxS k, boxS k2]) (.int .i64 (d.fd.rename k k2).2) ((d.fdTo (d.fd.rename k k2).1).heap [boxD, boxS k, boxS k2]) := by
  have hΓ := rnΓ1_ok
  obtain ⟨n, hn⟩ : ∃ n, d.fs.length = n := ⟨_, rfl⟩
  have hX := behind d.fs
  rw [hn] at hX
  refine ct_of_simE Tryz.func46 rfl ?_
  simp only [Tryz.ntmps46, List.length_cons, List.length_nil, Nat.reduceAdd, Nat.reduceSub, List.replicate, List.cons_append, List.nil_append]
  have hXl := hX.len
  have hXg := hX.get
  have hXg0 := hX.get0
  unfold DS.heap DS.cell0 boxD boxS DS.fdTo
  rw [hn]
  obtain ⟨X, eX⟩ : ∃ X, filesB d.fs = X := ⟨_, rfl⟩
  rw [eX] at hXl hXg hXg0 ⊢
  refine Sim.step hmix hΓ (n := 0) (by simp; exact ⟨rfl, rfl⟩) (by simp [hXl]) ?_
  refine Sim.seq (Sim.draw hmix (by simp) ?_)
  refine SimR.many hΓ 6 (by simp [stageOps]; rfl) (by omega) (by kernel_rfl) (by simp (decide := true) [hXl]; first | exact ⟨rfl, rfl⟩ | exact ⟨by kernel_rfl, rfl, rfl⟩) ?_
  refine SimR.one hΓ _ rfl (by kernel_rfl) (by simp (decide := true) [rnΓ1, frenS, hsm, hk2]; exact ⟨rfl, rfl⟩) ?_
  refine SimR.many hΓ 8 (by simp [stageOps, blankOp]; rfl) (by omega) (by kernel_rfl) (by simp (decide := true); first | exact ⟨rfl, rfl⟩ | exact ⟨by kernel_rfl, rfl, rfl⟩) ?_
  refine SimR.done rfl ?_
  dsimp only
  refine Sim.exec hmix hΓ (n := 0) (by simp; exact ⟨rfl, rfl, rfl⟩) (by simp [hXl]) ?_
  exact ⟨.inr rfl, by simp [Tryz.f46], rfl⟩
set_option maxHeartbeats 8000000 in
theorem rename_ctD (d : DS) {A B : Nat} (hok : d.ok A B) (hA : A ≤ 999999) (k k2 : List UInt8) (hk2 : k2.length ≤ 9223372036854775807) : Ct Tryz.prog 16 [.ptr 0 0, .str k, .str k2] (d.heap []) (.int .i64 (d.rename k k2).2) ((d.rename k k2).1.heap []) := by
  have hc := DS.ok_count hok
  obtain ⟨H1, hct, hl, ⟨T3, hT3, _⟩, hfs, hsound⟩ := stepped d hok hA [boxD, boxS k, boxS k2] [boxD, boxS k, boxS k2] 46 [.ptr (d.fs.length + 3) 0, .ptr (d.fs.length + 4) 0, .ptr (d.fs.length + 5) 0] (fun d => (⟨(d.fd.rename k k2).1, d.fs, d.quota, d.steps, d.armed, d.down⟩, (d.fd.rename k k2).2)) (enter_of Tryz.func46 rfl (by decide)) (by decide)
    (by dsimp only; rw [DS.count_fs]) (Nat.le_refl _) fun _ => by
      have := rename1_ct d.count (DS.small_fd hc (by omega)) k k2 hk2
      rw [DS.count_fs] at this
      exact this
  have hΓ := goks_cons hsound goks_nil
  have hfin := heap_weak' (d := d) T3 (.int .i64 (d.rename k k2).2) rfl hfs
  rw [← hT3] at hfin
  unfold DS.rename at hfin ⊢
  refine ct_of_sim Tryz.func16 rfl ?_
  simp only [Tryz.ntmps16, List.length_cons, List.length_nil, Nat.reduceAdd, Nat.reduceSub, List.replicate, List.cons_append, List.nil_append]
  rw [DS.heap_length]
  simp only [List.length_nil, Nat.add_zero]
  clear hct hT3
  generalize DS.step d _ = R at hΓ hfin ⊢
  generalize R.1.heap [] = HF at hfin ⊢
  generalize R.2 = e at hΓ hfin ⊢
  have hX := behind d.fs
  obtain ⟨n, hn⟩ : ∃ n, d.fs.length = n := ⟨_, rfl⟩
  rw [hn] at hX hΓ hfin ⊢
  have hXl := hX.len
  have hXg := hX.get
  have hXg0 := hX.get0
  unfold DS.heap DS.cell0 boxD boxS at hΓ
  unfold DS.heap DS.cell0
  obtain ⟨X, eX⟩ : ∃ X, filesB d.fs = X := ⟨_, rfl⟩
  rw [eX] at hXl hXg hXg0 hΓ ⊢
  refine Sim.step hmix hΓ (n := 0) (by simp; exact ⟨rfl, rfl⟩) (by simp [hXl]) ?_
  refine Sim.exec hmix hΓ (n := 0) (by simp [hXl]; exact ⟨rfl, rfl, rfl⟩) (by simp [hXl]) ?_
  exact ⟨.inr rfl, _, by simp [Tryz.f16] <;> rfl, hfin⟩
end Go.Proofs.YtjolihoakdifoaaGreat
namespace Go.Proofs.YtjolihoakdifoaaGreat
open Go Go.Lib
set_option maxRecDepth 100000
attribute [-simp] drawOk_eq adraw qrun acode aops
noncomputable def tfΓ1 : Gam := gams [(39, fcutS)]
theorem tfΓ1_ok : GOk Tryz.prog tfΓ1 := goks_cons fcut_sound goks_nil
theorem trunc1_ct (d : DS) {A B : Nat} (hok : d.ok A B) (hB : B ≤ 1000000000000) (m : Int) (U : AHeap) (v : Int) (f : PF) (hf : FS.get d.fs v = some f) : Ct Tryz.prog 38 [.ptr (FS.at d.fs v + 3) 0, .ptr (d.fs.length + 3) 0] (d.heap (.cells true [.int .i64 m] :: U)) (.int .i64 (f.cut m).2) ((d.fileTo v (f.cut m).1).heap (.cells true [.int .i64 m] :: U)) := by
  have hΓ := tfΓ1_ok
  rw [fileTo_heap _ hf]
  have hq := heap_file hf (.cells true [.int .i64 m] :: U)
  have hfok : f.small := PF.ok_mono (hok.fine _ (FS.get_mem hf)) hB
  obtain ⟨n, hn⟩ : ∃ n, d.fs.length = n := ⟨_, rfl⟩
  have hX := behind d.fs
  rw [hn] at hX ⊢
  have hXb : (filesB d.fs ++ (.cells true [.int .i64 m] :: U))[n]? = some (.cells true [.int .i64 m]) := hX.get0 _
  refine ct_of_simE Tryz.func38 rfl ?_
  simp only [Tryz.ntmps38, List.length_cons, List.length_nil, Nat.reduceAdd, Nat.reduceSub, List.replicate, List.cons_append, List.nil_append]
  unfold DS.heap DS.cell0
  obtain ⟨X, eX⟩ : ∃ X, filesB d.fs ++ (.cells true [.int .i64 m] :: U) = X := ⟨_, rfl⟩
  obtain ⟨q, eq⟩ : ∃ q, FS.at d.fs v = q := ⟨_, rfl⟩
  rw [eX] at hq hXb ⊢
  rw [eq] at hq ⊢
  refine Sim.step hmix hΓ (n := 0) (by simp; exact ⟨rfl, rfl⟩) (by simp) ?_
  refine Sim.exec hmix hΓ (n := 0) (by simp [tfΓ1, fcutS, hq, hXb, hfok]; exact ⟨rfl, rfl, rfl⟩) (by simp) ?_
  exact ⟨.inr rfl, by simp [Tryz.f38], rfl⟩
set_option maxHeartbeats 8000000 in
theorem truncate_ctD (d : DS) {A B : Nat} (hok : d.ok A B) (hA : A ≤ 999999) (hB : B ≤ 1000000000000) (k : List UInt8) (m : Int) : Ct Tryz.prog 10 [.ptr 0 0, .str k, .int .i64 m] (d.heap []) (.int .i64 (d.truncate k m).2) ((d.truncate k m).1.heap []) := by
  obtain ⟨caps, hcaps⟩ : ∃ caps : List AV, caps = [.ptr (d.fs.length + 3) 0] := ⟨_, rfl⟩
  obtain ⟨H1, hct, hl, ⟨T3, hT3, _⟩, hfs⟩ := of_ctD d hok hA [.cells true [.int .i64 m]] (.cells true [.int .i64 m] :: [boxD, boxS k, boxF 38 caps]) k 38 caps (fun _ f => f.cut m) (enter_of Tryz.func38 rfl (by decide)) (by decide) (by decide) (by simp) fun v f _ hf => by
    have := trunc1_ct d.count (DS.ok_count hok) hB m [boxD, boxS k, boxF 38 caps] v f (by rw [DS.count_fs]; exact hf)
    rw [DS.count_fs, ← hcaps] at this
    exact this
  have hΓ := goks_cons (oneAt_sound (enter_of Tryz.func37 rfl (by decide)) hct hl) goks_nil
  have hfin := heap_weak' (d := d) T3 (.int .i64 (d.truncate k m).2) rfl hfs
  unfold DS.truncate at hfin ⊢
  rw [← hT3] at hfin
  refine ct_of_sim Tryz.func10 rfl ?_
  simp only [Tryz.ntmps10, List.length_cons, List.length_nil, Nat.reduceAdd, Nat.reduceSub, List.replicate, List.cons_append, List.nil_append]
  rw [DS.heap_length] at hl ⊢
  simp only [List.length_nil, Nat.add_zero, List.length_cons, Nat.zero_add] at hl ⊢
  clear hct hT3
  generalize DS.of d k _ = R at hΓ hfin ⊢
  generalize R.1.heap [] = HF at hfin ⊢
  generalize R.2 = e at hΓ hfin ⊢
  obtain ⟨n, hn⟩ : ∃ n, d.fs.length = n := ⟨_, rfl⟩
  have hX := behind d.fs
  rw [hn] at hX hfin hcaps hl ⊢
  have hXl := hX.len
  have hXg := hX.get
  have hXg0 := hX.get0
  subst hcaps
  unfold DS.heap DS.cell0 at hΓ
  unfold DS.heap DS.cell0
  obtain ⟨X, eX⟩ : ∃ X, filesB d.fs = X := ⟨_, rfl⟩
  rw [eX] at hXl hXg hXg0 hΓ ⊢
  refine Sim.step hmix hΓ (n := 0) (by simp [hXl]; exact ⟨rfl, rfl⟩) (by simp [hXl]) ?_
  refine Sim.exec hmix hΓ (n := 0) (by simp [hXl]; exact ⟨rfl, rfl, rfl⟩) (by simp [hXl]) ?_
  exact ⟨.inr rfl, _, by simp [Tryz.f10] <;> rfl, hfin⟩
noncomputable def raΓ0 : Gam := gams [(62, ffindS), (43, freadS)]
theorem raΓ_ok : GOk Tryz.prog (runG Tryz.prog raΓ0 0 rdInlD 2) := gok_run hmix (goks_cons ffind_sound (goks_cons fread_sound goks_nil)) 0 rdInlD 2
set_option maxHeartbeats 8000000 in
theorem readAt_ctD (d : DS) {A B : Nat} (hok : d.ok A B) (hB : B ≤ 1000000000000) (k : List UInt8) (a m : Int) : Ct Tryz.prog 13 [.ptr 0 0, .str k, .int .i64 a, .int .i64 m] (d.heap []) (.tuple [.str (d.readAt k a m).1, .int .i64 (d.readAt k a m).2]) (d.heap []) := by
  have hΓ := raΓ_ok
  refine ct_of_simE Tryz.func13 rfl ?_
  simp only [Tryz.ntmps13, List.length_cons, List.length_nil, Nat.reduceAdd, Nat.reduceSub, List.replicate, List.cons_append, List.nil_append]
  unfold DS.readAt
  cases hd : d.down with
  | true =>
    unfold DS.heap DS.cell0
    rw [hd]
    refine Sim.step hmix hΓ (n := 0) (by simp; exact ⟨rfl, rfl⟩) (by simp) ?_
    refine Sim.step hmix hΓ (n := 0) (by simp (decide := true) [rdInlD, Tryz.f42]; exact ⟨rfl, rfl⟩) (by simp) ?_
    refine Sim.exec hmix hΓ (n := 0) (by simp (decide := true); exact ⟨rfl, rfl, rfl⟩) (by simp) ?_
    exact ⟨.inr rfl, by simp [Tryz.f13], by simp⟩
  | false =>
    cases hg : d.fd.now.get k with
    | none =>
      have hfind : d.fd.find k = (0, false) := by unfold FD.find; rw [hg]
      unfold DS.heap DS.cell0
      rw [hd]
      refine Sim.step hmix hΓ (n := 0) (by simp; exact ⟨rfl, rfl⟩) (by simp) ?_
      refine Sim.step hmix hΓ (n := 0) (by simp (decide := true) [rdInlD, raΓ0, ffindS, hfind, Tryz.f42]; exact ⟨rfl, rfl⟩) (by simp) ?_
      refine Sim.exec hmix hΓ (n := 0) (by simp (decide := true); exact ⟨rfl, rfl, rfl⟩) (by simp) ?_
      exact ⟨.inr rfl, by simp [Tryz.f13], by simp⟩
    | some v =>
      obtain ⟨f, hf, hfo⟩ := DS.has_file hok hg
      have hfok : f.small := PF.ok_mono hfo hB
      have hfind := FD.find_get hg
      have hlook := find_files (fun i => i + 3) v 0 d.fs 0
      rw [hf] at hlook
      simp only [Option.map_some, Nat.zero_add] at hlook
      have hq := heap_file hf []
      rw [List.append_nil] at hq
      dsimp only
      rw [hf]
      dsimp only
      obtain ⟨r1, r2, hr⟩ : ∃ r1 r2, f.readAt a m = (r1, r2) := ⟨_, _, rfl⟩
      rw [hr]
      have hqs : (filesB d.fs).set (FS.at d.fs v) (.obj true f.blks) = filesB d.fs := by
        obtain ⟨h1, h2⟩ := List.getElem?_eq_some_iff.1 hq
        rw [← h2, List.set_getElem_self]
      unfold DS.heap DS.cell0
      rw [hd]
      generalize FS.at d.fs v = q at hlook hq hqs
      obtain ⟨X, eX⟩ : ∃ X, filesB d.fs = X := ⟨_, rfl⟩
      rw [eX] at hq hqs ⊢
      refine Sim.step hmix hΓ (n := 0) (by simp; exact ⟨rfl, rfl⟩) (by simp) ?_
      refine Sim.step hmix hΓ (n := 0) (by simp (decide := true) [rdInlD, raΓ0, ffindS, hfind, hlook, Tryz.f42]; exact ⟨rfl, rfl⟩) (by simp) ?_
      refine Sim.step hmix hΓ (n := 0) (by simp (decide := true); exact ⟨rfl, rfl⟩) (by simp) ?_
      refine Sim.exec hmix hΓ (n := 0) (by simp (decide := true) [rdInlD, raΓ0, freadS, hq, hqs, hfok, hr]; exact ⟨rfl, rfl, rfl⟩) (by simp) ?_
      exact ⟨.inr rfl, by simp [Tryz.f13], by simp⟩
noncomputable section
open Classical
def drenS : Summ := objS dsD DS.blks fun d xs _ => match xs with
  | [.str a, .str b] => if d.small ∧ b.length ≤ 9223372036854775807 then some ((d.rename a b).1, .int .i64 (d.rename a b).2) else none
  | _ => none
theorem dren_sound : Sound Tryz.prog 16 drenS := by
  refine sound_obj (enter_of Tryz.func16 rfl (by decide)) (fun _ _ => dsD_eq) fun d xs H s' v b hg hb => ?_
  split at hg
  rotate_left
  · cases hg
  split at hg <;> cases hg
  rename_i hs
  exact ct_obj1 (ct_objD (rename_ctD d hs.1 (by decide) _ _ hs.2) rfl) rfl rfl hb
def dtruS : Summ := objS dsD DS.blks fun d xs _ => match xs with
  | [.str k, .int .i64 m] => if d.small then some ((d.truncate k m).1, .int .i64 (d.truncate k m).2) else none
  | _ => none
theorem dtru_sound : Sound Tryz.prog 10 dtruS := by
  refine sound_obj (enter_of Tryz.func10 rfl (by decide)) (fun _ _ => dsD_eq) fun d xs H s' v b hg hb => ?_
  split at hg
  rotate_left
  · cases hg
  split at hg <;> cases hg
  rename_i hs
  exact ct_obj1 (ct_objD (truncate_ctD d hs (by decide) (by decide) _ _) rfl) rfl rfl hb
def dreaS : Summ := objS dsD DS.blks fun d xs _ => match xs with
  | [.str k, .int .i64 a, .int .i64 m] => if d.small then some (d, .tuple [.str (d.readAt k a m).1, .int .i64 (d.readAt k a m).2]) else none
  | _ => none
theorem drea_sound : Sound Tryz.prog 13 dreaS := by
  refine sound_obj (enter_of Tryz.func13 rfl (by decide)) (fun _ _ => dsD_eq) fun d xs H s' v b hg hb => ?_
  split at hg
  rotate_left
  · cases hg
  split at hg <;> cases hg
  rename_i hs
  exact ct_obj1 (ct_objD (readAt_ctD d hs (by decide) _ _ _) rfl) rfl rfl hb
end
end Go.Proofs.YtjolihoakdifoaaGreat
