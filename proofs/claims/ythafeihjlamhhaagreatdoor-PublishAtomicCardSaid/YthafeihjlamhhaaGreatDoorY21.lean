/- Parts of the proof of PublishAtomic: lemmas, each with its own conditions. -/
import Derived.Test.YthafeihjlamhhaaGreatDoorY19
set_option maxHeartbeats 64000000
open List renaming getElem?_eq_some_iff → q1Z, length_cons → q7Z, length_nil → q8Z, cons_append → q9Z, nil_append → qaZ, replicate → qbZ, mem_cons → qwZ, append_nil → r2Z, not_mem_nil → rtZ
open Nat renaming le_refl → qnZ, zero_add → s8Z
open Option renaming map_some → rhZ
namespace Go.Proofs.YthafeihjlamhhaaGreatDoor
open _root_.Go.Proofs.Tryz renaming prog → Pz
set_option maxRecDepth 100000
section
open Go Go.Lib
attribute [-simp] drawOk_eq adraw qrun acode aops
noncomputable def rnΓ1 : Gam := gams [(186, frenS)]
theorem rnΓ1_ok : GOk Pz rnΓ1 := goks_cons fren_sound goks_nil
theorem rename1_ct (d : DS) (hsm : d.fd.small) (k k2 : List UInt8) (hk2 : k2.length ≤ 9223372036854775807) : Ct Pz 185 [.ptr (d.fs.length + 3) 0, .ptr (d.fs.length + 4) 0, .ptr (d.fs.length + 5) 0] (d.heap [boxD, boxS k, boxS k2]) (.int .i64 (d.fd.rename k k2).2) ((d.fdTo (d.fd.rename k k2).1).heap [boxD, boxS k, boxS k2]) := by
 have hΓ := rnΓ1_ok; obtain ⟨n, hn⟩ : ∃ n, d.fs.length = n := ⟨_, rfl⟩; have hX := behind d.fs; rw [hn] at hX; refine ct_of_simE Tryz.func185 rfl ?_; simp only [Tryz.ntmps185, q7Z, q8Z, Nat.reduceAdd, Nat.reduceSub, qbZ, q9Z, qaZ]; have hXl := hX.len; have hXg := hX.get; have hXg0 := hX.get0; unfold DS.heap DS.cell0 boxD boxS DS.fdTo; rw [hn]; obtain ⟨X, eX⟩ : ∃ X, filesB d.fs = X := ⟨_, rfl⟩; rw [eX] at hXl hXg hXg0 ⊢
 refine Sim.step hmix hΓ (n := 0) (by simp; exact ⟨rfl, rfl⟩) (by simp [hXl]) ?_
 refine Sim.seq (Sim.draw hmix (by simp) ?_)
 refine SimR.many hΓ 6 (by simp [stageOps]; rfl) (by omega) (by kernel_rfl) (by simp +decide [hXl]; first | exact ⟨rfl, rfl⟩ | exact ⟨by kernel_rfl, rfl, rfl⟩) ?_
 refine SimR.one hΓ _ rfl (by kernel_rfl) (by simp +decide [rnΓ1, frenS, hsm, hk2]; exact ⟨rfl, rfl⟩) ?_
 refine SimR.many hΓ 8 (by simp [stageOps, blankOp]; rfl) (by omega) (by kernel_rfl) (by simp +decide; first | exact ⟨rfl, rfl⟩ | exact ⟨by kernel_rfl, rfl, rfl⟩) ?_
 refine SimR.done rfl ?_; dsimp only
 refine Sim.exec hmix hΓ (n := 0) (by simp; exact ⟨rfl, rfl, rfl⟩) (by simp [hXl]) ?_
 exact ⟨.inr rfl, by simp [Tryz.f185], rfl⟩
theorem rename_ctD (d : DS) {A B : Nat} (hok : d.ok A B) (hA : A ≤ 999999) (k k2 : List UInt8) (hk2 : k2.length ≤ 9223372036854775807) : Ct Pz 118 [.ptr 0 0, .str k, .str k2] (d.heap []) (.int .i64 (d.rename k k2).2) ((d.rename k k2).1.heap []) := by
 have hc := DS.ok_count hok
 obtain ⟨H1, hct, hl, ⟨T3, hT3, _⟩, hfs, hsound⟩ := stepped d hok hA [boxD, boxS k, boxS k2] [boxD, boxS k, boxS k2] 185 [.ptr (d.fs.length + 3) 0, .ptr (d.fs.length + 4) 0, .ptr (d.fs.length + 5) 0] (fun d => (⟨(d.fd.rename k k2).1, d.fs, d.quota, d.steps, d.armed, d.down⟩, (d.fd.rename k k2).2)) (enter_of Tryz.func185 rfl (by decide)) (by decide)
   (by dsimp only; rw [DS.count_fs]) (qnZ _) fun _ => by
     have := rename1_ct d.count (DS.small_fd hc (by omega)) k k2 hk2
     rw [DS.count_fs] at this; exact this
 have hΓ := goks_cons hsound goks_nil; have hfin := heap_weak' (d := d) T3 (.int .i64 (d.rename k k2).2) rfl hfs; rw [← hT3] at hfin; unfold DS.rename at hfin ⊢; refine ct_of_sim Tryz.func118 rfl ?_; simp only [Tryz.ntmps118, q7Z, q8Z, Nat.reduceAdd, Nat.reduceSub, qbZ, q9Z, qaZ]; rw [DS.heap_length]; simp only [q8Z, Nat.add_zero]; clear hct hT3; generalize DS.step d _ = R at hΓ hfin ⊢; generalize R.1.heap [] = HF at hfin ⊢; generalize R.2 = e at hΓ hfin ⊢; have hX := behind d.fs; obtain ⟨n, hn⟩ : ∃ n, d.fs.length = n := ⟨_, rfl⟩; rw [hn] at hX hΓ hfin ⊢; have hXl := hX.len; have hXg := hX.get; have hXg0 := hX.get0; unfold DS.heap DS.cell0 boxD boxS at hΓ; unfold DS.heap DS.cell0; obtain ⟨X, eX⟩ : ∃ X, filesB d.fs = X := ⟨_, rfl⟩; rw [eX] at hXl hXg hXg0 hΓ ⊢
 refine Sim.step hmix hΓ (n := 0) (by simp; exact ⟨rfl, rfl⟩) (by simp [hXl]) ?_
 refine Sim.exec hmix hΓ (n := 0) (by simp [hXl]; exact ⟨rfl, rfl, rfl⟩) (by simp [hXl]) ?_
 exact ⟨.inr rfl, _, by simp [Tryz.f118] <;> rfl, hfin⟩
end
section
open Go Go.Lib
attribute [-simp] drawOk_eq adraw qrun acode aops
noncomputable def raΓ0 : Gam := gams [(103, ffindS), (107, freadS)]
theorem raΓ_ok : GOk Pz (runG Pz raΓ0 0 rdInlD 2) := gok_run hmix (goks_cons ffind_sound (goks_cons fread_sound goks_nil)) 0 rdInlD 2
theorem readAt_ctD (d : DS) {A B : Nat} (hok : d.ok A B) (hB : B ≤ 1000000000000) (k : List UInt8) (a m : Int) : Ct Pz 41 [.ptr 0 0, .str k, .int .i64 a, .int .i64 m] (d.heap []) (.tuple [.str (d.readAt k a m).1, .int .i64 (d.readAt k a m).2]) (d.heap []) := by
 have hΓ := raΓ_ok; refine ct_of_simE Tryz.func41 rfl ?_; simp only [Tryz.ntmps41, q7Z, q8Z, Nat.reduceAdd, Nat.reduceSub, qbZ, q9Z, qaZ]; unfold DS.readAt
 cases hd : d.down with
 | true =>
   unfold DS.heap DS.cell0; rw [hd]
   refine Sim.step hmix hΓ (n := 0) (by simp; exact ⟨rfl, rfl⟩) (by simp) ?_
   refine Sim.step hmix hΓ (n := 0) (by simp +decide [rdInlD, Tryz.f81]; exact ⟨rfl, rfl⟩) (by simp) ?_
   refine Sim.exec hmix hΓ (n := 0) (by simp +decide; exact ⟨rfl, rfl, rfl⟩) (by simp) ?_
   exact ⟨.inr rfl, by simp [Tryz.f41], by simp⟩
 | false =>
   cases hg : d.fd.now.get k with
   | none =>
     have hfind : d.fd.find k = (0, false) := by unfold FD.find; rw [hg]
     unfold DS.heap DS.cell0; rw [hd]
     refine Sim.step hmix hΓ (n := 0) (by simp; exact ⟨rfl, rfl⟩) (by simp) ?_
     refine Sim.step hmix hΓ (n := 0) (by simp +decide [rdInlD, raΓ0, ffindS, hfind, Tryz.f81]; exact ⟨rfl, rfl⟩) (by simp) ?_
     refine Sim.exec hmix hΓ (n := 0) (by simp +decide; exact ⟨rfl, rfl, rfl⟩) (by simp) ?_
     exact ⟨.inr rfl, by simp [Tryz.f41], by simp⟩
   | some v =>
     obtain ⟨f, hf, hfo⟩ := DS.has_file hok hg; have hfok : f.small := PF.ok_mono hfo hB; have hfind := FD.find_get hg
     have hlook := find_files (fun i => i + 3) v 0 d.fs 0
     rw [hf] at hlook; simp only [rhZ, s8Z] at hlook; have hq := heap_file hf []; rw [r2Z] at hq; dsimp only; rw [hf]; dsimp only; obtain ⟨r1, r2, hr⟩ : ∃ r1 r2, f.readAt a m = (r1, r2) := ⟨_, _, rfl⟩; rw [hr]
     have hqs : (filesB d.fs).set (FS.at d.fs v) (.obj true f.blks) = filesB d.fs := by
       obtain ⟨h1, h2⟩ := q1Z.1 hq; rw [← h2, List.set_getElem_self]
     unfold DS.heap DS.cell0; rw [hd]; generalize FS.at d.fs v = q at hlook hq hqs; obtain ⟨X, eX⟩ : ∃ X, filesB d.fs = X := ⟨_, rfl⟩; rw [eX] at hq hqs ⊢
     refine Sim.step hmix hΓ (n := 0) (by simp; exact ⟨rfl, rfl⟩) (by simp) ?_
     refine Sim.step hmix hΓ (n := 0) (by simp +decide [rdInlD, raΓ0, ffindS, hfind, hlook, Tryz.f81]; exact ⟨rfl, rfl⟩) (by simp) ?_
     refine Sim.step hmix hΓ (n := 0) (by simp +decide; exact ⟨rfl, rfl⟩) (by simp) ?_
     refine Sim.exec hmix hΓ (n := 0) (by simp +decide [rdInlD, raΓ0, freadS, hq, hqs, hfok, hr]; exact ⟨rfl, rfl, rfl⟩) (by simp) ?_
     exact ⟨.inr rfl, by simp [Tryz.f41], by simp⟩
noncomputable section
open Classical
def drenS : Summ := objS dsD DS.blks fun d xs _ => match xs with
 | [.str a, .str b] => if d.small ∧ b.length ≤ 9223372036854775807 then some ((d.rename a b).1, .int .i64 (d.rename a b).2) else none
 | _ => none
theorem dren_sound : Sound Pz 118 drenS := by
 refine sound_obj (enter_of Tryz.func118 rfl (by decide)) (fun _ _ => dsD_eq) fun d xs H s' v b hg hb => ?_
 split at hg; rotate_left
 · cases hg
 split at hg <;> cases hg
 rename_i hs
 exact ct_obj1 (ct_objD (rename_ctD d hs.1 (by decide) _ _ hs.2) rfl) rfl rfl hb
def dreaS : Summ := objS dsD DS.blks fun d xs _ => match xs with
 | [.str k, .int .i64 a, .int .i64 m] => if d.small then some (d, .tuple [.str (d.readAt k a m).1, .int .i64 (d.readAt k a m).2]) else none
 | _ => none
theorem drea_sound : Sound Pz 41 dreaS := by
 refine sound_obj (enter_of Tryz.func41 rfl (by decide)) (fun _ _ => dsD_eq) fun d xs H s' v b hg hb => ?_
 split at hg; rotate_left
 · cases hg
 split at hg <;> cases hg
 rename_i hs
 exact ct_obj1 (ct_objD (readAt_ctD d hs (by decide) _ _ _) rfl) rfl rfl hb
end
end
section
open Go Go.Lib
attribute [-simp] drawOk_eq adraw qrun acode aops
def ptInl : List FuncId := [181, 184, 117]
noncomputable def ptΓ1 : Gam := gams [(115, dremS), (54, dcreS), (75, dappS), (144, dsyncS), (118, drenS), (99, dsyncDS)]
theorem ptΓ1_ok : GOk Pz (runG Pz ptΓ1 0 ptInl 2) := gok_run hmix (goks_cons drem_sound (goks_cons dcre_sound (goks_cons dapp_sound (goks_cons dsync_sound (goks_cons dren_sound (goks_cons dsyncD_sound goks_nil)))))) 0 ptInl 2
abbrev rp5C : List AV := [.func 181 [] [.ptr 11 0, .ptr 12 0], .func 184 [] [.ptr 8 0, .ptr 9 0, .ptr 10 0], .func 181 [] [.ptr 13 0, .ptr 14 0], .func 117 [] [.ptr 2 0, .ptr 4 0, .ptr 5 0], .func 99 [.ptr 0 0] []]
abbrev rp5H (sg ns : List AV) (v f n : Int) (L : Nat) (s : List UInt8) (d : DS) : AHeap := [.obj true d.blks, .cells true sg, .cells true [.ptr 0 0], .cells true [.int .i64 v, .int .i64 f, .int .i64 n, .sl 1 0 L 3 false], .cells true [.str nTmp], .cells true [.str nMan], .cells true ns, .cells true [.str s],
 .cells true [.ptr 0 0], .cells true [.str nTmp], .cells true [.slice 7 0 1 1 true], .cells true [.func 54 [.ptr 0 0] []], .cells true [.str nTmp], .cells true [.func 144 [.ptr 0 0] []], .cells true [.str nTmp],
 .cells true [.func 181 [] [.ptr 11 0, .ptr 12 0], .func 184 [] [.ptr 8 0, .ptr 9 0, .ptr 10 0], .func 181 [] [.ptr 13 0, .ptr 14 0]], .dead, .cells true [.func 117 [] [.ptr 2 0, .ptr 4 0, .ptr 5 0], .func 99 [.ptr 0 0] []], .cells true rp5C]
def rp5Fn : Nat → FuncId
 | 0 => 181 | 1 => 184 | 2 => 181 | 3 => 117 | _ => 99
def rp5First : Nat → List AV
 | 0 => [] | 1 => [] | 2 => [] | 3 => [] | _ => [.ptr 0 0]
def rp5Cap : Nat → List AV
 | 0 => [.ptr 11 0, .ptr 12 0] | 1 => [.ptr 8 0, .ptr 9 0, .ptr 10 0] | 2 => [.ptr 13 0, .ptr 14 0] | 3 => [.ptr 2 0, .ptr 4 0, .ptr 5 0] | _ => []
theorem row_put5 (d : DS) (sg ns : List AV) (hsg : flatsA sg = true) (hns : flatsA ns = true) (v f n : Int) (L : Nat) (s : List UInt8) (hs : s.length ≤ 140737488355328)
   (hds : ∀ i, i ≤ 5 → (stD d (pt5 s) i).small) (hq : (d.create nTmp).1.quota ≤ 1000000000000) :
   Ct Pz 119 [.slice 18 0 5 1 false] (rp5H sg ns v f n L s d) (.int .i64 (seqK (pt5 s) 5 0 d).2) (rp5H sg ns v f n L s (seqK (pt5 s) 5 0 d).1) := by
 obtain ⟨S, h1, h2, h3, h4⟩ := seqK_spec d (pt5 s) 5 5 0 rfl fun j hj => by omega
 rw [show seqK (pt5 s) 5 0 d = seqK (pt5 s) 5 0 (stD d (pt5 s) 0) from rfl, h4]
 have hA1 : ∀ rn : List Nat, AWs rn sg sg := fun rn => AWs_flat sg hsg
 have hA2 : ∀ rn : List Nat, AWs rn ns ns := fun rn => AWs_flat ns hns
 have e0 : d.small := hds 0 (by decide)
 have e1 : (d.create nTmp).1.small := hds 1 (by decide)
 have e2 : ((d.create nTmp).1.append nTmp s).1.small := hds 2 (by decide)
 have e3 : (((d.create nTmp).1.append nTmp s).1.sync nTmp).1.small := hds 3 (by decide)
 have e4 : ((((d.create nTmp).1.append nTmp s).1.sync nTmp).1.rename nTmp nMan).1.small := hds 4 (by decide)
 have c0 : ∀ X, ∃ W, runG Pz ptΓ1 0 ptInl 2 181 ([] ++ [.ptr 11 0, .ptr 12 0]) (rp5H sg ns v f n L s d ++ X) = some (.int .i64 (d.create nTmp).2, rp5H sg ns v f n L s (d.create nTmp).1 ++ X, W) := fun X => by
   simp [ptInl, ptΓ1, dcreS, e0, Tryz.f181]
 have c1 : ∀ X, ∃ W, runG Pz ptΓ1 0 ptInl 2 184 ([] ++ [.ptr 8 0, .ptr 9 0, .ptr 10 0]) (rp5H sg ns v f n L s (d.create nTmp).1 ++ X) = some (.int .i64 ((d.create nTmp).1.append nTmp s).2, rp5H sg ns v f n L s ((d.create nTmp).1.append nTmp s).1 ++ X, W) := fun X => by
   simp [ptInl, ptΓ1, dappS, strsOf, flatsA, flatA, e1, hq, hs, Tryz.f184]
 have c2 : ∀ X, ∃ W, runG Pz ptΓ1 0 ptInl 2 181 ([] ++ [.ptr 13 0, .ptr 14 0]) (rp5H sg ns v f n L s ((d.create nTmp).1.append nTmp s).1 ++ X) = some (.int .i64 (((d.create nTmp).1.append nTmp s).1.sync nTmp).2, rp5H sg ns v f n L s (((d.create nTmp).1.append nTmp s).1.sync nTmp).1 ++ X, W) := fun X => by
   simp [ptInl, ptΓ1, dsyncS, e2, Tryz.f181]
 have c3 : ∀ X, ∃ W, runG Pz ptΓ1 0 ptInl 2 117 ([] ++ [.ptr 2 0, .ptr 4 0, .ptr 5 0]) (rp5H sg ns v f n L s (((d.create nTmp).1.append nTmp s).1.sync nTmp).1 ++ X) = some (.int .i64 ((((d.create nTmp).1.append nTmp s).1.sync nTmp).1.rename nTmp nMan).2, rp5H sg ns v f n L s ((((d.create nTmp).1.append nTmp s).1.sync nTmp).1.rename nTmp nMan).1 ++ X, W) := fun X => by
   simp [ptInl, ptΓ1, drenS, e3, Tryz.f117]
 have c4 : ∀ X, ∃ W, runG Pz ptΓ1 0 ptInl 2 99 ([.ptr 0 0] ++ []) (rp5H sg ns v f n L s ((((d.create nTmp).1.append nTmp s).1.sync nTmp).1.rename nTmp nMan).1 ++ X) = some (.int .i64 (((((d.create nTmp).1.append nTmp s).1.sync nTmp).1.rename nTmp nMan).1.syncDir).2, rp5H sg ns v f n L s (((((d.create nTmp).1.append nTmp s).1.sync nTmp).1.rename nTmp nMan).1.syncDir).1 ++ X, W) := fun X => by
   simp [ptInl, ptΓ1, dsyncDS, e4]
 refine row_ct ptΓ1_ok 19 18 5 (by decide) (fun i => rp5H sg ns v f n L s (stD d (pt5 s) i)) rp5C rp5Fn rp5First rp5Cap (stE d (pt5 s)) S h1 (fun i _ => rfl) (fun i _ => rfl) rfl (fun i hi => ?_) (fun i hi => ?_) (fun i hi rn hr B hB => ?_) h2 h3 fun i hi hi4 X => ?_
 · match i, hi with
   | 0, _ => exact rfl
   | 1, _ => exact rfl
   | 2, _ => exact rfl
   | 3, _ => exact rfl
   | 4, _ => exact rfl
 · match i, hi with
   | 0, _ => exact (by decide)
   | 1, _ => exact (by decide)
   | 2, _ => exact (by decide)
   | 3, _ => exact (by decide)
   | 4, _ => exact (by decide)
 · simp only [rp5H, qwZ, rtZ, or_false] at hB
   have q : ∀ j, j < 19 → rn[j]? = some j := hr
   rcases hB with rfl | rfl | rfl | rfl | rfl | rfl | rfl | rfl | rfl | rfl | rfl | rfl | rfl | rfl | rfl | rfl | rfl | rfl | rfl <;> simp [AWb, AW, q, hA1, hA2]
 · match i, hi4 with
   | 0, _ => exact c0 X
   | 1, _ => exact c1 X
   | 2, _ => exact c2 X
   | 3, _ => exact c3 X
   | 4, _ => exact c4 X
abbrev rp6C : List AV := [.func 181 [] [.ptr 7 0, .ptr 8 0], .func 181 [] [.ptr 15 0, .ptr 16 0], .func 184 [] [.ptr 12 0, .ptr 13 0, .ptr 14 0], .func 181 [] [.ptr 17 0, .ptr 18 0], .func 117 [] [.ptr 2 0, .ptr 4 0, .ptr 5 0], .func 99 [.ptr 0 0] []]
abbrev rp6H (sg ns : List AV) (v f n : Int) (L : Nat) (s : List UInt8) (d : DS) : AHeap := [.obj true d.blks, .cells true sg, .cells true [.ptr 0 0], .cells true [.int .i64 v, .int .i64 f, .int .i64 n, .sl 1 0 L 3 false], .cells true [.str nTmp], .cells true [.str nMan], .cells true ns,
 .cells true [.func 115 [.ptr 0 0] []], .cells true [.str nTmp], .cells true [.func 181 [] [.ptr 7 0, .ptr 8 0]], .dead, .cells true [.str s], .cells true [.ptr 0 0], .cells true [.str nTmp], .cells true [.slice 11 0 1 1 true], .cells true [.func 54 [.ptr 0 0] []], .cells true [.str nTmp], .cells true [.func 144 [.ptr 0 0] []], .cells true [.str nTmp],
 .cells true [.func 181 [] [.ptr 15 0, .ptr 16 0], .func 184 [] [.ptr 12 0, .ptr 13 0, .ptr 14 0], .func 181 [] [.ptr 17 0, .ptr 18 0]], .dead, .cells true [.func 117 [] [.ptr 2 0, .ptr 4 0, .ptr 5 0], .func 99 [.ptr 0 0] []], .cells true rp6C]
def rp6Fn : Nat → FuncId
 | 0 => 181 | 1 => 181 | 2 => 184 | 3 => 181 | 4 => 117 | _ => 99
def rp6First : Nat → List AV
 | 0 => [] | 1 => [] | 2 => [] | 3 => [] | 4 => [] | _ => [.ptr 0 0]
def rp6Cap : Nat → List AV
 | 0 => [.ptr 7 0, .ptr 8 0] | 1 => [.ptr 15 0, .ptr 16 0] | 2 => [.ptr 12 0, .ptr 13 0, .ptr 14 0] | 3 => [.ptr 17 0, .ptr 18 0] | 4 => [.ptr 2 0, .ptr 4 0, .ptr 5 0] | _ => []
theorem row_put6 (d : DS) (sg ns : List AV) (hsg : flatsA sg = true) (hns : flatsA ns = true) (v f n : Int) (L : Nat) (s : List UInt8) (hs : s.length ≤ 140737488355328)
   (hds : ∀ i, i ≤ 6 → (stD d (pt6 s) i).small) (hq : ((d.remove nTmp).1.create nTmp).1.quota ≤ 1000000000000) :
   Ct Pz 119 [.slice 22 0 6 1 false] (rp6H sg ns v f n L s d) (.int .i64 (seqK (pt6 s) 6 0 d).2) (rp6H sg ns v f n L s (seqK (pt6 s) 6 0 d).1) := by
 obtain ⟨S, h1, h2, h3, h4⟩ := seqK_spec d (pt6 s) 6 6 0 rfl fun j hj => by omega
 rw [show seqK (pt6 s) 6 0 d = seqK (pt6 s) 6 0 (stD d (pt6 s) 0) from rfl, h4]
 have hA1 : ∀ rn : List Nat, AWs rn sg sg := fun rn => AWs_flat sg hsg
 have hA2 : ∀ rn : List Nat, AWs rn ns ns := fun rn => AWs_flat ns hns
 have e0 : d.small := hds 0 (by decide)
 have e1 : (d.remove nTmp).1.small := hds 1 (by decide)
 have e2 : ((d.remove nTmp).1.create nTmp).1.small := hds 2 (by decide)
 have e3 : (((d.remove nTmp).1.create nTmp).1.append nTmp s).1.small := hds 3 (by decide)
 have e4 : ((((d.remove nTmp).1.create nTmp).1.append nTmp s).1.sync nTmp).1.small := hds 4 (by decide)
 have e5 : (((((d.remove nTmp).1.create nTmp).1.append nTmp s).1.sync nTmp).1.rename nTmp nMan).1.small := hds 5 (by decide)
 have c0 : ∀ X, ∃ W, runG Pz ptΓ1 0 ptInl 2 181 ([] ++ [.ptr 7 0, .ptr 8 0]) (rp6H sg ns v f n L s d ++ X) = some (.int .i64 (d.remove nTmp).2, rp6H sg ns v f n L s (d.remove nTmp).1 ++ X, W) := fun X => by
   simp [ptInl, ptΓ1, dremS, e0, Tryz.f181]
 have c1 : ∀ X, ∃ W, runG Pz ptΓ1 0 ptInl 2 181 ([] ++ [.ptr 15 0, .ptr 16 0]) (rp6H sg ns v f n L s (d.remove nTmp).1 ++ X) = some (.int .i64 ((d.remove nTmp).1.create nTmp).2, rp6H sg ns v f n L s ((d.remove nTmp).1.create nTmp).1 ++ X, W) := fun X => by
   simp [ptInl, ptΓ1, dcreS, e1, Tryz.f181]
 have c2 : ∀ X, ∃ W, runG Pz ptΓ1 0 ptInl 2 184 ([] ++ [.ptr 12 0, .ptr 13 0, .ptr 14 0]) (rp6H sg ns v f n L s ((d.remove nTmp).1.create nTmp).1 ++ X) = some (.int .i64 (((d.remove nTmp).1.create nTmp).1.append nTmp s).2, rp6H sg ns v f n L s (((d.remove nTmp).1.create nTmp).1.append nTmp s).1 ++ X, W) := fun X => by
   simp [ptInl, ptΓ1, dappS, strsOf, flatsA, flatA, e2, hq, hs, Tryz.f184]
 have c3 : ∀ X, ∃ W, runG Pz ptΓ1 0 ptInl 2 181 ([] ++ [.ptr 17 0, .ptr 18 0]) (rp6H sg ns v f n L s (((d.remove nTmp).1.create nTmp).1.append nTmp s).1 ++ X) = some (.int .i64 ((((d.remove nTmp).1.create nTmp).1.append nTmp s).1.sync nTmp).2, rp6H sg ns v f n L s ((((d.remove nTmp).1.create nTmp).1.append nTmp s).1.sync nTmp).1 ++ X, W) := fun X => by
   simp [ptInl, ptΓ1, dsyncS, e3, Tryz.f181]
 have c4 : ∀ X, ∃ W, runG Pz ptΓ1 0 ptInl 2 117 ([] ++ [.ptr 2 0, .ptr 4 0, .ptr 5 0]) (rp6H sg ns v f n L s ((((d.remove nTmp).1.create nTmp).1.append nTmp s).1.sync nTmp).1 ++ X) = some (.int .i64 (((((d.remove nTmp).1.create nTmp).1.append nTmp s).1.sync nTmp).1.rename nTmp nMan).2, rp6H sg ns v f n L s (((((d.remove nTmp).1.create nTmp).1.append nTmp s).1.sync nTmp).1.rename nTmp nMan).1 ++ X, W) := fun X => by
   simp [ptInl, ptΓ1, drenS, e4, Tryz.f117]
 have c5 : ∀ X, ∃ W, runG Pz ptΓ1 0 ptInl 2 99 ([.ptr 0 0] ++ []) (rp6H sg ns v f n L s (((((d.remove nTmp).1.create nTmp).1.append nTmp s).1.sync nTmp).1.rename nTmp nMan).1 ++ X) = some (.int .i64 ((((((d.remove nTmp).1.create nTmp).1.append nTmp s).1.sync nTmp).1.rename nTmp nMan).1.syncDir).2, rp6H sg ns v f n L s ((((((d.remove nTmp).1.create nTmp).1.append nTmp s).1.sync nTmp).1.rename nTmp nMan).1.syncDir).1 ++ X, W) := fun X => by
   simp [ptInl, ptΓ1, dsyncDS, e5]
 refine row_ct ptΓ1_ok 23 22 6 (by decide) (fun i => rp6H sg ns v f n L s (stD d (pt6 s) i)) rp6C rp6Fn rp6First rp6Cap (stE d (pt6 s)) S h1 (fun i _ => rfl) (fun i _ => rfl) rfl (fun i hi => ?_) (fun i hi => ?_) (fun i hi rn hr B hB => ?_) h2 h3 fun i hi hi4 X => ?_
 · match i, hi with
   | 0, _ => exact rfl
   | 1, _ => exact rfl
   | 2, _ => exact rfl
   | 3, _ => exact rfl
   | 4, _ => exact rfl
   | 5, _ => exact rfl
 · match i, hi with
   | 0, _ => exact (by decide)
   | 1, _ => exact (by decide)
   | 2, _ => exact (by decide)
   | 3, _ => exact (by decide)
   | 4, _ => exact (by decide)
   | 5, _ => exact (by decide)
 · simp only [rp6H, qwZ, rtZ, or_false] at hB
   have q : ∀ j, j < 23 → rn[j]? = some j := hr
   rcases hB with rfl | rfl | rfl | rfl | rfl | rfl | rfl | rfl | rfl | rfl | rfl | rfl | rfl | rfl | rfl | rfl | rfl | rfl | rfl | rfl | rfl | rfl | rfl <;> simp [AWb, AW, q, hA1, hA2]
 · match i, hi4 with
   | 0, _ => exact c0 X
   | 1, _ => exact c1 X
   | 2, _ => exact c2 X
   | 3, _ => exact c3 X
   | 4, _ => exact c4 X
   | 5, _ => exact c5 X
end
end Go.Proofs.YthafeihjlamhhaaGreatDoor
