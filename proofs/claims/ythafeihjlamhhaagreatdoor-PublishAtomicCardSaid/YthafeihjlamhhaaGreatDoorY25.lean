/- Parts of the proof of PublishAtomic: lemmas, each with its own conditions. -/
import Derived.Test.YthafeihjlamhhaaGreatDoorY24
set_option maxHeartbeats 64000000
open List renaming getElem?_eq_some_iff → q1Z, length_cons → q7Z, length_nil → q8Z, cons_append → q9Z, nil_append → qaZ, replicate → qbZ, append_nil → r2Z
open Bool renaming and_eq_true → qrZ, false_eq_true → qsZ
open Option renaming map_some → rhZ
open Nat renaming zero_add → s8Z
namespace Go.Proofs.YthafeihjlamhhaaGreatDoor
open _root_.Go.Proofs.Tryz renaming prog → Pz
set_option maxRecDepth 100000
section
open Go Go.Lib
attribute [-simp] drawOk_eq adraw qrun acode aops
noncomputable def slΓ0 : Gam := gams [(103, ffindS), (105, flenS)]
theorem slΓ_ok : GOk Pz (runG Pz slΓ0 0 rdInlD 2) := gok_run hmix (goks_cons ffind_sound (goks_cons flen_sound goks_nil)) 0 rdInlD 2
noncomputable def snΓ0 : Gam := gams [(103, ffindS)]
theorem snΓ_ok : GOk Pz (runG Pz snΓ0 0 szInl 3) := gok_run hmix (goks_cons ffind_sound goks_nil) 0 szInl 3
theorem size_ctD (d : DS) {A B : Nat} (hok : d.ok A B) (k : List UInt8) : Ct Pz 37 [.ptr 0 0, .str k] (d.heap []) (.tuple [.int .i64 (d.size k).1, .int .i64 (d.size k).2]) (d.heap []) := by
 cases hd : d.down with
 | true =>
   have : d.size k = (0, 13) := by unfold DS.size; rw [hd]; rfl
   rw [this]; exact size_down_ct d hd k
 | false =>
   unfold DS.size; rw [hd]; refine ct_of_simE Tryz.func37 rfl ?_; simp only [Tryz.ntmps37, q7Z, q8Z, Nat.reduceAdd, Nat.reduceSub, qbZ, q9Z, qaZ]
   cases hg : d.fd.now.get k with
   | none =>
     have hΓ := snΓ_ok
     have hfind : d.fd.find k = (0, false) := by unfold FD.find; rw [hg]
     unfold DS.heap DS.cell0; rw [hd]
     refine Sim.step hmix hΓ (n := 0) (by simp; exact ⟨rfl, rfl⟩) (by simp) ?_
     refine Sim.step hmix hΓ (n := 0) (by simp +decide [szInl, snΓ0, ffindS, hfind, Tryz.f81]; exact ⟨rfl, rfl⟩) (by simp) ?_
     refine Sim.exec hmix hΓ (n := 0) (by simp +decide [szInl, snΓ0, Tryz.f105, Tryz.f82]; exact ⟨rfl, rfl, rfl⟩) (by simp) ?_
     exact ⟨.inr rfl, by simp [Tryz.f37], by simp⟩
   | some v =>
     have hΓ := slΓ_ok; obtain ⟨f, hf, hfo⟩ := DS.has_file hok hg; have hfind := FD.find_get hg
     have hlook := find_files (fun i => i + 3) v 0 d.fs 0
     rw [hf] at hlook; simp only [rhZ, s8Z] at hlook; have hq := heap_file hf []; rw [r2Z] at hq; dsimp only; rw [hf]; dsimp only; obtain ⟨n, hn⟩ : ∃ n, f.now.length = n := ⟨_, rfl⟩; rw [hn]
     have hqs : (filesB d.fs).set (FS.at d.fs v) (.obj true f.blks) = filesB d.fs := by
       obtain ⟨h1, h2⟩ := q1Z.1 hq; rw [← h2, List.set_getElem_self]
     unfold DS.heap DS.cell0; rw [hd]; generalize FS.at d.fs v = q at hlook hq hqs; obtain ⟨X, eX⟩ : ∃ X, filesB d.fs = X := ⟨_, rfl⟩; rw [eX] at hq hqs ⊢
     refine Sim.step hmix hΓ (n := 0) (by simp; exact ⟨rfl, rfl⟩) (by simp) ?_
     refine Sim.step hmix hΓ (n := 0) (by simp +decide [rdInlD, slΓ0, ffindS, hfind, hlook, Tryz.f81]; exact ⟨rfl, rfl⟩) (by simp) ?_
     refine Sim.exec hmix hΓ (n := 0) (by simp +decide [rdInlD, slΓ0, flenS, hq, hqs, hn]; exact ⟨rfl, rfl, rfl⟩) (by simp) ?_
     exact ⟨.inr rfl, by simp [Tryz.f37], by simp⟩
open Classical in
noncomputable def dsizeS : Summ := objS dsD DS.blks fun d xs _ => match xs with
 | [.str k] => if d.small then some (d, .tuple [.int .i64 (d.size k).1, .int .i64 (d.size k).2]) else none
 | _ => none
theorem dsize_sound : Sound Pz 37 dsizeS := by
 refine sound_obj (enter_of Tryz.func37 rfl (by decide)) (fun _ _ => dsD_eq) fun d xs H s' v b hg hb => ?_
 split at hg; rotate_left
 · cases hg
 split at hg <;> cases hg
 rename_i hs; exact ct_obj1 (ct_objD (size_ctD d hs _) rfl) rfl rfl hb
theorem size_cont {d : DS} (hd : d.down = false) {k : List UInt8} {f : PF} (h : cont d.fs d.fd.now k = some f) : d.size k = ((f.now.length : Int), 0) := by
 obtain ⟨n, h1, h2⟩ := cont_get h; unfold DS.size; rw [hd, h1]; simp only [qsZ, if_false]; rw [h2]
def gotInl : List FuncId := [110]
noncomputable def gotΓ0 : Gam := gams [(58, mkS), (37, dsizeS), (41, dreaS), (176, mgetS), (120, msameS)]
theorem gotΓ_ok : GOk Pz (runG Pz gotΓ0 0 gotInl 2) := gok_run hmix (goks_cons make_sound (goks_cons dsize_sound (goks_cons drea_sound (goks_cons mget_sound (goks_cons msame_sound goks_nil))))) 0 gotInl 2
theorem got_ct (d : DS) (hd : d.small) (m w : Mf) (hr : m.right = true) (hml : m.bytes.length ≤ 100000) (hp : pubd d m.bytes) :
   Ct Pz 52 [.ptr 0 0, mfA 1 w] [.obj true d.blks, .cells true (sgsA w.segs)] (.bool (decide (m = w))) [.obj true d.blks, .cells true (sgsA w.segs)] := by
 have hΓ := gotΓ_ok; have hsz := size_cont hp.1 hp.2
 have hrd := readAt_cont (m := m.bytes.length) hp.1 hp.2 (by simp [PF.now, runs])
 simp only [PF.now, runs] at hsz hrd; have hsz' : d.size manifW = ((m.bytes.length : Int), 0) := hsz; have hrd' : d.readAt manifW 0 m.bytes.length = (m.bytes, 0) := hrd; have hg := Mf.get_put hr
 have hsl : m.segs.length ≤ 1000000000000 := by have := (Mf.right_parts hr).2.1; omega
 have hml2 : m.bytes.length ≤ 1000000000000 := by omega
 obtain ⟨bs, hbs⟩ : ∃ bs, m.bytes = bs := ⟨_, rfl⟩; rw [hbs] at hsz' hrd' hg hml2; refine ct_of_sim Tryz.func52 rfl ?_; simp only [mfA, Tryz.ntmps52, q7Z, q8Z, Nat.reduceAdd, Nat.reduceSub, qbZ, q9Z, qaZ]
 have hdec : decide (m = w) = (decide (m.v = w.v) && (decide (m.f = w.f) && (decide (m.n = w.n) && decide (m.segs = w.segs)))) := by
   rw [Bool.eq_iff_iff]; simp only [decide_eq_true_eq, qrZ]; constructor
   · rintro rfl; exact ⟨rfl, rfl, rfl, rfl⟩
   · rintro ⟨h1, h2, h3, h4⟩
     cases m; cases w
     simp only at h1 h2 h3 h4; rw [h1, h2, h3, h4]
 have hfr : ∀ rn : List Nat, AWs rn (sgsA w.segs) (sgsA w.segs) := fun rn => AWs.refl _ _ (frees_sgs _)
 refine Sim.step hmix hΓ (n := 0) (by simp; exact ⟨rfl, rfl⟩) (by simp) ?_
 refine Sim.step hmix hΓ (n := 0) (by simp +decide [gotInl, gotΓ0, mkS, mk, dsizeS, dreaS, mgetS, newS, mfA, hd, hsz', hrd', hg, hml2, Tryz.f110]; exact ⟨rfl, rfl⟩) (by simp) ?_
 refine Sim.exec hmix hΓ (n := 0) (by simp +decide [gotInl, gotΓ0, msameS, rowSgs, hsl]; exact ⟨rfl, rfl, rfl⟩) (by simp) ?_
 exact ⟨.inr rfl, _, by simp [Tryz.f52] <;> rfl, Weak.mk' [0, 1] (by decide) (by decide) (by simp [hdec]) (by simp [AWb])⟩
end
end Go.Proofs.YthafeihjlamhhaaGreatDoor
