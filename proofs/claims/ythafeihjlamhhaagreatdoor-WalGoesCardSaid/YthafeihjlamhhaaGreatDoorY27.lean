/- Parts of the proof of WalGoes: lemmas, each with its own conditions. -/
import Derived.Test.YthafeihjlamhhaaGreatDoorY26
set_option maxHeartbeats 64000000
open List renaming getElem?_eq_some_iff → q1Z, getD_eq_getElem?_getD → q2Z, getElem?_append_left → q4Z, length_cons → q7Z, length_nil → q8Z, cons_append → q9Z, nil_append → qaZ, replicate → qbZ
namespace Go.Proofs.YthafeihjlamhhaaGreatDoor
open _root_.Go.Proofs.Tryz renaming prog → Pz
set_option maxRecDepth 100000
section
open Go Go.Lib
attribute [-simp] drawOk_eq adraw qrun acode aops
def WL.syncs (w : WL) : WL × Int := if w.bad = true then (w, 11) else w.sync
noncomputable def wyΓ : Gam := gams [(72, mayR), (80, wsyncLS), (77, judgedS)]
theorem wyΓ_ok : GOk Pz wyΓ := goks_cons may_sound (goks_cons wsyncL_sound (goks_cons judged_sound goks_nil))
theorem wsyncs_ct (w : WL) (hd : w.d.small) : Ct Pz 20 [.ptr 0 0] [wlB 1 w, .obj true w.d.blks] (.int .i64 w.syncs.2) [wlB 1 w.syncs.1, .obj true w.syncs.1.d.blks] := by
 have hΓ := wyΓ_ok; obtain ⟨d, m, f, n, dn, bd⟩ := w; dsimp only at hd; refine ct_of_sim Tryz.func20 rfl ?_; unfold WL.syncs WL.sync; dsimp only; simp only [wlB, wlC, Tryz.ntmps20, q7Z, q8Z, Nat.reduceAdd, Nat.reduceSub, qbZ, q9Z, qaZ]
 refine Sim.step hmix hΓ (n := 0) (by simp; exact ⟨rfl, rfl⟩) (by simp) ?_
 cases bd with
 | true =>
   rw [if_pos rfl]
   refine Sim.exec hmix hΓ (n := 0) (by simp +decide [wyΓ, mayR, wlR]; exact ⟨rfl, rfl, rfl⟩) (by simp) ?_
   exact ⟨.inr rfl, _, by simp [Tryz.f20] <;> rfl, Weak.mk' [0, 1] (by decide) (by decide) (by simp) (by simp [AWb, AW])⟩
 | false =>
   rw [if_neg (by decide)]
   by_cases hf : f = 0
   · subst hf
     rw [if_pos rfl]
     refine Sim.exec hmix hΓ (n := 0) (by simp +decide [wyΓ, mayR, wlR]; exact ⟨rfl, rfl, rfl⟩) (by simp) ?_
     exact ⟨.inr rfl, _, by simp [Tryz.f20] <;> rfl, Weak.mk' [0, 1] (by decide) (by decide) (by simp) (by simp [AWb, AW])⟩
   · rw [if_neg hf]
     have hfI : ¬ (f : Int) = 0 := by omega
     have hfb : ((f : Int) == 0) = false := by simpa using hf
     obtain ⟨d', e, hs⟩ : ∃ d' e, d.sync (wn f) = (d', e) := ⟨_, _, rfl⟩; rw [hs]; dsimp only
     refine Sim.exec hmix hΓ (n := 0) (by simp +decide [wyΓ, mayR, wlR, wsyncLS, wlS, judgedS, wlC, hfb, hd, hs]; exact ⟨rfl, rfl, rfl⟩) (by simp) ?_
     exact ⟨.inr rfl, _, by simp [Tryz.f20] <;> rfl, Weak.mk' [0, 1] (by decide) (by decide) (by simp) (by simp [AWb, AW, wlC])⟩
open Classical in
noncomputable def wsyncsS : Summ := wlS fun w xs => match xs with
 | [] => if w.d.small then some (w.syncs.1, .int .i64 w.syncs.2) else none
 | _ => none
theorem wsyncs_sound : Sound Pz 20 wsyncsS := by
 refine sound_wl (enter_of Tryz.func20 rfl (by decide)) fun w xs w' v hg => ?_
 split at hg; rotate_left
 · cases hg
 split at hg <;> cases hg
 rename_i hs
 exact ⟨rfl, fun _ => rfl, wsyncs_ct w hs⟩
theorem wfile_ct (w : WL) : Ct Pz 22 [.ptr 0 0] [wlB 1 w, .obj true w.d.blks] (.int .i64 w.file) [wlB 1 w, .obj true w.d.blks] := by
 refine ct_of_simE Tryz.func22 rfl ?_; simp only [wlB, wlC, Tryz.ntmps22, q7Z, q8Z, Nat.reduceAdd, Nat.reduceSub, qbZ, q9Z, qaZ]
 refine Sim.exec hmix goks_nil (n := 0) (by simp +decide; exact ⟨rfl, rfl, rfl⟩) (by simp) ?_
 exact ⟨.inr rfl, by simp [Tryz.f22], rfl⟩
noncomputable def wfileR : Summ := wlR fun w xs => match xs with
 | [] => some (.int .i64 w.file)
 | _ => none
theorem wfile_sound : Sound Pz 22 wfileR := by
 refine sound_wlR (enter_of Tryz.func22 rfl (by decide)) fun w xs v hg => ?_
 split at hg <;> cases hg
 exact ⟨rfl, fun _ => rfl, wfile_ct w⟩
theorem wnext_ct (w : WL) : Ct Pz 25 [.ptr 0 0] [wlB 1 w, .obj true w.d.blks] (.int .i64 w.next) [wlB 1 w, .obj true w.d.blks] := by
 refine ct_of_simE Tryz.func25 rfl ?_; simp only [wlB, wlC, Tryz.ntmps25, q7Z, q8Z, Nat.reduceAdd, Nat.reduceSub, qbZ, q9Z, qaZ]
 refine Sim.exec hmix goks_nil (n := 0) (by simp +decide; exact ⟨rfl, rfl, rfl⟩) (by simp) ?_
 exact ⟨.inr rfl, by simp [Tryz.f25], rfl⟩
noncomputable def wnextR : Summ := wlR fun w xs => match xs with
 | [] => some (.int .i64 w.next)
 | _ => none
theorem wnext_sound : Sound Pz 25 wnextR := by
 refine sound_wlR (enter_of Tryz.func25 rfl (by decide)) fun w xs v hg => ?_
 split at hg <;> cases hg
 exact ⟨rfl, fun _ => rfl, wnext_ct w⟩
def wnewS : Summ := fun args H => match args with
 | [.ptr q 0, .int .i64 n, .int .i64 m] => if q < H.length ∧ 1 ≤ n ∧ n ≤ 1000000000 ∧ 1 ≤ m then some (.ptr H.length 0, H ++ [.cells true [.ptr q 0, .int .i64 m, .int .i64 0, .int .i64 n, .int .i64 0, .bool false]], []) else none
 | _ => none
theorem wnew_sound : Sound Pz 18 wnewS := by
 refine ⟨enter_of Tryz.func18 rfl (by decide), fun args H v H' W hs => ?_, fun args H v H' W hs => ?_⟩ <;> (unfold wnewS at hs; split at hs <;> try cases hs) <;> (rename_i q n m; split at hs <;> cases hs; rename_i hc; obtain ⟨h1, h2, h3, h4⟩ := hc)
 · have g1 : ¬ n < 1 := by omega
   have g2 : ¬ 1000000000 < n := by omega
   have g3 : ¬ m < 1 := by omega
   refine ct_of_simE Tryz.func18 rfl ?_; simp only [Tryz.ntmps18, q7Z, q8Z, Nat.reduceAdd, Nat.reduceSub, qbZ, q9Z, qaZ]
   refine Sim.exec hmix goks_nil (n := 0) (by simp +decide [g1, g2, g3]; exact ⟨rfl, rfl, rfl⟩) (by simp) ?_
   exact ⟨.inr rfl, by simp [Tryz.f18], rfl⟩
 · exact ⟨by simp, fun c hc _ => by rw [q4Z hc]⟩
noncomputable def woΓ : Gam := gams [(18, wnewS), (76, wnameS), (37, dsizeS)]
theorem woΓ_ok : GOk Pz woΓ := goks_cons wnew_sound (goks_cons wname_sound (goks_cons dsize_sound goks_nil))
theorem wof_ct (d : DS) (hd : d.small) (f : Nat) (m z : Int) (hf : 1 ≤ f ∧ f ≤ 1000000000) (hm : 1 ≤ m) (hz : d.size (wn f) = (z, 0)) :
   Ct Pz 21 [.ptr 0 0, .int .i64 f, .int .i64 m] [.obj true d.blks] (.ptr 1 0) [.obj true d.blks, .cells true (wlC 0 m f (f + 1) 0 false)] := by
 have hΓ := woΓ_ok; obtain ⟨k, hk⟩ : ∃ k, mk 3 (f : Int) = k := ⟨_, rfl⟩; unfold wn at hz; rw [hk] at hz
 have g1 : (1 : Int) ≤ f := by omega
 have g2 : (f : Int) ≤ 1000000000 := by omega
 have w1 : IntKind.i64.wrap ((f : Int) + 1) = (f : Int) + 1 := wr_i64 (by omega) (by omega)
 refine ct_of_sim Tryz.func21 rfl ?_; simp only [Tryz.ntmps21, q7Z, q8Z, Nat.reduceAdd, Nat.reduceSub, qbZ, q9Z, qaZ]
 refine Sim.step hmix hΓ (n := 0) (by simp; exact ⟨rfl, rfl⟩) (by simp) ?_
 refine Sim.step hmix hΓ (n := 0) (by simp +decide [woΓ, wnewS, g1, g2, hm]; exact ⟨rfl, rfl⟩) (by simp) ?_
 refine Sim.step hmix hΓ (n := 0) (by simp +decide; exact ⟨rfl, rfl⟩) (by simp) ?_
 refine Sim.step hmix hΓ (n := 0) (by simp +decide [w1]; exact ⟨rfl, rfl⟩) (by simp) ?_
 refine Sim.step hmix hΓ (n := 0) (by simp +decide [woΓ, wnameS, dsizeS, hk, hd, hz]; exact ⟨rfl, rfl⟩) (by simp) ?_
 refine Sim.exec hmix hΓ (n := 0) (by simp; exact ⟨rfl, rfl, rfl⟩) (by simp) ?_
 exact ⟨.inr rfl, _, by simp [Tryz.f21] <;> rfl, Weak.mk' [0, 1] (by decide) (by decide) (by simp) (by simp [AWb, AW, wlC])⟩
open Classical in
noncomputable def wofS : Summ := fun args H => match args with
 | [.ptr b 0, .int .i64 f, .int .i64 m] => match H[b]? with
   | some (.obj true sub) => match dsD sub with
     | some d => if d.small ∧ (1 ≤ f ∧ f ≤ 1000000000) ∧ 1 ≤ m ∧ (d.size (wn f.toNat)).2 = 0 then some (.ptr H.length 0, H ++ [.cells true (wlC b m f.toNat (f.toNat + 1) 0 false)], []) else none
     | none => none
   | _ => none
 | _ => none
theorem wof_sound : Sound Pz 21 wofS := by
 refine ⟨enter_of Tryz.func21 rfl (by decide), fun args H v H' W hs => ?_, fun args H v H' W hs => ?_⟩ <;> (unfold wofS at hs; split at hs <;> try cases hs) <;> (rename_i b f m; split at hs <;> try cases hs) <;> (rename_i sub hb; split at hs <;> try cases hs) <;> (rename_i d hd; split at hs <;> cases hs; rename_i hc; obtain ⟨h1, h2, h3, h4⟩ := hc)
 · have e := dsD_eq hd
   subst e
   obtain ⟨F, rfl⟩ : ∃ F : Nat, f = F := ⟨f.toNat, by omega⟩
   rw [Int.toNat_natCast] at h4 ⊢; obtain ⟨z, hz⟩ : ∃ z, d.size (wn F) = (z, 0) := ⟨(d.size (wn F)).1, Prod.ext rfl h4⟩; have hbl : b < H.length := (q1Z.1 hb).1
   have := ct_frame (H := H) (args := [.ptr b 0, .int .i64 F, .int .i64 m]) (wof_ct d h1 F m z (by omega) h3 hz) [b] (by simp) (by simp [AWs, AW]) ⟨by rw [q2Z, hb]; exact ⟨rfl, rfl⟩, hbl, trivial⟩ rfl
   have s1 : H.set b (.obj true d.blks) = H := by
     obtain ⟨h1, h2⟩ := q1Z.1 hb; rw [← h2, List.set_getElem_self]
   simpa [setOwn, ABlk.own, reB, reA, reAs, wlC, nameG, s1] using this
 · exact ⟨by simp, fun c hc _ => by rw [q4Z hc]⟩
end
end Go.Proofs.YthafeihjlamhhaaGreatDoor
