/- Parts of the proof of PublishAtomic: lemmas, each with its own conditions. -/
import Derived.Test.YthafeihjlamhhaaGreatDoorY25
set_option maxHeartbeats 64000000
open List renaming getElem?_eq_some_iff → q1Z, getD_eq_getElem?_getD → q2Z, length_cons → q7Z, length_nil → q8Z, cons_append → q9Z, nil_append → qaZ, length_append → qdZ, getElem?_set_ne → qfZ, getElem?_set_self → qgZ, mem_singleton → r1Z
open Nat renaming le_refl → qnZ
namespace Go.Proofs.YthafeihjlamhhaaGreatDoor
open _root_.Go.Proofs.Tryz renaming prog → Pz
set_option maxRecDepth 100000
section
open Go
theorem set_same {H : AHeap} {b b2 : Nat} {B X : ABlk} (h : H[b2]? = some X) (hne : b ≠ b2) : (H.set b B).set b2 X = H.set b B := by
 have hbl2 : b2 < H.length := (q1Z.1 h).1
 refine List.ext_getElem? fun i => ?_
 by_cases hi : i = b2
 · subst hi
   rw [qgZ (by simpa using hbl2), qfZ hne, h]
 · rw [qfZ (Ne.symm hi)]
end
section
open Go Go.Lib
attribute [-simp] drawOk_eq adraw qrun acode aops
theorem Mf.bytes_few {m : Mf} (h : m.right = true) : m.bytes.length ≤ 30000 := by
 have := Mf.put_len h; simp only [Mf.bytes, Cr.seal_length, qdZ, q7Z, q8Z]; omega
theorem flats_sgs : ∀ l : List Sg, flatsA (sgsA l) = true := fun l => by
 induction l with
 | nil => rfl
 | cons x l ih => simp only [sgsA, sgA, q9Z, qaZ, flatsA, List.all_cons, flatA, Bool.true_and] at ih ⊢; exact ih
open Classical in
noncomputable def pputS : Summ := fun args H => match args with
 | [.ptr b 0, .agg [.int .i64 v, .int .i64 f, .int .i64 n, .sl b2 0 L 3 _c]] => match H[b]?, H[b2]? with
   | some (.obj true sub), some (.cells true l) => match dsD sub, sgsOf l with
     | some d, some a => if d.ok 800000 100000000 ∧ d.quota ≤ 1000000000 ∧ (⟨v, f, n, a⟩ : Mf).right = true ∧ a.length = L then some (.int .i64 (d.put (⟨v, f, n, a⟩ : Mf).bytes).2, H.set b (.obj true (d.put (⟨v, f, n, a⟩ : Mf).bytes).1.blks), [b]) else none
     | _, _ => none
   | _, _ => none
 | _ => none
theorem pputS_sound : Sound Pz 51 pputS := by
 have key : ∀ args H v H' W, pputS args H = some (v, H', W) → ∃ b B, W = [b] ∧ H' = H.set b B ∧ Ct Pz 51 args H v H' := by
   intro args H v H' W hs; unfold pputS at hs; split at hs; rotate_left
   · cases hs
   rename_i b v f n b2 L c
   split at hs <;> try cases hs
   rename_i sub l hb hb2
   split at hs <;> try cases hs
   rename_i d a hd hl
   split at hs <;> cases hs
   rename_i hc; obtain ⟨h1, h2, h3, h4⟩ := hc; have e := dsD_eq hd; have e2 := sgsOf_eq hl
   subst e; subst e2; subst h4
   refine ⟨b, _, rfl, rfl, ?_⟩; have hbl : b < H.length := (q1Z.1 hb).1; have hbl2 : b2 < H.length := (q1Z.1 hb2).1
   have hne : b ≠ b2 := by rintro rfl; rw [hb] at hb2; cases hb2
   have hct := pput_ct d h1 1000000000 (by decide) h2 (by omega) (by omega) (by omega) ⟨v, f, n, a⟩ h3 (Nat.le_trans (Mf.bytes_few h3) (by omega))
   have := ct_frame (H := H) (args := [.ptr b 0, .agg [.int .i64 v, .int .i64 f, .int .i64 n, .sl b2 0 a.length 3 c]]) hct [b, b2] (by simp [hne]) (by simp [mfA, AWs, AW]) ⟨by rw [q2Z, hb]; exact ⟨rfl, rfl⟩, hbl, by rw [q2Z, hb2]; exact ⟨fun h => h, AWs_flat _ (flats_sgs _)⟩, hbl2, trivial⟩ rfl
   simpa [setOwn, ABlk.own, reB, reA, set_same hb2 hne, reAs_flat _ _ (flats_sgs _)] using this
 refine ⟨enter_of Tryz.func51 rfl (by decide), fun args H v H' W hs => ?_, fun args H v H' W hs => ?_⟩
 · obtain ⟨b, B, _, _, h⟩ := key args H v H' W hs
   exact h
 · obtain ⟨b, B, rfl, rfl, _⟩ := key args H v H' W hs
   refine ⟨by simp, fun c hc hn => ?_⟩
   simp only [r1Z] at hn; rw [qfZ (Ne.symm hn)]
open Classical in
noncomputable def theM (d : DS) : Option Mf := if h : ∃ m : Mf, m.right = true ∧ pubd d m.bytes then some (Classical.choose h) else none
theorem theM_spec {d : DS} {m : Mf} (h : theM d = some m) : m.right = true ∧ pubd d m.bytes := by
 unfold theM at h
 split at h <;> cases h
 rename_i h; exact Classical.choose_spec h
theorem pubd_one {d : DS} {s t : List UInt8} (h1 : pubd d s) (h2 : pubd d t) : s = t := by
 have := h1.2.symm.trans h2.2; cases this; rfl
theorem theM_eq {d : DS} {m : Mf} (hr : m.right = true) (hp : pubd d m.bytes) : theM d = some m := by
 unfold theM; have h : ∃ m : Mf, m.right = true ∧ pubd d m.bytes := ⟨m, hr, hp⟩; rw [dif_pos h]; obtain ⟨h1, h2⟩ := Classical.choose_spec h; rw [Mf.bytes_inj h1 hr (pubd_one h2 hp)]
open Classical in
noncomputable def gotS : Summ := fun args H => match args with
 | [.ptr b 0, .agg [.int .i64 v, .int .i64 f, .int .i64 n, .sl b2 0 L 3 _c]] => match H[b]?, H[b2]? with
   | some (.obj true sub), some (.cells true l) => match dsD sub, sgsOf l with
     | some d, some a => match theM d with
       | some m => if d.small ∧ a.length = L then some (.bool (decide (m = ⟨v, f, n, a⟩)), H, []) else none
       | none => none
     | _, _ => none
   | _, _ => none
 | _ => none
theorem got_sound : Sound Pz 52 gotS := by
 have key : ∀ args H v H' W, gotS args H = some (v, H', W) → H' = H ∧ Ct Pz 52 args H v H' := by
   intro args H v H' W hs; unfold gotS at hs; split at hs; rotate_left
   · cases hs
   rename_i b v f n b2 L c
   split at hs <;> try cases hs
   rename_i sub l hb hb2
   split at hs <;> try cases hs
   rename_i d a hd hl
   split at hs <;> try cases hs
   rename_i m hm
   split at hs <;> cases hs
   rename_i hc; obtain ⟨h1, h4⟩ := hc; have e := dsD_eq hd; have e2 := sgsOf_eq hl
   subst e; subst e2; subst h4
   refine ⟨rfl, ?_⟩; obtain ⟨hr, hp⟩ := theM_spec hm; have hbl : b < H.length := (q1Z.1 hb).1; have hbl2 : b2 < H.length := (q1Z.1 hb2).1
   have hne : b ≠ b2 := by rintro rfl; rw [hb] at hb2; cases hb2
   have hct := got_ct d h1 m ⟨v, f, n, a⟩ hr (Nat.le_trans (Mf.bytes_few hr) (by omega)) hp
   have := ct_frame (H := H) (args := [.ptr b 0, .agg [.int .i64 v, .int .i64 f, .int .i64 n, .sl b2 0 a.length 3 c]]) hct [b, b2] (by simp [hne]) (by simp [mfA, AWs, AW]) ⟨by rw [q2Z, hb]; exact ⟨rfl, rfl⟩, hbl, by rw [q2Z, hb2]; exact ⟨fun h => h, AWs_flat _ (flats_sgs _)⟩, hbl2, trivial⟩ rfl
   have hs : H.set b (.obj true d.blks) = H := by
     obtain ⟨h1, h2⟩ := q1Z.1 hb; rw [← h2, List.set_getElem_self]
   have hs2 : H.set b2 (.cells true (sgsA a)) = H := by
     obtain ⟨h1, h2⟩ := q1Z.1 hb2; rw [← h2, List.set_getElem_self]
   simpa [setOwn, ABlk.own, reB, reA, set_same hb2 hne, reAs_flat _ _ (flats_sgs _), hs, hs2] using this
 refine ⟨enter_of Tryz.func52 rfl (by decide), fun args H v H' W hs => ?_, fun args H v H' W hs => ?_⟩
 · exact (key args H v H' W hs).2
 · obtain ⟨rfl, _⟩ := key args H v H' W hs
   exact ⟨qnZ _, fun _ _ _ => rfl⟩
end
end Go.Proofs.YthafeihjlamhhaaGreatDoor
