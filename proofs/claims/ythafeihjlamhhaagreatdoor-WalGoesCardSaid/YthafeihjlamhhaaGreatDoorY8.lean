/- Parts of the proof of WalGoes: lemmas, each with its own conditions. -/
import Derived.Test.YthafeihjlamhhaaGreatDoorY7
set_option maxHeartbeats 64000000
open List renaming getElem?_eq_some_iff → q1Z, getD_eq_getElem?_getD → q2Z, take_of_length_le → q6Z, length_cons → q7Z, length_nil → q8Z, cons_append → q9Z, nil_append → qaZ, replicate → qbZ, getElem?_set_ne → qfZ
open Bool renaming and_eq_true → qrZ
open Nat renaming lt_or_ge → s2Z
namespace Go.Proofs.YthafeihjlamhhaaGreatDoor
open _root_.Go.Proofs.Tryz renaming prog → Pz
set_option maxRecDepth 100000
section
open Go
theorem AW_free {rn : List Nat} : ∀ (x : AV), flatA x = true → AW rn x x
 | .bool _, _ | .int _ _, _ | .str _, _ | .nilp, _ | .nils, _ | .nilm, _ | .nilf, _ => by simp [AW]
def flatsA (l : List AV) : Bool := l.all flatA
theorem AWs_flat {rn : List Nat} : ∀ (l : List AV), flatsA l = true → AWs rn l l
 | [], _ => trivial
 | x :: l, h => by
   simp only [flatsA, List.all_cons, qrZ] at h; exact ⟨AW_free x h.1, AWs_flat l h.2⟩
theorem reA_flat (g : Nat → Nat) {x : AV} (h : flatA x = true) : reA g x = x := by cases x <;> simp_all [flatA, reA]
def flatT : AV → Bool
 | .tuple l => flatsA l
 | .agg l => flatsA l
 | x => flatA x
theorem reAs_flat (g : Nat → Nat) : ∀ (l : List AV), flatsA l = true → reAs g l = l
 | [], _ => rfl
 | x :: l, h => by
   simp only [flatsA, List.all_cons, qrZ] at h; simp only [reAs, reA_flat g h.1, reAs_flat g l h.2]
theorem reA_flatT (g : Nat → Nat) {x : AV} (h : flatT x = true) : reA g x = x := by
 cases x <;> first | exact reA_flat g h | (simp only [reA]; rw [reAs_flat g _ h])
def flatsT (l : List AV) : Bool := l.all flatT
theorem AW_flatT {rn : List Nat} (x : AV) (h : flatT x = true) : AW rn x x := by
 cases x <;> first | exact AW_free _ h | exact AWs_flat _ h
theorem AWs_flatT {rn : List Nat} : ∀ (l : List AV), flatsT l = true → AWs rn l l
 | [], _ => trivial
 | x :: l, h => by
   simp only [flatsT, List.all_cons, qrZ] at h; exact ⟨AW_flatT x h.1, AWs_flatT l h.2⟩
theorem ct_obj1 {P : Program} {f : FuncId} {xs : List AV} {s s' : AHeap} {v : AV} (h : Ct P f (.ptr 0 0 :: xs) [.obj true s] v [.obj true s']) (hx : flatsT xs = true) (hv : flatT v = true) {H : AHeap} {b : Nat} (hb : H[b]? = some (.obj true s)) :
   Ct P f (.ptr b 0 :: xs) H v (H.set b (.obj true s')) := by
 have hbl : b < H.length := (q1Z.1 hb).1
 have := ct_frame (H := H) (args := .ptr b 0 :: xs) h [b] (by simp) ⟨⟨rfl, rfl⟩, AWs_flatT xs hx⟩ ⟨by rw [q2Z, hb]; exact ⟨rfl, rfl⟩, hbl, trivial⟩ rfl
 rw [reA_flatT _ hv] at this; simpa [setOwn, ABlk.own, reB] using this
theorem ct_obj2 {P : Program} {f : FuncId} {x : AV} {y : AV} {xs : List AV} {s s' : AHeap} {l : List AV} {v : AV} (h : Ct P f (.ptr 0 0 :: x :: xs) [.obj true s, .cells false l] v [.obj true s', .cells false l]) (hx : flatsA xs = true) (hv : flatT v = true) (hl : flatsA l = true) {H : AHeap} {b b2 : Nat} {o : Bool} (hb : H[b]? = some (.obj true s)) (hb2 : H[b2]? = some (.cells o l)) (hy : AW [b, b2] x y) :
   Ct P f (.ptr b 0 :: y :: xs) H v (H.set b (.obj true s')) := by
 have hbl : b < H.length := (q1Z.1 hb).1; have hbl2 : b2 < H.length := (q1Z.1 hb2).1
 have hne : b ≠ b2 := by rintro rfl; rw [hb] at hb2; cases hb2
 have := ct_frame (H := H) (args := .ptr b 0 :: y :: xs) h [b, b2] (by simp [hne]) ⟨⟨rfl, rfl⟩, hy, AWs_flat xs hx⟩ ⟨by rw [q2Z, hb]; exact ⟨rfl, rfl⟩, hbl, by rw [q2Z, hb2]; exact ⟨by simp, AWs_flat l hl⟩, hbl2, trivial⟩ rfl
 rw [reA_flatT _ hv] at this; simpa [setOwn, ABlk.own, reB] using this
def objS {σ : Type} (dec : AHeap → Option σ) (enc : σ → AHeap) (g : σ → List AV → AHeap → Option (σ × AV)) : Summ := fun args H => match args with
 | .ptr b 0 :: xs => match H[b]? with
   | some (.obj true sub) => match dec sub with
     | some s => match g s xs H with
       | some (s', v) => some (v, H.set b (.obj true (enc s')), [b])
       | none => none
     | none => none
   | _ => none
 | _ => none
theorem sound_obj {P : Program} {f : FuncId} {σ : Type} {dec : AHeap → Option σ} {enc : σ → AHeap} {g : σ → List AV → AHeap → Option (σ × AV)} (he : ∀ cargs w, (callFunc f cargs).run P w = .ok (.enter f cargs) w) (hd : ∀ sub s, dec sub = some s → sub = enc s)
   (h : ∀ s xs H s' v b, g s xs H = some (s', v) → H[b]? = some (.obj true (enc s)) → Ct P f (.ptr b 0 :: xs) H v (H.set b (.obj true (enc s')))) : Sound P f (objS dec enc g) := by
 have key : ∀ args H v H' W, objS dec enc g args H = some (v, H', W) → ∃ b xs s s', args = .ptr b 0 :: xs ∧ H[b]? = some (.obj true (enc s)) ∧ g s xs H = some (s', v) ∧ H' = H.set b (.obj true (enc s')) ∧ W = [b] := by
   intro args H v H' W hs; unfold objS at hs; split at hs; rotate_left
   · cases hs
   rename_i b xs; split at hs; rotate_left
   · cases hs
   rename_i sub hb; split at hs; rotate_left
   · cases hs
   rename_i s hds; split at hs; rotate_left
   · cases hs
   rename_i s' v' hg; cases hs; have := hd sub s hds; subst this; exact ⟨b, xs, s, s', rfl, hb, hg, rfl, rfl⟩
 refine ⟨he, fun args H v H' W hs => ?_, fun args H v H' W hs => ?_⟩
 · obtain ⟨b, xs, s, s', rfl, h1, h2, rfl, rfl⟩ := key args H v H' W hs
   exact h s xs H s' v b h2 h1
 · obtain ⟨b, xs, s, s', rfl, h1, h2, rfl, rfl⟩ := key args H v H' W hs
   refine ⟨by simp, fun c hc hn => ?_⟩
   rw [qfZ (fun e => hn (by simp [e]))]
attribute [simp] objS
end
section
open Go
attribute [-simp] drawOk_eq adraw qrun acode aops
theorem Aft.closeD {n0 : Nat} {F : List AV} {H : AHeap} {K : List AV → AHeap → Prop} (s : List UInt8) (b : Nat) (hb : H[b]? = some (.cells true [.str s, .nils, .str s])) (hn : n0 ≤ H.length)
   (h : Aft n0 F (closeH H b [H.length] true (⟨s, []⟩ : PF).blks) K) : Aft n0 F H K := by
 have hbl : b < H.length := (q1Z.1 hb).1
 exact Aft.closeF (⟨s, []⟩ : PF) b H.length [] (x := .nils) (o := true) hb rfl (fun h => absurd h (by omega)) rfl (by simp) (by simp; omega) hn h
theorem fsync_ct (f : PF) : Ct Pz 210 [.ptr 0 0] [.obj true f.blks] (.int .i64 0) [.obj true (⟨f.now, []⟩ : PF).blks] := by
 have hΓ := fiΓ_ok; refine ct_of_sim Tryz.func210 rfl ?_; simp only [Tryz.ntmps210, q7Z, q8Z, Nat.reduceAdd, Nat.reduceSub, qbZ, q9Z, qaZ]
 refine Sim.aft (Aft.open (b := 0) rfl (by simp) (Aft.done (by simp [openH]) ?_))
 rw [open_file]; obtain ⟨R, eR⟩ : ∃ R, rowF (List.length ([] : AHeap) + 2) f.acts = R := ⟨_, rfl⟩; obtain ⟨X, eX⟩ : ∃ X, f.acts.map FAct.box = X := ⟨_, rfl⟩; rw [eR, eX]
 refine Sim.step hmix hΓ (n := 0) (by simp; exact ⟨rfl, rfl⟩) (by simp) ?_
 refine Sim.step hmix hΓ (n := 0) (by simp; exact ⟨rfl, rfl⟩) (by simp) ?_
 refine Sim.step hmix hΓ (n := 0) (by simp [fiInl, Tryz.f172]; exact ⟨rfl, rfl⟩) (by simp) ?_
 refine Sim.aft (Aft.closeD f.now 0 rfl (by simp) (Aft.weak (Fn := qbZ 11 .top) (Hn := [.obj true (⟨f.now, []⟩ : PF).blks]) (Weak.mk' [0] (by decide) (by decide) (AWs_tops _ _ _ rfl) (AWg_closed (b := 0) (by simp) _ _ rfl fun i c x h1 h2 => ?_)) (by simp) (Aft.done (by simp) ?_)))
 · match i, h1, h2 with
   | 0, h1, h2 => cases h1; cases h2; exact .inl ⟨rfl, rfl⟩
 refine Sim.exec hmix hΓ (n := 0) (by simp; exact ⟨rfl, rfl, rfl⟩) (by simp) ?_
 exact ⟨.inr rfl, _, by simp [Tryz.f210] <;> rfl, Weak.mk' [0] (by decide) (by decide) (by simp) (by simp [AWb])⟩
structure PF.ok (f : PF) (B : Nat) : Prop where
 fits : fits f.d f.acts
 acts : f.acts.length ≤ B
 len : ∀ i, (runs f.d (f.acts.take i)).length ≤ B
theorem blks_head (f : PF) : ∃ B, f.blks = .cells true [.str f.d, .sl 1 0 f.acts.length 1 false, .str f.now] :: B := ⟨_, rfl⟩
theorem fnew_ct (s : List UInt8) : Ct Pz 96 [.str s] [] (.ptr 0 0) [.obj true (⟨s, []⟩ : PF).blks] := by
 refine ct_of_sim Tryz.func96 rfl ?_; simp only [Tryz.ntmps96, q7Z, q8Z, Nat.reduceAdd, Nat.reduceSub, qbZ, q9Z, qaZ]
 refine Sim.after (Sim.exec hmix fiΓ_ok (n := 0) (by simp; exact ⟨rfl, rfl, rfl⟩) (by simp) ?_)
 refine Aft.closeD s 0 rfl (by simp) (Aft.done (by simp) ?_)
 exact ⟨.inr rfl, _, by simp [Tryz.f96] <;> rfl, Weak.mk' [0] (by decide) (by decide) (by simp) (AWg_closed (b := 0) (by simp) _ _ rfl fun i c x h1 h2 => by
   match i, h1, h2 with
   | 0, h1, h2 => cases h1; cases h2; exact .inl ⟨rfl, rfl⟩)⟩
theorem fbytes_ct (f : PF) : Ct Pz 82 [.ptr 0 0] [.obj true f.blks] (.str f.now) [.obj true f.blks] := by
 obtain ⟨B, eB⟩ := blks_head f; rw [eB]; refine ct_runE hmix fiΓ_ok (n := 0) Tryz.func82 ?_; unfold Tryz.f82
 exact ⟨_, _, (by simp +decide; exact ⟨rfl, rfl⟩), Weak.mk' [0] (by decide) rfl (by simp) (by simp [AWb])⟩
theorem fbyΓ_ok : GOk Pz (runG Pz (gams []) 0 [82] 2) := gok_run hmix goks_nil 0 _ 2
theorem flen_ct (f : PF) : Ct Pz 105 [.ptr 0 0] [.obj true f.blks] (.int .i64 f.now.length) [.obj true f.blks] := by
 obtain ⟨B, eB⟩ := blks_head f; rw [eB]; refine ct_runE hmix fbyΓ_ok (n := 0) Tryz.func105 ?_; unfold Tryz.f105
 exact ⟨_, _, (by simp +decide [Tryz.f82]; exact ⟨rfl, rfl⟩), Weak.mk' [0] (by decide) rfl (by simp) (by simp [AWb])⟩
noncomputable def fileD (sub : AHeap) : Option PF := open Classical in if h : ∃ f : PF, sub = f.blks then some h.choose else none
theorem fileD_eq {sub : AHeap} {f : PF} (h : fileD sub = some f) : sub = f.blks := by
 unfold fileD at h; split at h
 · rename_i hx
   cases h; exact hx.choose_spec
 · cases h
@[simp] theorem fileD_blks (f : PF) : fileD f.blks = some f := by
 unfold fileD; rw [dif_pos ⟨f, rfl⟩]
 have := (show ∃ g : PF, f.blks = g.blks from ⟨f, rfl⟩).choose_spec
 have h2 := congrArg fileOf this; rw [fileOf_blks, fileOf_blks] at h2; exact h2.symm
end
section
open Go
def PF.small (f : PF) : Prop := f.ok 1000000000000
theorem PF.small_now {f : PF} (h : f.small) : f.now.length ≤ 1000000000000 := by
 have := h.len f.acts.length
 rwa [List.take_length] at this
noncomputable section
open Classical
def fsyncS : Summ := objS fileD PF.blks fun f xs _ => match xs with
 | [] => some (⟨f.now, []⟩, .int .i64 0)
 | _ => none
theorem fsync_sound : Sound Pz 210 fsyncS := by
 refine sound_obj (enter_of Tryz.func210 rfl (by decide)) (fun _ _ => fileD_eq) fun f xs H s' v b hg hb => ?_
 split at hg <;> cases hg
 exact ct_obj1 (fsync_ct f) rfl rfl hb
def fbytesS : Summ := objS fileD PF.blks fun f xs _ => match xs with
 | [] => some (f, .str f.now)
 | _ => none
theorem fbytes_sound : Sound Pz 82 fbytesS := by
 refine sound_obj (enter_of Tryz.func82 rfl (by decide)) (fun _ _ => fileD_eq) fun f xs H s' v b hg hb => ?_
 split at hg <;> cases hg
 exact ct_obj1 (fbytes_ct f) rfl rfl hb
def flenS : Summ := objS fileD PF.blks fun f xs _ => match xs with
 | [] => some (f, .int .i64 f.now.length)
 | _ => none
theorem flen_sound : Sound Pz 105 flenS := by
 refine sound_obj (enter_of Tryz.func105 rfl (by decide)) (fun _ _ => fileD_eq) fun f xs H s' v b hg hb => ?_
 split at hg <;> cases hg
 exact ct_obj1 (flen_ct f) rfl rfl hb
def fappS : Summ := objS fileD PF.blks fun f xs H => match xs with
 | [.slice b2 off n 1 c] => match H.getD b2 .dead with
   | .cells _ l => match rowStrs H (.slice b2 off n 1 c) with
     | some a => if f.small ∧ flatsA l = true ∧ a.flatten.length ≤ 1000000000000 ∧ a.length ≤ 1000000000000 then some (f.add a.flatten, .int .i64 0) else none
     | none => none
   | _ => none
 | _ => none
theorem fapp_sound : Sound Pz 150 fappS := by
 refine sound_obj (enter_of Tryz.func150 rfl (by decide)) (fun _ _ => fileD_eq) fun f xs H s' v b hg hb => ?_
 split at hg; rotate_left
 · cases hg
 rename_i b2 off n c; split at hg; rotate_left
 · cases hg
 rename_i o l hb2; split at hg; rotate_left
 · cases hg
 rename_i a ha
 split at hg <;> cases hg
 rename_i hs
 have hb3 : H[b2]? = some (.cells o l) := by
   rw [q2Z] at hb2
   cases hx : H[b2]? with
   | none => rw [hx] at hb2; cases hb2
   | some y => rw [hx] at hb2; exact congrArg some hb2
 have hrs : rowStrs [.obj true f.blks, .cells false l] (.sl 1 off n 1 c) = some a := by
   unfold rowStrs at ha ⊢; simp only [hb3] at ha; split at ha; rotate_left
   · cases ha
   rename_i hle; by_cases h0 : n = 0
   · subst h0
     rw [← ha]
     show (if 0 = 0 then some [] else _) = _
     rw [if_pos rfl]; rfl
   · show (if n = 0 then some [] else (if off + n ≤ l.length then strsOf ((l.drop off).take n) else none)) = some a
     rw [if_neg h0, if_pos hle]; exact ha
 refine ct_obj2 (x := .sl 1 off n 1 c) (fappend_ct f l off n c a (fun rn => AWs_flat l hs.2.1) hrs hs.2.2 (PF.small_now hs.1) hs.1.acts) rfl rfl hs.2.1 hb hb3 ?_
 exact ⟨rfl, rfl, rfl, rfl, fun h => h⟩
end
def fnewS : Summ := newS fun
 | [.str s] => some (.ptr 0 0, [.obj true (⟨s, []⟩ : PF).blks])
 | _ => none
theorem fnew_sound : Sound Pz 96 fnewS := by
 refine sound_new (enter_of Tryz.func96 rfl (by decide)) fun args v H' h => ?_
 split at h <;> cases h
 exact ⟨fnew_ct _, rfl, rfl⟩
end
section
open Go
theorem PF.ok_mono {f : PF} {B C : Nat} (h : f.ok B) (hc : B ≤ C) : f.ok C := ⟨h.fits, by have := h.acts; omega, fun i => by have := h.len i; omega⟩
theorem PF.ok_new (s : List UInt8) (B : Nat) (h : s.length ≤ B) : (⟨s, []⟩ : PF).ok B := ⟨trivial, by simp, fun i => by simpa [runs] using h⟩
theorem PF.ok_now {f : PF} {B : Nat} (h : f.ok B) : f.now.length ≤ B := by
 have := h.len f.acts.length
 rwa [List.take_length] at this
theorem PF.ok_did {f : PF} {B C : Nat} (h : f.ok B) (a : FAct) (hf : match a with | .add _ => True | .cut n => n ≤ f.now.length) (hl : (a.run f.now).length ≤ C) (hc : B + 1 ≤ C) : (f.did a).ok C := by
 refine ⟨(fits_append _ _ _).2 ⟨h.fits, hf, trivial⟩, by have := h.acts; simp [PF.did]; omega, fun i => ?_⟩
 simp only [PF.did]; rcases s2Z f.acts.length i with h1 | h1
 · rw [q6Z (by simp; omega), runs_append]
   exact hl
 · rw [List.take_append_of_le_length h1]
   have := h.len i; omega
theorem PF.ok_add {f : PF} {B k : Nat} (h : f.ok B) (m : List UInt8) (hm : m.length ≤ k) (hk : 1 ≤ k) : (f.add m).ok (B + k) := by
 unfold PF.add; split
 · exact PF.ok_mono h (by omega)
 · refine PF.ok_did h (.add m) trivial ?_ (by omega)
   have := PF.ok_now h
   simp [FAct.run]; omega
end
end Go.Proofs.YthafeihjlamhhaaGreatDoor
