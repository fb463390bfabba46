/- Summaries of a folder's methods; Sync. -/
import Derived.Test.YtjolihoakdifoaaHh
import Derived.Test.YtjolihoakdifoaaHk
namespace Go.Proofs.Ytjolihoakdifoaa
open Go Go.Lib
set_option maxRecDepth 100000
attribute [-simp] drawOk_eq adraw qrun acode aops

noncomputable section
open Classical

def fcreS : Summ := objS fdOf FD.blks fun f xs _ => match xs with
  | [.str k] => if f.small ∧ k.length ≤ 9223372036854775807 then some ((f.create k).1, .tuple [.int .i64 (f.create k).2.1, .int .i64 (f.create k).2.2]) else none
  | _ => none
theorem fcre_sound : Sound Try.prog 61 fcreS := by
  refine sound_obj (enter_of Try.func61 rfl (by decide)) (fun _ _ => fdOf_eq) fun f xs H s' v b hg hb => ?_
  split at hg
  rotate_left
  · cases hg
  split at hg <;> cases hg
  rename_i hs
  exact ct_obj1 (create_ct f _ hs.1 hs.2) rfl rfl hb

def frenS : Summ := objS fdOf FD.blks fun f xs _ => match xs with
  | [.str a, .str b] => if f.small ∧ b.length ≤ 9223372036854775807 then some ((f.rename a b).1, .int .i64 (f.rename a b).2) else none
  | _ => none
theorem fren_sound : Sound Try.prog 62 frenS := by
  refine sound_obj (enter_of Try.func62 rfl (by decide)) (fun _ _ => fdOf_eq) fun f xs H s' v b hg hb => ?_
  split at hg
  rotate_left
  · cases hg
  split at hg <;> cases hg
  rename_i hs
  exact ct_obj1 (rename_ct f _ _ hs.1 hs.2) rfl rfl hb

def fremS : Summ := objS fdOf FD.blks fun f xs _ => match xs with
  | [.str a] => if f.small then some ((f.remove a).1, .int .i64 (f.remove a).2) else none
  | _ => none
theorem frem_sound : Sound Try.prog 63 fremS := by
  refine sound_obj (enter_of Try.func63 rfl (by decide)) (fun _ _ => fdOf_eq) fun f xs H s' v b hg hb => ?_
  split at hg
  rotate_left
  · cases hg
  split at hg <;> cases hg
  rename_i hs
  exact ct_obj1 (remove_ct f _ hs) rfl rfl hb

def ffindS : Summ := objS fdOf FD.blks fun f xs _ => match xs with
  | [.str a] => some (f, .tuple [.int .i64 (f.find a).1, .bool (f.find a).2])
  | _ => none
theorem ffind_sound : Sound Try.prog 22 ffindS := by
  refine sound_obj (enter_of Try.func22 rfl (by decide)) (fun _ _ => fdOf_eq) fun f xs H s' v b hg hb => ?_
  split at hg <;> cases hg
  exact ct_obj1 (find_ct f _) rfl rfl hb

def fpendS : Summ := objS fdOf FD.blks fun f xs _ => match xs with
  | [] => some (f, .int .i64 f.acts.length)
  | _ => none
theorem fpend_sound : Sound Try.prog 17 fpendS := by
  refine sound_obj (enter_of Try.func17 rfl (by decide)) (fun _ _ => fdOf_eq) fun f xs H s' v b hg hb => ?_
  split at hg <;> cases hg
  exact ct_obj1 (pending_ct f) rfl rfl hb

def fsurvS : Summ := objS fdOf FD.blks fun f xs _ => match xs with
  | [.int .i64 m] => if f.acts.length ≤ 1000000 then some (f.survive m, .tuple []) else none
  | _ => none
theorem fsurv_sound : Sound Try.prog 21 fsurvS := by
  refine sound_obj (enter_of Try.func21 rfl (by decide)) (fun _ _ => fdOf_eq) fun f xs H s' v b hg hb => ?_
  split at hg
  rotate_left
  · cases hg
  split at hg <;> cases hg
  rename_i hs
  exact ct_obj1 (survive_ct f _ hs) rfl rfl hb

def fnamesS : Summ := fun args H => match args with
  | [.ptr b 0] => match H[b]? with
    | some (.obj true sub) => match fdOf sub with
      | some f => if f.small then some (.sl H.length 0 f.names.length 1 false, H ++ [.cells true (f.names.map .str)], []) else none
      | none => none
    | _ => none
  | _ => none
theorem fnames_sound : Sound Try.prog 20 fnamesS := by
  refine ⟨enter_of Try.func20 rfl (by decide), fun args H v H' W hs => ?_, fun args H v H' W hs => ?_⟩ <;> (unfold fnamesS at hs; split at hs <;> try cases hs) <;> (split at hs <;> try cases hs) <;> (rename_i b _ sub hb; split at hs <;> try cases hs) <;> (rename_i f hf; split at hs <;> cases hs; rename_i hk)
  · have e := fdOf_eq hf
    subst e
    have hbl : b < H.length := (List.getElem?_eq_some_iff.1 hb).1
    have fs : ∀ g, reAs g (f.names.map AV.str) = f.names.map AV.str := fun g => reAs_flat g _ (by simp [flatsA, flatA])
    have := ct_frame (H := H) (args := [.ptr b 0]) (names_ct f hk) [b] (by simp) ⟨⟨rfl, rfl⟩, trivial⟩ ⟨by rw [List.getD_eq_getElem?_getD, hb]; exact ⟨rfl, rfl⟩, hbl, trivial⟩ rfl
    obtain ⟨h1, h2⟩ := List.getElem?_eq_some_iff.1 hb
    have hset : H.set b (.obj true f.blks) = H := by rw [← h2, List.set_getElem_self]
    simpa [setOwn, ABlk.own, reB, reA, nameG, hset, fs] using this
  · exact ⟨by simp, fun c hc _ => by rw [List.getElem?_append_left hc]⟩

def fnew0S : Summ := fun args H => match args with
  | [] => some (.ptr H.length 0, H ++ [.obj true FD.new.blks], [])
  | _ => none
theorem fnew0_sound : Sound Try.prog 14 fnew0S := by
  refine ⟨enter_of Try.func14 rfl (by decide), fun args H v H' W hs => ?_, fun args H v H' W hs => ?_⟩ <;> (unfold fnew0S at hs; split at hs <;> cases hs)
  · have := ct_frame (H := H) (args := []) new_ct [] (by simp) trivial trivial rfl
    simpa [setOwn, ABlk.own, reB, reA, nameG] using this
  · exact ⟨by simp, fun c hc _ => by rw [List.getElem?_append_left hc]⟩

def syΓ : Gam := gams [(17, fpendS), (21, fsurvS)]
theorem syΓ_ok : GOk Try.prog syΓ := goks_cons fpend_sound (goks_cons fsurv_sound goks_nil)

theorem sync_ct (f : FD) (hal : f.acts.length ≤ 1000000) : Ct Try.prog 16 [.ptr 0 0] [.obj true f.blks] (.tuple []) [.obj true (f.survive f.acts.length).blks] := by
  refine ct_of_sim Try.func16 rfl ?_
  simp only [Try.ntmps16, List.length_cons, List.length_nil, Nat.reduceAdd, Nat.reduceSub, List.replicate, List.cons_append, List.nil_append]
  refine Sim.exec hmix syΓ_ok (n := 0) (by simp [syΓ, fpendS, fsurvS, hal]; exact ⟨rfl, rfl, rfl⟩) (by simp) ?_
  exact ⟨.inl rfl, _, by simp [Try.f16] <;> rfl, Weak.mk' [0] (by decide) (by decide) (by simp) (by simp [AWb])⟩

def fsyn0S : Summ := objS fdOf FD.blks fun f xs _ => match xs with
  | [] => if f.acts.length ≤ 1000000 then some (f.survive f.acts.length, .tuple []) else none
  | _ => none
theorem fsyn0_sound : Sound Try.prog 16 fsyn0S := by
  refine sound_obj (enter_of Try.func16 rfl (by decide)) (fun _ _ => fdOf_eq) fun f xs H s' v b hg hb => ?_
  split at hg
  rotate_left
  · cases hg
  split at hg <;> cases hg
  rename_i hs
  exact ct_obj1 (sync_ct f hs) rfl rfl hb

end

end Go.Proofs.Ytjolihoakdifoaa
