/- Summaries of a file's methods. -/
import Derived.Test.YtjolihoakdifoaaFs
namespace Go.Proofs.Ytjolihoakdifoaa
open Go
set_option maxRecDepth 100000

/-- A file that is small enough. -/
def PF.small (f : PF) : Prop := f.ok 1000000000000

theorem PF.small_now {f : PF} (h : f.small) : f.now.length ≤ 1000000000000 := by
  have := h.len f.acts.length
  rwa [List.take_length] at this

noncomputable section
open Classical

def fcutS : Summ := objS fileD PF.blks fun f xs _ => match xs with
  | [.int .i64 n] => if f.small then some ((f.cut n).1, .int .i64 (f.cut n).2) else none
  | _ => none
theorem fcut_sound : Sound Try.prog 47 fcutS := by
  refine sound_obj (enter_of Try.func47 rfl (by decide)) (fun _ _ => fileD_eq) fun f xs H s' v b hg hb => ?_
  split at hg
  rotate_left
  · cases hg
  rename_i n
  split at hg <;> cases hg
  rename_i hs
  exact ct_obj1 (fcut_ct f n (PF.small_now hs) hs.acts) rfl rfl hb

def fsyncS : Summ := objS fileD PF.blks fun f xs _ => match xs with
  | [] => some (⟨f.now, []⟩, .int .i64 0)
  | _ => none
theorem fsync_sound : Sound Try.prog 9 fsyncS := by
  refine sound_obj (enter_of Try.func9 rfl (by decide)) (fun _ _ => fileD_eq) fun f xs H s' v b hg hb => ?_
  split at hg <;> cases hg
  exact ct_obj1 (fsync_ct f) rfl rfl hb

def fbytesS : Summ := objS fileD PF.blks fun f xs _ => match xs with
  | [] => some (f, .str f.now)
  | _ => none
theorem fbytes_sound : Sound Try.prog 55 fbytesS := by
  refine sound_obj (enter_of Try.func55 rfl (by decide)) (fun _ _ => fileD_eq) fun f xs H s' v b hg hb => ?_
  split at hg <;> cases hg
  exact ct_obj1 (fbytes_ct f) rfl rfl hb

def flenS : Summ := objS fileD PF.blks fun f xs _ => match xs with
  | [] => some (f, .int .i64 f.now.length)
  | _ => none
theorem flen_sound : Sound Try.prog 56 flenS := by
  refine sound_obj (enter_of Try.func56 rfl (by decide)) (fun _ _ => fileD_eq) fun f xs H s' v b hg hb => ?_
  split at hg <;> cases hg
  exact ct_obj1 (flen_ct f) rfl rfl hb

def freadS : Summ := objS fileD PF.blks fun f xs _ => match xs with
  | [.int .i64 a, .int .i64 n] => if f.small then some (f, .tuple [.str (f.readAt a n).1, .int .i64 (f.readAt a n).2]) else none
  | _ => none
theorem fread_sound : Sound Try.prog 50 freadS := by
  refine sound_obj (enter_of Try.func50 rfl (by decide)) (fun _ _ => fileD_eq) fun f xs H s' v b hg hb => ?_
  split at hg
  rotate_left
  · cases hg
  split at hg <;> cases hg
  rename_i hs
  exact ct_obj1 (freadAt_ct f _ _ (PF.small_now hs)) rfl rfl hb

def fappS : Summ := objS fileD PF.blks fun f xs H => match xs with
  | [.slice b2 off n 1 c] => match H.getD b2 .dead with
    | .cells _ l => match rowStrs H (.slice b2 off n 1 c) with
      | some a => if f.small ∧ flatsA l = true ∧ a.flatten.length ≤ 1000000000000 ∧ a.length ≤ 1000000000000 then some (f.add a.flatten, .int .i64 0) else none
      | none => none
    | _ => none
  | _ => none
theorem fapp_sound : Sound Try.prog 8 fappS := by
  refine sound_obj (enter_of Try.func8 rfl (by decide)) (fun _ _ => fileD_eq) fun f xs H s' v b hg hb => ?_
  split at hg
  rotate_left
  · cases hg
  rename_i b2 off n c
  split at hg
  rotate_left
  · cases hg
  rename_i o l hb2
  split at hg
  rotate_left
  · cases hg
  rename_i a ha
  split at hg <;> cases hg
  rename_i hs
  have hb3 : H[b2]? = some (.cells o l) := by
    rw [List.getD_eq_getElem?_getD] at hb2
    cases hx : H[b2]? with
    | none => rw [hx] at hb2; cases hb2
    | some y => rw [hx] at hb2; exact congrArg some hb2
  have hrs : rowStrs [.obj true f.blks, .cells false l] (.sl 1 off n 1 c) = some a := by
    unfold rowStrs at ha ⊢
    simp only [hb3] at ha
    split at ha
    rotate_left
    · cases ha
    rename_i hle
    by_cases h0 : n = 0
    · subst h0
      rw [← ha]
      show (if 0 = 0 then some [] else _) = _
      rw [if_pos rfl]
      rfl
    · show (if n = 0 then some [] else (if off + n ≤ l.length then strsOf ((l.drop off).take n) else none)) = some a
      rw [if_neg h0, if_pos hle]; exact ha
  refine ct_obj2 (x := .sl 1 off n 1 c) (fappend_ct f l off n c a (fun rn => AWs_flat l hs.2.1) hrs hs.2.2 (PF.small_now hs.1) hs.1.acts) rfl rfl hs.2.1 hb hb3 ?_
  exact ⟨rfl, rfl, rfl, rfl, fun h => h⟩

def fstayS : Summ := objS fileD PF.blks fun f xs _ => match xs with
  | [.agg [.int .i64 d, .int .i64 p]] => if f.small ∧ p ≤ 4611686018427387903 then some (⟨f.stays d p, []⟩, .int .i64 0) else none
  | _ => none
theorem fstay_sound : Sound Try.prog 53 fstayS := by
  refine sound_obj (enter_of Try.func53 rfl (by decide)) (fun _ _ => fileD_eq) fun f xs H s' v b hg hb => ?_
  split at hg
  rotate_left
  · cases hg
  split at hg <;> cases hg
  rename_i hs
  exact ct_obj1 (fstay_ct f _ _ hs.1 hs.2) rfl rfl hb

end

def fnewS : Summ := newS fun
  | [.str s] => some (.ptr 0 0, [.obj true (⟨s, []⟩ : PF).blks])
  | _ => none
theorem fnew_sound : Sound Try.prog 6 fnewS := by
  refine sound_new (enter_of Try.func6 rfl (by decide)) fun args v H' h => ?_
  split at h <;> cases h
  exact ⟨fnew_ct _, rfl, rfl⟩

end Go.Proofs.Ytjolihoakdifoaa
