/- Summaries of the reference file's methods. -/
import Derived.Test.YtaociohomeepmaaFy
namespace Go.Proofs.Ytaociohomeepmaa
open Go
set_option maxRecDepth 100000

noncomputable section
open Classical

def rcutS : Summ := objS refOf PF.rblks fun f xs _ => match xs with
  | [.int .i64 n] => if f.small then some ((f.cut n).1, .int .i64 (f.cut n).2) else none
  | _ => none
theorem rcut_sound : Sound Try.prog 27 rcutS := by
  refine sound_obj (enter_of Try.func27 rfl (by decide)) (fun _ _ => refOf_eq) fun f xs H s' v b hg hb => ?_
  split at hg
  rotate_left
  · cases hg
  split at hg <;> cases hg
  rename_i hs
  exact ct_obj1 (rcut_ct f _ hs) rfl rfl hb

def rsyncS : Summ := objS refOf PF.rblks fun f xs _ => match xs with
  | [] => if f.small then some (⟨f.now, []⟩, .tuple []) else none
  | _ => none
theorem rsync_sound : Sound Try.prog 28 rsyncS := by
  refine sound_obj (enter_of Try.func28 rfl (by decide)) (fun _ _ => refOf_eq) fun f xs H s' v b hg hb => ?_
  split at hg
  rotate_left
  · cases hg
  split at hg <;> cases hg
  rename_i hs
  exact ct_obj1 (rsync_ct f hs) rfl rfl hb

def rreadS : Summ := objS refOf PF.rblks fun f xs _ => match xs with
  | [.int .i64 a, .int .i64 n] => if f.small then some (f, .tuple [.str (f.readAt a n).1, .int .i64 (f.readAt a n).2]) else none
  | _ => none
theorem rread_sound : Sound Try.prog 30 rreadS := by
  refine sound_obj (enter_of Try.func30 rfl (by decide)) (fun _ _ => refOf_eq) fun f xs H s' v b hg hb => ?_
  split at hg
  rotate_left
  · cases hg
  split at hg <;> cases hg
  rename_i hs
  exact ct_obj1 (rread_ct f _ _ hs) rfl rfl hb

def rappS : Summ := objS refOf PF.rblks fun f xs H => match xs with
  | [.slice b2 0 n 1 _c] => match H.getD b2 .dead with
    | .cells _ l => match strsOf l with
      | some a => if n = a.length ∧ f.small ∧ a.flatten.length ≤ 1000000000000 ∧ a.length ≤ 1000000000000 then some (f.add a.flatten, .tuple []) else none
      | none => none
    | _ => none
  | _ => none
theorem rapp_sound : Sound Try.prog 32 rappS := by
  refine sound_obj (enter_of Try.func32 rfl (by decide)) (fun _ _ => refOf_eq) fun f xs H s' v b hg hb => ?_
  split at hg
  rotate_left
  · cases hg
  rename_i b2 n c
  split at hg
  rotate_left
  · cases hg
  rename_i o l hb2
  split at hg
  rotate_left
  · cases hg
  rename_i a ha
  split at hg <;> cases hg
  rename_i hs
  obtain ⟨rfl, hs, hm⟩ := hs
  have hb3 := getD_some hb2 (by simp)
  rw [strsOf_eq ha] at hb3
  refine ct_obj2 (x := .sl 1 0 a.length 1 c) (rappend_ct f a c hs hm) rfl rfl (by simp [flatsA, flatA]) hb hb3 ?_
  exact ⟨rfl, rfl, rfl, rfl, fun h => h⟩

end

end Go.Proofs.Ytaociohomeepmaa
