/- Folders: the law's function names; joined names. -/
import Derived.Test.YtjiilgpagpfdnaaHm
import Derived.Test.YtjiilgpagpfdnaaLaj
namespace Go.Proofs.Ytjiilgpagpfdnaa
open Go Go.Lib
set_option maxRecDepth 100000
attribute [-simp] drawOk_eq adraw qrun acode aops

theorem join_len (sep : List UInt8) (B : Nat) : ∀ l : List (List UInt8), (∀ s ∈ l, s.length ≤ B) → ((l.map (sep ++ ·)).flatten).length ≤ l.length * (B + sep.length)
  | [], _ => by simp
  | x :: l, h => by
    have h1 := join_len sep B l fun s hs => h s (List.mem_cons_of_mem _ hs)
    have h2 := h x (List.mem_cons_self ..)
    simp only [List.map_cons, List.flatten_cons, List.length_append, List.length_cons, Nat.add_mul, Nat.one_mul] at h1 ⊢
    omega
theorem joinU_len (l : List (List UInt8)) (h : ∀ s ∈ l, s.length ≤ 64) (hl : l.length ≤ 1000000) : (joinU l [32]).length ≤ 140737488355328 := by
  cases l with
  | nil => simp [joinU]
  | cons x l =>
    have h1 := join_len [32] 64 l fun s hs => h s (List.mem_cons_of_mem _ hs)
    have h2 := h x (List.mem_cons_self ..)
    simp only [joinU, List.length_append, List.length_cons, List.length_nil] at h1 hl ⊢
    omega
theorem names_bounds {f : FD} (h : f.small) : (∀ s ∈ f.names, s.length ≤ 64) ∧ f.names.length ≤ 1000000 := by
  obtain ⟨h1, h2⟩ := FD.ok_now h
  refine ⟨fun s hs => h1 s ((sortU_perm _).mem_iff.1 hs), ?_⟩
  unfold FD.names
  rw [(sortU_perm _).length_eq]
  simpa [NM.keys] using h2
theorem names_join {f : FD} (h : f.small) : (joinU f.names [32]).length ≤ 140737488355328 ∧ f.names.length ≤ 140737488355328 := by
  obtain ⟨h1, h2⟩ := names_bounds h
  exact ⟨joinU_len _ h1 h2, by omega⟩

theorem rowStrs_at {H : AHeap} {b : Nat} {o : Bool} {l : List (List UInt8)} (hb : H[b]? = some (.cells o (l.map .str))) : rowStrs H (.sl b 0 l.length 1 false) = some l := by
  have : List.take l.length (l.map AV.str) = l.map AV.str := List.take_of_length_le (by simp)
  by_cases h0 : l.length = 0
  · rw [List.length_eq_zero_iff.1 h0]; rfl
  · simp [rowStrs, hb, this]

theorem fnames_at {H : AHeap} {b : Nat} {f : FD} (hb : H[b]? = some (.obj true f.blks)) (h : f.small) : fnamesS [.ptr b 0] H = some (.sl H.length 0 f.names.length 1 false, H ++ [.cells true (f.names.map .str)], []) := by
  simp only [fnamesS, hb, fdOf_blks]
  rw [if_pos h]
theorem joinS2_at {H : AHeap} {x : AV} {l : List (List UInt8)} {sep : List UInt8} (hx : rowStrs H x = some l) (h : (joinU l sep).length ≤ 140737488355328 ∧ l.length ≤ 140737488355328) : joinS2 [x, .str sep] H = some (.str (joinU l sep), H, []) := by
  simp only [joinS2, readS, hx]
  rw [if_pos h]

noncomputable def lnΓ : Gam := gams [(13, fnamesS), (12, joinS2)]
theorem lnΓ_ok : GOk Try.prog lnΓ := goks_cons fnames_sound (goks_cons join_sound2 goks_nil)

theorem lnames_ct (f : FD) (h : f.small) (want : List UInt8) : Ct Try.prog 11 [.ptr 0 0, .str want] [.obj true f.blks] (.bool (joinU f.names [32] == want)) [.obj true f.blks] := by
  have h1 := fnames_at (H := [.obj true f.blks]) (b := 0) rfl h
  have h2 := joinS2_at (H := [.obj true f.blks, .cells true (f.names.map .str)]) (x := .sl 1 0 f.names.length 1 false) (sep := [32]) (rowStrs_at rfl) (names_join h)
  simp only [List.length_cons, List.length_nil, Nat.reduceAdd, List.cons_append, List.nil_append] at h1
  refine ct_of_sim Try.func11 rfl ?_
  simp only [Try.ntmps11, List.length_cons, List.length_nil, Nat.reduceAdd, Nat.reduceSub, List.replicate, List.cons_append, List.nil_append]
  refine Sim.exec hmix lnΓ_ok (n := 0) (by simp [lnΓ, h1, h2]; exact ⟨rfl, rfl, rfl⟩) (by simp) ?_
  exact ⟨.inr rfl, _, by simp [Try.f11] <;> rfl, Weak.mk' [0] (by decide) (by decide) (by simp) (by simp [AWb])⟩

noncomputable section
open Classical

def lnamesS : Summ := objS fdOf FD.blks fun f xs _ => match xs with
  | [.str want] => if f.small then some (f, .bool (joinU f.names [32] == want)) else none
  | _ => none
theorem lnames_sound : Sound Try.prog 11 lnamesS := by
  refine sound_obj (enter_of Try.func11 rfl (by decide)) (fun _ _ => fdOf_eq) fun f xs H s' v b hg hb => ?_
  split at hg
  rotate_left
  · cases hg
  split at hg <;> cases hg
  rename_i hs
  exact ct_obj1 (lnames_ct f hs _) rfl rfl hb

end

end Go.Proofs.Ytjiilgpagpfdnaa
