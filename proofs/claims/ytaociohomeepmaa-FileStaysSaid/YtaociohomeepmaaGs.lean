/- The reference file's Stay. -/
import Derived.Test.YtaociohomeepmaaGr
namespace Go.Proofs.Ytaociohomeepmaa
open Go
set_option maxRecDepth 100000
attribute [-simp] drawOk_eq adraw qrun acode aops

/-- Stays, beside whatever there is. -/
theorem rstays_in (f : PF) (d p : Int) (hok : f.small) {H : AHeap} {b r : Nat} {o o2 : Bool} (hb : H[b]? = some (.cells o [.str f.d, .sl r 0 f.acts.length 3 false])) (hr : H[r]? = some (.cells o2 (actA f.acts))) (hne : b ≠ r) :
    Ct Try.prog 42 [.ptr b 0, .agg [.int .i64 d, .int .i64 p]] H (.str (f.stays d p)) H := by
  have hbl : b < H.length := (List.getElem?_eq_some_iff.1 hb).1
  have hrl : r < H.length := (List.getElem?_eq_some_iff.1 hr).1
  have := ct_frame (H := H) (args := [.ptr b 0, .agg [.int .i64 d, .int .i64 p]]) (rstays_ct f d p hok) [b, r] (by simp [hne]) ⟨⟨rfl, rfl⟩, AWs_flatT [.agg [.int .i64 d, .int .i64 p]] rfl⟩ ⟨by rw [List.getD_eq_getElem?_getD, hb]; exact ⟨by simp, rfl, ⟨rfl, rfl, rfl, rfl, fun h => h⟩, trivial⟩, hbl, by rw [List.getD_eq_getElem?_getD, hr]; exact ⟨by simp, AWs_actA _⟩, hrl, trivial⟩ rfl
  simpa [setOwn, ABlk.own, reB, reA] using this

noncomputable section
open Classical
def rstaysS : Summ := fun args H => match args with
  | [.ptr b 0, .agg [.int .i64 x, .int .i64 p]] => match H.getD b .dead with
    | .cells _ [.str d, .sl r 0 n 3 false] => match H.getD r .dead with
      | .cells _ l => match rowActs l with
        | some a => if n = a.length ∧ b ≠ r ∧ PF.small ⟨d, a⟩ then some (.str (PF.stays ⟨d, a⟩ x p), H, []) else none
        | none => none
      | _ => none
    | _ => none
  | _ => none
end

theorem rstays_sound : Sound Try.prog 42 rstaysS := by
  refine ⟨enter_of Try.func42 rfl (by decide), fun args H v H' W h => ?_, fun args H v H' W h => ?_⟩
  · unfold rstaysS at h
    split at h <;> try cases h
    rename_i b x p
    split at h <;> try cases h
    rename_i d r n hb
    split at h <;> try cases h
    rename_i l hr
    split at h <;> try cases h
    rename_i a ha
    split at h <;> cases h
    rename_i hc
    obtain ⟨rfl, hne, hs⟩ := hc
    rw [rowActs_eq ha] at hr
    exact rstays_in ⟨d, a⟩ x p hs (getD_some hb (by simp)) (getD_some hr (by simp)) hne
  · unfold rstaysS at h
    split at h <;> try cases h
    split at h <;> try cases h
    split at h <;> try cases h
    split at h <;> try cases h
    split at h <;> cases h
    exact ⟨Nat.le_refl _, fun _ _ _ => rfl⟩

theorem rtΓ_ok : GOk Try.prog (runG Try.prog (gams [(42, rstaysS)]) 0 [] 4) := gok_run hmix (goks_cons rstays_sound goks_nil) 0 [] 4

theorem rstay_ct (f : PF) (d p : Int) (hs : f.small) : Ct Try.prog 31 [.ptr 0 0, .agg [.int .i64 d, .int .i64 p]] [.obj true f.rblks] (.tuple []) [.obj true (⟨f.stays d p, []⟩ : PF).rblks] := by
  refine ct_of_sim Try.func31 rfl ?_
  simp only [Try.ntmps31, List.length_cons, List.length_nil, Nat.reduceAdd, Nat.reduceSub, List.replicate, List.cons_append, List.nil_append]
  refine Sim.aft (Aft.open (b := 0) rfl (by simp) (Aft.done (by simp [openH]) ?_))
  rw [open_ref]
  refine Sim.after (Sim.exec hmix rtΓ_ok (n := 0) (by simp [rstaysS, hs]; exact ⟨rfl, rfl, rfl⟩) (by simp) ?_)
  refine Aft.closeR ⟨f.stays d p, []⟩ 0 3 (x := .nils) rfl (by simp [AW]) (by simp) (by decide) (by simp) (Aft.done (by simp) ⟨by first | exact .inl rfl | exact .inr rfl, _, by simp [Try.f31] <;> rfl, Weak.mk' [0] (by decide) rfl (by simp) (AWg_closed (b := 0) (by simp) _ _ rfl fun i c x h1 h2 => ?_)⟩)
  match i, h1, h2 with
  | 0, h1, h2 => cases h1; cases h2; exact .inl ⟨rfl, rfl⟩

noncomputable def rstayS : Summ := objS refOf PF.rblks fun f xs _ => match xs with
  | [.agg [.int .i64 d, .int .i64 p]] => open Classical in if f.small then some (⟨f.stays d p, []⟩, .tuple []) else none
  | _ => none
theorem rstay_sound : Sound Try.prog 31 rstayS := by
  refine sound_obj (enter_of Try.func31 rfl (by decide)) (fun _ _ => refOf_eq) fun f xs H s' v b hg hb => ?_
  split at hg
  rotate_left
  · cases hg
  split at hg <;> cases hg
  rename_i hs
  exact ct_obj1 (rstay_ct f _ _ hs) rfl rfl hb

end Go.Proofs.Ytaociohomeepmaa
