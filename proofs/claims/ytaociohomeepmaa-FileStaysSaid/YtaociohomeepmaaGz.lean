/- The reference file's Stay, of an open one. -/
import Derived.Test.YtaociohomeepmaaGs
namespace Go.Proofs.Ytaociohomeepmaa
open Go
set_option maxRecDepth 100000
attribute [-simp] drawOk_eq adraw qrun acode aops

theorem rstay_flat (f : PF) (d p : Int) (hs : f.small) : Ct Try.prog 31 [.ptr 0 0, .agg [.int .i64 d, .int .i64 p]] [.cells true [.str f.d, .sl 1 0 f.acts.length 3 false], .cells false (actA f.acts)] (.tuple []) [.cells true [.str (f.stays d p), .nils], .cells false (actA f.acts)] := by
  refine ct_runE hmix rtΓ_ok (n := 0) Try.func31 ?_
  unfold Try.f31
  exact ⟨_, _, (by simp [rstaysS, hs]; exact ⟨rfl, rfl⟩), Weak.mk' [0, 1] (by decide) rfl (by simp) (by simp [AWb])⟩

theorem rstay_in (f : PF) (d p : Int) (hok : f.small) {H : AHeap} {b r : Nat} {o2 : Bool} (hb : H[b]? = some (.cells true [.str f.d, .sl r 0 f.acts.length 3 false])) (hr : H[r]? = some (.cells o2 (actA f.acts))) (hne : b ≠ r) :
    Ct Try.prog 31 [.ptr b 0, .agg [.int .i64 d, .int .i64 p]] H (.tuple []) (H.set b (.cells true [.str (f.stays d p), .nils])) := by
  have hbl : b < H.length := (List.getElem?_eq_some_iff.1 hb).1
  have hrl : r < H.length := (List.getElem?_eq_some_iff.1 hr).1
  have := ct_frame (H := H) (args := [.ptr b 0, .agg [.int .i64 d, .int .i64 p]]) (rstay_flat f d p hok) [b, r] (by simp [hne]) ⟨⟨rfl, rfl⟩, AWs_flatT [.agg [.int .i64 d, .int .i64 p]] rfl⟩ ⟨by rw [List.getD_eq_getElem?_getD, hb]; exact ⟨by simp, rfl, ⟨rfl, rfl, rfl, rfl, fun h => h⟩, trivial⟩, hbl, by rw [List.getD_eq_getElem?_getD, hr]; exact ⟨by simp, AWs_actA _⟩, hrl, trivial⟩ rfl
  simpa [setOwn, ABlk.own, reB, reA, reAs] using this

noncomputable section
open Classical
def rstayS2 : Summ := fun args H => match args with
  | [.ptr b 0, .agg [.int .i64 x, .int .i64 p]] => match H.getD b .dead with
    | .cells true [.str d, .sl r 0 n 3 false] => match H.getD r .dead with
      | .cells _ l => match rowActs l with
        | some a => if n = a.length ∧ b ≠ r ∧ PF.small ⟨d, a⟩ then some (.tuple [], H.set b (.cells true [.str (PF.stays ⟨d, a⟩ x p), .nils]), [b]) else none
        | none => none
      | _ => none
    | _ => none
  | _ => none
end

theorem rstay2_sound : Sound Try.prog 31 rstayS2 := by
  refine ⟨enter_of Try.func31 rfl (by decide), fun args H v H' W h => ?_, fun args H v H' W h => ?_⟩
  · unfold rstayS2 at h
    split at h <;> try cases h
    rename_i b x p
    split at h <;> try cases h
    rename_i d r n hb
    split at h <;> try cases h
    rename_i l hr
    split at h <;> try cases h
    rename_i a ha
    split at h <;> cases h
    rename_i hc
    obtain ⟨rfl, hne, hs⟩ := hc
    rw [rowActs_eq ha] at hr
    exact rstay_in ⟨d, a⟩ x p hs (getD_some hb (by simp)) (getD_some hr (by simp)) hne
  · unfold rstayS2 at h
    split at h <;> try cases h
    split at h <;> try cases h
    split at h <;> try cases h
    split at h <;> try cases h
    split at h <;> cases h
    refine ⟨by simp, fun c hc hn => ?_⟩
    rw [List.getElem?_set_ne (fun e => hn (by simp [e]))]

end Go.Proofs.Ytaociohomeepmaa
