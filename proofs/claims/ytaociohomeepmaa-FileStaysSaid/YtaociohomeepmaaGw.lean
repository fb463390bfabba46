/- FileTells: alike. -/
import Derived.Test.YtaociohomeepmaaGu
namespace Go.Proofs.Ytaociohomeepmaa
open Go
set_option maxRecDepth 100000
attribute [-simp] drawOk_eq adraw qrun acode aops

theorem alΓ_ok : GOk Try.prog (runG Try.prog (gams [(12, fbytesR), (16, fdurableR), (13, flenR), (17, factsR), (26, rbytesS)]) 0 [] 4) :=
  gok_run hmix (goks_cons fbytesR_sound (goks_cons fdurableR_sound (goks_cons flenR_sound (goks_cons factsR_sound (goks_cons rbytes_sound goks_nil))))) 0 [] 4

set_option maxHeartbeats 4000000 in
theorem lalike_ct (f : PF) (hs : f.small) : Ct Try.prog 10 [.ptr 1 0, .ptr 0 0] [.obj true f.rblks, .obj true f.blks] (.bool true) [.obj true f.rblks, .obj true f.blks] := by
  refine ct_of_sim Try.func10 rfl ?_
  simp only [Try.ntmps10, List.length_cons, List.length_nil, Nat.reduceAdd, Nat.reduceSub, List.replicate, List.cons_append, List.nil_append]
  refine Sim.aft (Aft.open (b := 0) rfl (by simp) (Aft.done (by simp [openH]) ?_))
  rw [open_ref]
  refine Sim.step hmix alΓ_ok (n := 0) (by simp; exact ⟨rfl, rfl⟩) (by simp) ?_
  refine Sim.step hmix alΓ_ok (n := 0) (by simp [fbytesR, fdurableR, flenR, factsR, rbytesS, hs]; first | exact ⟨rfl, rfl⟩ | exact ⟨by kernel_rfl, rfl, rfl⟩) (by simp) ?_
  refine Sim.after (Sim.exec hmix alΓ_ok (n := 0) (by simp; exact ⟨rfl, rfl, rfl⟩) (by simp) ?_)
  refine Aft.closeR f 0 2 (x := .sl 2 0 f.acts.length 3 false) rfl (by simp [AW]) (by simp) (by decide) (by simp) (Aft.done (by simp) ⟨by first | exact .inl rfl | exact .inr rfl, _, by simp [Try.f10] <;> rfl, Weak.mk' [0, 1] (by decide) rfl (by simp) (AWg_closed (b := 0) (by simp) _ _ rfl fun i c x h1 h2 => ?_)⟩)
  match i, h1, h2 with
  | 0, h1, h2 => cases h1; cases h2; exact .inl ⟨rfl, rfl⟩
  | 1, h1, h2 => cases h1; cases h2; exact .inr ⟨⟨by decide, by decide⟩, by simp [AWb]⟩

end Go.Proofs.Ytaociohomeepmaa
