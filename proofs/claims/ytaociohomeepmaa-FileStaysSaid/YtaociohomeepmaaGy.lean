/- FileTells: what an act does to both files. -/
import Derived.Test.YtaociohomeepmaaGx
import Derived.Test.YtaociohomeepmaaGz
namespace Go.Proofs.Ytaociohomeepmaa
open Go
set_option maxRecDepth 100000
attribute [-simp] drawOk_eq adraw qrun acode aops

def PF.does (f : PF) (W : Int) (S : List UInt8) (N M : Int) : PF :=
  if W.tmod 10 = 4 ∨ W.tmod 10 = 5 then (f.cut (sizeF N f.now.length)).1
  else if W.tmod 10 = 6 then ⟨f.now, []⟩
  else if W.tmod 10 = 7 then f
  else if W.tmod 10 = 9 then ⟨f.stays (sizeF M f.acts.length) N, []⟩
  else f.add (S.take 20)

theorem doΓ_ok : GOk Try.prog (runG Try.prog (gams [(15, lsizeS), (14, fcutS), (8, fsyncS), (29, freadS), (7, fappS), (18, fstayS), (26, rbytesS), (27, rcutS), (28, rsyncS), (30, rreadS), (32, rappS), (31, rstayS2)]) 0 [] 4) :=
  gok_run hmix (goks_cons lsize_sound (goks_cons fcut_sound (goks_cons fsync_sound (goks_cons fread_sound (goks_cons fapp_sound (goks_cons fstay_sound (goks_cons rbytes_sound (goks_cons rcut_sound (goks_cons rsync_sound (goks_cons rread_sound (goks_cons rapp_sound (goks_cons rstay2_sound goks_nil)))))))))))) 0 [] 4

set_option maxHeartbeats 8000000 in
theorem ldoes_ct (f : PF) (W : Int) (S : List UInt8) (N M : Int) (hs : f.ok 100000000000) (_hW : 0 ≤ W ∧ W ≤ 255) (hN : -32768 ≤ N ∧ N ≤ 32767) (hM : -32768 ≤ M ∧ M ≤ 32767) (_hS : S.length ≤ 9223372036854775807) :
    Ct Try.prog 9 [.agg [.int .u8 W, .str S, .int .i16 N, .int .i16 M], .ptr 1 0, .ptr 0 0] [.obj true f.rblks, .obj true f.blks] (.bool true) [.obj true (f.does W S N M).rblks, .obj true (f.does W S N M).blks] := by
  have hΓ := doΓ_ok
  have hs1 : f.small := PF.ok_mono hs (by omega)
  have hn := PF.ok_now hs
  have hk := hs.acts
  refine ct_of_sim Try.func9 rfl ?_
  simp only [Try.ntmps9, List.length_cons, List.length_nil, Nat.reduceAdd, Nat.reduceSub, List.replicate, List.cons_append, List.nil_append]
  obtain ⟨n, en⟩ : ∃ n, sizeF N f.now.length = n := ⟨_, rfl⟩
  obtain ⟨q, eq⟩ : ∃ q, W.tmod 10 = q := ⟨_, rfl⟩
  have b1 : (f.now.length : Int) ≤ 1000000000000 := by omega
  unfold PF.does
  rw [en, eq]
  refine Sim.step hmix hΓ (n := 0) (by simp; exact ⟨rfl, rfl⟩) (by simp) ?_
  refine Sim.step hmix hΓ (n := 0) (by simp [rbytesS, lsizeS, hs1, hN, b1, en]; first | exact ⟨rfl, rfl⟩ | exact ⟨by kernel_rfl, rfl, rfl⟩) (by simp) ?_
  by_cases q4 : q = 4
  · rw [if_pos (.inl q4)]
    refine Sim.exec hmix hΓ (n := 0) (by simp [eq, q4, fcutS, rcutS, hs1]; exact ⟨rfl, rfl, rfl⟩) (by simp) ?_
    exact ⟨.inr rfl, _, by simp [Try.f9] <;> rfl, Weak.mk' [0, 1] (by decide) rfl (by simp) (by simp [AWb])⟩
  by_cases q5 : q = 5
  · rw [if_pos (.inr q5)]
    refine Sim.exec hmix hΓ (n := 0) (by simp [eq, q5, fcutS, rcutS, hs1]; exact ⟨rfl, rfl, rfl⟩) (by simp) ?_
    exact ⟨.inr rfl, _, by simp [Try.f9] <;> rfl, Weak.mk' [0, 1] (by decide) rfl (by simp) (by simp [AWb])⟩
  rw [if_neg (by omega)]
  by_cases q6 : q = 6
  · rw [if_pos q6]
    refine Sim.exec hmix hΓ (n := 0) (by simp [eq, q6, fsyncS, rsyncS, hs1]; exact ⟨rfl, rfl, rfl⟩) (by simp) ?_
    exact ⟨.inr rfl, _, by simp [Try.f9] <;> rfl, Weak.mk' [0, 1] (by decide) rfl (by simp) (by simp [AWb])⟩
  rw [if_neg q6]
  have wM : IntKind.i64.wrap M = M := wr_i64 (by omega) (by omega)
  by_cases q7 : q = 7
  · rw [if_pos q7]
    refine Sim.exec hmix hΓ (n := 0) (by simp [eq, q7, freadS, rreadS, hs1, wM]; exact ⟨rfl, rfl, rfl⟩) (by simp) ?_
    exact ⟨.inr rfl, _, by simp [Try.f9] <;> rfl, Weak.mk' [0, 1] (by decide) rfl (by simp) (by simp [AWb])⟩
  rw [if_neg q7]
  by_cases q9 : q = 9
  · rw [if_pos q9]
    have wN : IntKind.i64.wrap N = N := wr_i64 (by omega) (by omega)
    have b3 : (f.acts.length : Int) ≤ 1000000000000 := by omega
    have b4 : N ≤ 4611686018427387903 := by omega
    refine Sim.aft (Aft.open (b := 0) rfl (by simp) (Aft.done (by simp [openH]) ?_))
    rw [open_ref]
    refine Sim.after (Sim.exec hmix hΓ (n := 0) (by simp (decide := true) [eq, q9, fstayS, rstayS2, lsizeS, hs1, wN, hM, b3, b4]; first | exact ⟨rfl, rfl, rfl⟩ | exact ⟨by kernel_rfl, rfl, rfl, rfl⟩) (by simp) ?_)
    refine Aft.closeR (⟨f.stays (sizeF M f.acts.length) N, []⟩ : PF) 0 4 (x := .nils) rfl (by simp [AW]) (by simp) (by decide) (by simp) (Aft.done (by simp) ⟨by first | exact .inl rfl | exact .inr rfl, _, by simp [Try.f9] <;> rfl, Weak.mk' [0, 1] (by decide) rfl (by simp) (AWg_closed (b := 0) (by simp) _ _ rfl fun i c x h1 h2 => ?_)⟩)
    match i, h1, h2 with
    | 0, h1, h2 => cases h1; cases h2; exact .inl ⟨rfl, rfl⟩
    | 1, h1, h2 => cases h1; cases h2; exact .inr ⟨⟨by decide, by decide⟩, by simp [AWb]⟩
  rw [if_neg q9]
  refine Sim.seq (Sim.exec hmix hΓ (n := 0) (by simp [eq, q4, q5, q6, q7, q9]; exact ⟨rfl, rfl, rfl⟩) (by simp) ?_)
  dsimp only
  obtain ⟨s, es⟩ : ∃ s, S.take 20 = s := ⟨_, rfl⟩
  obtain ⟨z, ez⟩ : ∃ z : Nat, min (S.length : Int) 20 = z := ⟨min S.length 20, by omega⟩
  have ez2 : S.take z = s := by
    rw [← es]
    by_cases h : S.length ≤ 20
    · rw [List.take_of_length_le (by omega), List.take_of_length_le h]
    · rw [show z = 20 by omega]
  have z1 : z ≤ S.length := by omega
  have hsl : s.length ≤ 20 := by rw [← es]; simp; omega
  rw [es]
  refine Sim.step hmix hΓ (n := 0) (by simp [-minA, minA_min, ez, ez2, z1]; exact ⟨rfl, rfl⟩) (by simp) ?_
  obtain ⟨h, eh, h1⟩ : ∃ h : Nat, Int.tdiv (s.length : Int) 2 = h ∧ h ≤ s.length := ⟨s.length / 2, by rw [Int.tdiv_eq_ediv_of_nonneg (by omega)]; omega, by omega⟩
  have wh : IntKind.i64.wrap (h : Int) = h := wr_i64 (by omega) (by omega)
  have et : (s.drop h).take (s.length - h) = s.drop h := List.take_of_length_le (by simp)
  obtain ⟨sa, hsa⟩ : ∃ a, s.take h = a := ⟨_, rfl⟩
  obtain ⟨sb, hsb⟩ : ∃ a, s.drop h = a := ⟨_, rfl⟩
  have hab : sa ++ sb = s := by rw [← hsa, ← hsb, List.take_append_drop]
  have hal : sa.length + sb.length ≤ 1000000000000 := by have := congrArg List.length hab; simp at this; omega
  rw [hsb] at et
  have hs20 : s.length ≤ 1000000000000 := by omega
  refine Sim.step hmix hΓ (n := 0) (by simp [eh, h1, wh, hsa, hsb, et]; first | exact ⟨rfl, rfl⟩ | exact ⟨by kernel_rfl, rfl, rfl⟩) (by simp) ?_
  refine Sim.step hmix hΓ (n := 0) (by simp [rappS, hs1, strsOf, hab, hs20]; exact ⟨rfl, rfl⟩) (by simp) ?_
  refine Sim.exec hmix hΓ (n := 0) (by simp [fappS, rowStrs, flatsA, hs1, strsOf, hab, hs20]; exact ⟨rfl, rfl, rfl⟩) (by simp) ?_
  exact ⟨.inr rfl, _, by simp [Try.f9] <;> rfl, Weak.mk' [0, 1] (by decide) rfl (by simp) (by simp [AWb])⟩

end Go.Proofs.Ytaociohomeepmaa
