/- 'cedillalaw23.ManifestKnown': a walk, most of it run by the kernel. -/
import Derived.Test.YtbbgmaklmlagcaaNd
import Derived.Test.YtbbgmaklmlagcaaMk
import Derived.Test.YtbbgmaklmlagcaaBz
namespace Go.Proofs.Ytbbgmaklmlagcaa
open Go
set_option maxRecDepth 100000
attribute [-simp] drawOk_eq adraw qrun acode aops

def mkInl : List FuncId := [46, 15, 22]
def mkΓ : Gam := gams [(18, mrightS), (27, mputS), (28, mgetS), (45, sealS), (26, msameS), (21, msameS), (17, compactedS), (16, flushedS), (14, trueS)]
theorem mkΓ_ok : GOk Try.prog mkΓ := goks_cons mright_sound (goks_cons mput_sound (goks_cons mget_sound (goks_cons seal_sound (goks_cons msame_sound (goks_cons rsame_sound (goks_cons compacted_sound (goks_cons flushed_sound (goks_cons (true_sound Try.func14 rfl (by decide) mworks_ct) goks_nil))))))))
theorem mkK_ok : GOk Try.prog (runGK Try.prog mkΓ 60 mkInl 4) := gok_runK hmix mkΓ_ok 60 mkInl 4

def mkL (n : Nat) : List Sg := (List.range n).map fun i => (((i + 1 : Nat) : Int), 1, 1)
theorem mkL_succ (n : Nat) : mkL (n + 1) = mkL n ++ [(((n + 1 : Nat) : Int), 1, 1)] := by simp [mkL, List.range_succ]
theorem mkL_length (n : Nat) : (mkL n).length = n := by simp [mkL]
theorem mkL_right : (⟨0, 1, 2000, mkL 1000⟩ : Mf).right = true := by
  unfold Mf.right Mf.counts
  simp only [Bool.and_eq_true, decide_eq_true_eq]
  refine ⟨by omega, by rw [mkL_length]; omega, ?_, ?_⟩
  · rw [List.all_eq_true]
    intro x hx
    simp only [mkL, List.mem_map, List.mem_range] at hx
    obtain ⟨i, hi, rfl⟩ := hx
    simp only [Sg.ok, decide_eq_true_eq]
    omega
  · unfold numsS mkL
    rw [List.map_map]
    refine List.Pairwise.map _ (fun a b h => ?_) (List.nodup_range (n := 1000))
    simp only [Function.comp_apply]
    omega

set_option maxHeartbeats 8000000 in
theorem mknown_ct : Ct Try.prog 10 [] [] (.bool true) [] := by
  have hΓ := mkΓ_ok
  refine ct_of_sim Try.func10 rfl ?_
  simp only [Try.ntmps10, List.length_nil, Nat.reduceSub, List.replicate, List.nil_append]
  have rM : (⟨900000000, 900000000, 900000000, [(899999999, 100000, 1000000000), (1, 1, 1)]⟩ : Mf).right = true := by kernel_rfl
  have gM := Mf.get_put rM
  have pM := Mf.bytes_le rM
  have uM : (⟨900000000, 900000000, 900000000, [(899999999, 100000, 1000000000), (1, 1, 1)]⟩ : Mf).put = (Mf.bytes ⟨900000000, 900000000, 900000000, [(899999999, 100000, 1000000000), (1, 1, 1)]⟩, 0) := by unfold Mf.put; rw [if_pos rM]
  obtain ⟨p, hp⟩ : ∃ p, Mf.bytes ⟨900000000, 900000000, 900000000, [(899999999, 100000, 1000000000), (1, 1, 1)]⟩ = p := ⟨_, rfl⟩
  rw [hp] at gM pM uM
  have lp : p.length ≤ 1000000000000 := by omega
  refine Sim.step hmix hΓ (n := 0) (by simp; exact ⟨rfl, rfl⟩) (by simp) ?_
  refine Sim.step hmix hΓ (n := 0) (by simp; exact ⟨rfl, rfl⟩) (by simp) ?_
  refine Sim.step hmix hΓ (n := 0) (by simp; exact ⟨rfl, rfl⟩) (by simp) ?_
  refine Sim.step hmix hΓ (n := 0) (by simp [mkΓ, mputS, rowSgs, sgsOf, uM]; exact ⟨rfl, rfl⟩) (by simp) ?_
  refine Sim.step hmix hΓ (n := 0) (by simp [mkΓ, mgetS, gM, lp, mfA, sgsA, sgA]; exact ⟨rfl, rfl⟩) (by simp) ?_
  refine Sim.step hmix hΓ (n := 0) (by simp; exact ⟨rfl, rfl⟩) (by simp) ?_
  refine Sim.seq (Sim.step hmix hΓ (n := 0) (by simp; exact ⟨rfl, rfl⟩) (by simp) ?_)
  let Fn : List AV := [.bool false, .ptr 0 0, .ptr 2 0, .top, .int .i64 0, .ptr 4 0, .int .i64 0]
  let Hn : AHeap := [.cells true (sgsA [(1, 1, 1)]), .cells true (sgsA [(899999999, 100000, 1000000000), (1, 1, 1)]), .cells true [.int .i64 900000000, .int .i64 900000000, .int .i64 900000000, .sl 1 0 2 3 false], .cells true (sgsA [(899999999, 100000, 1000000000), (1, 1, 1)]), .cells true [.int .i64 900000000, .int .i64 900000000, .int .i64 900000000, .sl 3 0 2 3 false]]
  refine Sim.kexec (Γ := runGK Try.prog mkΓ 60 mkInl 4) (n := 60) (x := .normal) (Fn := Fn ++ List.replicate 217 .top) (Hn := Hn) hmix mkK_ok [0, 1, 2, 3, 4] (by kernel_rfl) (by simp) fun F' H' hl hw => ?_
  refine Sim.weak hw hl ?_
  have len : ∀ n, (mkL n).length = n := mkL_length
  refine Sim.step hmix hΓ (n := 0) (by simp [Fn, Hn, sgsA, sgA]; exact ⟨rfl, rfl⟩) (by simp) ?_
  refine Sim.seq (Sim.step hmix hΓ (n := 0) (by simp; exact ⟨rfl, rfl⟩) (by simp) ?_)
  let Hm : Nat → AHeap := fun i => Hn ++ [.cells true [.int .i64 0, .int .i64 1, .int .i64 2000, .sl 6 0 i 3 false], .cells true (sgsA (mkL i))]
  refine Sim.block (Sim.loopW (fun i : Nat => i ≤ 1000)
    (fun i => Fn ++ [.top, .top, .top, .top, .ptr 5 0, .int .i64 ((i : Nat) + 1)] ++ List.replicate 211 .top) Hm (fun i => 1000 - i) 0 (by simp) (by simp) ?_ ?_)
  · exact Weak.mk' [0, 1, 2, 3, 4, 5, 100] (by decide) (by decide) (by simp [Fn]) (by simp [Hm, Hn, sgsA, sgA])
  · intro i hi
    by_cases h1 : i < 1000
    · have c1 : (i : Int) + 1 ≤ 1000 := by omega
      have y6 : IntKind.i64.wrap ((i : Int) + 1 + 1) = i + 1 + 1 := wr_i64 (by omega) (by omega)
      have b1 : (i + 1) * 24 ≤ 140737488355328 := by omega
      have b2 : i + 1 ≤ 9223372036854775807 := by omega
      have e := mkL_succ i
      obtain ⟨L, eL⟩ : ∃ L, mkL i = L := ⟨_, rfl⟩
      have hL : L.length = i := by rw [← eL, len]
      have tkL : (sgsA L).take (i * 3) = sgsA L := List.take_of_length_le (by simp; omega)
      rw [eL] at e
      refine Sim.step hmix hΓ (n := 0) (by simp [Fn, Hm, Hn, c1, eL]; exact ⟨rfl, rfl⟩) (by simp [Hm]) ?_
      refine Sim.seq (Sim.block (Sim.exec hmix hΓ (n := 0) (by simp [hL, tkL, b1, b2]; exact ⟨rfl, rfl, rfl⟩) (by simp) ?_))
      dsimp only
      refine Sim.exec hmix hΓ (n := 0) (by simp [y6]; exact ⟨rfl, rfl, rfl⟩) (by simp) ?_
      exact ⟨i + 1, by omega, Weak.mk' [0, 1, 2, 3, 4, 5, 8] (by decide) (by decide) (by simp [Fn]) (by simp [Hm, Hn, e, sgsA, sgA]), by omega⟩
    have : i = 1000 := by omega
    subst this
    have c1 : ¬ ((1000 : Nat) : Int) + 1 ≤ 1000 := by omega
    have tk := List.take_of_length_le (l := sgsA (mkL 1000)) (i := 3000) (by simp [len])
    refine Sim.exec hmix hΓ (n := 0) (by simp [Fn, Hm, Hn]; exact ⟨rfl, rfl, rfl⟩) (by simp [Hm]) ?_
    dsimp only
    rw [if_pos rfl]
    have e := mkL_succ 1000
    have r := mkL_right
    have hL := len 1000
    obtain ⟨L, eL⟩ : ∃ L, mkL 1000 = L := ⟨_, rfl⟩
    rw [eL] at e tk r hL ⊢
    refine Sim.step hmix hΓ (n := 0) (by simp [mkΓ, mrightS, rowSgs, tk, r, hL]; exact ⟨rfl, rfl⟩) (by simp) ?_
    refine Sim.step hmix hΓ (n := 0) (by simp [tk, hL]; exact ⟨rfl, rfl⟩) (by simp) ?_
    refine Sim.weak (Fn := Fn ++ [.top, .top, .top, .top, .ptr 5 0, .top, .bool true] ++ List.replicate 210 .top) (Hn := Hm 1001) (Weak.mk' [0, 1, 2, 3, 4, 5, 8] (by decide) (by decide) (by simp [Fn]) (by simp [Hm, Hn, e, sgsA, sgA])) (by simp) ?_
    exact Sim.kret (Γ := runGK Try.prog mkΓ 60 mkInl 4) (n := 60) hmix mkK_ok (by kernel_rfl)

def manifestKnown_shape : List (Bool × List CT) := []

theorem manifestKnown_law : ∀ xs H, AbsArgs manifestKnown_shape 0 xs H → ∃ H', Ct Try.prog 10 xs H (.bool true) H' := by
  intro xs H h0
  obtain ⟨rfl, rfl⟩ := absArgs_nil h0
  exact ⟨[], mknown_ct⟩

end Go.Proofs.Ytbbgmaklmlagcaa
