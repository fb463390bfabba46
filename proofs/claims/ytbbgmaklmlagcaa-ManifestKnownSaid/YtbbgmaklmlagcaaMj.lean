/- Walk: cedillalaw23.ManifestTurns. -/
import Derived.Test.YtbbgmaklmlagcaaGm
import Derived.Test.YtbbgmaklmlagcaaMw
namespace Go.Proofs.Ytbbgmaklmlagcaa
open Go
set_option maxRecDepth 100000
attribute [-simp] drawOk_eq adraw qrun acode aops

def trueS : Summ := pureS fun | [] => some (.bool true) | _ => none
theorem true_sound {f : FuncId} {fn : Func} (hf : Try.prog.funcs[f]? = some fn) (hb : fn.body.isSome = true) (hn : (fn.name == "runtime.NumGoroutine") = false) (h : Ct Try.prog f [] [] (.bool true) []) : Sound Try.prog f trueS := by
  refine sound_pure (enter_of hf hb hn) fun args v h' => ?_
  split at h' <;> cases h'
  exact ⟨h, by simp, by simp⟩

def tuInl : List FuncId := [19, 22]
theorem tuΓ_ok : GOk Try.prog (runG Try.prog (gams [(24, modS), (20, madeS), (16, flushedS), (17, compactedS), (23, flushedS), (25, compactedS), (21, msameS), (26, msameS), (14, trueS)]) 0 tuInl 2) :=
  gok_run hmix (goks_cons mod_sound (goks_cons made_sound (goks_cons flushed_sound (goks_cons compacted_sound (goks_cons rflushed_sound (goks_cons rcompacted_sound (goks_cons rsame_sound (goks_cons msame_sound (goks_cons (true_sound Try.func14 rfl (by decide) mworks_ct) goks_nil))))))))) 0 tuInl 2

@[simp] theorem free_sl (b o l z : Nat) (c : Bool) : free (.sl b o l z c) = false := rfl
@[simp] theorem free_slice (b o l z : Nat) (c : Bool) : free (.slice b o l z c) = false := rfl
@[simp] theorem free_ptr (b o : Nat) : free (.ptr b o) = false := rfl
@[simp] theorem free_map (b : Nat) : free (.map b) = false := rfl

theorem min_cut (l : Nat) (k : Int) (h : 0 ≤ k) : ∃ c : Nat, min (l : Int) k = c ∧ c ≤ l ∧ c ≤ k ∧ c = min l k.toNat := ⟨min l k.toNat, by omega, by omega, by omega, rfl⟩

def fstC : Code → Code
  | .seq x _ => x
  | c => c
def inC : Code → Code
  | .block _ x => x
  | .loop x => x
  | .scope x => x
  | c => c

set_option maxHeartbeats 16000000 in
theorem turns_round0 (v f n Av Af An fl ta tc tb x y i mv mf mn : Int) (l tl q S T : List Sg) (c d k : Nat) (hk : k ≤ l.length) (hk20 : k ≤ 20) (eS : (sgsA l).take (k * 3) = sgsA S) (lS : S.length = k) (hd : d ≤ tl.length) (hd5 : d ≤ 5) (eT : (sgsA tl).take (d * 3) = sgsA T) (lT : T.length = d)
    (hfit : Mf.fit ⟨mv, mf, mn, S⟩ T) :
    Sim Try.prog none 2 (restC 1 (inC (fstC (restC 2 (inC (inC (restC 1 (fstC (restC 4 (bodyOf Try.f4)))))))))) ([.top, .int .i64 fl, .top, .ptr 2 0, .top, .ptr 3 0, .bool false, .sl 1 0 d 3 false, .top, .ptr 5 0] ++ List.replicate 27 .top ++ [.agg [.int .i64 v, .int .i64 f, .int .i64 n, .sl 0 0 c 3 false, .int .i64 Av, .int .i64 Af, .int .i64 An, .sl 4 0 q.length 3 false], .int .i64 i] ++ List.replicate 110 .top) [.cells false (sgsA l), .cells false (sgsA tl), .cells true [.int .i64 v, .int .i64 f, .int .i64 n, .sl 0 0 l.length 3 false], .cells true [.int .u16 ta, .int .u16 tc, .int .u8 tb, .int .i64 x, .int .i64 y, .sl 1 0 tl.length 3 false], .cells true (sgsA q), .cells true [.int .i64 mv, .int .i64 mf, .int .i64 mn, .sl 0 0 k 3 false]] (fun e F' H' => e = .normal ∧ Weak 2 F' H' ([.top, .int .i64 fl, .top, .ptr 2 0, .top, .ptr 3 0, .bool false, .sl 1 0 d 3 false] ++ List.replicate 29 .top ++ [.agg [.int .i64 v, .int .i64 f, .int .i64 n, .sl 0 0 c 3 false, .int .i64 Av, .int .i64 Af, .int .i64 An, .sl 4 0 q.length 3 false], .int .i64 i] ++ List.replicate 110 .top) [.cells false (sgsA l), .cells false (sgsA tl), .cells true [.int .i64 v, .int .i64 f, .int .i64 n, .sl 0 0 l.length 3 false], .cells true [.int .u16 ta, .int .u16 tc, .int .u8 tb, .int .i64 x, .int .i64 y, .sl 1 0 tl.length 3 false], .cells true (sgsA q)]) := by
  have hΓ := tuΓ_ok
  simp only [bodyOf, Try.f4, Option.getD_some, restC, inC, fstC]
  have k3 : k * 3 ≤ l.length * 3 := by omega
  have d3 : d * 3 ≤ tl.length * 3 := by omega
  have kb : k * 24 ≤ 140737488355328 := by omega
  have km : k ≤ 9223372036854775807 := by omega
  have db : d * 24 ≤ 140737488355328 := by omega
  have dm : d ≤ 9223372036854775807 := by omega
  have tkS : (sgsA S).take (k * 3) = sgsA S := by rw [← lS, take_sgsA]
  have tkT : (sgsA T).take (d * 3) = sgsA T := by rw [← lT, take_sgsA]
  refine Sim.seq (Sim.mono (Q := fun e F' H' => e = .normal ∧ Weak 2 F' H' ([.top, .int .i64 fl, .top, .ptr 2 0, .top, .ptr 3 0, .bool false, .sl 1 0 d 3 false, .top, .ptr 5 0, .sl 6 0 k 3 false] ++ List.replicate 26 .top ++ [.agg [.int .i64 v, .int .i64 f, .int .i64 n, .sl 0 0 c 3 false, .int .i64 Av, .int .i64 Af, .int .i64 An, .sl 4 0 q.length 3 false], .int .i64 i] ++ List.replicate 110 .top) [.cells false (sgsA l), .cells false (sgsA tl), .cells true [.int .i64 v, .int .i64 f, .int .i64 n, .sl 0 0 l.length 3 false], .cells true [.int .u16 ta, .int .u16 tc, .int .u8 tb, .int .i64 x, .int .i64 y, .sl 1 0 tl.length 3 false], .cells true (sgsA q), .cells true [.int .i64 mv, .int .i64 mf, .int .i64 mn, .sl 0 0 k 3 false], .cells true (sgsA S)]) ?_ ?_)
  · by_cases h0 : k = 0
    · subst h0
      have : S = [] := by simpa using lS
      subst this
      refine Sim.exec hmix hΓ (n := 0) (by simp (decide := true); exact ⟨rfl, rfl, rfl⟩) (by simp) ?_
      exact ⟨rfl, Weak.mk' [0, 1, 2, 3, 4, 5, 6] (by decide) (by decide) (by simp) (by simp [sgsA])⟩
    · refine Sim.exec hmix hΓ (n := 0) (by simp (decide := true) [h0, k3, eS, kb, km]; exact ⟨rfl, rfl, rfl⟩) (by simp) ?_
      exact ⟨rfl, Weak.mk' [0, 1, 2, 3, 4, 5, 7] (by decide) (by decide) (by simp) (by simp)⟩
  rintro _ F6 H6 hl6 ⟨rfl, hw6⟩
  refine Sim.weak hw6 hl6 ?_
  clear hw6 hl6 F6 H6
  refine Sim.seq (Sim.mono (Q := fun e F' H' => e = .normal ∧ Weak 2 F' H' ([.top, .int .i64 fl, .top, .ptr 2 0, .top, .ptr 3 0, .bool false, .sl 1 0 d 3 false, .top, .ptr 5 0, .sl 6 0 k 3 false, .sl 7 0 d 3 false] ++ List.replicate 25 .top ++ [.agg [.int .i64 v, .int .i64 f, .int .i64 n, .sl 0 0 c 3 false, .int .i64 Av, .int .i64 Af, .int .i64 An, .sl 4 0 q.length 3 false], .int .i64 i] ++ List.replicate 110 .top) [.cells false (sgsA l), .cells false (sgsA tl), .cells true [.int .i64 v, .int .i64 f, .int .i64 n, .sl 0 0 l.length 3 false], .cells true [.int .u16 ta, .int .u16 tc, .int .u8 tb, .int .i64 x, .int .i64 y, .sl 1 0 tl.length 3 false], .cells true (sgsA q), .cells true [.int .i64 mv, .int .i64 mf, .int .i64 mn, .sl 0 0 k 3 false], .cells true (sgsA S), .cells true (sgsA T)]) ?_ ?_)
  · by_cases h0 : d = 0
    · subst h0
      have : T = [] := by simpa using lT
      subst this
      refine Sim.exec hmix hΓ (n := 0) (by simp (decide := true); exact ⟨rfl, rfl, rfl⟩) (by simp) ?_
      exact ⟨rfl, Weak.mk' [0, 1, 2, 3, 4, 5, 6, 7] (by decide) (by decide) (by simp) (by simp [sgsA])⟩
    · refine Sim.exec hmix hΓ (n := 0) (by simp (decide := true) [h0, d3, eT, db, dm]; exact ⟨rfl, rfl, rfl⟩) (by simp) ?_
      exact ⟨rfl, Weak.mk' [0, 1, 2, 3, 4, 5, 6, 8] (by decide) (by decide) (by simp) (by simp)⟩
  rintro _ F7 H7 hl7 ⟨rfl, hw7⟩
  refine Sim.weak hw7 hl7 ?_
  clear hw7 hl7 F7 H7
  obtain ⟨⟨rv, rf, rn, rl⟩, hR⟩ : ∃ R, Mf.flushed ⟨mv, mf, mn, S⟩ fl T = R := ⟨_, rfl⟩
  have hrl : rl.length ≤ 1000000000000 := by
    have := congrArg (fun m => m.segs.length) hR
    simp [Mf.flushed, Mf.compacted] at this
    omega
  refine Sim.seq (Sim.seq (Sim.draw hmix (by simp) ?_))
  refine SimR.many hΓ 12 (by simp [stageOps]; rfl) (by omega) (by kernel_rfl) (by simp (decide := true) [tuInl, Try.f22, flushedS, msameS, mfA, rowSgs, k3, eS, d3, eT, hfit, hR, hrl]; first | exact ⟨rfl, rfl⟩ | exact ⟨by kernel_rfl, rfl, rfl⟩) ?_
  refine SimR.done rfl ?_
  dsimp only
  refine Sim.exec hmix hΓ (n := 0) (by simp; exact ⟨rfl, rfl, rfl⟩) (by simp) ?_
  refine Sim.weak (Fn := [.top, .int .i64 fl, .top, .ptr 2 0, .top, .ptr 3 0, .bool false, .sl 1 0 d 3 false, .top, .ptr 5 0, .sl 6 0 k 3 false, .sl 7 0 d 3 false] ++ List.replicate 25 .top ++ [.agg [.int .i64 v, .int .i64 f, .int .i64 n, .sl 0 0 c 3 false, .int .i64 Av, .int .i64 Af, .int .i64 An, .sl 4 0 q.length 3 false], .int .i64 i] ++ List.replicate 110 .top) (Hn := [.cells false (sgsA l), .cells false (sgsA tl), .cells true [.int .i64 v, .int .i64 f, .int .i64 n, .sl 0 0 l.length 3 false], .cells true [.int .u16 ta, .int .u16 tc, .int .u8 tb, .int .i64 x, .int .i64 y, .sl 1 0 tl.length 3 false], .cells true (sgsA q), .cells true [.int .i64 mv, .int .i64 mf, .int .i64 mn, .sl 0 0 k 3 false], .cells true (sgsA S), .cells true (sgsA T)]) (Weak.mk' [0, 1, 2, 3, 4, 5, 6, 7] (by decide) (by decide) (by simp) (by simp)) (by simp) ?_
  have m1 := modI_rng x 22 (by omega)
  have m2 := modI_rng y 22 (by omega)
  have w3 : IntKind.i64.wrap (modI x 22 + 3) = modI x 22 + 3 := wr_i64 (by omega) (by omega)
  refine Sim.seq (Sim.seq (Sim.draw hmix (by simp) ?_))
  refine SimR.many hΓ 22 (by simp [stageOps]; rfl) (by omega) (by kernel_rfl) (by simp (decide := true) [modS, w3]; first | exact ⟨rfl, rfl⟩ | exact ⟨by kernel_rfl, rfl, rfl⟩) ?_
  refine SimR.done rfl ?_
  dsimp only
  refine Sim.block (Sim.loopW (fun j : Nat => j ≤ 3)
    (fun j => [.top, .int .i64 fl, .top, .ptr 2 0, .top, .ptr 3 0, .bool false, .sl 1 0 d 3 false, .top, .ptr 5 0, .sl 6 0 k 3 false, .sl 7 0 d 3 false] ++ List.replicate 25 .top ++ [.agg [.int .i64 v, .int .i64 f, .int .i64 n, .sl 0 0 c 3 false, .int .i64 Av, .int .i64 Af, .int .i64 An, .sl 4 0 q.length 3 false], .int .i64 i] ++ List.replicate 41 .top ++ [.agg [.int .i64 x, .int .i64 y, .int .i64 (modI x 22), .int .i64 (modI y 22), .int .i64 (modI x 22), .int .i64 (modI x 22 + 3)], .int .i64 j] ++ List.replicate 67 .top) (fun _ => [.cells false (sgsA l), .cells false (sgsA tl), .cells true [.int .i64 v, .int .i64 f, .int .i64 n, .sl 0 0 l.length 3 false], .cells true [.int .u16 ta, .int .u16 tc, .int .u8 tb, .int .i64 x, .int .i64 y, .sl 1 0 tl.length 3 false], .cells true (sgsA q), .cells true [.int .i64 mv, .int .i64 mf, .int .i64 mn, .sl 0 0 k 3 false], .cells true (sgsA S), .cells true (sgsA T)]) (fun j => 3 - j) 0 (by simp) (by omega) (Weak.mk' [0, 1, 2, 3, 4, 5, 6, 7] (by decide) (by decide) (by simp) (by simp)) fun j hj => ?_)
  by_cases hj3 : j < 3
  · obtain ⟨p0, p1, hp⟩ : ∃ p0 p1 : Int, (List.drop (j * 2) [AV.int .i64 x, .int .i64 y, .int .i64 (modI x 22), .int .i64 (modI y 22), .int .i64 (modI x 22), .int .i64 (modI x 22 + 3)]).take 2 = [.int .i64 p0, .int .i64 p1] := by
      match j, hj3 with
      | 0, _ => exact ⟨x, y, rfl⟩
      | 1, _ => exact ⟨modI x 22, modI y 22, rfl⟩
      | 2, _ => exact ⟨modI x 22, modI x 22 + 3, rfl⟩
    have hj4 : (j : Int) < 3 := by omega
    have hj6 : j * 2 + 2 ≤ 6 := by omega
    have wj : IntKind.i64.wrap ((j : Int) + 1) = j + 1 := wr_i64 (by omega) (by omega)
    obtain ⟨⟨cv, cf, cn, cl⟩, hC⟩ : ∃ R, Mf.compacted ⟨mv, mf, mn, S⟩ p0 p1 T = R := ⟨_, rfl⟩
    have hcl : cl.length ≤ 1000000000000 := by
      have := congrArg (fun m => m.segs.length) hC
      obtain ⟨f1, f2, _⟩ := hfit
      have g1 := (Mf.lo_le ⟨mv, mf, mn, S⟩ p0).2
      simp only at f1 g1
      simp [Mf.compacted] at this
      omega
    have hcv : ¬ cv = mv := by
      have := congrArg (fun m => m.v) hC
      simp [Mf.compacted] at this
      omega
    refine Sim.step hmix hΓ (n := 0) (by simp [hj4]; exact ⟨rfl, rfl⟩) (by simp) ?_
    refine Sim.step hmix hΓ (n := 0) (by simp; exact ⟨rfl, rfl⟩) (by simp) ?_
    refine Sim.seq (Sim.block ?_)
    refine Sim.step hmix hΓ (n := 0) (by simp (decide := true) [hp, hj4, hj6]; exact ⟨rfl, rfl⟩) (by simp) ?_
    refine Sim.seq (Sim.draw hmix (by simp) ?_)
    refine SimR.many hΓ 19 (by simp [stageOps]; rfl) (by omega) (by kernel_rfl) (by simp (decide := true) [tuInl, Try.f22, compactedS, mfA, rowSgs, k3, eS, d3, eT, hfit, hC, scA]; first | exact ⟨rfl, rfl⟩ | exact ⟨by kernel_rfl, rfl, rfl⟩) ?_
    refine SimR.done rfl ?_
    dsimp only
    refine Sim.seq (Sim.draw hmix (by simp) ?_)
    refine SimR.many hΓ 16 (by simp [stageOps]; rfl) (by omega) (by kernel_rfl) (by simp (decide := true) [tuInl, Try.f22, msameS, rowSgs, k3, eS, hcl, hcv]; first | exact ⟨rfl, rfl⟩ | exact ⟨by kernel_rfl, rfl, rfl⟩) ?_
    refine SimR.done rfl ?_
    dsimp only
    refine Sim.exec hmix hΓ (n := 0) (by simp; exact ⟨rfl, rfl, rfl⟩) (by simp) ?_
    dsimp only
    refine Sim.exec hmix hΓ (n := 0) (by simp [wj]; exact ⟨rfl, rfl, rfl⟩) (by simp) ?_
    exact ⟨j + 1, by omega, Weak.mk' [0, 1, 2, 3, 4, 5, 6, 7] (by decide) (by decide) (by simp) (by simp), by omega⟩
  have : j = 3 := by omega
  subst this
  refine Sim.exec hmix hΓ (n := 0) (by simp; exact ⟨rfl, rfl, rfl⟩) (by simp) ?_
  dsimp only
  rw [if_pos rfl]
  refine Sim.weak (Fn := [.top, .int .i64 fl, .top, .ptr 2 0, .top, .ptr 3 0, .bool false, .sl 1 0 d 3 false, .top, .ptr 5 0, .sl 6 0 k 3 false, .sl 7 0 d 3 false] ++ List.replicate 25 .top ++ [.agg [.int .i64 v, .int .i64 f, .int .i64 n, .sl 0 0 c 3 false, .int .i64 Av, .int .i64 Af, .int .i64 An, .sl 4 0 q.length 3 false], .int .i64 i] ++ List.replicate 110 .top) (Hn := [.cells false (sgsA l), .cells false (sgsA tl), .cells true [.int .i64 v, .int .i64 f, .int .i64 n, .sl 0 0 l.length 3 false], .cells true [.int .u16 ta, .int .u16 tc, .int .u8 tb, .int .i64 x, .int .i64 y, .sl 1 0 tl.length 3 false], .cells true (sgsA q), .cells true [.int .i64 mv, .int .i64 mf, .int .i64 mn, .sl 0 0 k 3 false], .cells true (sgsA S), .cells true (sgsA T)]) (Weak.mk' [0, 1, 2, 3, 4, 5, 6, 7] (by decide) (by decide) (by simp) (by simp)) (by simp) ?_
  refine Sim.seq (Sim.step hmix hΓ (n := 0) (by simp; exact ⟨rfl, rfl⟩) (by simp) ?_)
  refine Sim.block (Sim.loopW (fun a : Nat => a ≤ k)
    (fun a => [.top, .int .i64 fl, .top, .ptr 2 0, .top, .ptr 3 0, .bool false, .sl 1 0 d 3 false, .top, .ptr 5 0, .sl 6 0 k 3 false, .sl 7 0 d 3 false, .top, .top, .top, .top, .int .i64 a] ++ List.replicate 20 .top ++ [.agg [.int .i64 v, .int .i64 f, .int .i64 n, .sl 0 0 c 3 false, .int .i64 Av, .int .i64 Af, .int .i64 An, .sl 4 0 q.length 3 false], .int .i64 i] ++ List.replicate 110 .top) (fun _ => [.cells false (sgsA l), .cells false (sgsA tl), .cells true [.int .i64 v, .int .i64 f, .int .i64 n, .sl 0 0 l.length 3 false], .cells true [.int .u16 ta, .int .u16 tc, .int .u8 tb, .int .i64 x, .int .i64 y, .sl 1 0 tl.length 3 false], .cells true (sgsA q), .cells true [.int .i64 mv, .int .i64 mf, .int .i64 mn, .sl 0 0 k 3 false], .cells true (sgsA S), .cells true (sgsA T)]) (fun a => k - a) 0 (by simp) (by omega) (Weak.mk' [0, 1, 2, 3, 4, 5, 6, 7] (by decide) (by decide) (by simp) (by simp)) fun a ha => ?_)
  by_cases hak : a < k
  · obtain ⟨s, hs⟩ : ∃ s, S[a]? = some s := ⟨_, List.getElem?_eq_getElem (by omega)⟩
    have g1 := sgs_get S a (by omega)
    rw [(List.getElem?_eq_some_iff.1 hs).2] at g1
    have g2 : ((sgsA l).drop (a * 3)).take 3 = sgA s := by
      rw [← g1, ← eS, List.drop_take, List.take_take]
      congr 1; omega
    have a3 : a * 3 + 3 ≤ l.length * 3 := by omega
    have a4 : a * 3 + 3 ≤ k * 3 := by omega
    have wa : IntKind.i64.wrap ((a : Int) + 1) = a + 1 := wr_i64 (by omega) (by omega)
    obtain ⟨s1, s2, s3⟩ := s
    simp [sgA] at g1 g2
    refine Sim.step hmix hΓ (n := 0) (by simp [hak]; exact ⟨rfl, rfl⟩) (by simp) ?_
    refine Sim.seq (Sim.block (Sim.seq (Sim.draw hmix (by simp) ?_)))
    refine SimR.many hΓ 10 (by simp [stageOps]; rfl) (by omega) (by kernel_rfl) (by simp (decide := true) [hak, g1, g2, a3, a4, lS]; first | exact ⟨rfl, rfl⟩ | exact ⟨by kernel_rfl, rfl, rfl⟩) ?_
    refine SimR.done rfl ?_
    dsimp only
    refine Sim.exec hmix hΓ (n := 0) (by simp; exact ⟨rfl, rfl, rfl⟩) (by simp) ?_
    dsimp only
    refine Sim.exec hmix hΓ (n := 0) (by simp [wa]; exact ⟨rfl, rfl, rfl⟩) (by simp) ?_
    exact ⟨a + 1, by omega, Weak.mk' [0, 1, 2, 3, 4, 5, 6, 7] (by decide) (by decide) (by simp) (by simp), by omega⟩
  have hka : a = k := by omega
  subst hka
  refine Sim.exec hmix hΓ (n := 0) (by simp; exact ⟨rfl, rfl, rfl⟩) (by simp) ?_
  dsimp only
  rw [if_pos rfl]
  refine Sim.weak (Fn := [.top, .int .i64 fl, .top, .ptr 2 0, .top, .ptr 3 0, .bool false, .sl 1 0 d 3 false, .top, .ptr 5 0, .sl 6 0 a 3 false, .sl 7 0 d 3 false] ++ List.replicate 25 .top ++ [.agg [.int .i64 v, .int .i64 f, .int .i64 n, .sl 0 0 c 3 false, .int .i64 Av, .int .i64 Af, .int .i64 An, .sl 4 0 q.length 3 false], .int .i64 i] ++ List.replicate 110 .top) (Hn := [.cells false (sgsA l), .cells false (sgsA tl), .cells true [.int .i64 v, .int .i64 f, .int .i64 n, .sl 0 0 l.length 3 false], .cells true [.int .u16 ta, .int .u16 tc, .int .u8 tb, .int .i64 x, .int .i64 y, .sl 1 0 tl.length 3 false], .cells true (sgsA q), .cells true [.int .i64 mv, .int .i64 mf, .int .i64 mn, .sl 0 0 a 3 false], .cells true (sgsA S), .cells true (sgsA T)]) (Weak.mk' [0, 1, 2, 3, 4, 5, 6, 7] (by decide) (by decide) (by simp) (by simp)) (by simp) ?_
  refine Sim.step hmix hΓ (n := 0) (by simp; exact ⟨rfl, rfl⟩) (by simp) ?_
  refine Sim.block (Sim.loopW (fun e : Nat => e ≤ d)
    (fun e => [.top, .int .i64 fl, .top, .ptr 2 0, .top, .ptr 3 0, .bool false, .sl 1 0 d 3 false, .top, .ptr 5 0, .sl 6 0 a 3 false, .sl 7 0 d 3 false, .top, .top, .top, .top, .top, .int .i64 e] ++ List.replicate 19 .top ++ [.agg [.int .i64 v, .int .i64 f, .int .i64 n, .sl 0 0 c 3 false, .int .i64 Av, .int .i64 Af, .int .i64 An, .sl 4 0 q.length 3 false], .int .i64 i] ++ List.replicate 110 .top) (fun _ => [.cells false (sgsA l), .cells false (sgsA tl), .cells true [.int .i64 v, .int .i64 f, .int .i64 n, .sl 0 0 l.length 3 false], .cells true [.int .u16 ta, .int .u16 tc, .int .u8 tb, .int .i64 x, .int .i64 y, .sl 1 0 tl.length 3 false], .cells true (sgsA q), .cells true [.int .i64 mv, .int .i64 mf, .int .i64 mn, .sl 0 0 a 3 false], .cells true (sgsA S), .cells true (sgsA T)]) (fun e => d - e) 0 (by simp) (by omega) (Weak.mk' [0, 1, 2, 3, 4, 5, 6, 7] (by decide) (by decide) (by simp) (by simp)) fun e he => ?_)
  by_cases hed : e < d
  · obtain ⟨s, hs⟩ : ∃ s, T[e]? = some s := ⟨_, List.getElem?_eq_getElem (by omega)⟩
    have g1 := sgs_get T e (by omega)
    rw [(List.getElem?_eq_some_iff.1 hs).2] at g1
    have g2 : ((sgsA tl).drop (e * 3)).take 3 = sgA s := by
      rw [← g1, ← eT, List.drop_take, List.take_take]
      congr 1; omega
    have a3 : e * 3 + 3 ≤ tl.length * 3 := by omega
    have a4 : e * 3 + 3 ≤ d * 3 := by omega
    have wa : IntKind.i64.wrap ((e : Int) + 1) = e + 1 := wr_i64 (by omega) (by omega)
    obtain ⟨s1, s2, s3⟩ := s
    simp [sgA] at g1 g2
    refine Sim.step hmix hΓ (n := 0) (by simp [hed]; exact ⟨rfl, rfl⟩) (by simp) ?_
    refine Sim.seq (Sim.block (Sim.seq (Sim.draw hmix (by simp) ?_)))
    refine SimR.many hΓ 9 (by simp [stageOps]; rfl) (by omega) (by kernel_rfl) (by simp (decide := true) [hed, g1, g2, a3, a4, lT]; first | exact ⟨rfl, rfl⟩ | exact ⟨by kernel_rfl, rfl, rfl⟩) ?_
    refine SimR.done rfl ?_
    dsimp only
    refine Sim.exec hmix hΓ (n := 0) (by simp; exact ⟨rfl, rfl, rfl⟩) (by simp) ?_
    dsimp only
    refine Sim.exec hmix hΓ (n := 0) (by simp [wa]; exact ⟨rfl, rfl, rfl⟩) (by simp) ?_
    exact ⟨e + 1, by omega, Weak.mk' [0, 1, 2, 3, 4, 5, 6, 7] (by decide) (by decide) (by simp) (by simp), by omega⟩
  have hed' : e = d := by omega
  subst hed'
  refine Sim.exec hmix hΓ (n := 0) (by simp; exact ⟨rfl, rfl, rfl⟩) (by simp) ?_
  dsimp only
  rw [if_pos rfl]
  exact ⟨rfl, Weak.mk' [0, 1, 2, 3, 4] (by decide) (by decide) (by simp) (by simp)⟩

set_option maxHeartbeats 16000000 in
theorem turns_round4 (v f n Av Af An fl ta tc tb x y i mv mf mn : Int) (l tl q S T : List Sg) (c d k : Nat) (hk : k ≤ q.length) (hk20 : k ≤ 20) (eS : (sgsA q).take (k * 3) = sgsA S) (lS : S.length = k) (hd : d ≤ tl.length) (hd5 : d ≤ 5) (eT : (sgsA tl).take (d * 3) = sgsA T) (lT : T.length = d)
    (hfit : Mf.fit ⟨mv, mf, mn, S⟩ T) :
    Sim Try.prog none 2 (restC 1 (inC (fstC (restC 2 (inC (inC (restC 1 (fstC (restC 4 (bodyOf Try.f4)))))))))) ([.top, .int .i64 fl, .top, .ptr 2 0, .top, .ptr 3 0, .bool false, .sl 1 0 d 3 false, .top, .ptr 5 0] ++ List.replicate 27 .top ++ [.agg [.int .i64 v, .int .i64 f, .int .i64 n, .sl 0 0 c 3 false, .int .i64 Av, .int .i64 Af, .int .i64 An, .sl 4 0 q.length 3 false], .int .i64 i] ++ List.replicate 110 .top) [.cells false (sgsA l), .cells false (sgsA tl), .cells true [.int .i64 v, .int .i64 f, .int .i64 n, .sl 0 0 l.length 3 false], .cells true [.int .u16 ta, .int .u16 tc, .int .u8 tb, .int .i64 x, .int .i64 y, .sl 1 0 tl.length 3 false], .cells true (sgsA q), .cells true [.int .i64 mv, .int .i64 mf, .int .i64 mn, .sl 4 0 k 3 false]] (fun e F' H' => e = .normal ∧ Weak 2 F' H' ([.top, .int .i64 fl, .top, .ptr 2 0, .top, .ptr 3 0, .bool false, .sl 1 0 d 3 false] ++ List.replicate 29 .top ++ [.agg [.int .i64 v, .int .i64 f, .int .i64 n, .sl 0 0 c 3 false, .int .i64 Av, .int .i64 Af, .int .i64 An, .sl 4 0 q.length 3 false], .int .i64 i] ++ List.replicate 110 .top) [.cells false (sgsA l), .cells false (sgsA tl), .cells true [.int .i64 v, .int .i64 f, .int .i64 n, .sl 0 0 l.length 3 false], .cells true [.int .u16 ta, .int .u16 tc, .int .u8 tb, .int .i64 x, .int .i64 y, .sl 1 0 tl.length 3 false], .cells true (sgsA q)]) := by
  have hΓ := tuΓ_ok
  simp only [bodyOf, Try.f4, Option.getD_some, restC, inC, fstC]
  have k3 : k * 3 ≤ q.length * 3 := by omega
  have d3 : d * 3 ≤ tl.length * 3 := by omega
  have kb : k * 24 ≤ 140737488355328 := by omega
  have km : k ≤ 9223372036854775807 := by omega
  have db : d * 24 ≤ 140737488355328 := by omega
  have dm : d ≤ 9223372036854775807 := by omega
  have tkS : (sgsA S).take (k * 3) = sgsA S := by rw [← lS, take_sgsA]
  have tkT : (sgsA T).take (d * 3) = sgsA T := by rw [← lT, take_sgsA]
  refine Sim.seq (Sim.mono (Q := fun e F' H' => e = .normal ∧ Weak 2 F' H' ([.top, .int .i64 fl, .top, .ptr 2 0, .top, .ptr 3 0, .bool false, .sl 1 0 d 3 false, .top, .ptr 5 0, .sl 6 0 k 3 false] ++ List.replicate 26 .top ++ [.agg [.int .i64 v, .int .i64 f, .int .i64 n, .sl 0 0 c 3 false, .int .i64 Av, .int .i64 Af, .int .i64 An, .sl 4 0 q.length 3 false], .int .i64 i] ++ List.replicate 110 .top) [.cells false (sgsA l), .cells false (sgsA tl), .cells true [.int .i64 v, .int .i64 f, .int .i64 n, .sl 0 0 l.length 3 false], .cells true [.int .u16 ta, .int .u16 tc, .int .u8 tb, .int .i64 x, .int .i64 y, .sl 1 0 tl.length 3 false], .cells true (sgsA q), .cells true [.int .i64 mv, .int .i64 mf, .int .i64 mn, .sl 4 0 k 3 false], .cells true (sgsA S)]) ?_ ?_)
  · by_cases h0 : k = 0
    · subst h0
      have : S = [] := by simpa using lS
      subst this
      refine Sim.exec hmix hΓ (n := 0) (by simp (decide := true); exact ⟨rfl, rfl, rfl⟩) (by simp) ?_
      exact ⟨rfl, Weak.mk' [0, 1, 2, 3, 4, 5, 6] (by decide) (by decide) (by simp) (by simp [sgsA])⟩
    · refine Sim.exec hmix hΓ (n := 0) (by simp (decide := true) [h0, k3, eS, kb, km]; exact ⟨rfl, rfl, rfl⟩) (by simp) ?_
      exact ⟨rfl, Weak.mk' [0, 1, 2, 3, 4, 5, 7] (by decide) (by decide) (by simp) (by simp)⟩
  rintro _ F6 H6 hl6 ⟨rfl, hw6⟩
  refine Sim.weak hw6 hl6 ?_
  clear hw6 hl6 F6 H6
  refine Sim.seq (Sim.mono (Q := fun e F' H' => e = .normal ∧ Weak 2 F' H' ([.top, .int .i64 fl, .top, .ptr 2 0, .top, .ptr 3 0, .bool false, .sl 1 0 d 3 false, .top, .ptr 5 0, .sl 6 0 k 3 false, .sl 7 0 d 3 false] ++ List.replicate 25 .top ++ [.agg [.int .i64 v, .int .i64 f, .int .i64 n, .sl 0 0 c 3 false, .int .i64 Av, .int .i64 Af, .int .i64 An, .sl 4 0 q.length 3 false], .int .i64 i] ++ List.replicate 110 .top) [.cells false (sgsA l), .cells false (sgsA tl), .cells true [.int .i64 v, .int .i64 f, .int .i64 n, .sl 0 0 l.length 3 false], .cells true [.int .u16 ta, .int .u16 tc, .int .u8 tb, .int .i64 x, .int .i64 y, .sl 1 0 tl.length 3 false], .cells true (sgsA q), .cells true [.int .i64 mv, .int .i64 mf, .int .i64 mn, .sl 4 0 k 3 false], .cells true (sgsA S), .cells true (sgsA T)]) ?_ ?_)
  · by_cases h0 : d = 0
    · subst h0
      have : T = [] := by simpa using lT
      subst this
      refine Sim.exec hmix hΓ (n := 0) (by simp (decide := true); exact ⟨rfl, rfl, rfl⟩) (by simp) ?_
      exact ⟨rfl, Weak.mk' [0, 1, 2, 3, 4, 5, 6, 7] (by decide) (by decide) (by simp) (by simp [sgsA])⟩
    · refine Sim.exec hmix hΓ (n := 0) (by simp (decide := true) [h0, d3, eT, db, dm]; exact ⟨rfl, rfl, rfl⟩) (by simp) ?_
      exact ⟨rfl, Weak.mk' [0, 1, 2, 3, 4, 5, 6, 8] (by decide) (by decide) (by simp) (by simp)⟩
  rintro _ F7 H7 hl7 ⟨rfl, hw7⟩
  refine Sim.weak hw7 hl7 ?_
  clear hw7 hl7 F7 H7
  obtain ⟨⟨rv, rf, rn, rl⟩, hR⟩ : ∃ R, Mf.flushed ⟨mv, mf, mn, S⟩ fl T = R := ⟨_, rfl⟩
  have hrl : rl.length ≤ 1000000000000 := by
    have := congrArg (fun m => m.segs.length) hR
    simp [Mf.flushed, Mf.compacted] at this
    omega
  refine Sim.seq (Sim.seq (Sim.draw hmix (by simp) ?_))
  refine SimR.many hΓ 12 (by simp [stageOps]; rfl) (by omega) (by kernel_rfl) (by simp (decide := true) [tuInl, Try.f22, flushedS, msameS, mfA, rowSgs, k3, eS, d3, eT, hfit, hR, hrl]; first | exact ⟨rfl, rfl⟩ | exact ⟨by kernel_rfl, rfl, rfl⟩) ?_
  refine SimR.done rfl ?_
  dsimp only
  refine Sim.exec hmix hΓ (n := 0) (by simp; exact ⟨rfl, rfl, rfl⟩) (by simp) ?_
  refine Sim.weak (Fn := [.top, .int .i64 fl, .top, .ptr 2 0, .top, .ptr 3 0, .bool false, .sl 1 0 d 3 false, .top, .ptr 5 0, .sl 6 0 k 3 false, .sl 7 0 d 3 false] ++ List.replicate 25 .top ++ [.agg [.int .i64 v, .int .i64 f, .int .i64 n, .sl 0 0 c 3 false, .int .i64 Av, .int .i64 Af, .int .i64 An, .sl 4 0 q.length 3 false], .int .i64 i] ++ List.replicate 110 .top) (Hn := [.cells false (sgsA l), .cells false (sgsA tl), .cells true [.int .i64 v, .int .i64 f, .int .i64 n, .sl 0 0 l.length 3 false], .cells true [.int .u16 ta, .int .u16 tc, .int .u8 tb, .int .i64 x, .int .i64 y, .sl 1 0 tl.length 3 false], .cells true (sgsA q), .cells true [.int .i64 mv, .int .i64 mf, .int .i64 mn, .sl 4 0 k 3 false], .cells true (sgsA S), .cells true (sgsA T)]) (Weak.mk' [0, 1, 2, 3, 4, 5, 6, 7] (by decide) (by decide) (by simp) (by simp)) (by simp) ?_
  have m1 := modI_rng x 22 (by omega)
  have m2 := modI_rng y 22 (by omega)
  have w3 : IntKind.i64.wrap (modI x 22 + 3) = modI x 22 + 3 := wr_i64 (by omega) (by omega)
  refine Sim.seq (Sim.seq (Sim.draw hmix (by simp) ?_))
  refine SimR.many hΓ 22 (by simp [stageOps]; rfl) (by omega) (by kernel_rfl) (by simp (decide := true) [modS, w3]; first | exact ⟨rfl, rfl⟩ | exact ⟨by kernel_rfl, rfl, rfl⟩) ?_
  refine SimR.done rfl ?_
  dsimp only
  refine Sim.block (Sim.loopW (fun j : Nat => j ≤ 3)
    (fun j => [.top, .int .i64 fl, .top, .ptr 2 0, .top, .ptr 3 0, .bool false, .sl 1 0 d 3 false, .top, .ptr 5 0, .sl 6 0 k 3 false, .sl 7 0 d 3 false] ++ List.replicate 25 .top ++ [.agg [.int .i64 v, .int .i64 f, .int .i64 n, .sl 0 0 c 3 false, .int .i64 Av, .int .i64 Af, .int .i64 An, .sl 4 0 q.length 3 false], .int .i64 i] ++ List.replicate 41 .top ++ [.agg [.int .i64 x, .int .i64 y, .int .i64 (modI x 22), .int .i64 (modI y 22), .int .i64 (modI x 22), .int .i64 (modI x 22 + 3)], .int .i64 j] ++ List.replicate 67 .top) (fun _ => [.cells false (sgsA l), .cells false (sgsA tl), .cells true [.int .i64 v, .int .i64 f, .int .i64 n, .sl 0 0 l.length 3 false], .cells true [.int .u16 ta, .int .u16 tc, .int .u8 tb, .int .i64 x, .int .i64 y, .sl 1 0 tl.length 3 false], .cells true (sgsA q), .cells true [.int .i64 mv, .int .i64 mf, .int .i64 mn, .sl 4 0 k 3 false], .cells true (sgsA S), .cells true (sgsA T)]) (fun j => 3 - j) 0 (by simp) (by omega) (Weak.mk' [0, 1, 2, 3, 4, 5, 6, 7] (by decide) (by decide) (by simp) (by simp)) fun j hj => ?_)
  by_cases hj3 : j < 3
  · obtain ⟨p0, p1, hp⟩ : ∃ p0 p1 : Int, (List.drop (j * 2) [AV.int .i64 x, .int .i64 y, .int .i64 (modI x 22), .int .i64 (modI y 22), .int .i64 (modI x 22), .int .i64 (modI x 22 + 3)]).take 2 = [.int .i64 p0, .int .i64 p1] := by
      match j, hj3 with
      | 0, _ => exact ⟨x, y, rfl⟩
      | 1, _ => exact ⟨modI x 22, modI y 22, rfl⟩
      | 2, _ => exact ⟨modI x 22, modI x 22 + 3, rfl⟩
    have hj4 : (j : Int) < 3 := by omega
    have hj6 : j * 2 + 2 ≤ 6 := by omega
    have wj : IntKind.i64.wrap ((j : Int) + 1) = j + 1 := wr_i64 (by omega) (by omega)
    obtain ⟨⟨cv, cf, cn, cl⟩, hC⟩ : ∃ R, Mf.compacted ⟨mv, mf, mn, S⟩ p0 p1 T = R := ⟨_, rfl⟩
    have hcl : cl.length ≤ 1000000000000 := by
      have := congrArg (fun m => m.segs.length) hC
      obtain ⟨f1, f2, _⟩ := hfit
      have g1 := (Mf.lo_le ⟨mv, mf, mn, S⟩ p0).2
      simp only at f1 g1
      simp [Mf.compacted] at this
      omega
    have hcv : ¬ cv = mv := by
      have := congrArg (fun m => m.v) hC
      simp [Mf.compacted] at this
      omega
    refine Sim.step hmix hΓ (n := 0) (by simp [hj4]; exact ⟨rfl, rfl⟩) (by simp) ?_
    refine Sim.step hmix hΓ (n := 0) (by simp; exact ⟨rfl, rfl⟩) (by simp) ?_
    refine Sim.seq (Sim.block ?_)
    refine Sim.step hmix hΓ (n := 0) (by simp (decide := true) [hp, hj4, hj6]; exact ⟨rfl, rfl⟩) (by simp) ?_
    refine Sim.seq (Sim.draw hmix (by simp) ?_)
    refine SimR.many hΓ 19 (by simp [stageOps]; rfl) (by omega) (by kernel_rfl) (by simp (decide := true) [tuInl, Try.f22, compactedS, mfA, rowSgs, k3, eS, d3, eT, hfit, hC, scA]; first | exact ⟨rfl, rfl⟩ | exact ⟨by kernel_rfl, rfl, rfl⟩) ?_
    refine SimR.done rfl ?_
    dsimp only
    refine Sim.seq (Sim.draw hmix (by simp) ?_)
    refine SimR.many hΓ 16 (by simp [stageOps]; rfl) (by omega) (by kernel_rfl) (by simp (decide := true) [tuInl, Try.f22, msameS, rowSgs, k3, eS, hcl, hcv]; first | exact ⟨rfl, rfl⟩ | exact ⟨by kernel_rfl, rfl, rfl⟩) ?_
    refine SimR.done rfl ?_
    dsimp only
    refine Sim.exec hmix hΓ (n := 0) (by simp; exact ⟨rfl, rfl, rfl⟩) (by simp) ?_
    dsimp only
    refine Sim.exec hmix hΓ (n := 0) (by simp [wj]; exact ⟨rfl, rfl, rfl⟩) (by simp) ?_
    exact ⟨j + 1, by omega, Weak.mk' [0, 1, 2, 3, 4, 5, 6, 7] (by decide) (by decide) (by simp) (by simp), by omega⟩
  have : j = 3 := by omega
  subst this
  refine Sim.exec hmix hΓ (n := 0) (by simp; exact ⟨rfl, rfl, rfl⟩) (by simp) ?_
  dsimp only
  rw [if_pos rfl]
  refine Sim.weak (Fn := [.top, .int .i64 fl, .top, .ptr 2 0, .top, .ptr 3 0, .bool false, .sl 1 0 d 3 false, .top, .ptr 5 0, .sl 6 0 k 3 false, .sl 7 0 d 3 false] ++ List.replicate 25 .top ++ [.agg [.int .i64 v, .int .i64 f, .int .i64 n, .sl 0 0 c 3 false, .int .i64 Av, .int .i64 Af, .int .i64 An, .sl 4 0 q.length 3 false], .int .i64 i] ++ List.replicate 110 .top) (Hn := [.cells false (sgsA l), .cells false (sgsA tl), .cells true [.int .i64 v, .int .i64 f, .int .i64 n, .sl 0 0 l.length 3 false], .cells true [.int .u16 ta, .int .u16 tc, .int .u8 tb, .int .i64 x, .int .i64 y, .sl 1 0 tl.length 3 false], .cells true (sgsA q), .cells true [.int .i64 mv, .int .i64 mf, .int .i64 mn, .sl 4 0 k 3 false], .cells true (sgsA S), .cells true (sgsA T)]) (Weak.mk' [0, 1, 2, 3, 4, 5, 6, 7] (by decide) (by decide) (by simp) (by simp)) (by simp) ?_
  refine Sim.seq (Sim.step hmix hΓ (n := 0) (by simp; exact ⟨rfl, rfl⟩) (by simp) ?_)
  refine Sim.block (Sim.loopW (fun a : Nat => a ≤ k)
    (fun a => [.top, .int .i64 fl, .top, .ptr 2 0, .top, .ptr 3 0, .bool false, .sl 1 0 d 3 false, .top, .ptr 5 0, .sl 6 0 k 3 false, .sl 7 0 d 3 false, .top, .top, .top, .top, .int .i64 a] ++ List.replicate 20 .top ++ [.agg [.int .i64 v, .int .i64 f, .int .i64 n, .sl 0 0 c 3 false, .int .i64 Av, .int .i64 Af, .int .i64 An, .sl 4 0 q.length 3 false], .int .i64 i] ++ List.replicate 110 .top) (fun _ => [.cells false (sgsA l), .cells false (sgsA tl), .cells true [.int .i64 v, .int .i64 f, .int .i64 n, .sl 0 0 l.length 3 false], .cells true [.int .u16 ta, .int .u16 tc, .int .u8 tb, .int .i64 x, .int .i64 y, .sl 1 0 tl.length 3 false], .cells true (sgsA q), .cells true [.int .i64 mv, .int .i64 mf, .int .i64 mn, .sl 4 0 k 3 false], .cells true (sgsA S), .cells true (sgsA T)]) (fun a => k - a) 0 (by simp) (by omega) (Weak.mk' [0, 1, 2, 3, 4, 5, 6, 7] (by decide) (by decide) (by simp) (by simp)) fun a ha => ?_)
  by_cases hak : a < k
  · obtain ⟨s, hs⟩ : ∃ s, S[a]? = some s := ⟨_, List.getElem?_eq_getElem (by omega)⟩
    have g1 := sgs_get S a (by omega)
    rw [(List.getElem?_eq_some_iff.1 hs).2] at g1
    have g2 : ((sgsA q).drop (a * 3)).take 3 = sgA s := by
      rw [← g1, ← eS, List.drop_take, List.take_take]
      congr 1; omega
    have a3 : a * 3 + 3 ≤ q.length * 3 := by omega
    have a4 : a * 3 + 3 ≤ k * 3 := by omega
    have wa : IntKind.i64.wrap ((a : Int) + 1) = a + 1 := wr_i64 (by omega) (by omega)
    obtain ⟨s1, s2, s3⟩ := s
    simp [sgA] at g1 g2
    refine Sim.step hmix hΓ (n := 0) (by simp [hak]; exact ⟨rfl, rfl⟩) (by simp) ?_
    refine Sim.seq (Sim.block (Sim.seq (Sim.draw hmix (by simp) ?_)))
    refine SimR.many hΓ 10 (by simp [stageOps]; rfl) (by omega) (by kernel_rfl) (by simp (decide := true) [hak, g1, g2, a3, a4, lS]; first | exact ⟨rfl, rfl⟩ | exact ⟨by kernel_rfl, rfl, rfl⟩) ?_
    refine SimR.done rfl ?_
    dsimp only
    refine Sim.exec hmix hΓ (n := 0) (by simp; exact ⟨rfl, rfl, rfl⟩) (by simp) ?_
    dsimp only
    refine Sim.exec hmix hΓ (n := 0) (by simp [wa]; exact ⟨rfl, rfl, rfl⟩) (by simp) ?_
    exact ⟨a + 1, by omega, Weak.mk' [0, 1, 2, 3, 4, 5, 6, 7] (by decide) (by decide) (by simp) (by simp), by omega⟩
  have hka : a = k := by omega
  subst hka
  refine Sim.exec hmix hΓ (n := 0) (by simp; exact ⟨rfl, rfl, rfl⟩) (by simp) ?_
  dsimp only
  rw [if_pos rfl]
  refine Sim.weak (Fn := [.top, .int .i64 fl, .top, .ptr 2 0, .top, .ptr 3 0, .bool false, .sl 1 0 d 3 false, .top, .ptr 5 0, .sl 6 0 a 3 false, .sl 7 0 d 3 false] ++ List.replicate 25 .top ++ [.agg [.int .i64 v, .int .i64 f, .int .i64 n, .sl 0 0 c 3 false, .int .i64 Av, .int .i64 Af, .int .i64 An, .sl 4 0 q.length 3 false], .int .i64 i] ++ List.replicate 110 .top) (Hn := [.cells false (sgsA l), .cells false (sgsA tl), .cells true [.int .i64 v, .int .i64 f, .int .i64 n, .sl 0 0 l.length 3 false], .cells true [.int .u16 ta, .int .u16 tc, .int .u8 tb, .int .i64 x, .int .i64 y, .sl 1 0 tl.length 3 false], .cells true (sgsA q), .cells true [.int .i64 mv, .int .i64 mf, .int .i64 mn, .sl 4 0 a 3 false], .cells true (sgsA S), .cells true (sgsA T)]) (Weak.mk' [0, 1, 2, 3, 4, 5, 6, 7] (by decide) (by decide) (by simp) (by simp)) (by simp) ?_
  refine Sim.step hmix hΓ (n := 0) (by simp; exact ⟨rfl, rfl⟩) (by simp) ?_
  refine Sim.block (Sim.loopW (fun e : Nat => e ≤ d)
    (fun e => [.top, .int .i64 fl, .top, .ptr 2 0, .top, .ptr 3 0, .bool false, .sl 1 0 d 3 false, .top, .ptr 5 0, .sl 6 0 a 3 false, .sl 7 0 d 3 false, .top, .top, .top, .top, .top, .int .i64 e] ++ List.replicate 19 .top ++ [.agg [.int .i64 v, .int .i64 f, .int .i64 n, .sl 0 0 c 3 false, .int .i64 Av, .int .i64 Af, .int .i64 An, .sl 4 0 q.length 3 false], .int .i64 i] ++ List.replicate 110 .top) (fun _ => [.cells false (sgsA l), .cells false (sgsA tl), .cells true [.int .i64 v, .int .i64 f, .int .i64 n, .sl 0 0 l.length 3 false], .cells true [.int .u16 ta, .int .u16 tc, .int .u8 tb, .int .i64 x, .int .i64 y, .sl 1 0 tl.length 3 false], .cells true (sgsA q), .cells true [.int .i64 mv, .int .i64 mf, .int .i64 mn, .sl 4 0 a 3 false], .cells true (sgsA S), .cells true (sgsA T)]) (fun e => d - e) 0 (by simp) (by omega) (Weak.mk' [0, 1, 2, 3, 4, 5, 6, 7] (by decide) (by decide) (by simp) (by simp)) fun e he => ?_)
  by_cases hed : e < d
  · obtain ⟨s, hs⟩ : ∃ s, T[e]? = some s := ⟨_, List.getElem?_eq_getElem (by omega)⟩
    have g1 := sgs_get T e (by omega)
    rw [(List.getElem?_eq_some_iff.1 hs).2] at g1
    have g2 : ((sgsA tl).drop (e * 3)).take 3 = sgA s := by
      rw [← g1, ← eT, List.drop_take, List.take_take]
      congr 1; omega
    have a3 : e * 3 + 3 ≤ tl.length * 3 := by omega
    have a4 : e * 3 + 3 ≤ d * 3 := by omega
    have wa : IntKind.i64.wrap ((e : Int) + 1) = e + 1 := wr_i64 (by omega) (by omega)
    obtain ⟨s1, s2, s3⟩ := s
    simp [sgA] at g1 g2
    refine Sim.step hmix hΓ (n := 0) (by simp [hed]; exact ⟨rfl, rfl⟩) (by simp) ?_
    refine Sim.seq (Sim.block (Sim.seq (Sim.draw hmix (by simp) ?_)))
    refine SimR.many hΓ 9 (by simp [stageOps]; rfl) (by omega) (by kernel_rfl) (by simp (decide := true) [hed, g1, g2, a3, a4, lT]; first | exact ⟨rfl, rfl⟩ | exact ⟨by kernel_rfl, rfl, rfl⟩) ?_
    refine SimR.done rfl ?_
    dsimp only
    refine Sim.exec hmix hΓ (n := 0) (by simp; exact ⟨rfl, rfl, rfl⟩) (by simp) ?_
    dsimp only
    refine Sim.exec hmix hΓ (n := 0) (by simp [wa]; exact ⟨rfl, rfl, rfl⟩) (by simp) ?_
    exact ⟨e + 1, by omega, Weak.mk' [0, 1, 2, 3, 4, 5, 6, 7] (by decide) (by decide) (by simp) (by simp), by omega⟩
  have hed' : e = d := by omega
  subst hed'
  refine Sim.exec hmix hΓ (n := 0) (by simp; exact ⟨rfl, rfl, rfl⟩) (by simp) ?_
  dsimp only
  rw [if_pos rfl]
  exact ⟨rfl, Weak.mk' [0, 1, 2, 3, 4] (by decide) (by decide) (by simp) (by simp)⟩

end Go.Proofs.Ytbbgmaklmlagcaa
