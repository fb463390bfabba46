/- Names: the text of a piece. -/
import Derived.Test.YtkeffhaldeedpaaDoorQj
namespace Go.Proofs.YtkeffhaldeedpaaDoor
open Go Go.Lib
set_option maxRecDepth 100000
attribute [-simp] drawOk_eq adraw qrun acode aops

def hdE : Nat → List UInt8
  | 0 => []
  | 1 => walW
  | 2 => segW
  | 3 => manifW
  | 4 => tempW
  | 5 => [119, 97, 108]
  | 6 => [115, 101, 103, 45, 48]
  | 7 => [119, 97, 108, 45, 43]
  | 8 => [87, 97, 108, 45]
  | _ => [109, 97, 110, 105, 102, 101, 115, 116, 46]
theorem hdE_length (c : Nat) : (hdE c).length ≤ 12 := by unfold hdE; split <;> decide

/-- The text of a piece. -/
def textE (h : Nat) (n : Int) (t : List UInt8) : List UInt8 :=
  (if h % 3 = 0 then hdE (h % 10) else if 4 < (hdE (h % 10) ++ mk 3 n).length ∧ h % 2 = 0 then (hdE (h % 10) ++ mk 3 n).take ((hdE (h % 10) ++ mk 3 n).length - 1) else hdE (h % 10) ++ mk 3 n) ++ t.take 12

theorem mk_length (k n : Int) : (mk k n).length ≤ 14 := by
  unfold mk
  split
  · decide
  split
  · decide
  split
  · decide
  rename_i h
  have hd := (dg_len n.toNat (by omega)).2
  split
  · rw [List.length_append, show walW.length = 4 from rfl]; omega
  split
  · rw [List.length_append, show segW.length = 4 from rfl]; omega
  · decide

theorem textE_length (h : Nat) (n : Int) (t : List UInt8) : (textE h n t).length ≤ 40 := by
  have h1 := hdE_length (h % 10)
  have h2 := mk_length 3 n
  unfold textE
  rw [List.length_append, List.length_take]
  split
  · omega
  split
  · rw [List.length_take, List.length_append]; omega
  · rw [List.length_append]; omega

theorem txΓ_ok : GOk Tryd.prog (gams [(7, mkS)]) := goks_cons rmake_sound goks_nil

set_option maxHeartbeats 8000000 in
theorem text_ct (h : Nat) (hh : h ≤ 255) (n : Int) (hn : 0 ≤ n ∧ n < 4294967296) (t : List UInt8) (ht : t.length ≤ 9223372036854775807) :
    Ct Tryd.prog 6 [.agg [.int .u8 h, .int .u32 n, .str t]] [] (.str (textE h n t)) [] := by
  have hΓ := txΓ_ok
  refine ct_of_sim Tryd.func6 rfl ?_
  simp only [Tryd.ntmps6, List.length_cons, List.length_nil, Nat.reduceAdd, Nat.reduceSub, List.replicate, List.cons_append, List.nil_append]
  obtain ⟨c, hc⟩ : ∃ c, h % 10 = c := ⟨_, rfl⟩
  have hc9 : c < 10 := by omega
  have e1 : (h : Int).tmod 10 = c := by rw [Int.tmod_eq_emod_of_nonneg (by omega)]; omega
  have w0 : IntKind.i64.wrap (h : Int) = h := wr_i64 (by omega) (by omega)
  have w1 : IntKind.i64.wrap (c : Int) = c := wr_i64 (by omega) (by omega)
  refine Sim.step hmix hΓ (n := 0) (by simp; exact ⟨rfl, rfl⟩) (by simp) ?_
  refine Sim.step hmix hΓ (n := 0) (by simp; exact ⟨rfl, rfl⟩) (by simp) ?_
  refine Sim.seq (Sim.mono (Q := fun e F' H' => e = .normal ∧ Weak 0 F' H' ([.top, .ptr 0 0, .top, .top, .str (hdE c)] ++ List.replicate 43 .top) [.cells true [.int .u8 h, .int .u32 n, .str t]]) ?_ ?_)
  · match c, hc9 with
    | 0, _ | 1, _ | 2, _ | 3, _ | 4, _ | 5, _ | 6, _ | 7, _ | 8, _ | 9, _ =>
      refine Sim.exec hmix hΓ (n := 0) (by simp (decide := true) [w0, e1]; exact ⟨rfl, rfl, rfl⟩) (by simp) ?_
      exact ⟨rfl, Weak.mk' [0] (by decide) (by decide) (by simp [hdE, walW, segW, manifW, tempW]) (by simp)⟩
  rintro e F' H' hlen ⟨rfl, hwk⟩
  dsimp only
  refine Sim.weak hwk hlen ?_
  clear hwk hlen
  have hdl := hdE_length c
  obtain ⟨w, hw⟩ : ∃ w, hdE c = w := ⟨_, rfl⟩
  have hml := mk_length 3 n
  obtain ⟨M, hM⟩ : ∃ M, mk 3 n = M := ⟨_, rfl⟩
  have e3 : (h : Int).tmod 3 = ((h % 3 : Nat) : Int) := by rw [Int.tmod_eq_emod_of_nonneg (by omega)]; omega
  have e2 : (h : Int).tmod 2 = ((h % 2 : Nat) : Int) := by rw [Int.tmod_eq_emod_of_nonneg (by omega)]; omega
  obtain ⟨d, hd⟩ : ∃ d, h % 3 = d := ⟨_, rfl⟩
  obtain ⟨b, hb⟩ : ∃ b, h % 2 = b := ⟨_, rfl⟩
  have w3 : IntKind.u8.wrap (d : Int) = d := wr_u8 (by omega) (by omega)
  have w2 : IntKind.u8.wrap (b : Int) = b := wr_u8 (by omega) (by omega)
  have wn : IntKind.i64.wrap n = n := wr_i64 (by omega) (by omega)
  obtain ⟨z, ez⟩ : ∃ z : Nat, min (t.length : Int) 12 = z := ⟨min t.length 12, by omega⟩
  have z1 : z ≤ t.length := by omega
  have ez2 : t.take z = t.take 12 := by
    by_cases h : t.length ≤ 12
    · rw [List.take_of_length_le (by omega), List.take_of_length_le h]
    · rw [show z = 12 by omega]
  have htl : (t.take 12).length ≤ 12 := by rw [List.length_take]; omega
  obtain ⟨T, hT⟩ : ∃ T, t.take 12 = T := ⟨_, rfl⟩
  rw [hT] at ez2 htl
  unfold textE
  rw [hc, hw, hM, hd, hb, hT]
  rw [hw] at hdl
  rw [hM] at hml
  rw [hd] at e3
  rw [hb] at e2
  obtain ⟨R, hR⟩ : ∃ R, (if d = 0 then w else if 4 < (w ++ M).length ∧ b = 0 then (w ++ M).take ((w ++ M).length - 1) else w ++ M) = R := ⟨_, rfl⟩
  rw [hR]
  have hRl : R.length ≤ 40 := by
    rw [← hR]
    split
    · omega
    split
    · rw [List.length_take, List.length_append]; omega
    · rw [List.length_append]; omega
  refine Sim.seq (Sim.mono (Q := fun e F' H' => e = .normal ∧ Weak 0 F' H' ([.top, .ptr 0 0, .top, .top, .str R] ++ List.replicate 43 .top) [.cells true [.int .u8 h, .int .u32 n, .str t]]) ?_ ?_)
  · by_cases d0 : d = 0
    · rw [if_pos d0] at hR
      subst hR
      refine Sim.exec hmix hΓ (n := 0) (by simp (decide := true) [e3, d0]; exact ⟨rfl, rfl, rfl⟩) (by simp) ?_
      exact ⟨rfl, Weak.mk' [0] (by decide) (by decide) (by simp) (by simp)⟩
    rw [if_neg d0] at hR
    have d0i : (0 : Int) < d := by omega
    have d0n : 0 < d := by omega
    obtain ⟨V, hV⟩ : ∃ V, w ++ M = V := ⟨_, rfl⟩
    rw [hV] at hR
    have hVl : V.length = w.length + M.length := by rw [← hV, List.length_append]
    have hV26 : w.length + M.length ≤ 9223372036854775807 := by omega
    by_cases l4 : 4 < V.length
    · have l4i : (4 : Int) < V.length := by omega
      by_cases b0 : b = 0
      · rw [if_pos ⟨l4, b0⟩] at hR
        have wv : IntKind.i64.wrap ((V.length : Int) - 1) = ((V.length - 1 : Nat) : Int) := by rw [wr_i64 (by omega) (by omega)]; omega
        obtain ⟨u, hu⟩ : ∃ u, V.length - 1 = u := ⟨_, rfl⟩
        rw [hu] at wv hR
        have hul : u ≤ V.length := by omega
        refine Sim.exec hmix hΓ (n := 0) (by simp (decide := true) [e3, d0n, wn, mkS, hM, hV, hV26, l4i, e2, b0, wv, hR, hul]; exact ⟨rfl, rfl, rfl⟩) (by simp) ?_
        exact ⟨rfl, Weak.mk' [0] (by decide) (by decide) (by simp) (by simp)⟩
      · rw [if_neg (fun h => b0 h.2)] at hR
        subst hR
        refine Sim.exec hmix hΓ (n := 0) (by simp (decide := true) [e3, d0n, wn, mkS, hM, hV, hV26, l4i, e2, b0]; exact ⟨rfl, rfl, rfl⟩) (by simp) ?_
        exact ⟨rfl, Weak.mk' [0] (by decide) (by decide) (by simp) (by simp)⟩
    · have l4i : ¬ (4 : Int) < V.length := by omega
      rw [if_neg (fun h => l4 h.1)] at hR
      subst hR
      refine Sim.exec hmix hΓ (n := 0) (by simp (decide := true) [e3, d0n, wn, mkS, hM, hV, hV26, l4i]; exact ⟨rfl, rfl, rfl⟩) (by simp) ?_
      exact ⟨rfl, Weak.mk' [0] (by decide) (by decide) (by simp) (by simp)⟩
  rintro e F' H' hlen ⟨rfl, hwk⟩
  dsimp only
  refine Sim.weak hwk hlen ?_
  clear hwk hlen
  have hRT : R.length + T.length ≤ 9223372036854775807 := by omega
  refine Sim.exec hmix hΓ (n := 0) (by simp [-minA, minA_min, ez, ez2, z1, hRT]; exact ⟨rfl, rfl, rfl⟩) (by simp) ?_
  exact ⟨.inr rfl, _, by simp [Tryd.f6] <;> rfl, Weak.mk' [] (by decide) (by decide) (by simp) (by simp [AWg])⟩

def textS : Summ := pureS fun
  | [.agg [.int .u8 h, .int .u32 n, .str t]] => if (0 ≤ h ∧ h ≤ 255) ∧ (0 ≤ n ∧ n < 4294967296) ∧ t.length ≤ 9223372036854775807 then some (.str (textE h.toNat n t)) else none
  | _ => none
theorem text_sound : Sound Tryd.prog 6 textS := by
  refine sound_pure (enter_of Tryd.func6 rfl (by decide)) fun args v hv => ?_
  split at hv
  · split at hv <;> cases hv
    rename_i h n t hc
    obtain ⟨m, rfl⟩ : ∃ m : Nat, h = m := ⟨h.toNat, by omega⟩
    exact ⟨text_ct m (by omega) n hc.2.1 t hc.2.2, rfl, rfl⟩
  · cases hv

end Go.Proofs.YtkeffhaldeedpaaDoor
