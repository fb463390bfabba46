/- Names: the document's Numbers. -/
import Derived.Test.YtkeffhaldeedpaaDoorQg
namespace Go.Proofs.YtkeffhaldeedpaaDoor
open Go Go.Lib
set_option maxRecDepth 100000
attribute [-simp] drawOk_eq adraw qrun acode aops

def fstC : Code → Code
  | .seq x _ => x
  | c => c
def inC : Code → Code
  | .block _ x => x
  | .loop x => x
  | .scope x => x
  | c => c

theorem ints_get {out : List Int} {j : Nat} {x : Int} (h : out[j]? = some x) : (∀ q, (intsA out)[j]'q = .int .i64 x) ∧ (intsA out)[j]? = some (.int .i64 x) := by
  have : (intsA out)[j]? = some (.int .i64 x) := by simp [intsA, h]
  exact ⟨fun q => (List.getElem?_eq_some_iff.1 this).2, this⟩

theorem rnΓ_ok : GOk Tryd.prog (gams [(9, rparseS)]) := goks_cons rparse_sound goks_nil

abbrev rnF (k : Int) (L m i : Nat) : List AV := [.int .i64 k, .sl 0 0 L 1 false, .top, .top, .top, .sl 1 0 m 1 false, .int .i64 i]

set_option maxHeartbeats 16000000 in
theorem rn_ins (k : Int) (L i : Nat) (N : List AV) (hN : frees N = true) (out : List Int) (n : Int) (hol : out.length ≤ 1000000) :
    Sim Tryd.prog none 1 (restC 2 (inC (fstC (restC 1 (inC (inC (restC 1 (fstC (restC 2 (bodyOf Tryd.f13)))))))))) (rnF k L out.length i ++ [.top, .int .i64 n] ++ List.replicate 70 .top) [.cells false N, .cells true (intsA out)] fun e F' H' => e = .normal ∧ Weak 1 F' H' (rnF k L (insI out n).length i ++ List.replicate 72 .top) [.cells false N, .cells true (intsA (insI out n))] := by
  have hΓ := rnΓ_ok
  simp only [bodyOf, Tryd.f13, Option.getD_some, restC, fstC, inC]
  obtain ⟨res, hres⟩ : ∃ r, insI out n = r := ⟨_, rfl⟩
  rw [hres]
  unfold insI at hres
  obtain ⟨pre, hpre⟩ : ∃ p, out.takeWhile (fun x => decide (x < n)) = p := ⟨_, rfl⟩
  rw [hpre] at hres
  have hpl : pre.length ≤ out.length := by rw [← hpre]; exact List.Sublist.length_le (List.takeWhile_sublist _)
  refine Sim.step hmix hΓ (n := 0) (by simp; exact ⟨rfl, rfl⟩) (by simp) ?_
  refine Sim.seq (Sim.step hmix hΓ (n := 0) (by simp; exact ⟨rfl, rfl⟩) (by simp) ?_)
  refine Sim.block (Sim.loopW (fun j : Nat => j ≤ out.length ∧ out.take j ++ (out.drop j).takeWhile (fun x => decide (x < n)) = pre)
    (fun j => rnF k L out.length i ++ [.top, .int .i64 n, .sl 2 0 j 1 false, .int .i64 j] ++ List.replicate 68 .top)
    (fun j => [.cells false N, .cells true (intsA out), .cells true (intsA (out.take j))]) (fun j => out.length - j) 0 (by simp) ⟨by simp, by simpa using hpre⟩ (Weak.mk' [0, 1, 100] (by decide) (by decide) (by simp) (by simp [hN, frees_ints])) fun j hj => ?_)
  obtain ⟨hj, hch⟩ := hj
  obtain ⟨cur, hcur⟩ : ∃ c, out.take j = c := ⟨_, rfl⟩
  have hcl : cur.length = j := by rw [← hcur]; simp; omega
  rw [hcur]
  have htk : List.take j (intsA cur) = intsA cur := List.take_of_length_le (by simp [hcl])
  have b1 : (j + 1) * 8 ≤ 140737488355328 := by omega
  have b2 : j + 1 ≤ 9223372036854775807 := by omega
  by_cases hgo : ∃ x, out[j]? = some x ∧ x < n
  · obtain ⟨x, hx, hxn⟩ := hgo
    obtain ⟨hlt, hxe⟩ := List.getElem?_eq_some_iff.1 hx
    have hlti : (j : Int) < out.length := by omega
    obtain ⟨g1, g2⟩ := ints_get hx
    have hw : IntKind.i64.wrap ((j : Int) + 1) = j + 1 := wr_i64 (by omega) (by omega)
    have hnext : out.take (j + 1) = cur ++ [x] := by rw [List.take_add_one, hx, hcur]; rfl
    have hch' : out.take (j + 1) ++ (out.drop (j + 1)).takeWhile (fun x => decide (x < n)) = pre := by
      rw [← hch, ← List.getElem_cons_drop hlt, hxe, List.takeWhile_cons, if_pos (by simpa using hxn), hnext, hcur]
      simp
    refine Sim.step hmix hΓ (n := 0) (by simp (decide := true) [hlt, hlti, g1, hxn]; exact ⟨rfl, rfl⟩) (by simp) ?_
    refine Sim.seq (Sim.block ?_)
    refine Sim.exec hmix hΓ (n := 0) (by simp (decide := true) [hlt, g1, b1, b2, htk, hcl]; exact ⟨rfl, rfl, rfl⟩) (by simp) ?_
    dsimp only
    refine Sim.exec hmix hΓ (n := 0) (by simp [hw]; exact ⟨rfl, rfl, rfl⟩) (by simp) ?_
    dsimp only
    exact ⟨j + 1, ⟨by omega, hch'⟩, Weak.mk' [0, 1, 4] (by decide) (by decide) (by simp) (by simp [hnext, hN, ints_append, frees_ints]), by omega⟩
  · have hend : cur = pre := by
      rw [← hch, hcur]
      by_cases h1 : j < out.length
      · have h2 : ¬ out[j] < n := fun h => hgo ⟨_, List.getElem?_eq_getElem h1, h⟩
        rw [← List.getElem_cons_drop h1, List.takeWhile_cons, if_neg (by simpa using h2), List.append_nil]
      · rw [List.drop_eq_nil_of_le (by omega)]; simp
    refine Sim.seq (Sim.mono (Q := fun e F' H' => e = .exit 2 ∧ Weak 1 F' H' (rnF k L out.length i ++ [.top, .int .i64 n, .sl 2 0 j 1 false] ++ List.replicate 69 .top) [.cells false N, .cells true (intsA out), .cells true (intsA cur)]) ?_ ?_)
    · by_cases h1 : j < out.length
      · have hlti : (j : Int) < out.length := by omega
        have hx : out[j]? = some out[j] := List.getElem?_eq_getElem h1
        obtain ⟨x, hxe⟩ : ∃ x, out[j] = x := ⟨_, rfl⟩
        rw [hxe] at hx
        have h2 : ¬ x < n := fun h => hgo ⟨_, hx, h⟩
        obtain ⟨g1, g2⟩ := ints_get hx
        refine Sim.exec hmix hΓ (n := 0) (by simp (decide := true) [h1, hlti, g1, h2]; exact ⟨rfl, rfl, rfl⟩) (by simp) ?_
        exact ⟨rfl, Weak.mk' [0, 1, 2] (by decide) (by decide) (by simp) (by simp [hN, frees_ints])⟩
      · have hlti : ¬ (j : Int) < out.length := by omega
        refine Sim.exec hmix hΓ (n := 0) (by simp (decide := true) [hlti]; exact ⟨rfl, rfl, rfl⟩) (by simp) ?_
        exact ⟨rfl, Weak.mk' [0, 1, 2] (by decide) (by decide) (by simp) (by simp [hN, frees_ints])⟩
    rintro x F' H' hlen ⟨rfl, hwk⟩
    dsimp only
    rw [if_pos rfl]
    refine Sim.weak hwk hlen ?_
    clear hwk hlen
    refine Sim.step hmix hΓ (n := 0) (by simp (decide := true) [htk, hcl, b1, b2]; exact ⟨rfl, rfl⟩) (by simp) ?_
    refine Sim.seq (Sim.mono (Q := fun e F' H' => e = .normal ∧ Weak 1 F' H' (rnF k L out.length i ++ [.top, .int .i64 n, .sl 2 0 res.length 1 false] ++ List.replicate 69 .top) [.cells false N, .cells true (intsA out), .cells true (intsA res)]) ?_ ?_)
    · refine Sim.seq (Sim.exec hmix hΓ (n := 0) (by simp; exact ⟨rfl, rfl, rfl⟩) (by simp) ?_)
      dsimp only
      refine Sim.block (Sim.loopW (fun q : Nat => q ≤ out.length)
        (fun q => rnF k L out.length i ++ [.top, .int .i64 n, .sl 2 0 (pre ++ n :: (out.take q).filter (fun x => decide (n < x))).length 1 false, .top, .int .i64 q] ++ List.replicate 67 .top)
        (fun q => [.cells false N, .cells true (intsA out), .cells true (intsA (pre ++ n :: (out.take q).filter (fun x => decide (n < x))))]) (fun q => out.length - q) 0 (by simp) (by omega) (Weak.mk' [0, 1, 4] (by decide) (by decide) (by simp [← hend, hcl]) (by simp [← hend, hN, ints_append, frees_ints])) fun q hq => ?_)
      obtain ⟨fl, hfl⟩ : ∃ f, (out.take q).filter (fun x => decide (n < x)) = f := ⟨_, rfl⟩
      have hfll : fl.length ≤ out.length := by
        rw [← hfl]
        have h1 := List.length_filter_le (fun x => decide (n < x)) (out.take q)
        rw [List.length_take] at h1
        omega
      obtain ⟨o2, ho2⟩ : ∃ o, pre ++ n :: fl = o := ⟨_, rfl⟩
      have ho2l : o2.length ≤ 2000001 := by rw [← ho2, List.length_append, List.length_cons]; omega
      rw [hfl, ho2]
      have htk2 : List.take o2.length (intsA o2) = intsA o2 := List.take_of_length_le (by simp)
      by_cases hlt : q < out.length
      · have hlti : (q : Int) < out.length := by omega
        obtain ⟨x, hxe⟩ : ∃ x, out[q] = x := ⟨_, rfl⟩
        have hx : out[q]? = some x := by rw [List.getElem?_eq_getElem hlt, hxe]
        obtain ⟨g1, g2⟩ := ints_get hx
        have hw : IntKind.i64.wrap ((q : Int) + 1) = q + 1 := wr_i64 (by omega) (by omega)
        have b3 : (o2.length + 1) * 8 ≤ 140737488355328 := by omega
        have b4 : o2.length + 1 ≤ 9223372036854775807 := by omega
        have hnf : (out.take (q + 1)).filter (fun x => decide (n < x)) = fl ++ (if n < x then [x] else []) := by
          rw [List.take_add_one, hx, List.filter_append, hfl]
          congr 1
          by_cases h : n < x <;> simp [h]
        refine Sim.step hmix hΓ (n := 0) (by simp [hlti]; exact ⟨rfl, rfl⟩) (by simp) ?_
        refine Sim.seq (Sim.block ?_)
        refine Sim.step hmix hΓ (n := 0) (by simp (decide := true) [hlt, g1]; exact ⟨rfl, rfl⟩) (by simp) ?_
        by_cases hnx : n < x
        · rw [if_pos hnx] at hnf
          have hnext : pre ++ n :: (out.take (q + 1)).filter (fun x => decide (n < x)) = o2 ++ [x] := by rw [hnf, ← ho2]; simp
          refine Sim.exec hmix hΓ (n := 0) (by simp (decide := true) [hnx, hlt, g1, b3, b4, htk2]; exact ⟨rfl, rfl, rfl⟩) (by simp) ?_
          dsimp only
          refine Sim.exec hmix hΓ (n := 0) (by simp [hw]; exact ⟨rfl, rfl, rfl⟩) (by simp) ?_
          dsimp only
          exact ⟨q + 1, by omega, Weak.mk' [0, 1, 4] (by decide) (by decide) (by simp only [hnext]; simp) (by simp only [hnext]; simp [hN, ints_append, frees_ints]), by omega⟩
        · rw [if_neg hnx, List.append_nil] at hnf
          have hnext : pre ++ n :: (out.take (q + 1)).filter (fun x => decide (n < x)) = o2 := by rw [hnf, ← ho2]
          refine Sim.exec hmix hΓ (n := 0) (by simp [hnx]; exact ⟨rfl, rfl, rfl⟩) (by simp) ?_
          dsimp only
          refine Sim.exec hmix hΓ (n := 0) (by simp [hw]; exact ⟨rfl, rfl, rfl⟩) (by simp) ?_
          dsimp only
          exact ⟨q + 1, by omega, Weak.mk' [0, 1, 2] (by decide) (by decide) (by simp only [hnext]; simp) (by simp only [hnext]; simp [hN, frees_ints]), by omega⟩
      · have hlti : ¬ (q : Int) < out.length := by omega
        have hor : o2 = res := by rw [← ho2, ← hfl, List.take_of_length_le (by omega), hres]
        rw [hor]
        refine Sim.exec hmix hΓ (n := 0) (by simp [hlti]; exact ⟨rfl, rfl, rfl⟩) (by simp) ?_
        dsimp only
        rw [if_pos rfl]
        exact ⟨rfl, Weak.mk' [0, 1, 2] (by decide) (by decide) (by simp) (by simp [hN, frees_ints])⟩
    rintro e F' H' hlen ⟨rfl, hwk⟩
    dsimp only
    refine Sim.weak hwk hlen ?_
    clear hwk hlen
    refine Sim.exec hmix hΓ (n := 0) (by simp; exact ⟨rfl, rfl, rfl⟩) (by simp) ?_
    exact ⟨rfl, Weak.mk' [0, 2] (by decide) (by decide) (by simp) (by simp [hN, frees_ints])⟩

end Go.Proofs.YtkeffhaldeedpaaDoor
