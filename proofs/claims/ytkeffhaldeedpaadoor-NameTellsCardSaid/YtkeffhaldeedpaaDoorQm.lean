/- The law cedillalaw09.NameTells: a round of making names. -/
import Derived.Test.YtkeffhaldeedpaaDoorQl
namespace Go.Proofs.YtkeffhaldeedpaaDoor
open Go Go.Lib
set_option maxRecDepth 100000
attribute [-simp] drawOk_eq adraw qrun acode aops

structure NmInv (nm : List (List UInt8)) (m : Nat) : Prop where
  len : nm.length ≤ m
  each : ∀ s ∈ nm, s.length ≤ 40

theorem NmInv.two {nm : List (List UInt8)} {m : Nat} (h : NmInv nm m) {a b : List UInt8} (ha : a.length ≤ 40) (hb : b.length ≤ 40) : NmInv (nm ++ [a, b]) (m + 2) :=
  ⟨by have := h.len; simp; omega, fun s hs => by
    rcases List.mem_append.1 hs with hs | hs
    · exact h.each s hs
    · simp only [List.mem_cons, List.not_mem_nil, or_false] at hs
      rcases hs with rfl | rfl
      · exact ha
      · exact hb⟩

abbrev ntF (k n : Int) (L m i : Nat) : List AV := [.int .i64 k, .int .i64 n, .sl 0 0 L 3 false, .top, .top, .top, .bool false, .sl 1 0 m 1 false, .int .i64 i]

set_option maxHeartbeats 16000000 in
theorem nt_round (k0 n0 : Int) (l : List Pc) (hok : ∀ a ∈ l, a.ok) (_hl : l.length ≤ 9223372036854775807) (i : Nat) (nm : List (List UInt8)) (hI : NmInv nm (6 * i)) (hlt : i < l.length) (h30 : i < 30) :
    Sim Tryd.prog none 1 (inC (inC (restC 1 (fstC (restC 2 (bodyOf Tryd.f3)))))) (ntF k0 n0 l.length nm.length i ++ List.replicate 134 .top) [.cells false (pcsA l), .cells true (nm.map .str)] fun e F' H' => e = .normal ∧ ∃ nm', NmInv nm' (6 * (i + 1)) ∧ Weak 1 F' H' (ntF k0 n0 l.length nm'.length (i + 1) ++ List.replicate 134 .top) [.cells false (pcsA l), .cells true (nm'.map .str)] := by
  have hΓ := ntΓ_ok
  simp only [bodyOf, Tryd.f3, Option.getD_some, restC, fstC, inC, ntF]
  have hlti : (i : Int) < l.length := by omega
  have h30i : (i : Int) < 30 := by omega
  obtain ⟨e, he⟩ : ∃ e, l[i] = e := ⟨_, rfl⟩
  have he' : l[i]? = some e := by rw [List.getElem?_eq_getElem hlt, he]
  have hoke := hok e (List.mem_of_getElem? he')
  have g1 := pcs_get l i hlt
  rw [he] at g1
  have c2 := pcs_cell he' 2 (by omega)
  have c1 := pcs_cell he' 1 (by omega)
  have k1 : i * 3 + 3 ≤ l.length * 3 := by omega
  have hw : IntKind.i64.wrap ((i : Int) + 1) = i + 1 := wr_i64 (by omega) (by omega)
  obtain ⟨h, n, t⟩ := e
  dsimp only [Pc.ok] at hoke
  obtain ⟨oh, on, ot⟩ := hoke
  simp only [pcA, List.getElem?_cons_succ, List.getElem?_cons_zero] at c1 c2
  obtain ⟨w1, hw1⟩ : ∃ w, textE h.toNat n t = w := ⟨_, rfl⟩
  have lw1 : w1.length ≤ 40 := by rw [← hw1]; exact textE_length _ _ _
  obtain ⟨z, ez⟩ : ∃ z : Nat, min (t.length : Int) 30 = z := ⟨min t.length 30, by omega⟩
  have z1 : z ≤ t.length := by omega
  obtain ⟨w2, hw2⟩ : ∃ w, t.take z = w := ⟨_, rfl⟩
  have lw2 : w2.length ≤ 40 := by rw [← hw2, List.length_take]; omega
  have hnl := hI.len
  have b1 : (nm.length + 2) * 16 ≤ 140737488355328 := by omega
  have b2 : nm.length + 2 ≤ 9223372036854775807 := by omega
  have htk : List.take nm.length (nm.map AV.str) = nm.map AV.str := List.take_of_length_le (by simp)
  refine Sim.step hmix hΓ (n := 0) (by simp [hlti, h30i]; exact ⟨rfl, rfl⟩) (by simp) ?_
  refine Sim.seq (Sim.block ?_)
  refine Sim.seq (Sim.draw hmix (by simp) ?_)
  refine SimR.many hΓ 20 (by simp [stageOps]; rfl) (by omega) (by kernel_rfl) (by simp (decide := true) [-minA, minA_min, hlt, g1, pcA, c2, k1, ntΓ, textS, oh, on, ot, hw1, ez, z1, hw2]; first | exact ⟨rfl, rfl⟩ | exact ⟨by kernel_rfl, rfl, rfl⟩) ?_
  refine SimR.one hΓ _ rfl (by kernel_rfl) (by simp (decide := true) [b1, b2, htk]; exact ⟨rfl, rfl⟩) ?_
  refine SimR.many hΓ 22 (by simp [stageOps, blankOp]; rfl) (by omega) (by kernel_rfl) (by simp (decide := true); first | exact ⟨rfl, rfl⟩ | exact ⟨by kernel_rfl, rfl, rfl⟩) ?_
  refine SimR.done rfl ?_
  dsimp only
  have hI1 : NmInv (nm ++ [w1, w2]) (6 * i + 2) := hI.two lw1 lw2
  obtain ⟨r0, hr0⟩ : ∃ r0 : Nat, n.tmod 2000 = r0 := ⟨(n.tmod 2000).toNat, by rw [Int.tmod_eq_emod_of_nonneg on.1]; omega⟩
  have r02 : r0 < 2000 := by rw [Int.tmod_eq_emod_of_nonneg on.1] at hr0; omega
  have v1 : IntKind.u32.wrap (r0 : Int) = r0 := wr_u32 (by omega) (by omega)
  have v2 : IntKind.i64.wrap (r0 : Int) = r0 := wr_i64 (by omega) (by omega)
  have v3 : IntKind.i64.wrap n = n := wr_i64 (by omega) (by omega)
  refine Sim.mono (Q := fun e F' H' => e = .normal ∧ ∃ nm', NmInv nm' (6 * i + 6) ∧ Weak 1 F' H' (ntF k0 n0 l.length nm'.length i ++ List.replicate 134 .top) [.cells false (pcsA l), .cells true (nm'.map .str)]) ?_ ?_
  · refine Sim.step hmix hΓ (n := 0) (by simp; exact ⟨rfl, rfl⟩) (by simp) ?_
    refine Sim.block (Sim.loopW (fun q : Nat × List (List UInt8) => (3 ≤ q.1 ∧ q.1 ≤ 5) ∧ NmInv q.2 (6 * i + 2 + 2 * (q.1 - 3)))
      (fun q => ntF k0 n0 l.length q.2.length i ++ [.int .i64 q.1] ++ List.replicate 133 .top)
      (fun q => [.cells false (pcsA l), .cells true (q.2.map .str)]) (fun q => 5 - q.1) (3, nm ++ [w1, w2]) (by simp) ⟨⟨by simp, by simp⟩, by simpa using hI1⟩ (Weak.mk' [0, 3] (by decide) (by decide) (by simp) (by simp)) fun q hq => ?_)
    obtain ⟨j, nq⟩ := q
    obtain ⟨⟨hj3, hj5⟩, hIq⟩ := hq
    dsimp only at hj3 hj5 hIq ⊢
    have hql := hIq.len
    have b3 : (nq.length + 2) * 16 ≤ 140737488355328 := by omega
    have b4 : nq.length + 2 ≤ 9223372036854775807 := by omega
    have htq : List.take nq.length (nq.map AV.str) = nq.map AV.str := List.take_of_length_le (by simp)
    simp only [ntF]
    by_cases hj : j ≤ 4
    · have hji : (j : Int) ≤ 4 := by omega
      have hw : IntKind.i64.wrap ((j : Int) + 1) = j + 1 := wr_i64 (by omega) (by omega)
      obtain ⟨m1, hm1⟩ : ∃ m, mk j r0 = m := ⟨_, rfl⟩
      obtain ⟨m2, hm2⟩ : ∃ m, mk j n = m := ⟨_, rfl⟩
      have lm1 : m1.length ≤ 40 := by rw [← hm1]; have := mk_length j r0; omega
      have lm2 : m2.length ≤ 40 := by rw [← hm2]; have := mk_length j n; omega
      refine Sim.step hmix hΓ (n := 0) (by simp [hji]; exact ⟨rfl, rfl⟩) (by simp) ?_
      refine Sim.seq (Sim.block (Sim.draw hmix (by simp) ?_))
      refine SimR.many hΓ 19 (by simp [stageOps]; rfl) (by omega) (by kernel_rfl) (by simp (decide := true) [hlt, c1, ntΓ, mkS, hr0, v2, v3, hm1, hm2]; first | exact ⟨rfl, rfl⟩ | exact ⟨by kernel_rfl, rfl, rfl⟩) ?_
      refine SimR.one hΓ _ rfl (by kernel_rfl) (by simp (decide := true) [b3, b4, htq]; exact ⟨rfl, rfl⟩) ?_
      refine SimR.many hΓ 21 (by simp [stageOps, blankOp]; rfl) (by omega) (by kernel_rfl) (by simp (decide := true); first | exact ⟨rfl, rfl⟩ | exact ⟨by kernel_rfl, rfl, rfl⟩) ?_
      refine SimR.done rfl ?_
      dsimp only
      refine Sim.exec hmix hΓ (n := 0) (by simp [hw]; exact ⟨rfl, rfl, rfl⟩) (by simp) ?_
      dsimp only
      exact ⟨(j + 1, nq ++ [m1, m2]), ⟨⟨by dsimp only; omega, by dsimp only; omega⟩, by dsimp only; rw [show 6 * i + 2 + 2 * (j + 1 - 3) = 6 * i + 2 + 2 * (j - 3) + 2 by omega]; exact hIq.two lm1 lm2⟩, Weak.mk' [0, 3] (by decide) (by decide) (by simp) (by simp), by dsimp only; omega⟩
    · have hji : ¬ (j : Int) ≤ 4 := by omega
      refine Sim.exec hmix hΓ (n := 0) (by simp [hji]; exact ⟨rfl, rfl, rfl⟩) (by simp) ?_
      dsimp only
      rw [if_pos rfl]
      exact ⟨by trivial, nq, ⟨by omega, hIq.each⟩, Weak.mk' [0, 1] (by decide) (by decide) (by simp) (by simp)⟩
  rintro e F' H' hlen ⟨rfl, nm', hI', hwk⟩
  dsimp only
  refine Sim.weak hwk hlen ?_
  clear hwk hlen
  simp only [ntF]
  refine Sim.exec hmix hΓ (n := 0) (by simp [hw]; exact ⟨rfl, rfl, rfl⟩) (by simp) ?_
  exact ⟨rfl, nm', ⟨by have := hI'.len; omega, hI'.each⟩, Weak.mk' [0, 1] (by decide) (by decide) (by simp) (by simp)⟩

end Go.Proofs.YtkeffhaldeedpaaDoor
