/- The law cedillalaw05.EntryWith: the walk's second part. -/
import Derived.Test.YtndkhkponamplaaEu
namespace Go.Proofs.Ytndkhkponamplaa
open Go
set_option maxRecDepth 100000
attribute [-simp] drawOk_eq adraw qrun acode aops

theorem findS_at {H : AHeap} {x : AV} {l : List En} (w : List UInt8) (hx : rowEns H x = some l) (hl : l.length ≤ 1000000) (ha : asc l) : findS [x, .str w] H = some (.tuple [.agg (enA (findE l w).1), .bool (findE l w).2], H, []) := by
  simp [findS, readS, hx, hl, ascB_of ha]

set_option maxHeartbeats 8000000 in
theorem ewB (A : AHeap) (N : Nat) (hA : A.length = N) (hf : ∀ x ∈ A, ∃ o l, x = ABlk.cells o l ∧ belows N l = true) (own own2 : List En) (xw yw : List UInt8) (xn yn : Int) (xg yg : Bool)
    (hasc : asc own) (hl : own.length ≤ 50) (hbx : bareE (xw, xn, xg) = (xw, xn, xg)) (hown2 : withE own [(xw, xn, xg)] = own2) :
    Sim Try.prog none N (restC 6 (bodyOf Try.f6)) ([.top, .top, .top, .top, .top, .top, .bool false, .sl N 0 own.length 3 false, .ptr (N + 1) 0, .ptr (N + 2) 0, .sl (N + 3) 0 own2.length 3 false] ++ List.replicate 183 .top)
      (A ++ [.cells true (ensA own), .cells true [.str xw, .int .u32 xn, .bool xg], .cells true [.str yw, .int .u32 yn, .bool yg], .cells true (ensA own2)]) (Ends Try.prog Try.f6 N (.bool true) A) := by
  have hi2 : insE own (xw, xn, xg) = own2 := hown2
  have hasc2 : asc own2 := by rw [← hi2]; exact asc_ins hasc _
  have hl2 : own2.length ≤ 51 := by rw [← hi2]; have := insE_length own (xw, xn, xg); omega
  have hC := ewC A N hA hf own own2 xw yw xn yn xg yg hasc hl hl2
  simp only [bodyOf, Try.f6, Option.getD_some, restC] at hC ⊢
  have hal : ∀ L : AHeap, N ≤ (A ++ L).length := fun L => by rw [List.length_append]; omega
  have hrN : ∀ (k : Nat) h, (List.range N ++ [N + k])[N]'h = N + k := fun k h => by rw [List.getElem_append_right (by simp)]; simp
  have r0 : ∀ T : AHeap, rowEns (A ++ .cells true (ensA own) :: T) (.sl N 0 own.length 3 false) = some own := fun T => rowEns_tail hA 0 (o := true) (T := .cells true (ensA own) :: T) rfl
  have r3 : ∀ (B0 B1 B2 : ABlk) (T : AHeap), rowEns (A ++ B0 :: B1 :: B2 :: .cells true (ensA own2) :: T) (.sl (N + 3) 0 own2.length 3 false) = some own2 := fun B0 B1 B2 T => rowEns_tail hA 3 (o := true) (T := B0 :: B1 :: B2 :: .cells true (ensA own2) :: T) rfl
  have f2 : ∀ (w : List UInt8) (B0 B1 B2 : ABlk) (T : AHeap), findS [.sl (N + 3) 0 own2.length 3 false, .str w] (A ++ B0 :: B1 :: B2 :: .cells true (ensA own2) :: T) = some (.tuple [.agg (enA (findE own2 w).1), .bool (findE own2 w).2], A ++ B0 :: B1 :: B2 :: .cells true (ensA own2) :: T, []) := fun w B0 B1 B2 T => findS_at w (r3 B0 B1 B2 T) (by omega) hasc2
  have f1 : ∀ (w : List UInt8) (T : AHeap), findS [.sl N 0 own.length 3 false, .str w] (A ++ .cells true (ensA own) :: T) = some (.tuple [.agg (enA (findE own w).1), .bool (findE own w).2], A ++ .cells true (ensA own) :: T, []) := fun w T => findS_at w (r0 T) (by omega) hasc
  have hfx : findE own2 xw = ((xw, xn, xg), true) := by rw [← hi2, find_ins, hbx]
  have hlen := ins_len own (xw, xn, xg)
  rw [hi2] at hlen
  dsimp only at hlen
  rw [hasE_find] at hlen
  obtain ⟨z, b, hz⟩ : ∃ z b, findE own xw = (z, b) := ⟨_, _, rfl⟩
  rw [hz] at hlen
  obtain ⟨zw, zn, zg⟩ := z
  refine Sim.step hmix ewΓ_ok (n := 0) (by simp [ewΓ, hA, f2, hfx, enA]; exact ⟨rfl, rfl⟩) (hal _) ?_
  refine Sim.step hmix ewΓ_ok (n := 0) (by simp [ewΓ, hA, f1, hz, enA]; exact ⟨rfl, rfl⟩) (hal _) ?_
  have w1 : IntKind.i64.wrap ((own.length : Int) + 1) = own.length + 1 := wr_i64 (by omega) (by omega)
  have d1 : ¬ ((own.length : Int) + 1 < own2.length) := by split at hlen <;> omega
  have d2 : ¬ (own.length + 1 < own2.length) := by omega
  have d3 : ((own2.length : Int) == (own.length : Int)) = b := by
    cases b with
    | true =>
      simp only [if_true] at hlen
      rw [beq_iff_eq]
      omega
    | false =>
      simp only [Bool.false_eq_true, if_false] at hlen
      rw [beq_eq_false_iff_ne]
      omega
  refine Sim.step hmix ewΓ_ok (n := 0) (by simp (decide := true) [hA, w1, d1, d3]; exact ⟨rfl, rfl⟩) (hal _) ?_
  refine Sim.seq (Sim.mono (Q := fun e F' H' => e = .normal ∧ Weak N F' H' ([.top, .top, .top, .top, .top, .top, .bool false, .sl N 0 own.length 3 false, .ptr (N + 1) 0, .ptr (N + 2) 0, .sl (N + 3) 0 own2.length 3 false] ++ List.replicate 183 .top)
      (A ++ [.cells true (ensA own), .cells true [.str xw, .int .u32 xn, .bool xg], .cells true [.str yw, .int .u32 yn, .bool yg], .cells true (ensA own2)])) ?_ ?_)
  · refine Sim.step hmix ewΓ_ok (n := 0) (by simp; exact ⟨rfl, rfl⟩) (hal _) ?_
    refine Sim.block (Sim.loopW (fun k : Nat => k ≤ own.length)
      (fun k => [.top, .top, .top, .top, .top, .top, .bool false, .sl N 0 own.length 3 false, .ptr (N + 1) 0, .ptr (N + 2) 0, .sl (N + 3) 0 own2.length 3 false, .top, .top, .top, .top, .top, .top, .int .i64 k] ++ List.replicate 176 .top)
      (fun _ => A ++ [.cells true (ensA own), .cells true [.str xw, .int .u32 xn, .bool xg], .cells true [.str yw, .int .u32 yn, .bool yg], .cells true (ensA own2)]) (fun k => own.length - k) 0 (hal _) (by omega) (Weak.tail hA hf [0, 1, 2, 3] (by decide) (by simp [AWs, AW]) (by simp [AWg, AWb, hA])) fun k hk => ?_)
    by_cases hlt : k < own.length
    · have hlti : (k : Int) < own.length := by omega
      obtain ⟨e, he⟩ : ∃ e, own[k] = e := ⟨_, rfl⟩
      have he' : own[k]? = some e := by rw [List.getElem?_eq_getElem hlt, he]
      have hem : e ∈ own := List.mem_of_getElem? he'
      have g1 := ens_get own k hlt
      rw [he] at g1
      have k1 : k * 3 + 3 ≤ own.length * 3 := by omega
      have hw : IntKind.i64.wrap ((k : Int) + 1) = k + 1 := wr_i64 (by omega) (by omega)
      have c0 := ens_cell he' 0 (by omega)
      have hfe : e.1 ≠ xw → findE own2 e.1 = (e, true) := fun hne => by
        have hm2 : e ∈ own2 := by rw [← hi2]; exact (mem_ins hasc _ _).2 (.inr ⟨hem, hne⟩)
        exact find_of_mem hasc2 hm2
      obtain ⟨ew, en, eg⟩ := e
      simp only [enA, List.getElem?_cons_zero, Nat.add_zero] at c0
      have c0 : ∀ h, (ensA own)[k * 3]'h = .str ew := fun h => (List.getElem?_eq_some_iff.1 c0).2
      refine Sim.step hmix ewΓ_ok (n := 0) (by simp [hlti]; exact ⟨rfl, rfl⟩) (hal _) ?_
      refine Sim.seq (Sim.block ?_)
      by_cases hxe : ew = xw
      · subst hxe
        refine Sim.step hmix ewΓ_ok (n := 0) (by simp (decide := true) [ewΓ, hA, hlt, c0, f2, hfx, enA]; exact ⟨rfl, rfl⟩) (hal _) ?_
        refine Sim.step hmix ewΓ_ok (n := 0) (by simp (decide := true) [hA, hlt, c0]; exact ⟨drawOkG_splitU (by kernel_rfl) (by simp) (by simp), rfl, rfl⟩) (hal _) ?_
        refine Sim.exec hmix ewΓ_ok (n := 0) (by simp; exact ⟨rfl, rfl, rfl⟩) (hal _) ?_
        dsimp only
        refine Sim.exec hmix ewΓ_ok (n := 0) (by simp [hw]; exact ⟨rfl, rfl, rfl⟩) (hal _) ?_
        dsimp only
        exact ⟨k + 1, by omega, Weak.tail hA hf [0, 1, 2, 3] (by decide) (by simp [AWs, AW]) (by simp [AWg, AWb, hA]), by omega⟩
      · have hf2 := hfe hxe
        have hbe : (ew == xw) = false := by simpa using hxe
        refine Sim.step hmix ewΓ_ok (n := 0) (by simp (decide := true) [ewΓ, hA, hlt, c0, f2, hf2, enA]; exact ⟨rfl, rfl⟩) (hal _) ?_
        refine Sim.step hmix ewΓ_ok (n := 0) (by simp (decide := true) [hA, hlt, c0, g1, k1, enA, hbe]; exact ⟨drawOkG_splitU (by kernel_rfl) (by simp) (by simp), rfl, rfl⟩) (hal _) ?_
        refine Sim.exec hmix ewΓ_ok (n := 0) (by simp; exact ⟨rfl, rfl, rfl⟩) (hal _) ?_
        dsimp only
        refine Sim.exec hmix ewΓ_ok (n := 0) (by simp [hw]; exact ⟨rfl, rfl, rfl⟩) (hal _) ?_
        dsimp only
        exact ⟨k + 1, by omega, Weak.tail hA hf [0, 1, 2, 3] (by decide) (by simp [AWs, AW]) (by simp [AWg, AWb, hA]), by omega⟩
    · have hlti : ¬ (k : Int) < own.length := by omega
      refine Sim.exec hmix ewΓ_ok (n := 0) (by simp [hlti]; exact ⟨rfl, rfl, rfl⟩) (hal _) ?_
      dsimp only
      rw [if_pos rfl]
      exact ⟨rfl, Weak.tail hA hf [0, 1, 2, 3] (by decide) (by simp [AWs, AW]) (by simp [AWg, AWb, hA])⟩
  rintro e F' H' hlen ⟨rfl, hwk⟩
  dsimp only
  exact Sim.weak hwk hlen hC

end Go.Proofs.Ytndkhkponamplaa
