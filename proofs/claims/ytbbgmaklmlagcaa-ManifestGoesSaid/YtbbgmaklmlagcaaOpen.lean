/- From the reading of an argument to what the walks ask of it. -/
import Derived.Test.YtbbgmaklmlagcaaRows
import Derived.Test.YtbbgmaklmlagcaaBase
import Derived.ProofKit
import Derived.OpenShut
import Derived.ShutString
import Derived.ChangeOld
import Derived.Below
namespace Go.Proofs.Ytbbgmaklmlagcaa
open Go.ChangeShapes Go.WideShapes Go.ChangeAt Go.RowKit

theorem own : ownKnob Try.prog.godebug = none := by kernel_rfl
theorem laidOut : laidOutB Try.prog = true := by kernel_rfl

theorem u64_nat {a : Int} (h : (Lit.int .u64 a).wf = true) : ∃ n : Nat, a = n ∧ n < 2 ^ 64 := by
  have := bounds_u64 h
  exact ⟨a.toNat, by omega, by omega⟩

theorem i64_bd {a : Int} (h : (Lit.int .i64 a).wf = true) : -9223372036854775808 ≤ a ∧ a ≤ 9223372036854775807 := bounds_i64 h

theorem addr_plain {w : World} {x : Addr} {v : Value} (h : w.cell? x = some v) : x = ⟨x.block, x.off, none⟩ := by
  cases x with
  | mk b o s =>
    cases s with
    | none => rfl
    | some s =>
      unfold World.cell? at h
      dsimp only at h
      split at h <;> simp at h

/-- A row of cells that is read from an address on. -/
theorem rd_cells {w : World} {x : Addr} {n size : Nat} {xs : List Value} (hl : xs.length = n * size) (hc : ∀ (j : Nat) u, xs[j]? = some u → w.cell? (x.add j) = some u) : Rd w size (some x) n xs := by
  refine ⟨hl, fun h0 => ?_⟩
  have h1 := hc 0 xs[0] (by simp [List.getElem?_eq_getElem h0])
  have e0 : x.add 0 = x := by simp [Addr.add]
  rw [e0] at h1
  have hx := addr_plain h1
  refine ⟨x.block, x.off, by rw [← hx], World.block_lt_of_cell? w x h1, fun j u hj => ?_⟩
  have := hc j u hj
  by_cases hj0 : j = 0
  · subst hj0
    rw [e0, hx] at this
    exact this
  · have e : x.add j = ⟨x.block, x.off + j, none⟩ := by simp [Addr.add, hj0]
    rw [e] at this
    exact this

theorem rd_ints {k : IntKind} {w : World} {x : Addr} {len cap : Nat} {zs : List Int} (hl : len ≤ cap) (hz : zs.length = cap) (hcell : ∀ i, i < zs.length → w.cell? (x.add i) = some (.int k (zs.getD i 0))) :
    Rd w 1 (some x) len ((zs.take len).map (Value.int k)) := by
  refine rd_cells (by simp; omega) fun j u hj => ?_
  rw [List.getElem?_map, List.getElem?_take] at hj
  split at hj
  · rename_i hjl
    rw [hcell j (by omega)]
    rw [List.getElem?_eq_getElem (show j < zs.length by omega)] at hj
    rw [List.getD_eq_getElem?_getD, List.getElem?_eq_getElem (show j < zs.length by omega)]
    simpa using hj
  · cases hj

theorem ints_u64 {zs : List Int} (h : ∀ n ∈ zs, (Lit.int .u64 n).wf = true) (len : Nat) :
    ∃ l : List Nat, (zs.take len).map (Value.int .u64) = l.map vU ∧ (∀ n ∈ l, n < 2 ^ 64) ∧ l.length = (zs.take len).length := by
  refine ⟨(zs.take len).map Int.toNat, ?_, ?_, by simp⟩
  · rw [List.map_map]
    apply List.map_congr_left
    intro n hn
    have := bounds_u64 (h n (List.mem_of_mem_take hn))
    simp [vU]
    omega
  · intro n hn
    obtain ⟨m, hm, rfl⟩ := List.mem_map.1 hn
    have := bounds_u64 (h m (List.mem_of_mem_take hm))
    omega

end Go.Proofs.Ytbbgmaklmlagcaa
