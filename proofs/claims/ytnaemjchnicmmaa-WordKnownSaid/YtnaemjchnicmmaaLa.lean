/- From the kit's contracts, over worlds, to contracts on abstract heaps: functions that read, and change nothing. -/
import Derived.Test.YtnaemjchnicmmaaBa
import Derived.Test.YtnaemjchnicmmaaTypes
namespace Go.Proofs.Ytnaemjchnicmmaa
open Go

/-- A function that leaves what there is, and whose value names no block. -/
theorem ct_of_world {P : Program} {f : FuncId} {args : List AV} {H : AHeap} {v : AV} (hv : free v = true)
    (h : ∀ j w cargs, R j H w → VRs j args cargs.toList → Calls P f cargs w fun e w' => ∃ cv, e = .returned cv ∧ VR j v cv ∧ RowKit.Below w.heap.size w w') : Ct P f args H v H := by
  intro j w cargs hR hargs
  refine (h j w cargs hR hargs).mono ?_
  rintro e w' ⟨cv, rfl, h1, hb⟩
  exact ⟨cv, j, rfl, h1, hR.same fun c hc => hb.block c hc, fun _ _ => rfl, Nat.le_refl _, ⟨hb.os, hb.tape, hb.output, hb.size, fun c hc _ => hb.block c hc⟩, fun b l p hb' hy hp => .inr ⟨b, l, p, hb', hy, hp, rfl⟩⟩

/-- The texts of a row, as a summary reads them. -/
def rowStrs (H : AHeap) : AV → Option (List (List UInt8))
  | .nils => some []
  | .slice b off len 1 _ => match H[b]? with
    | some (.cells _ l) => if off + len ≤ l.length then strsOf ((l.drop off).take len) else none
    | _ => none
  | _ => none

theorem rowStrs_slice {H : AHeap} {x : AV} {a : List (List UInt8)} (h : rowStrs H x = some a) : (x = .nils ∧ a = []) ∨ ∃ b off c o l, x = .slice b off a.length 1 c ∧ H[b]? = some (.cells o l) ∧ off + a.length ≤ l.length ∧ a.map AV.str = (l.drop off).take a.length := by
  unfold rowStrs at h
  split at h
  · cases h; exact .inl ⟨rfl, rfl⟩
  · rename_i b off len c
    split at h
    · rename_i o l hb
      split at h
      · rename_i hle
        have e := strsOf_eq h
        have hlen : a.length = len := by have := congrArg List.length e; simp at this; omega
        subst hlen
        exact .inr ⟨b, off, c, o, l, rfl, hb, hle, e.symm⟩
      · cases h
    · cases h
  · cases h

/-- Such a row in a world. -/
theorem rowStrs_world {j : Inj} {H : AHeap} {w : World} (hR : R j H w) {x : AV} {a : List (List UInt8)} (h : rowStrs H x = some a) {cx : Value} (hx : VR j x cx) :
    (cx = .slice none 0 0 ∧ a = []) ∨ ∃ ad cap, cx = .slice (some ad) a.length cap ∧ a.length ≤ cap ∧ (a = [] ∨ ∃ bk o, ad = ⟨bk, o, none⟩ ∧ bk < w.heap.size ∧ ∀ (i : Nat) s, a[i]? = some s → w.cell? ⟨bk, o + i, none⟩ = some (.string ⟨s.toArray⟩)) := by
  rcases rowStrs_slice h with ⟨rfl, rfl⟩ | ⟨b, off, c, o, l, rfl, hb, hle, he⟩
  · exact .inl ⟨hx, rfl⟩
  · simp only [VR] at hx
    obtain ⟨p, ad, cap, hp, rfl, hlc, hclip, hm, hadr⟩ := hx
    refine .inr ⟨ad, cap, rfl, hlc, ?_⟩
    by_cases h0 : a = []
    · exact .inl h0
    · right
      have hpos : 0 < a.length := List.length_pos_iff.2 h0
      rcases hadr with h1 | ⟨rfl, _⟩
      · omega
      obtain ⟨vs, v1, v2, v3⟩ := hR.cells hb hp off a.length (by omega)
      refine ⟨p.blk, p.base + off, rfl, hR.lt hb hp, fun i s hi => ?_⟩
      have hlt : i < a.length := (List.getElem?_eq_some_iff.1 hi).1
      have hx : ((l.drop off).take a.length)[i]? = some (.str s) := by rw [← he, List.getElem?_map, hi]; rfl
      obtain ⟨v, hv, hr⟩ := v1.at hx
      simp only [VR] at hr
      subst hr
      have := v3 i _ hv
      rw [ptr_add] at this
      exact this

end Go.Proofs.Ytnaemjchnicmmaa
