/- From the kit's contracts, over worlds, to contracts on abstract heaps: functions that read, and change nothing. -/
import Derived.Test.YtjolihoakdifoaaGc
import Derived.Test.YtjolihoakdifoaaTypes
namespace Go.Proofs.Ytjolihoakdifoaa
open Go

/-- A function that leaves what there is, and whose value names no block. -/
theorem ct_of_world {P : Program} {f : FuncId} {args : List AV} {H : AHeap} {v : AV} (_hv : free v = true)
    (h : ∀ j w cargs, R j H w → VRs j args cargs.toList → Calls P f cargs w fun e w' => ∃ cv, e = .returned cv ∧ VR j v cv ∧ RowKit.Below w.heap.size w w') : Ct P f args H v H := by
  intro j w cargs hR hargs
  refine (h j w cargs hR hargs).mono ?_
  rintro e w' ⟨cv, rfl, h1, hb⟩
  exact ⟨cv, j, rfl, h1, Step.below hR hb (Nat.le_refl _)⟩

/-- The texts of a row, as a summary reads them. -/
def rowStrs (H : AHeap) : AV → Option (List (List UInt8))
  | .nils => some []
  | .slice b off len 1 _ => match H[b]? with
    | some (.cells _ l) => if off + len ≤ l.length then strsOf ((l.drop off).take len) else none
    | _ => none
  | .sl b off len 1 _ => if len = 0 then some [] else match H[b]? with
    | some (.cells _ l) => if off + len ≤ l.length then strsOf ((l.drop off).take len) else none
    | _ => none
  | _ => none

theorem rowStrs_slice {H : AHeap} {x : AV} {a : List (List UInt8)} (h : rowStrs H x = some a) : (x = .nils ∧ a = []) ∨ (∃ b off c, x = .sl b off 0 1 c ∧ a = []) ∨ ∃ b off c o l, (x = .slice b off a.length 1 c ∨ 0 < a.length ∧ x = .sl b off a.length 1 c) ∧ H[b]? = some (.cells o l) ∧ off + a.length ≤ l.length ∧ a.map AV.str = (l.drop off).take a.length := by
  unfold rowStrs at h
  split at h
  · cases h; exact .inl ⟨rfl, rfl⟩
  · rename_i b off len c
    split at h
    · rename_i o l hb
      split at h
      · rename_i hle
        have e := strsOf_eq h
        have hlen : a.length = len := by have := congrArg List.length e; simp at this; omega
        subst hlen
        exact .inr (.inr ⟨b, off, c, o, l, .inl rfl, hb, hle, e.symm⟩)
      · cases h
    · cases h
  · rename_i b off len c
    split at h
    · rename_i h0
      cases h
      subst h0
      exact .inr (.inl ⟨b, off, c, rfl, rfl⟩)
    · rename_i h0
      split at h
      · rename_i o l hb
        split at h
        · rename_i hle
          have e := strsOf_eq h
          have hlen : a.length = len := by have := congrArg List.length e; simp at this; omega
          subst hlen
          exact .inr (.inr ⟨b, off, c, o, l, .inr ⟨by omega, rfl⟩, hb, hle, e.symm⟩)
        · cases h
      · cases h
  · cases h

/-- Such a row in a world. -/
theorem rowStrs_world {j : Inj} {H : AHeap} {w : World} (hR : R j H w) {x : AV} {a : List (List UInt8)} (h : rowStrs H x = some a) {cx : Value} (hx : VR j x cx) :
    (cx = .slice none 0 0 ∧ a = []) ∨ ∃ ad cap, cx = .slice (some ad) a.length cap ∧ a.length ≤ cap ∧ (a = [] ∨ ∃ bk o, ad = ⟨bk, o, none⟩ ∧ bk < w.heap.size ∧ ∀ (i : Nat) s, a[i]? = some s → w.cell? ⟨bk, o + i, none⟩ = some (.string ⟨s.toArray⟩)) := by
  rcases rowStrs_slice h with ⟨rfl, rfl⟩ | ⟨b, off, c, rfl, rfl⟩ | ⟨b, off, c, o, l, hxx, hb, hle, he⟩
  · exact .inl ⟨hx, rfl⟩
  · rcases VR_sl hx with ⟨_, hx'⟩ | hx'
    · exact .inl ⟨hx', rfl⟩
    · simp only [VR] at hx'
      obtain ⟨p, ad, cap, hp, rfl, hlc, _⟩ := hx'
      exact .inr ⟨ad, cap, rfl, hlc, .inl rfl⟩
  · have hx' : VR j (.slice b off a.length 1 c) cx := by
      rcases hxx with rfl | ⟨h0, rfl⟩
      · exact hx
      · exact VR_sl_pos h0 hx
    clear hx hxx
    have hx := hx'
    simp only [VR] at hx
    obtain ⟨p, ad, cap, hp, rfl, hlc, hclip, hm, hadr⟩ := hx
    refine .inr ⟨ad, cap, rfl, hlc, ?_⟩
    by_cases h0 : a = []
    · exact .inl h0
    · right
      have hpos : 0 < a.length := List.length_pos_iff.2 h0
      rcases hadr with h1 | ⟨rfl, _⟩
      · omega
      obtain ⟨vs, v1, v2, v3⟩ := hR.cells hb hp off a.length (by omega)
      refine ⟨p.blk, p.base + off, rfl, hR.lt hb hp, fun i s hi => ?_⟩
      have hlt : i < a.length := (List.getElem?_eq_some_iff.1 hi).1
      have hx : ((l.drop off).take a.length)[i]? = some (.str s) := by rw [← he, List.getElem?_map, hi]; rfl
      obtain ⟨v, hv, hr⟩ := v1.at hx
      simp only [VR] at hr
      subst hr
      have := v3 i _ hv
      rw [ptr_add] at this
      exact this

/-- The same, its arguments told with less. -/
theorem ct_args {P : Program} {f : FuncId} {args0 args : List AV} {H H' : AHeap} {v : AV} (h : Ct P f args0 H v H') (ha : ∀ j vs, VRs j args vs → VRs j args0 vs) : Ct P f args H v H' := fun j w cargs hR hargs => h j w cargs hR (ha j _ hargs)

/-- A slice that is an argument, as one that may be nil. -/
theorem VR_arg_sl {j : Inj} {x : AV} {k n sz : Nat} {v : Value} (h : n = 0 ∧ x = .nils ∨ x = .slice k 0 n sz false) (hv : VR j x v) : VR j (.sl k 0 n sz false) v := by
  rcases h with ⟨rfl, rfl⟩ | rfl
  · exact .inl ⟨rfl, hv⟩
  · exact VR_sl_of hv

@[simp] theorem frees_append : ∀ xs ys : List AV, frees (xs ++ ys) = (frees xs && frees ys)
  | [], ys => by simp
  | x :: xs, ys => by rw [List.cons_append, frees_cons, frees_cons, frees_append xs ys, Bool.and_assoc]

/-- Cells of which nothing is known. -/
theorem AWs_tops (rn : List Nat) : ∀ (n : Nat) (L : List AV), L.length = n → AWs rn (List.replicate n .top) L
  | 0, [], _ => trivial
  | n + 1, x :: L, h => ⟨by simp [AW], AWs_tops rn n L (by simpa using h)⟩
  | 0, _ :: _, h => by simp at h
  | n + 1, [], h => by simp at h

end Go.Proofs.Ytjolihoakdifoaa
