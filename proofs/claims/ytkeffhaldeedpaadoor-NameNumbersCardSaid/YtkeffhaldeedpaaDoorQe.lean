/- Rows of numbers in order, each once: slices.Sort, slices.Compact, ordered. -/
import Derived.Test.YtkeffhaldeedpaaDoorQd
import Derived.Lib.RowBridge
namespace Go.Proofs.YtkeffhaldeedpaaDoor
open Go Go.Lib Go.Sort
set_option maxRecDepth 100000
attribute [-simp] drawOk_eq adraw qrun acode aops

def intsA (zs : List Int) : List AV := zs.map (AV.int .i64)
@[simp] theorem intsA_length (zs : List Int) : (intsA zs).length = zs.length := by simp [intsA]
def intsOf : List AV → Option (List Int)
  | [] => some []
  | .int .i64 n :: l => (intsOf l).map (n :: ·)
  | _ => none
@[simp] theorem intsOf_intsA : ∀ zs : List Int, intsOf (intsA zs) = some zs
  | [] => rfl
  | z :: zs => by
    have := intsOf_intsA zs
    simp only [intsA, List.map_cons, intsOf] at this ⊢
    rw [this]; rfl
theorem intsOf_eq : ∀ {l : List AV} {zs : List Int}, intsOf l = some zs → l = intsA zs
  | [], zs, h => by cases h; rfl
  | x :: l, zs, h => by
    unfold intsOf at h
    split at h
    · rename_i h1; cases h1
    · rename_i n l' h1
      cases h1
      obtain ⟨ys, h2, rfl⟩ := Option.map_eq_some_iff.1 h
      rw [intsOf_eq h2]; rfl
    · cases h

theorem vrs_ints (j : Inj) : ∀ zs : List Int, VRs j (intsA zs) (zs.map (Value.int .i64))
  | [] => rfl
  | z :: zs => ⟨_, _, rfl, by simp [VR], vrs_ints j zs⟩

def srt (zs : List Int) : List Int := zs.mergeSort fun x y => decide (x ≤ y)

/-- A row of numbers behind a slice, in a world. -/
theorem row_holds {j : Inj} {H : AHeap} {w : World} (hR : R j H w) {b : Nat} {zs : List Int} (hb : H[b]? = some (.cells true (intsA zs))) {p : JB} (hp : j b = some p) :
    Holds (Value.int .i64) w p.blk p.base zs.toArray := by
  obtain ⟨cs, T, fz, h1, h2, h3, h4, h5⟩ := hR.blk b _ p hb hp
  intro i hi
  have hi' : i < zs.length := by simpa using hi
  have hx : (intsA zs)[i]? = some (.int .i64 zs[i]) := by simp [intsA, hi']
  obtain ⟨v, hv, hvr⟩ := h4 i _ hx
  simp only [VR] at hvr
  subst hvr
  have h5' := h5 rfl (p.base + i) (by rw [intsA_length] at h3; omega)
  constructor
  · simp [World.cell?, h1, hv, hi']
  · obtain ⟨lo, hi2⟩ := fz
    simp only [World.frozen?, h1]
    simp only [Bool.and_eq_false_iff, decide_eq_false_iff_not]
    by_cases hlo : lo ≤ p.base + i
    · exact .inr fun h => h5' ⟨hlo, h⟩
    · exact .inl hlo

theorem below_drewN (w : World) (n : Nat) : RowKit.Below w.heap.size w (w.drewN n) := ⟨rfl, rfl, rfl, Nat.le_refl _, fun _ _ => rfl⟩
theorem below_grow (w : World) (os : Array Obj) : RowKit.Below w.heap.size w (grow w os) :=
  ⟨rfl, rfl, rfl, by simp [grow], fun c hc => by simp only [grow]; rw [Array.getElem?_append_left hc]⟩

/-- The row stored anew, and what was made beside it. -/
theorem step_ints {j : Inj} {H : AHeap} {w : World} (hR : R j H w) {b : Nat} {zs ys : List Int} (hb : H[b]? = some (.cells true (intsA zs))) {p : JB} (hp : j b = some p) (hl : ys.length = zs.length) (n : Nat) (os : Array Obj) :
    Step H.length j H w j (H.set b (.cells true (intsA ys))) (grow ((w.drewN n).setCells p.blk p.base (ys.map (Value.int .i64))) os) := by
  have s0 := Step.below hR (below_drewN w n) (Nat.le_refl H.length)
  have s1 := step_store s0.rel hb hp 0 (intsA ys) (ys.map (Value.int .i64)) (vrs_ints j ys) (by simp [hl])
  rw [List.take_zero, List.nil_append, Nat.zero_add, List.drop_of_length_le (by simp [hl]), List.append_nil, Nat.add_zero] at s1
  have s2 := Step.below s1.rel (below_grow _ os) (Nat.le_refl _)
  rw [List.length_set] at s2
  exact (s0.trans s1 (Nat.le_refl _)).trans s2 (Nat.le_refl _)

theorem isort_ct {H : AHeap} {b : Nat} {zs : List Int} {c : Bool} (hb : H[b]? = some (.cells true (intsA zs))) (hz : zs.length ≤ 1000000000) :
    Ct Tryd.prog 29 [.sl b 0 zs.length 1 c] H (.tuple []) (H.set b (.cells true (intsA (srt zs)))) := by
  intro j w cargs hR hargs
  obtain ⟨v, cs, e, h1, h2⟩ := hargs
  simp only [VRs] at h2
  subst h2
  have same : zs = [] → H.set b (.cells true (intsA (srt zs))) = H := by
    rintro rfl
    obtain ⟨g1, g2⟩ := List.getElem?_eq_some_iff.1 hb
    rw [show srt [] = [] by simp [srt], ← g2, List.set_getElem_self]
  have hnone : ∀ q cap, zs = [] → cargs = #[.slice q 0 cap] → Calls Tryd.prog 29 cargs w fun e w' => ∃ cv j2, e = .returned cv ∧ VR j2 (.tuple []) cv ∧ Step H.length j H w j2 (H.set b (.cells true (intsA (srt zs)))) w' := by
    rintro q cap h0 rfl
    rw [same h0]
    refine (Tryd.slices_Sort_int_none q cap w).mono ?_
    rintro e w' ⟨rfl, rfl⟩
    exact ⟨_, j, rfl, ⟨#[], rfl, rfl⟩, Step.refl hR (Nat.le_refl _)⟩
  rcases VR_sl h1 with ⟨h0, rfl⟩ | h3
  · exact hnone _ _ (List.eq_nil_of_length_eq_zero h0) (by apply Array.ext'; rw [e])
  · simp only [VR] at h3
    obtain ⟨p, a, cap, hp, rfl, hcap, -, -, ha⟩ := h3
    have ec : cargs = #[.slice (some a) zs.length cap] := by apply Array.ext'; rw [e]
    by_cases h0 : zs = []
    · subst h0
      exact hnone _ _ rfl ec
    · have hlen : 0 < zs.length := List.length_pos_iff.2 h0
      obtain ⟨rfl, -⟩ : a = ⟨p.blk, p.base + 0, none⟩ ∧ p.base + 0 + cap * 1 ≤ p.size := by
        rcases ha with h | h
        · omega
        · exact h
      rw [Nat.add_zero] at ec
      subst ec
      have hlt := hR.lt hb hp
      have hh := row_holds hR hb hp
      refine (Tryd.slices_Sort_int p.blk p.base cap zs w hh hlt (by omega)).mono ?_
      rintro e w' ⟨rfl, n, os, rfl⟩
      have hsl : (srt zs).length = zs.length := by simp [srt]
      have hw : putRow (Value.int .i64) (Sort.ahead w n) p.blk p.base (srt zs).toArray = (w.drewN n).setCells p.blk p.base ((srt zs).map (Value.int .i64)) := putRow_eq_setCells (Value.int .i64) w p.blk p.base zs.toArray (srt zs) n hh (by simp [hsl])
      refine ⟨_, j, rfl, ⟨#[], rfl, rfl⟩, ?_⟩
      show Step H.length j H w j _ (grow (putRow (Value.int .i64) (Sort.ahead w n) p.blk p.base (srt zs).toArray) os)
      rw [hw]
      exact step_ints hR hb hp hsl n os

def isortS : Summ := fun args H => match args with
  | [.sl b 0 n 1 _] => match H[b]? with
    | some (.cells true l) => match intsOf l with
      | some zs => if n = zs.length ∧ zs.length ≤ 1000000000 then some (.tuple [], H.set b (.cells true (intsA (srt zs))), [b]) else none
      | none => none
    | _ => none
  | _ => none

theorem isort_sound : Sound Tryd.prog 29 isortS := by
  refine ⟨enter_of Tryd.func29 rfl (by decide), fun args H v H' W hs => ?_, fun args H v H' W hs => ?_⟩ <;> (unfold isortS at hs; split at hs <;> try cases hs) <;> (split at hs <;> try cases hs) <;> (rename_i b n c _ l hb; split at hs <;> try cases hs) <;> (rename_i zs hz; split at hs <;> cases hs; rename_i hc)
  · rw [intsOf_eq hz] at hb
    rw [hc.1]
    exact isort_ct hb hc.2
  · refine ⟨by simp, fun d hd hn => ?_⟩
    simp only [List.mem_cons, List.not_mem_nil, or_false] at hn
    rw [List.getElem?_set_ne (Ne.symm hn)]

theorem compact_le (zs : List Int) : (compact zs).length ≤ zs.length := by
  unfold compact compactUpTo
  rw [List.length_map]
  refine Nat.le_trans (List.length_filter_le _ _) ?_
  rw [List.length_range]
  exact Nat.le_refl _

/-- A row behind Compact. -/
def cpt (zs : List Int) : List Int := compact zs ++ List.replicate (zs.length - (compact zs).length) 0
theorem cpt_length (zs : List Int) : (cpt zs).length = zs.length := by
  have := compact_le zs
  unfold cpt
  rw [List.length_append, List.length_replicate]
  omega

theorem icompact_ct {H : AHeap} {b : Nat} {zs : List Int} {c : Bool} (hb : H[b]? = some (.cells true (intsA zs))) (hz : zs.length ≤ 1000000000) :
    Ct Tryd.prog 30 [.sl b 0 zs.length 1 c] H (.sl b 0 (compact zs).length 1 false) (H.set b (.cells true (intsA (cpt zs)))) := by
  intro j w cargs hR hargs
  obtain ⟨v, cs, e, h1, h2⟩ := hargs
  simp only [VRs] at h2
  subst h2
  have c0 : zs = [] → compact zs = [] := fun h => List.eq_nil_of_length_eq_zero (by have := compact_le zs; rw [h] at this ⊢; simpa using this)
  have same : zs = [] → H.set b (.cells true (intsA (cpt zs))) = H := by
    intro h
    have e0 : cpt zs = [] := List.eq_nil_of_length_eq_zero (by rw [cpt_length, h]; rfl)
    subst h
    obtain ⟨g1, g2⟩ := List.getElem?_eq_some_iff.1 hb
    rw [e0, ← g2, List.set_getElem_self]
  rcases VR_sl h1 with ⟨h0, rfl⟩ | h3
  · have hnil := List.eq_nil_of_length_eq_zero h0
    have ec : cargs = #[.slice none 0 0] := by apply Array.ext'; rw [e]
    subst ec
    rw [same hnil, c0 hnil]
    refine (Tryd.slices_Compact_int_empty none 0 w).mono ?_
    rintro e w' ⟨rfl, rfl⟩
    exact ⟨_, j, rfl, by simp [VR], Step.refl hR (Nat.le_refl _)⟩
  · simp only [VR] at h3
    obtain ⟨p, a, cap, hp, rfl, hcap, -, hmx, ha⟩ := h3
    have ec : cargs = #[.slice (some a) zs.length cap] := by apply Array.ext'; rw [e]
    by_cases h0 : zs = []
    · rw [same h0, c0 h0]
      subst h0
      subst ec
      refine (Tryd.slices_Compact_int_empty (some a) cap w).mono ?_
      rintro e w' ⟨rfl, rfl⟩
      refine ⟨_, j, rfl, ?_, Step.refl hR (Nat.le_refl _)⟩
      simp only [VR]
      exact .inr ⟨p, a, cap, hp, rfl, by simp, by simp, hmx, ha⟩
    · have hlen : 0 < zs.length := List.length_pos_iff.2 h0
      obtain ⟨rfl, hroom⟩ : a = ⟨p.blk, p.base + 0, none⟩ ∧ p.base + 0 + cap * 1 ≤ p.size := by
        rcases ha with h | h
        · omega
        · exact h
      rw [Nat.add_zero] at ec hroom
      subst ec
      have hh := row_holds hR hb hp
      refine (Tryd.slices_Compact_int p.blk p.base cap zs w hh (by omega) hcap).mono ?_
      rintro e w' ⟨rfl, n, rfl⟩
      have hw : putRow (Value.int .i64) (Sort.ahead w n) p.blk p.base (cpt zs).toArray = (w.drewN n).setCells p.blk p.base ((cpt zs).map (Value.int .i64)) := putRow_eq_setCells (Value.int .i64) w p.blk p.base zs.toArray (cpt zs) n hh (by simp [cpt_length])
      refine ⟨_, j, rfl, ?_, ?_⟩
      · simp only [VR]
        exact .inr ⟨p, ⟨p.blk, p.base, none⟩, cap, hp, rfl, by have := compact_le zs; omega, by simp, hmx, .inr ⟨by simp, by simpa using hroom⟩⟩
      · show Step H.length j H w j _ (putRow (Value.int .i64) (Sort.ahead w n) p.blk p.base (cpt zs).toArray)
        rw [hw]
        have := step_ints hR hb hp (cpt_length zs) n #[]
        rwa [grow_empty] at this

def icompactS : Summ := fun args H => match args with
  | [.sl b 0 n 1 _] => match H[b]? with
    | some (.cells true l) => match intsOf l with
      | some zs => if n = zs.length ∧ zs.length ≤ 1000000000 then some (.sl b 0 (compact zs).length 1 false, H.set b (.cells true (intsA (cpt zs))), [b]) else none
      | none => none
    | _ => none
  | _ => none

theorem icompact_sound : Sound Tryd.prog 30 icompactS := by
  refine ⟨enter_of Tryd.func30 rfl (by decide), fun args H v H' W hs => ?_, fun args H v H' W hs => ?_⟩ <;> (unfold icompactS at hs; split at hs <;> try cases hs) <;> (split at hs <;> try cases hs) <;> (rename_i b n c _ l hb; split at hs <;> try cases hs) <;> (rename_i zs hz; split at hs <;> cases hs; rename_i hc)
  · rw [intsOf_eq hz] at hb
    rw [hc.1]
    exact icompact_ct hb hc.2
  · refine ⟨by simp, fun d hd hn => ?_⟩
    simp only [List.mem_cons, List.not_mem_nil, or_false] at hn
    rw [List.getElem?_set_ne (Ne.symm hn)]

end Go.Proofs.YtkeffhaldeedpaaDoor
