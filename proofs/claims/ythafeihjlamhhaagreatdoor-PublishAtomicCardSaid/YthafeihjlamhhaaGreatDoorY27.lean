/- Parts of the proof of PublishAtomic: lemmas, each with its own conditions. -/
import Derived.Test.YthafeihjlamhhaaGreatDoorY23
set_option maxHeartbeats 64000000
open List renaming getElem?_eq_some_iff → q1Z, getElem?_eq_getElem → q3Z, take_of_length_le → q6Z, length_cons → q7Z, length_nil → q8Z, cons_append → q9Z, nil_append → qaZ, replicate → qbZ, mem_of_getElem? → qcZ, mem_cons → qwZ, length_map → r7Z, nodup_cons → rdZ, mem_map → reZ, all_eq_true → s5Z
open Nat renaming le_refl → qnZ, lt_or_ge → s2Z
open Bool renaming and_eq_true → qrZ
open Int renaming tmod_eq_emod_of_nonneg → rrZ
namespace Go.Proofs.YthafeihjlamhhaaGreatDoor
open _root_.Go.Proofs.Tryz renaming prog → Pz
set_option maxRecDepth 100000
section
open Go
attribute [-simp] drawOk_eq adraw qrun acode aops
def rowNs (H : AHeap) : AV → Option (List Nat)
 | .nils => some []
 | .slice b off len 1 _ => match H[b]? with
   | some (.cells _ l) => match natsOf .u8 ((l.drop off).take len) with
     | some ls => if off + len ≤ l.length ∧ ls.all (· < 256) = true ∧ len ≤ 9223372036854775807 then some ls else none
     | none => none
   | _ => none
 | .sl b off len 1 _ => match H[b]? with
   | some (.cells _ l) => match natsOf .u8 ((l.drop off).take len) with
     | some ls => if off + len ≤ l.length ∧ ls.all (· < 256) = true ∧ len ≤ 9223372036854775807 then some ls else none
     | none => none
   | _ => none
 | _ => none
theorem rowNs_win {H : AHeap} {x : AV} {ls : List Nat} (h : rowNs H x = some ls) : (∀ c ∈ ls, c < 256) ∧ ls.length ≤ 9223372036854775807 ∧ ∃ b off, (∀ (i : Nat) (wd : List (Nat × Nat)), wd[i]? = some (b, off) → winA wd (.sl i 0 ls.length 1 false) x) ∧
   (match H[b]? with | some (.cells _ l) => off + (ls.map aB).length ≤ l.length ∧ ls.map aB = (l.drop off).take (ls.map aB).length | none => True | _ => False) := by
 have key : ∀ (b off len : Nat) (o : Bool) (l : List AV) (ms : List Nat), H[b]? = some (.cells o l) → natsOf .u8 ((l.drop off).take len) = some ms → off + len ≤ l.length → len = ms.length ∧ off + (ms.map aB).length ≤ l.length ∧ ms.map aB = (l.drop off).take (ms.map aB).length := by
   intro b off len o l ms hb hs hle; have e := natsOf_eq hs
   have hlen : len = ms.length := by
     have := congrArg List.length e; simp at this; omega
   subst hlen
   exact ⟨rfl, by simpa using hle, by rw [r7Z]; exact e.symm⟩
 unfold rowNs at h; split at h
 · cases h
   exact ⟨by simp, by simp, H.length, 0, fun i wd _ => by simp [winA], by simp⟩
 · rename_i b off len c
   split at h; rotate_left
   · cases h
   rename_i o l hb; split at h; rotate_left
   · cases h
   rename_i ms hms
   split at h <;> cases h
   rename_i hc; obtain ⟨rfl, h1, h2⟩ := key b off len o l _ hb hms hc.1
   exact ⟨by simpa using hc.2.1, hc.2.2, b, off, fun i wd hw => by simp [winA, hw], by rw [hb]; exact ⟨h1, h2⟩⟩
 · rename_i b off len c
   split at h; rotate_left
   · cases h
   rename_i o l hb; split at h; rotate_left
   · cases h
   rename_i ms hms
   split at h <;> cases h
   rename_i hc; obtain ⟨rfl, h1, h2⟩ := key b off len o l _ hb hms hc.1
   exact ⟨by simpa using hc.2.1, hc.2.2, b, off, fun i wd hw => by simp [winA, hw], by rw [hb]; exact ⟨h1, h2⟩⟩
 · cases h
theorem bytesB_get (ls : List Nat) (k c : Nat) (h : ls[k]? = some c) : ∀ h', (ls.map aB)[k]'h' = .int .u8 c := fun h' => by
 have := (q1Z.1 h).2; rw [List.getElem_map, this]; rfl
def pdSg (c i : Nat) : Sg := (1 + 7 * (i : Int) + ((c % 7 : Nat) : Int), 1 + (c : Int), 30 + (i : Int))
def pdSgs : List Nat → Nat → List Sg
 | [], _ => []
 | c :: l, i => pdSg c i :: pdSgs l (i + 1)
@[simp] theorem pdSgs_length : ∀ (l : List Nat) (i : Nat), (pdSgs l i).length = l.length
 | [], _ => rfl
 | c :: l, i => by simp [pdSgs, pdSgs_length l]
theorem pdSgs_snoc (x : Nat) : ∀ (l : List Nat) (i : Nat), pdSgs (l ++ [x]) i = pdSgs l i ++ [pdSg x (i + l.length)]
 | [], i => by simp [pdSgs]
 | c :: l, i => by
   simp only [q9Z, pdSgs, pdSgs_snoc x l (i + 1), q7Z]
   rw [show i + 1 + l.length = i + (l.length + 1) by omega]
def pdM (v f : Int) (ls : List Nat) : Mf := ⟨v, 1 + f, 40, pdSgs (ls.take 5) 0⟩
theorem pdSgs_mem : ∀ (l : List Nat) (i : Nat) (x : Sg), x ∈ pdSgs l i → ∃ (c k : Nat), x = pdSg c k ∧ i ≤ k ∧ k < i + l.length ∧ c ∈ l
 | [], i, x, h => by simp [pdSgs] at h
 | c :: l, i, x, h => by
   simp only [pdSgs, qwZ] at h; rcases h with rfl | h
   · exact ⟨c, i, rfl, qnZ _, by simp, by simp⟩
   · obtain ⟨c', k, h1, h2, h3, h4⟩ := pdSgs_mem l (i + 1) x h
     exact ⟨c', k, h1, by omega, by simp; omega, by simp [h4]⟩
theorem pdSgs_nodup : ∀ (l : List Nat) (i : Nat), (numsS (pdSgs l i)).Nodup
 | [], i => by simp [pdSgs, numsS]
 | c :: l, i => by
   have e : numsS (pdSgs (c :: l) i) = (pdSg c i).1 :: numsS (pdSgs l (i + 1)) := rfl; rw [e, rdZ]
   refine ⟨fun hm => ?_, pdSgs_nodup l (i + 1)⟩
   obtain ⟨x, hx, e2⟩ := reZ.1 hm; obtain ⟨c', k, rfl, h1, h2, _⟩ := pdSgs_mem l (i + 1) x hx; simp only [pdSg] at e2; omega
theorem pdM_right {v f : Int} {ls : List Nat} (hv : 0 ≤ v ∧ v ≤ 255) (hf : 0 ≤ f ∧ f ≤ 255) (hl : ∀ c ∈ ls, c < 256) : (pdM v f ls).right = true := by
 unfold Mf.right Mf.counts pdM; simp only [qrZ, decide_eq_true_eq]
 refine ⟨by omega, by simp; omega, ?_, pdSgs_nodup _ 0⟩
 rw [s5Z]; intro x hx; obtain ⟨c, k, rfl, _, hk, hc⟩ := pdSgs_mem _ _ _ hx; have := hl c (List.mem_of_mem_take hc); simp at hk; simp only [Sg.ok, pdSg]
 exact decide_eq_true (by omega)
theorem pmade_ct (v f : Int) (hv : 0 ≤ v ∧ v ≤ 255) (hf : 0 ≤ f ∧ f ≤ 255) (ls : List Nat) (hl : ∀ c ∈ ls, c < 256) (hll : ls.length ≤ 9223372036854775807) :
   Ct Pz 49 [.agg [.int .u8 v, .int .u8 f, .sl 0 0 ls.length 1 false, .bool false]] [.cells false (ls.map aB)] (mfA 1 (pdM v f ls)) [.cells false (ls.map aB), .cells true (sgsA (pdM v f ls).segs)] := by
 have hΓ : GOk Pz (gams []) := goks_nil; unfold pdM mfA; refine ct_of_sim Tryz.func49 rfl ?_; simp only [Tryz.ntmps49, q7Z, q8Z, Nat.reduceAdd, Nat.reduceSub, qbZ, q9Z, qaZ]
 have w1 : IntKind.i64.wrap (1 + f) = 1 + f := wr_i64 (by omega) (by omega)
 have w2 : IntKind.i64.wrap v = v := wr_i64 (by omega) (by omega)
 have w3 : IntKind.i64.wrap f = f := wr_i64 (by omega) (by omega)
 refine Sim.step hmix hΓ (n := 0) (by simp; exact ⟨rfl, rfl⟩) (by simp) ?_
 refine Sim.step hmix hΓ (n := 0) (by simp +decide [w1, w2, w3]; exact ⟨rfl, rfl⟩) (by simp) ?_
 refine Sim.seq (Sim.step hmix hΓ (n := 0) (by simp; exact ⟨rfl, rfl⟩) (by simp) ?_)
 refine Sim.block (Sim.loopW (fun k : Nat => k ≤ ls.length ∧ k ≤ 5)
   (fun k => [.top, .ptr 1 0, .ptr 2 0, .ptr 3 0, .int .i64 k] ++ qbZ 49 .top)
   (fun k => [.cells false (ls.map aB), .cells true [.int .u8 v, .int .u8 f, .sl 0 0 ls.length 1 false, .bool false], .cells true [.int .i64 0, .int .i64 0, .int .i64 0, .nils], .cells true [.int .i64 v, .int .i64 (1 + f), .int .i64 40, .sl 4 0 k 3 false], .cells true (sgsA (pdSgs (ls.take k) 0))]) (fun k => ls.length - k) 0 (by simp) (by simp) (Weak.mk' [0, 1, 2, 3, 100] (by decide) (by decide) (by simp) (by simp)) fun k hk => ?_)
 obtain ⟨hk, hk5⟩ := hk; by_cases hlt : k < ls.length ∧ k < 5
 · obtain ⟨c1, c2⟩ := hlt
   have c2' : (k : Int) < 5 := by omega
   obtain ⟨c, hc⟩ : ∃ c, ls[k]? = some c := ⟨_, q3Z c1⟩; have hcb := hl c (qcZ hc)
   have e : pdSgs (ls.take (k + 1)) 0 = pdSgs (ls.take k) 0 ++ [pdSg c k] := by
     rw [List.take_add_one, hc, Option.toList_some, pdSgs_snoc]; simp; congr 1; omega
   obtain ⟨L, eL⟩ : ∃ L, pdSgs (ls.take k) 0 = L := ⟨_, rfl⟩
   have hL : L.length = k := by rw [← eL]; simp; omega
   rw [eL] at e ⊢; have q1 := bytesB_get ls k c hc
   have t7 : (c : Int).tmod 7 = ((c % 7 : Nat) : Int) := by rw [rrZ (by omega)]; omega
   have t7u : IntKind.u8.wrap ((c % 7 : Nat) : Int) = ((c % 7 : Nat) : Int) := wr_u8 (by omega) (by omega)
   obtain ⟨m7, hm7⟩ : ∃ m : Nat, c % 7 = m := ⟨_, rfl⟩
   have hm7b : m7 < 7 := by omega
   have hsg : pdSg c k = (1 + 7 * (k : Int) + (m7 : Int), 1 + (c : Int), 30 + (k : Int)) := by unfold pdSg; rw [hm7]
   rw [hm7] at t7 t7u
   have y0 : IntKind.i64.wrap (m7 : Int) = m7 := wr_i64 (by omega) (by omega)
   have y1 : IntKind.i64.wrap (7 * (k : Int)) = 7 * k := wr_i64 (by omega) (by omega)
   have y2 : IntKind.i64.wrap (1 + 7 * (k : Int)) = 1 + 7 * k := wr_i64 (by omega) (by omega)
   have y3 : IntKind.i64.wrap (1 + 7 * (k : Int) + m7) = 1 + 7 * k + m7 := wr_i64 (by omega) (by omega)
   have y4 : IntKind.i64.wrap (1 + (c : Int)) = 1 + c := wr_i64 (by omega) (by omega)
   have y5 : IntKind.i64.wrap (30 + (k : Int)) = 30 + k := wr_i64 (by omega) (by omega)
   have y6 : IntKind.i64.wrap ((k : Int) + 1) = k + 1 := wr_i64 (by omega) (by omega)
   have y7 : IntKind.i64.wrap (c : Int) = c := wr_i64 (by omega) (by omega)
   have tkL : (sgsA L).take (k * 3) = sgsA L := q6Z (by simp; omega)
   have b1 : (k + 1) * 24 ≤ 140737488355328 := by omega
   have b2 : k + 1 ≤ 9223372036854775807 := by omega
   refine Sim.step hmix hΓ (n := 0) (by simp [c1, c2']; exact ⟨rfl, rfl⟩) (by simp) ?_
   refine Sim.seq (Sim.block (Sim.draw hmix (by simp) ?_))
   refine SimR.many hΓ 24 (by simp [stageOps]; rfl) (by omega) (by kernel_rfl) (by simp +decide [c1, q1, t7, y0, y1, y2, y3, y4, y5, y7]; exact ⟨rfl, rfl⟩) ?_
   refine SimR.one hΓ _ rfl (by kernel_rfl) (by simp +decide [hL, tkL, b1, b2]; exact ⟨rfl, rfl⟩) ?_
   refine SimR.many hΓ 27 (by simp [stageOps, blankOp]; rfl) (by omega) (by kernel_rfl) (by simp +decide; exact ⟨rfl, rfl⟩) ?_
   refine SimR.done rfl ?_; dsimp only
   refine Sim.exec hmix hΓ (n := 0) (by simp [y6]; exact ⟨rfl, rfl, rfl⟩) (by simp) ?_
   exact ⟨k + 1, by omega, Weak.mk' [0, 1, 2, 3, 6] (by decide) (by decide) (by simp) (by simp [e, sgsA, sgA, hsg]), by omega⟩
 have e1 : ls.take k = ls.take 5 ∧ k = min ls.length 5 := by
   rcases s2Z k 5 with h1 | h1
   · rw [q6Z (by omega), q6Z (by omega)]; exact ⟨rfl, by omega⟩
   · rw [show k = 5 by omega]; exact ⟨rfl, by omega⟩
 obtain ⟨e1, e2⟩ := e1
 have hq : (if ls.length < 5 then ls.length else 5) = k := by split <;> omega
 by_cases c1 : k < ls.length
 · have c2 : ¬ ((k : Int) < 5) := by omega
   refine Sim.exec hmix hΓ (n := 0) (by simp [c1, c2]; exact ⟨rfl, rfl, rfl⟩) (by simp) ?_
   dsimp only; rw [if_pos rfl]
   refine Sim.step hmix hΓ (n := 0) (by simp; exact ⟨rfl, rfl⟩) (by simp) ?_
   refine Sim.exec hmix hΓ (n := 0) (by simp; exact ⟨rfl, rfl, rfl⟩) (by simp) ?_
   exact ⟨.inr rfl, _, by simp [Tryz.f49] <;> rfl, Weak.mk' [0, 4] (by decide) (by decide) (by simp; omega) (by simp [e1])⟩
 · refine Sim.exec hmix hΓ (n := 0) (by simp [c1]; exact ⟨rfl, rfl, rfl⟩) (by simp) ?_
   dsimp only; rw [if_pos rfl]
   refine Sim.step hmix hΓ (n := 0) (by simp; exact ⟨rfl, rfl⟩) (by simp) ?_
   refine Sim.exec hmix hΓ (n := 0) (by simp; exact ⟨rfl, rfl, rfl⟩) (by simp) ?_
   exact ⟨.inr rfl, _, by simp [Tryz.f49] <;> rfl, Weak.mk' [0, 4] (by decide) (by decide) (by simp; omega) (by simp [e1])⟩
def pmadeS : Summ := readNewS fun args H => match args with
 | [.agg [.int .u8 v, .int .u8 f, x, .bool false]] => match rowNs H x with
   | some ls => if (0 ≤ v ∧ v ≤ 255) ∧ (0 ≤ f ∧ f ≤ 255) then some (mfA 0 (pdM v f ls), [.cells true (sgsA (pdM v f ls).segs)]) else none
   | _ => none
 | _ => none
theorem pmade_sound : Sound Pz 49 pmadeS := by
 refine sound_readNew (enter_of Tryz.func49 rfl (by decide)) fun args H v N h => ?_
 split at h <;> try cases h
 rename_i v f x
 split at h <;> try cases h
 rename_i ls hx
 split at h <;> cases h
 rename_i hc; obtain ⟨h1, h2, b1, o1, w1, g1⟩ := rowNs_win hx; refine ct_winN (H0 := [.cells false (ls.map aB)]) (args0 := [.agg [.int .u8 v, .int .u8 f, .sl 0 0 ls.length 1 false, .bool false]]) ?_ rfl [(b1, o1)] ?_ ⟨g1, frees_aB _, trivial⟩
 · have := pmade_ct v f hc.1 hc.2 ls h1 h2
   simpa [mfA] using this
 · refine ⟨?_, trivial⟩
   unfold winA
   refine ⟨?_, ?_, w1 0 _ rfl, ?_, trivial⟩ <;> (unfold winA; exact ⟨rfl, rfl⟩)
end
end Go.Proofs.YthafeihjlamhhaaGreatDoor
