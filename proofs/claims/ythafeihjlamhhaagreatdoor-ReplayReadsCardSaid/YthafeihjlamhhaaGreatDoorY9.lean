/- Parts of the proof of ReplayReads: lemmas, each with its own conditions. -/
import Derived.Test.YthafeihjlamhhaaGreatDoorY6
import Derived.Test.YthafeihjlamhhaaGreatDoorY8
namespace Go.Proofs.YthafeihjlamhhaaGreatDoor
open Go
set_option maxRecDepth 100000
attribute [-simp] drawOk_eq adraw qrun acode aops
def asc (l : List En) : Prop := l.Pairwise fun x y => x.1 < y.1
instance (l : List En) : Decidable (asc l) := by unfold asc; infer_instance
end Go.Proofs.YthafeihjlamhhaaGreatDoor
namespace Go.Proofs.YthafeihjlamhhaaGreatDoor
open Go Go.RowKit Go.Lib
set_option maxRecDepth 100000
attribute [-simp] drawOk_eq adraw qrun acode aops
def bareE (e : En) : En := (e.1, if e.2.2 then 0 else e.2.1, e.2.2)
end Go.Proofs.YthafeihjlamhhaaGreatDoor
namespace Go.Proofs.YthafeihjlamhhaaGreatDoor
open Go
set_option maxRecDepth 100000
attribute [-simp] drawOk_eq adraw qrun acode aops
theorem okW_iff (w : List UInt8) : okW w = true ↔ 1 ≤ w.length ∧ w.length ≤ 255 := by simp [okW]
def dletter (c : Nat) : Nat := if c % 8 < 7 then 97 + c % 8 % 3 else c
def dword (ls : List Nat) : List UInt8 := (ls.take 9).map fun c => UInt8.ofNat (dletter c)
def dE (ls : List Nat) (n : Int) (g : Bool) : En := bareE (if dword ls = [] then [97] else dword ls, n, g)
theorem dE_ok (ls : List Nat) (n : Int) (g : Bool) (hn : okN n = true) : okW (dE ls n g).1 = true ∧ okN (dE ls n g).2.1 = true ∧ ((dE ls n g).2.2 = true → (dE ls n g).2.1 = 0) := by
  unfold dE bareE
  refine ⟨?_, ?_, ?_⟩
  · rw [okW_iff]
    dsimp only
    split
    · simp
    · rename_i h
      have h1 : (dword ls).length ≤ 9 := by simp [dword]; omega
      have h2 : (dword ls).length ≠ 0 := by simpa using h
      omega
  · dsimp only
    split
    · rfl
    · exact hn
  · dsimp only
    intro h
    rw [if_pos h]
theorem bare_ct (e : En) : Ct Tryz.prog 145 [.agg (enA e)] [] (.agg (enA (bareE e))) [] := by
  obtain ⟨w, n, g⟩ := e
  unfold bareE
  refine ct_val hmix goks_nil (n := 0) Tryz.func145 ?_ rfl
  unfold Tryz.f145
  cases g <;> simp [enA]
def bareS : Summ := pureS fun | [.agg [.str w, .int .u32 n, .bool g]] => some (.agg (enA (bareE (w, n, g)))) | _ => none
theorem bare_sound : Sound Tryz.prog 145 bareS := by
  refine sound_pure (enter_of Tryz.func145 rfl (by decide)) fun args v h => ?_
  split at h <;> cases h
  rename_i w n g
  exact ⟨bare_ct (w, n, g), rfl, rfl⟩
def draΓ : Gam := gams [(145, bareS)]
theorem draΓ_ok : GOk Tryz.prog draΓ := goks_cons bare_sound goks_nil
def dw (ls : List Nat) (k : Nat) : List UInt8 := (ls.take k).map fun c => UInt8.ofNat (dletter c)
theorem dw_snoc (ls : List Nat) (k c : Nat) (h : ls[k]? = some c) : dw ls (k + 1) = dw ls k ++ [UInt8.ofNat (dletter c)] := by
  unfold dw
  rw [List.take_add_one, h]
  simp
set_option maxHeartbeats 8000000 in
theorem draft_ct (ls : List Nat) (n : Int) (g : Bool) (hl : ∀ c ∈ ls, c < 256) (hll : ls.length ≤ 9223372036854775807) :
    Ct Tryz.prog 71 [.agg [.sl 0 0 ls.length 1 false, .int .u32 n, .bool g]] [.cells false (ls.map aB)] (.agg (enA (dE ls n g))) [.cells false (ls.map aB)] := by
  refine ct_of_sim Tryz.func71 rfl ?_
  simp only [Tryz.ntmps71, List.length_cons, List.length_nil, Nat.reduceAdd, Nat.reduceSub, List.replicate, List.cons_append, List.nil_append]
  refine Sim.step hmix draΓ_ok (n := 0) (by simp; exact ⟨rfl, rfl⟩) (by simp) ?_
  refine Sim.step hmix draΓ_ok (n := 0) (by simp; exact ⟨rfl, rfl⟩) (by simp) ?_
  refine Sim.seq (Sim.step hmix draΓ_ok (n := 0) (by simp; exact ⟨rfl, rfl⟩) (by simp) ?_)
  refine Sim.block (Sim.loopW (fun k : Nat => k ≤ ls.length ∧ k ≤ 9)
    (fun k => [.top, .ptr 1 0, .ptr 2 0, .str (dw ls k), .int .i64 k] ++ List.replicate 38 .top)
    (fun _ => [.cells false (ls.map aB), .cells true [.sl 0 0 ls.length 1 false, .int .u32 n, .bool g], .cells true [.str [], .int .u32 0, .bool false]]) (fun k => 9 - k) 0 (by simp) (by simp) (Weak.mk' [0, 1, 2] (by decide) (by decide) (by simp [dw]) (by simp)) fun k hk => ?_)
  obtain ⟨hk1, hk2⟩ := hk
  have hdl : (dw ls k).length ≤ 9 := by simp [dw]; omega
  by_cases hlt : k < ls.length ∧ k < 9
  · obtain ⟨h1, h2⟩ := hlt
    have h2i : (k : Int) < 9 := by omega
    have h1i : (k : Int) < ls.length := by omega
    obtain ⟨c, hc⟩ : ∃ c, ls[k] = c := ⟨_, rfl⟩
    have hc' : ls[k]? = some c := by rw [List.getElem?_eq_getElem h1, hc]
    have c256 : c < 256 := hl c (List.mem_of_getElem? hc')
    have hn := dw_snoc ls k c hc'
    have g1 : ∀ h, (ls.map aB)[k]'h = .int .u8 c := fun h => by rw [List.getElem_map, hc]; rfl
    obtain ⟨d1, hd1⟩ : ∃ d1, c % 8 = d1 := ⟨_, rfl⟩
    obtain ⟨d2, hd2⟩ : ∃ d2, d1 % 3 = d2 := ⟨_, rfl⟩
    have m1 : (c : Int).tmod 8 = (d1 : Int) := by rw [tmod_nn (by omega)]; omega
    have m2 : (d1 : Int).tmod 3 = (d2 : Int) := by rw [tmod_nn (by omega)]; omega
    have w1 : IntKind.u8.wrap (d1 : Int) = (d1 : Int) := wr_u8 (by omega) (by omega)
    have w2 : IntKind.u8.wrap (d2 : Int) = (d2 : Int) := wr_u8 (by omega) (by omega)
    have w3 : IntKind.u8.wrap (97 + (d2 : Int)) = 97 + (d2 : Int) := wr_u8 (by omega) (by omega)
    have w4 : IntKind.i64.wrap ((k : Int) + 1) = k + 1 := wr_i64 (by omega) (by omega)
    have hb1 : (dw ls k).length + 1 ≤ 9223372036854775807 := by omega
    have hb2 : 1 + (dw ls k).length ≤ 9223372036854775807 := by omega
    refine Sim.step hmix draΓ_ok (n := 0) (by simp [h1, h1i, h2, h2i]; exact ⟨rfl, rfl⟩) (by simp) ?_
    refine Sim.seq (Sim.block ?_)
    refine Sim.step hmix draΓ_ok (n := 0) (by simp [h1, g1]; exact ⟨rfl, rfl⟩) (by simp) ?_
    by_cases h7 : c % 8 < 7
    · have h7i : (d1 : Int) < 7 := by omega
      have hd : dletter c = 97 + d2 := by unfold dletter; rw [if_pos h7, hd1, hd2]
      have w5 : ((97 : Int) + (d2 : Int)).toNat = 97 + d2 := by omega
      refine Sim.step hmix draΓ_ok (n := 0) (by simp [m1, w1, h7i, m2, w2, w3]; exact ⟨rfl, rfl⟩) (by simp) ?_
      refine Sim.exec hmix draΓ_ok (n := 0) (by simp [hb1, hb2, w5]; exact ⟨rfl, rfl, rfl⟩) (by simp) ?_
      dsimp only
      refine Sim.exec hmix draΓ_ok (n := 0) (by simp [w4]; exact ⟨rfl, rfl, rfl⟩) (by simp) ?_
      dsimp only
      exact ⟨k + 1, ⟨by omega, by omega⟩, Weak.mk' [0, 1, 2] (by decide) (by decide) (by simp [hn, hd]) (by simp), by omega⟩
    · have h7i : ¬ (d1 : Int) < 7 := by omega
      have hd : dletter c = c := by unfold dletter; rw [if_neg h7]
      refine Sim.step hmix draΓ_ok (n := 0) (by simp [m1, w1, h7i]; exact ⟨rfl, rfl⟩) (by simp) ?_
      refine Sim.exec hmix draΓ_ok (n := 0) (by simp [hb1, hb2]; exact ⟨rfl, rfl, rfl⟩) (by simp) ?_
      dsimp only
      refine Sim.exec hmix draΓ_ok (n := 0) (by simp [w4]; exact ⟨rfl, rfl, rfl⟩) (by simp) ?_
      dsimp only
      exact ⟨k + 1, ⟨by omega, by omega⟩, Weak.mk' [0, 1, 2] (by decide) (by decide) (by simp [hn, hd]) (by simp), by omega⟩
  · have hdw : dw ls k = dword ls := by
      unfold dw dword
      rcases Nat.lt_or_ge k 9 with h9 | h9
      · have : k = ls.length := by omega
        rw [this, List.take_length, List.take_of_length_le (by omega)]
      · rw [show k = 9 by omega]
    rw [hdw]
    obtain ⟨D, hD⟩ : ∃ D, dword ls = D := ⟨_, rfl⟩
    rw [hD]
    by_cases h1 : k < ls.length
    · have h1i : (k : Int) < ls.length := by omega
      have h2i : ¬ (k : Int) < 9 := by omega
      refine Sim.exec hmix draΓ_ok (n := 0) (by simp [h1, h1i, h2i]; exact ⟨rfl, rfl, rfl⟩) (by simp) ?_
      dsimp only
      rw [if_pos rfl]
      by_cases he : D = []
      · subst he
        refine Sim.step hmix draΓ_ok (n := 0) (by simp; exact ⟨rfl, rfl⟩) (by simp) ?_
        refine Sim.exec hmix draΓ_ok (n := 0) (by simp [draΓ, bareS, enA, bareE]; exact ⟨rfl, rfl, rfl⟩) (by simp) ?_
        exact ⟨.inr rfl, _, by simp; rfl, Weak.mk' [0] (by decide) (by decide) (by simp [dE, hD, enA, bareE]) (by simp)⟩
      · have hE : D.isEmpty = false := by cases D with | nil => exact absurd rfl he | cons => rfl
        refine Sim.step hmix draΓ_ok (n := 0) (by simp [he, hE]; exact ⟨rfl, rfl⟩) (by simp) ?_
        refine Sim.exec hmix draΓ_ok (n := 0) (by simp [draΓ, bareS, enA, bareE]; exact ⟨rfl, rfl, rfl⟩) (by simp) ?_
        exact ⟨.inr rfl, _, by simp; rfl, Weak.mk' [0] (by decide) (by decide) (by simp [dE, hD, he, enA, bareE]) (by simp)⟩
    · have h1i : ¬ (k : Int) < ls.length := by omega
      refine Sim.exec hmix draΓ_ok (n := 0) (by simp [h1, h1i]; exact ⟨rfl, rfl, rfl⟩) (by simp) ?_
      dsimp only
      rw [if_pos rfl]
      by_cases he : D = []
      · subst he
        refine Sim.step hmix draΓ_ok (n := 0) (by simp; exact ⟨rfl, rfl⟩) (by simp) ?_
        refine Sim.exec hmix draΓ_ok (n := 0) (by simp [draΓ, bareS, enA, bareE]; exact ⟨rfl, rfl, rfl⟩) (by simp) ?_
        exact ⟨.inr rfl, _, by simp; rfl, Weak.mk' [0] (by decide) (by decide) (by simp [dE, hD, enA, bareE]) (by simp)⟩
      · have hE : D.isEmpty = false := by cases D with | nil => exact absurd rfl he | cons => rfl
        refine Sim.step hmix draΓ_ok (n := 0) (by simp [he, hE]; exact ⟨rfl, rfl⟩) (by simp) ?_
        refine Sim.exec hmix draΓ_ok (n := 0) (by simp [draΓ, bareS, enA, bareE]; exact ⟨rfl, rfl, rfl⟩) (by simp) ?_
        exact ⟨.inr rfl, _, by simp; rfl, Weak.mk' [0] (by decide) (by decide) (by simp [dE, hD, he, enA, bareE]) (by simp)⟩
def draftOf (H : AHeap) : AV → Option (List Nat × Int × Bool)
  | .agg [.nils, .int .u32 n, .bool g] => some ([], n, g)
  | .agg [.slice b off len 1 _, .int .u32 n, .bool g] => match H[b]? with
    | some (.cells _ l) => match natsOf .u8 ((l.drop off).take len) with
      | some ls => if off + len ≤ l.length ∧ ls.all (· < 256) = true ∧ len ≤ 9223372036854775807 then some (ls, n, g) else none
      | none => none
    | _ => none
  | .agg [.sl b off len 1 _, .int .u32 n, .bool g] => match H[b]? with
    | some (.cells _ l) => match natsOf .u8 ((l.drop off).take len) with
      | some ls => if off + len ≤ l.length ∧ ls.all (· < 256) = true ∧ len ≤ 9223372036854775807 then some (ls, n, g) else none
      | none => none
    | _ => none
  | _ => none
theorem draft_win {H : AHeap} {x : AV} {ls : List Nat} {n : Int} {g : Bool} (h : draftOf H x = some (ls, n, g)) : (∀ c ∈ ls, c < 256) ∧ ls.length ≤ 9223372036854775807 ∧ ∃ b off, (∀ (i : Nat) (wd : List (Nat × Nat)), wd[i]? = some (b, off) → winA wd (.agg [.sl i 0 ls.length 1 false, .int .u32 n, .bool g]) x) ∧
    (match H[b]? with | some (.cells _ l) => off + (ls.map aB).length ≤ l.length ∧ ls.map aB = (l.drop off).take (ls.map aB).length | none => True | _ => False) := by
  have key : ∀ (b off len : Nat) (o : Bool) (l : List AV) (ms : List Nat), H[b]? = some (.cells o l) → natsOf .u8 ((l.drop off).take len) = some ms → off + len ≤ l.length → len = ms.length ∧ off + (ms.map aB).length ≤ l.length ∧ ms.map aB = (l.drop off).take (ms.map aB).length := by
    intro b off len o l ms hb hs hle
    have e := natsOf_eq hs
    have hlen : len = ms.length := by
      have := congrArg List.length e
      simp at this
      omega
    subst hlen
    exact ⟨rfl, by simpa using hle, by rw [List.length_map]; exact e.symm⟩
  unfold draftOf at h
  split at h
  · cases h
    exact ⟨by simp, by simp, H.length, 0, fun i wd _ => by simp [winA, winAs], by simp⟩
  · rename_i b off len c n' g'
    split at h
    rotate_left
    · cases h
    rename_i o l hb
    split at h
    rotate_left
    · cases h
    rename_i ms hms
    split at h <;> cases h
    rename_i hc
    obtain ⟨rfl, h1, h2⟩ := key b off len o l _ hb hms hc.1
    exact ⟨by simpa using hc.2.1, hc.2.2, b, off, fun i wd hw => by simp [winA, winAs, hw], by rw [hb]; exact ⟨h1, h2⟩⟩
  · rename_i b off len c n' g'
    split at h
    rotate_left
    · cases h
    rename_i o l hb
    split at h
    rotate_left
    · cases h
    rename_i ms hms
    split at h <;> cases h
    rename_i hc
    obtain ⟨rfl, h1, h2⟩ := key b off len o l _ hb hms hc.1
    exact ⟨by simpa using hc.2.1, hc.2.2, b, off, fun i wd hw => by simp [winA, winAs, hw], by rw [hb]; exact ⟨h1, h2⟩⟩
  · cases h
def draftS : Summ := readS fun args H => match args with
  | [x] => match draftOf H x with
    | some (ls, n, g) => some (.agg (enA (dE ls n g)))
    | none => none
  | _ => none
theorem draft_sound : Sound Tryz.prog 71 draftS := by
  refine sound_read (enter_of Tryz.func71 rfl (by decide)) fun args H v h => ?_
  split at h <;> try cases h
  rename_i x
  split at h <;> cases h
  rename_i ls n g hx
  obtain ⟨h1, h2, b1, o1, w1, g1⟩ := draft_win hx
  refine ct_win (draft_ct ls n g h1 h2) rfl [(b1, o1)] ?_ ?_
  · exact ⟨w1 0 _ rfl, trivial⟩
  · exact ⟨g1, frees_aB _, trivial⟩
end Go.Proofs.YthafeihjlamhhaaGreatDoor
