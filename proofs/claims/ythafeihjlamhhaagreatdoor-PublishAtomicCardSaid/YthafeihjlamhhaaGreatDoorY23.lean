/- Parts of the proof of PublishAtomic: lemmas, each with its own conditions. -/
import Derived.Test.YthafeihjlamhhaaGreatDoorY7
import Derived.Test.YthafeihjlamhhaaGreatDoorY22
set_option maxHeartbeats 64000000
open List renaming getElem?_eq_some_iff → q1Z, getD_eq_getElem?_getD → q2Z, getElem?_eq_getElem → q3Z, take_of_length_le → q6Z, length_cons → q7Z, length_nil → q8Z, cons_append → q9Z, nil_append → qaZ, replicate → qbZ, mem_of_getElem? → qcZ, length_append → qdZ, mem_cons_self → qhZ, mem_cons_of_mem → qiZ, mem_cons → qwZ, mem_append → qxZ, append_nil → r2Z, getElem?_drop → r5Z, take_append_drop → r6Z, length_map → r7Z, nodup_cons → rdZ, map_cons → s1Z, all_eq_true → s5Z
open Option renaming map_eq_some_iff → qlZ
open Nat renaming zero_le → qqZ
open Bool renaming and_eq_true → qrZ
open Int renaming toNat_of_nonneg → rqZ
namespace Go.Proofs.YthafeihjlamhhaaGreatDoor
open _root_.Go.Proofs.Tryz renaming prog → Pz
set_option maxRecDepth 100000
section
open Go
attribute [-simp] drawOk_eq adraw qrun acode aops
abbrev Sg := Int × Int × Int
def sgA (s : Sg) : List AV := [.int .i64 s.1, .int .i64 s.2.1, .int .i64 s.2.2]
def sgsA : List Sg → List AV
 | [] => []
 | s :: l => sgA s ++ sgsA l
@[simp] theorem sgsA_length : ∀ l : List Sg, (sgsA l).length = l.length * 3
 | [] => rfl
 | s :: l => by simp [sgsA, sgA, sgsA_length l]; omega
@[simp] theorem frees_sgs : ∀ l : List Sg, frees (sgsA l) = true
 | [] => rfl
 | s :: l => by simp [sgsA, sgA, frees_sgs l]
theorem sgs_get : ∀ (l : List Sg) (k : Nat) (h : k < l.length), ((sgsA l).drop (k * 3)).take 3 = sgA l[k]
 | s :: l, 0, _ => by simp [sgsA, sgA]
 | s :: l, k + 1, h => by
   have := sgs_get l k (by simpa using h)
   rw [show (k + 1) * 3 = k * 3 + 3 by omega]
   simpa [sgsA, sgA] using this
theorem equal_ct (a b : List Sg) (ha : a.length ≤ 1000000000000) :
   Ct Pz 188 [.sl 0 0 a.length 3 false, .sl 1 0 b.length 3 false] [.cells false (sgsA a), .cells false (sgsA b)] (.bool (decide (a = b))) [.cells false (sgsA a), .cells false (sgsA b)] := by
 refine ct_of_sim Tryz.func188 rfl ?_; simp only [Tryz.ntmps188, q7Z, q8Z, Nat.reduceAdd, Nat.reduceSub, qbZ, q9Z, qaZ]
 refine Sim.step hmix goks_nil (n := 0) (by simp; exact ⟨rfl, rfl⟩) (by simp) ?_
 by_cases hl : a.length = b.length; rotate_left
 · have e : decide (a = b) = false := by simp; rintro rfl; exact hl rfl
   rw [e]
   have hl3 : ((a.length : Int) != (b.length : Int)) = true := by simp; omega
   refine Sim.exec hmix goks_nil (n := 0) (by simp [hl3]; exact ⟨rfl, rfl, rfl⟩) (by simp) ?_
   exact ⟨.inr rfl, _, by simp; rfl, Weak.mk' [0, 1] (by decide) (by decide) (by simp) (by simp)⟩
 refine Sim.step hmix goks_nil (n := 0) (by simp [hl]; exact ⟨rfl, rfl⟩) (by simp) ?_
 refine Sim.seq (Sim.step hmix goks_nil (n := 0) (by simp; exact ⟨rfl, rfl⟩) (by simp) ?_)
 refine Sim.block (Sim.loopW (fun k : Nat => k ≤ a.length ∧ a.take k = b.take k)
   (fun k => [.sl 0 0 a.length 3 false, .sl 1 0 b.length 3 false, .top, .top, .bool false, .top, .top, .top, .top, .top, .top, .top, .int .i64 a.length, .int .i64 k] ++ qbZ 12 .top)
   (fun _ => [.cells false (sgsA a), .cells false (sgsA b)]) (fun k => a.length - k) 0 (by simp) (by simp) (Weak.mk' [0, 1] (by decide) (by decide) (by simp [hl]) (by simp)) fun k hk => ?_)
 obtain ⟨hk, hak⟩ := hk; by_cases hlt : k < a.length
 · have hltb : k < b.length := by omega
   have hw : IntKind.i64.wrap ((k : Int) + 1) = k + 1 := wr_i64 (by omega) (by omega)
   have g1 := sgs_get a k hlt; have g2 := sgs_get b k hltb
   have k1 : k * 3 + 3 ≤ a.length * 3 := by omega
   have k2 : k * 3 + 3 ≤ b.length * 3 := by omega
   by_cases he : a[k] = b[k]
   · have ht : a.take (k + 1) = b.take (k + 1) := by
       rw [List.take_add_one, List.take_add_one, hak, q3Z hlt, q3Z hltb, he]
     refine Sim.exec hmix goks_nil (n := 0) (by simp +decide [hlt, hltb, g1, g2, he, hw, k1, k2, sgA]; exact ⟨rfl, rfl, rfl⟩) (by simp) ?_
     exact ⟨k + 1, ⟨by omega, ht⟩, Weak.mk' [0, 1] (by decide) (by decide) (by simp) (by simp), by omega⟩
   · have e : decide (a = b) = false := by simp; rintro rfl; exact he rfl
     rw [e]; obtain ⟨x, hx⟩ : ∃ x, a[k] = x := ⟨_, rfl⟩; obtain ⟨y, hy⟩ : ∃ y, b[k] = y := ⟨_, rfl⟩; rw [hx] at g1 he; rw [hy] at g2 he
     have hne : (x.1 == y.1 && (x.2.1 == y.2.1 && (x.2.2 == y.2.2 && true))) = false := by
       obtain ⟨x1, x2, x3⟩ := x; obtain ⟨y1, y2, y3⟩ := y; simp at he ⊢; exact he
     refine Sim.exec hmix goks_nil (n := 0) (by simp +decide [hlt, hltb, g1, g2, k1, k2, sgA, -Bool.and_true, hne]; exact ⟨rfl, rfl, rfl⟩) (by simp) ?_
     exact ⟨.inr rfl, _, by simp; rfl, Weak.mk' [0, 1] (by decide) (by decide) (by simp) (by simp)⟩
 · have e : decide (a = b) = true := by
     rw [q6Z (by omega), q6Z (by omega)] at hak
     simpa using hak
   rw [e]
   refine Sim.exec hmix goks_nil (n := 0) (by simp [hlt]; exact ⟨rfl, rfl, rfl⟩) (by simp) ?_
   dsimp only; rw [if_pos rfl]
   refine Sim.exec hmix goks_nil (n := 0) (by simp; exact ⟨rfl, rfl, rfl⟩) (by simp) ?_
   exact ⟨.inr rfl, _, by simp; rfl, Weak.mk' [0, 1] (by decide) (by decide) (by simp) (by simp)⟩
end
section
open Go
def sgsOf : List AV → Option (List Sg)
 | [] => some []
 | .int .i64 a :: .int .i64 b :: .int .i64 c :: l => (sgsOf l).map ((a, b, c) :: ·)
 | _ => none
theorem sgsOf_eq : ∀ {xs : List AV} {l : List Sg}, sgsOf xs = some l → xs = sgsA l
 | [], l, h => by cases h; rfl
 | x :: xs, l, h => by
   unfold sgsOf at h; split at h
   · cases ‹_ = []›
   · rename_i a b c ys e
     cases e; obtain ⟨l', hl', rfl⟩ := qlZ.1 h; rw [sgsOf_eq hl']; rfl
   · cases h
@[simp] theorem sgsOf_sgsA : ∀ l : List Sg, sgsOf (sgsA l) = some l
 | [] => rfl
 | s :: l => by simp [sgsA, sgA, sgsOf, sgsOf_sgsA l]
@[simp] theorem take_sgsA (l : List Sg) : (sgsA l).take (l.length * 3) = sgsA l := by rw [← sgsA_length, List.take_length]
@[simp] theorem sgsA_append (a b : List Sg) : sgsA (a ++ b) = sgsA a ++ sgsA b := by
 induction a with
 | nil => rfl
 | cons x a ih => simp [sgsA, ih]
def rowSgs (H : AHeap) : AV → Option (List Sg)
 | .nils => some []
 | .slice b off len 3 _ => match H[b]? with
   | some (.cells _ l) => if off + len * 3 ≤ l.length then sgsOf ((l.drop off).take (len * 3)) else none
   | _ => none
 | .sl b off len 3 _ => match H[b]? with
   | some (.cells _ l) => if off + len * 3 ≤ l.length then sgsOf ((l.drop off).take (len * 3)) else none
   | _ => none
 | _ => none
theorem rowSgs_win {H : AHeap} {x : AV} {a : List Sg} (h : rowSgs H x = some a) : ∃ b off, (∀ (i : Nat) (wd : List (Nat × Nat)), wd[i]? = some (b, off) → winA wd (.sl i 0 a.length 3 false) x) ∧
   (match H[b]? with | some (.cells _ l) => off + (sgsA a).length ≤ l.length ∧ sgsA a = (l.drop off).take (sgsA a).length | none => True | _ => False) := by
 have key : ∀ (b off len : Nat) (o : Bool) (l : List AV), H[b]? = some (.cells o l) → off + len * 3 ≤ l.length → sgsOf ((l.drop off).take (len * 3)) = some a → len = a.length ∧ off + (sgsA a).length ≤ l.length ∧ sgsA a = (l.drop off).take (sgsA a).length := by
   intro b off len o l hb hle hs; have e := sgsOf_eq hs
   have hlen : len = a.length := by
     have := congrArg List.length e; simp at this; omega
   subst hlen
   exact ⟨rfl, by simpa using hle, by rw [sgsA_length]; exact e.symm⟩
 unfold rowSgs at h; split at h
 · cases h
   exact ⟨H.length, 0, fun i wd _ => by simp [winA], by simp⟩
 · rename_i b off len c
   split at h; rotate_left
   · cases h
   rename_i o l hb; split at h; rotate_left
   · cases h
   rename_i hle; obtain ⟨rfl, h1, h2⟩ := key b off len o l hb hle h
   exact ⟨b, off, fun i wd hw => by simp [winA, hw], by rw [hb]; exact ⟨h1, h2⟩⟩
 · rename_i b off len c
   split at h; rotate_left
   · cases h
   rename_i o l hb; split at h; rotate_left
   · cases h
   rename_i hle; obtain ⟨rfl, h1, h2⟩ := key b off len o l hb hle h
   exact ⟨b, off, fun i wd hw => by simp [winA, hw], by rw [hb]; exact ⟨h1, h2⟩⟩
 · cases h
def equalS : Summ := readS fun args H => match args with
 | [x, y] => match rowSgs H x, rowSgs H y with
   | some a, some b => if a.length ≤ 1000000000000 then some (.bool (decide (a = b))) else none
   | _, _ => none
 | _ => none
theorem equal_sound : Sound Pz 188 equalS := by
 refine sound_read (enter_of Tryz.func188 rfl (by decide)) fun args H v h => ?_
 split at h <;> try cases h
 rename_i x y
 split at h <;> try cases h
 rename_i a b hx hy
 split at h <;> cases h
 rename_i hc; obtain ⟨b1, o1, w1, g1⟩ := rowSgs_win hx; obtain ⟨b2, o2, w2, g2⟩ := rowSgs_win hy; refine ct_win (equal_ct a b hc) rfl [(b1, o1), (b2, o2)] ?_ ?_
 · exact ⟨w1 0 _ rfl, w2 1 _ rfl, trivial⟩
 · exact ⟨g1, frees_sgs _, g2, frees_sgs _, trivial⟩
end
section
open Go
attribute [-simp] drawOk_eq adraw qrun acode aops
structure Mf where
 v : Int
 f : Int
 n : Int
 segs : List Sg
 deriving DecidableEq
def mfA (b : Nat) (m : Mf) : AV := .agg [.int .i64 m.v, .int .i64 m.f, .int .i64 m.n, .sl b 0 m.segs.length 3 false]
theorem mf_dec (a b : Mf) : decide (a = b) = (a.v == b.v && (a.f == b.f && (a.n == b.n && decide (a.segs = b.segs)))) := by
 cases a; cases b
 simp only [Mf.mk.injEq]; rw [Bool.eq_iff_iff]; simp
def eqΓ : Gam := gams [(188, equalS)]
theorem eqΓ_ok : GOk Pz eqΓ := goks_cons equal_sound goks_nil
theorem msame_ct (a b : Mf) (ha : a.segs.length ≤ 1000000000000) :
   Ct Pz 120 [mfA 0 a, mfA 1 b] [.cells false (sgsA a.segs), .cells false (sgsA b.segs)] (.bool (decide (a = b))) [.cells false (sgsA a.segs), .cells false (sgsA b.segs)] := by
 rw [mf_dec]; obtain ⟨av, af, an, aS⟩ := a; obtain ⟨bv, bf, bn, bS⟩ := b; simp only at ha; refine ct_of_sim Tryz.func120 rfl ?_; simp only [Tryz.ntmps120, q7Z, q8Z, Nat.reduceAdd, Nat.reduceSub, qbZ, q9Z, qaZ]
 refine Sim.step hmix eqΓ_ok (n := 0) (by simp [mfA]; exact ⟨rfl, rfl⟩) (by simp) ?_
 have fin : ∀ (x y : List AV) (v : Bool), Weak 2 [.bool v] ([.cells false (sgsA aS), .cells false (sgsA bS)] ++ [.cells true x, .cells true y]) [.bool v] [.cells false (sgsA aS), .cells false (sgsA bS)] := fun x y v => Weak.mk' [0, 1] (by decide) (by decide) (by simp) (by simp)
 by_cases h1 : av = bv; rotate_left
 · have e1 : (av == bv) = false := by simpa using h1
   refine Sim.exec hmix eqΓ_ok (n := 0) (by simp [e1]; exact ⟨rfl, rfl, rfl⟩) (by simp) ?_
   exact ⟨.inr rfl, _, by simp [e1] <;> rfl, fin _ _ _⟩
 subst h1; by_cases h2 : af = bf; rotate_left
 · have e2 : (af == bf) = false := by simpa using h2
   refine Sim.exec hmix eqΓ_ok (n := 0) (by simp [e2]; exact ⟨rfl, rfl, rfl⟩) (by simp) ?_
   exact ⟨.inr rfl, _, by simp [e2] <;> rfl, fin _ _ _⟩
 subst h2; by_cases h3 : an = bn; rotate_left
 · have e3 : (an == bn) = false := by simpa using h3
   refine Sim.exec hmix eqΓ_ok (n := 0) (by simp [e3]; exact ⟨rfl, rfl, rfl⟩) (by simp) ?_
   exact ⟨.inr rfl, _, by simp [e3] <;> rfl, fin _ _ _⟩
 subst h3
 refine Sim.exec hmix eqΓ_ok (n := 0) (by simp [eqΓ, gams, equalS, readS, rowSgs, ha]; exact ⟨rfl, rfl, rfl⟩) (by simp) ?_
 exact ⟨.inr rfl, _, by simp <;> rfl, fin _ _ _⟩
def mfOf (H : AHeap) : AV → Option Mf
 | .agg [.int .i64 v, .int .i64 f, .int .i64 n, x] => (rowSgs H x).map fun l => ⟨v, f, n, l⟩
 | _ => none
@[simp] theorem mfOf_mk (H : AHeap) (v f n : Int) (x : AV) : mfOf H (.agg [.int .i64 v, .int .i64 f, .int .i64 n, x]) = (rowSgs H x).map fun l => ⟨v, f, n, l⟩ := rfl
theorem mf_win {H : AHeap} {x : AV} {m : Mf} (h : mfOf H x = some m) : ∃ b off, (∀ (i : Nat) (wd : List (Nat × Nat)), wd[i]? = some (b, off) → winA wd (mfA i m) x) ∧
   (match H[b]? with | some (.cells _ l) => off + (sgsA m.segs).length ≤ l.length ∧ sgsA m.segs = (l.drop off).take (sgsA m.segs).length | none => True | _ => False) := by
 unfold mfOf at h; split at h
 · rename_i v f n x
   obtain ⟨l, hl, rfl⟩ := qlZ.1 h; obtain ⟨b, off, w, g⟩ := rowSgs_win hl
   refine ⟨b, off, fun i wd hw => ?_, g⟩
   unfold mfA winA
   refine ⟨?_, ?_, ?_, w i wd hw, trivial⟩ <;> (unfold winA; exact ⟨rfl, rfl⟩)
 · cases h
def msameS : Summ := readS fun args H => match args with
 | [x, y] => match mfOf H x, mfOf H y with
   | some a, some b => if a.segs.length ≤ 1000000000000 then some (.bool (decide (a = b))) else none
   | _, _ => none
 | _ => none
theorem msame_sound : Sound Pz 120 msameS := by
 refine sound_read (enter_of Tryz.func120 rfl (by decide)) fun args H v h => ?_
 split at h <;> try cases h
 rename_i x y
 split at h <;> try cases h
 rename_i a b hx hy
 split at h <;> cases h
 rename_i hc; obtain ⟨b1, o1, w1, g1⟩ := mf_win hx; obtain ⟨b2, o2, w2, g2⟩ := mf_win hy; refine ct_win (msame_ct a b hc) rfl [(b1, o1), (b2, o2)] ?_ ?_
 · exact ⟨w1 0 _ rfl, w2 1 _ rfl, trivial⟩
 · exact ⟨g1, frees_sgs _, g2, frees_sgs _, trivial⟩
end
section
open Go
def Sg.ok (n : Int) (s : Sg) : Bool := decide (1 ≤ s.1 ∧ s.1 < n ∧ 1 ≤ s.2.1 ∧ s.2.1 ≤ 100000 ∧ 1 ≤ s.2.2 ∧ s.2.2 ≤ 1000000000)
def numsS (l : List Sg) : List Int := l.map (·.1)
def badAt (n : Int) : List Int → List Sg → Nat → Int
 | _, [], _ => -1
 | u, s :: l, i => if s.1 ∈ u ∨ Sg.ok n s = false then i else badAt n (u ++ [s.1]) l (i + 1)
def Mf.counts (m : Mf) : Bool := decide (0 ≤ m.v ∧ m.v ≤ 900000000 ∧ 1 ≤ m.f ∧ m.f ≤ 900000000 ∧ 1 ≤ m.n ∧ m.n ≤ 900000000)
def Mf.right (m : Mf) : Bool := m.counts && (decide (m.segs.length ≤ 1000) && (m.segs.all (Sg.ok m.n) && decide (numsS m.segs).Nodup))
theorem badAt_iff (n : Int) : ∀ (l : List Sg) (u : List Int) (i : Nat), (0 ≤ badAt n u l i) ↔ ¬ (l.all (Sg.ok n) = true ∧ (numsS l).Nodup ∧ ∀ x ∈ numsS l, x ∉ u)
 | [], u, i => by simp [badAt, numsS]
 | s :: l, u, i => by
   unfold badAt; by_cases h : s.1 ∈ u ∨ Sg.ok n s = false
   · rw [if_pos h]
     constructor
     · rintro _ ⟨h1, _, h3⟩
       rcases h with h | h
       · exact h3 s.1 (by simp [numsS]) h
       · simp [h] at h1
     · intro _; omega
   · rw [if_neg h, badAt_iff n l _ (i + 1)]
     simp only [not_or, Bool.not_eq_false] at h
     have e : (List.all (s :: l) (Sg.ok n) = true ∧ (numsS (s :: l)).Nodup ∧ ∀ x ∈ numsS (s :: l), x ∉ u) ↔ (l.all (Sg.ok n) = true ∧ (numsS l).Nodup ∧ ∀ x ∈ numsS l, x ∉ u ++ [s.1]) := by
       have e1 : numsS (s :: l) = s.1 :: numsS l := rfl; rw [e1, rdZ]; simp only [List.all_cons, h.2, Bool.true_and, qwZ, qxZ, not_or]; constructor
       · rintro ⟨a, ⟨b, c⟩, d⟩
         exact ⟨a, c, fun x hx => ⟨d x (.inr hx), fun hh => b (hh ▸ hx), by simp⟩⟩
       · rintro ⟨a, c, d⟩
         exact ⟨a, ⟨fun hx => (d _ hx).2.1 rfl, c⟩, fun x hx => by rcases hx with rfl | hx; exact h.1; exact (d x hx).1⟩
     rw [e]
theorem Mf.right_eq (m : Mf) : m.right = (m.counts && (decide (m.segs.length ≤ 1000) && !decide (0 ≤ badAt m.n [] m.segs 0))) := by
 have : (m.segs.all (Sg.ok m.n) && decide (numsS m.segs).Nodup) = !decide (0 ≤ badAt m.n [] m.segs 0) := by
   rw [Bool.eq_iff_iff]; simp only [qrZ, decide_eq_true_eq, Bool.not_eq_true', decide_eq_false_iff_not, badAt_iff]; simp
 unfold Mf.right; rw [this]
def usedA (u : List Int) : List (AV × AV) := u.map fun y => (.int .i64 y, .int .i64 1)
theorem find_used (x : Int) : ∀ (u : List Int) (i : Nat), findA (usedA u) (.int .i64 x) i = some (if x ∈ u then some (i + u.idxOf x, .int .i64 1) else none)
 | [], i => by simp [usedA, findA]
 | y :: u, i => by
   have ih := find_used x u (i + 1); simp only [usedA] at ih; by_cases h : x = y
   · subst h; simp [usedA, findA, primEq]
   · have h2 : (x == y) = false := by simpa using h
     have h3 : (y == x) = false := by simpa using (fun e => h e.symm)
     simp only [usedA, s1Z, findA, primEq, if_true, h2, ih, qwZ, h, false_or]; split
     · rw [List.idxOf_cons, h3]
       simp; omega
     · rfl
@[simp] theorem usedA_snoc (u : List Int) (x : Int) : usedA u ++ [(.int .i64 x, .int .i64 1)] = usedA (u ++ [x]) := by simp [usedA]
@[simp] theorem frees_used1 : ∀ u : List Int, frees ((usedA u).map fun x => x.fst) = true
 | [] => rfl
 | y :: u => by have := frees_used1 u; simpa [usedA] using this
@[simp] theorem frees_used2 : ∀ u : List Int, frees ((usedA u).map fun x => x.snd) = true
 | [] => rfl
 | y :: u => by have := frees_used2 u; simpa [usedA] using this
theorem ct_rd {P : Program} {Γ : Gam} (hm : P.follows .mixedOrders = true) (hΓ : GOk P Γ) {n : Nat} {f : FuncId} {fn : Func} (hf : P.funcs[f]? = some fn) {args : List AV} {H : AHeap} {v : AV} (h : ∃ X, runF P Γ n fn args H = some (v, H ++ X)) (hw : ∀ X, Weak H.length [v] (H ++ X) [v] H) : Ct P f args H v H := by
 obtain ⟨X, h⟩ := h; exact ct_run hm hΓ hf h (hw X)
end
section
open Go
attribute [-simp] drawOk_eq adraw qrun acode aops
def riInl : List FuncId := [177]
theorem riΓ_ok : GOk Pz (runG Pz (gams []) 0 riInl 1) := gok_run hmix goks_nil 0 riInl 1
theorem index_ct (m : Mf) (hl : m.segs.length ≤ 1000000000000) :
   Ct Pz 243 [.sl 0 0 m.segs.length 3 false, .func 177 [] [.ptr 3 0, .ptr 1 0]]
     [.cells false (sgsA m.segs), .cells true [.int .i64 m.v, .int .i64 m.f, .int .i64 m.n, .sl 0 0 m.segs.length 3 false], .map [], .cells true [.map 2]] (.int .i64 (badAt m.n [] m.segs 0))
     [.cells false (sgsA m.segs), .cells true [.int .i64 m.v, .int .i64 m.f, .int .i64 m.n, .sl 0 0 m.segs.length 3 false], .dead, .cells true [.map 2]] := by
 obtain ⟨mv, mf, mn, l⟩ := m; simp only at hl ⊢; refine ct_of_sim Tryz.func243 rfl ?_; simp only [Tryz.ntmps243, q7Z, q8Z, Nat.reduceAdd, Nat.reduceSub, qbZ, q9Z, qaZ]
 refine Sim.step hmix goks_nil (n := 0) (by simp; exact ⟨rfl, rfl⟩) (by simp) ?_
 refine Sim.seq (Sim.step hmix goks_nil (n := 0) (by simp; exact ⟨rfl, rfl⟩) (by simp) ?_)
 refine Sim.block (Sim.loopW (fun k : Nat => k ≤ l.length ∧ badAt mn [] l 0 = badAt mn (numsS (l.take k)) (l.drop k) k)
   (fun k => [.sl 0 0 l.length 3 false, .func 177 [] [.ptr 3 0, .ptr 1 0], .top, .top, .top, .top, .top, .int .i64 l.length, .int .i64 k] ++ qbZ 10 .top)
   (fun k => [.cells false (sgsA l), .cells true [.int .i64 mv, .int .i64 mf, .int .i64 mn, .sl 0 0 l.length 3 false], .map (usedA (numsS (l.take k))), .cells true [.map 2]]) (fun k => l.length - k) 0 (by simp) (by simp [numsS]) (Weak.mk' [0, 1, 2, 3] (by decide) (by decide) (by simp) (by simp [usedA, numsS])) fun k hk => ?_)
 obtain ⟨hk, hb⟩ := hk; by_cases hlt : k < l.length; rotate_left
 · rw [List.drop_of_length_le (by omega)] at hb
   simp only [badAt] at hb; rw [hb]
   refine Sim.exec hmix riΓ_ok (n := 0) (by simp [hlt]; exact ⟨rfl, rfl, rfl⟩) (by simp) ?_
   dsimp only; rw [if_pos rfl]
   refine Sim.exec hmix riΓ_ok (n := 0) (by simp; exact ⟨rfl, rfl, rfl⟩) (by simp) ?_
   exact ⟨.inr rfl, _, by simp <;> rfl, Weak.mk' [0, 1, 2, 3] (by decide) (by decide) (by simp) (by simp)⟩
 obtain ⟨s, hs⟩ : ∃ s, l[k] = s := ⟨_, rfl⟩; have g1 := sgs_get l k hlt
 have k1 : k * 3 + 3 ≤ l.length * 3 := by omega
 have hw : IntKind.i64.wrap ((k : Int) + 1) = k + 1 := wr_i64 (by omega) (by omega)
 rw [List.drop_eq_getElem_cons hlt] at hb; rw [hs] at g1 hb
 have hn : numsS (l.take (k + 1)) = numsS (l.take k) ++ [s.1] := by
   rw [List.take_add_one, q3Z hlt, hs]; simp [numsS]
 obtain ⟨u, hu⟩ : ∃ u, numsS (l.take k) = u := ⟨_, rfl⟩; rw [hu] at hb hn ⊢
 have hf := fun i => find_used s.1 u i
 by_cases h1 : s.1 ∈ u
 · have hb' : badAt mn [] l 0 = k := by rw [hb]; unfold badAt; rw [if_pos (.inl h1)]
   rw [hb']; simp only [h1, if_true] at hf
   refine Sim.exec hmix riΓ_ok (n := 0) (by simp +decide [hlt, g1, k1, sgA, hf, riInl, Tryz.f177]; exact ⟨rfl, rfl, rfl⟩) (by simp) ?_
   exact ⟨.inr rfl, _, by simp <;> rfl, Weak.mk' [0, 1, 2, 3] (by decide) (by decide) (by simp) (by simp)⟩
 simp only [h1, if_false] at hf; obtain ⟨x, y, z⟩ := s
 have hne : ¬ (x ∈ u ∨ Sg.ok mn (x, y, z) = false) → badAt mn [] l 0 = badAt mn (numsS (l.take (k + 1))) (l.drop (k + 1)) (k + 1) := by
   intro h; rw [hb, hn]; conv => lhs; unfold badAt
   rw [if_neg h]
 have hbad : Sg.ok mn (x, y, z) = false → badAt mn [] l 0 = k := by
   intro h; rw [hb]; unfold badAt; rw [if_pos (.inr h)]
 clear hb; simp only at hf h1; obtain ⟨q, hq⟩ : ∃ q, min x (min y z) = q := ⟨_, rfl⟩; by_cases h2 : q < 1
 · rw [hbad (by simp [Sg.ok]; omega)]
   refine Sim.exec hmix riΓ_ok (n := 0) (by simp +decide [-minA, minA_min, hq, hlt, g1, k1, sgA, hf, riInl, Tryz.f177, h2]; exact ⟨rfl, rfl, rfl⟩) (by simp) ?_
   exact ⟨.inr rfl, _, by simp <;> rfl, Weak.mk' [0, 1, 2, 3] (by decide) (by decide) (by simp) (by simp)⟩
 by_cases h3 : mn ≤ x
 · rw [hbad (by simp [Sg.ok]; omega)]
   refine Sim.exec hmix riΓ_ok (n := 0) (by simp +decide [-minA, minA_min, hq, hlt, g1, k1, sgA, hf, riInl, Tryz.f177, h2, h3]; exact ⟨rfl, rfl, rfl⟩) (by simp) ?_
   exact ⟨.inr rfl, _, by simp <;> rfl, Weak.mk' [0, 1, 2, 3] (by decide) (by decide) (by simp) (by simp)⟩
 by_cases h4 : 100000 < y
 · rw [hbad (by simp [Sg.ok]; omega)]
   refine Sim.exec hmix riΓ_ok (n := 0) (by simp +decide [-minA, minA_min, hq, hlt, g1, k1, sgA, hf, riInl, Tryz.f177, h2, h3, h4]; exact ⟨rfl, rfl, rfl⟩) (by simp) ?_
   exact ⟨.inr rfl, _, by simp <;> rfl, Weak.mk' [0, 1, 2, 3] (by decide) (by decide) (by simp) (by simp)⟩
 by_cases h5 : 1000000000 < z
 · rw [hbad (by simp [Sg.ok]; omega)]
   refine Sim.exec hmix riΓ_ok (n := 0) (by simp +decide [-minA, minA_min, hq, hlt, g1, k1, sgA, hf, riInl, Tryz.f177, h2, h3, h4, h5]; exact ⟨rfl, rfl, rfl⟩) (by simp) ?_
   exact ⟨.inr rfl, _, by simp <;> rfl, Weak.mk' [0, 1, 2, 3] (by decide) (by decide) (by simp) (by simp)⟩
 have hst := hne (by simp [Sg.ok, h1]; omega)
 refine Sim.exec hmix riΓ_ok (n := 0) (by simp +decide [-minA, minA_min, hq, hlt, g1, k1, sgA, hf, riInl, Tryz.f177, hw, h2, h3, h4, h5]; exact ⟨rfl, rfl, rfl⟩) (by simp) ?_
 exact ⟨k + 1, ⟨by omega, hst⟩, Weak.mk' [0, 1, 2, 3] (by decide) (by decide) (by simp) (by simp [hn]), by omega⟩
def mcells (m : Mf) : List AV := [.int .i64 m.v, .int .i64 m.f, .int .i64 m.n, .sl 0 0 m.segs.length 3 false]
def idxS (m : Mf) : Summ := onceS [.sl 0 0 m.segs.length 3 false, .func 177 [] [.ptr 3 0, .ptr 1 0]]
     [.cells false (sgsA m.segs), .cells true (mcells m), .map [], .cells true [.map 2]] (.int .i64 (badAt m.n [] m.segs 0))
     [.cells false (sgsA m.segs), .cells true (mcells m), .dead, .cells true [.map 2]] [2]
theorem idxΓ_ok (m : Mf) (hl : m.segs.length ≤ 1000000000000) : GOk Pz (runG Pz (gams [(243, idxS m)]) 0 [178] 1) := by
 refine gok_run hmix (goks_cons (sound_once (enter_of Tryz.func243 rfl (by decide)) (index_ct m hl) (by simp) fun b hb hn => ?_) goks_nil) 0 _ 1
 match b, hb with
 | 0, _ => rfl
 | 1, _ => rfl
 | 2, _ => simp at hn
 | 3, _ => rfl
 | b + 4, h => simp at h; omega
theorem mright_ct (m : Mf) (hl : m.segs.length ≤ 1000000000000) : Ct Pz 111 [mfA 0 m] [.cells false (sgsA m.segs)] (.bool m.right) [.cells false (sgsA m.segs)] := by
 have hΓ := idxΓ_ok m hl; rw [Mf.right_eq]; obtain ⟨t, ht⟩ : ∃ t, decide (0 ≤ badAt m.n [] m.segs 0) = t := ⟨_, rfl⟩; have ht' : decide (badAt m.n [] m.segs 0 ≥ 0) = t := ht
 have hc : m.counts = decide (1 ≤ min m.f m.n ∧ 0 ≤ m.v ∧ max m.v (max m.f m.n) ≤ 900000000) := by unfold Mf.counts; simp only [decide_eq_decide]; omega
 rw [ht, hc]; obtain ⟨i, hi⟩ : ∃ i, badAt m.n [] m.segs 0 = i := ⟨_, rfl⟩; have hS : idxS m = idxS m := rfl
 conv at hS => rhs; unfold idxS
 rw [hi] at hS ht ht'; obtain ⟨mv, mf, mn, l⟩ := m; simp only [mcells] at hl hS ⊢; obtain ⟨q, hq⟩ : ∃ q, min mf mn = q := ⟨_, rfl⟩; obtain ⟨p, hp⟩ : ∃ p, max mv (max mf mn) = p := ⟨_, rfl⟩; rw [hq, hp]
 have hl2 : ((l.length : Int) ≤ 1000) ↔ l.length ≤ 1000 := by omega
 refine ct_rd hmix hΓ (n := 0) Tryz.func111 ?_ (fun X => Weak.mk' [0] (by decide) rfl (by simp) (by simp))
 unfold Tryz.f111; by_cases h1 : 1 ≤ q; rotate_left
 · simp [-minA, minA_min, hq, h1, mfA]
 by_cases h2 : 0 ≤ mv; rotate_left
 · simp [-minA, minA_min, hq, h1, h2, mfA]
 by_cases h3 : p ≤ 900000000; rotate_left
 · simp [-minA, minA_min, minA_max, hq, hp, h1, h2, h3, mfA]
 by_cases h4 : l.length ≤ 1000; rotate_left
 · simp [-minA, minA_min, minA_max, hq, hp, h1, h2, h3, h4, hl2, mfA]
 cases t
 · simp at ht
   simp [-minA, minA_min, minA_max, hq, hp, h1, h2, h3, h4, hl2, mfA, hS, onceS, Tryz.f178, ht]
 · simp at ht
   simp [-minA, minA_min, minA_max, hq, hp, h1, h2, h3, h4, hl2, mfA, hS, onceS, Tryz.f178, ht]
def mrightS : Summ := readS fun args H => match args with
 | [x] => match mfOf H x with
   | some m => if m.segs.length ≤ 1000000000000 then some (.bool m.right) else none
   | _ => none
 | _ => none
theorem mright_sound : Sound Pz 111 mrightS := by
 refine sound_read (enter_of Tryz.func111 rfl (by decide)) fun args H v h => ?_
 split at h <;> try cases h
 rename_i x
 split at h <;> try cases h
 rename_i m hx
 split at h <;> cases h
 rename_i hc; obtain ⟨b1, o1, w1, g1⟩ := mf_win hx; refine ct_win (mright_ct m hc) rfl [(b1, o1)] ?_ ?_
 · exact ⟨w1 0 _ rfl, trivial⟩
 · exact ⟨g1, frees_sgs _, trivial⟩
end
section
open Go
attribute [-simp] drawOk_eq adraw qrun acode aops
@[simp] theorem cells_sgs : ∀ l : List Sg, (sgsA l).all isCell = true
 | [] => rfl
 | s :: l => by simp [sgsA, sgA, cells_sgs l]
mutual
theorem reA_free_Gm (g : Nat → Nat) : ∀ x : AV, free x = true → reA g x = x
 | .top, _ | .bool _, _ | .int _ _, _ | .str _, _ | .nilp, _ | .nils, _ | .nilm, _ | .nilf, _ => rfl
 | .ptr .., h | .slice .., h | .sl .., h | .map _, h | .yld _, h => by simp [free] at h
 | .func f xs ys, h => by simp at h; simp [reAs_free_Gm g xs h.1, reAs_free_Gm g ys h.2]
 | .agg l, h => by simp at h; simp [reAs_free_Gm g l h]
 | .tuple l, h => by simp at h; simp [reAs_free_Gm g l h]
theorem reAs_free_Gm (g : Nat → Nat) : ∀ xs : List AV, frees xs = true → reAs g xs = xs
 | [], _ => rfl
 | x :: xs, h => by simp at h; simp [reA_free_Gm g x h.1, reAs_free_Gm g xs h.2]
end
mutual
theorem shA_free (k : Nat) : ∀ x : AV, free x = true → shA k x = x
 | .top, _ | .bool _, _ | .int _ _, _ | .str _, _ | .nilp, _ | .nils, _ | .nilm, _ | .nilf, _ => rfl
 | .ptr .., h | .slice .., h | .sl .., h | .map _, h | .yld _, h => by simp [free] at h
 | .func f xs ys, h => by simp at h; simp [shAs_free k xs h.1, shAs_free k ys h.2]
 | .agg l, h => by simp at h; simp [shAs_free k l h]
 | .tuple l, h => by simp at h; simp [shAs_free k l h]
theorem shAs_free (k : Nat) : ∀ xs : List AV, frees xs = true → shAs k xs = xs
 | [], _ => rfl
 | x :: xs, h => by simp at h; simp [shA_free k x h.1, shAs_free k xs h.2]
end
@[simp] theorem belows_sgs (n : Nat) (l : List Sg) : belows n (sgsA l) = true := belows_free n _ (frees_sgs l)
@[simp] theorem reAs_sgs (g : Nat → Nat) (l : List Sg) : reAs g (sgsA l) = sgsA l := reAs_free_Gm g _ (frees_sgs l)
@[simp] theorem shAs_sgs (k : Nat) (l : List Sg) : shAs k (sgsA l) = sgsA l := shAs_free k _ (frees_sgs l)
end
section
open Go
attribute [-simp] drawOk_eq adraw qrun acode aops
def Mf.fit (m : Mf) (s : List Sg) : Prop := m.segs.length ≤ 1000000 ∧ s.length ≤ 1000000 ∧ -4611686018427387904 ≤ m.v ∧ m.v ≤ 4611686018427387904 ∧ -4611686018427387904 ≤ m.n ∧ m.n ≤ 4611686018427387904
instance (m : Mf) (s : List Sg) : Decidable (m.fit s) := by unfold Mf.fit; infer_instance
@[simp] theorem cells_aU : ∀ l : List Nat, (l.map aU).all isCell = true
 | [] => rfl
 | n :: l => by simp [aU, cells_aU l]
def rowS : Summ := newS fun
 | [.str s, .int .i64 a, .int .i64 n] => if s.length ≤ 1000000000000 ∧ 0 ≤ n ∧ n.toNat ≤ 1000000000 then some (.tuple [.sl 0 0 (Vy.row s a n.toNat).1.length 1 false, .int .i64 (Vy.row s a n.toNat).2.1, .int .i64 (Vy.row s a n.toNat).2.2], [.cells true ((Vy.row s a n.toNat).1.map aU)]) else none
 | _ => none
theorem prow_ct (s : List UInt8) (a0 : Int) (many : Nat) (hs : s.length ≤ 1000000000000) (hm : many ≤ 1000000000) :
   Ct Pz 241 [.str s, .int .i64 a0, .int .i64 many] [] (.tuple [.sl 0 0 (Vy.row s a0 many).1.length 1 false, .int .i64 (Vy.row s a0 many).2.1, .int .i64 (Vy.row s a0 many).2.2]) [.cells true ((Vy.row s a0 many).1.map aU)] := by
 have hΓ := gok_run hmix goks_nil 0 [281] 1
 have hs2 : s.length ≤ 140737488351232 := by omega
 refine ct_of_sim Tryz.func241 rfl ?_; simp only [Tryz.ntmps241, q7Z, q8Z, Nat.reduceAdd, Nat.reduceSub, qbZ, q9Z, qaZ]
 refine Sim.step hmix hΓ (n := 0) (by simp; exact ⟨rfl, rfl⟩) (by simp) ?_
 by_cases h0 : many = 0
 · subst h0
   refine Sim.exec hmix hΓ (n := 0) (by simp; exact ⟨rfl, rfl, rfl⟩) (by simp) ?_
   exact ⟨.inr rfl, _, by simp [Tryz.f241] <;> rfl, Weak.mk' [100] (by decide) (by decide) (by simp [Vy.row]) (by simp)⟩
 have h1 : ¬ ((many : Int) < 1) := by omega
 obtain ⟨⟨L, X, E⟩, hr⟩ : ∃ r, Vy.row s a0 many = r := ⟨_, rfl⟩; rw [hr]; dsimp only
 refine Sim.step hmix hΓ (n := 0) (by simp [h1]; exact ⟨rfl, rfl⟩) (by simp) ?_
 refine Sim.seq (Sim.step hmix hΓ (n := 0) (by simp [Tryz.f281]; exact ⟨rfl, rfl⟩) (by simp) ?_)
 refine Sim.block ?_
 refine Sim.rangeFuncN hmix (fun rc => [.cells true [.int .i64 many], .cells true [.sl 7 0 L.length 1 false], .cells true [.int .i64 X], .cells true [.int .i64 E], .cells true [.str s], .cells true [.top], rc, .cells true (L.map aU)]) .done (some .ret) (.tuple []) (gf := 302) (cap := [.ptr 4 0, .ptr 5 0]) (by simp) (enter_of Tryz.func302 rfl (by decide)) (by decide) (by simp) (by simp) (by simp) rfl (by simp) ?_ ?_
 · generalize hrc : ABlk.loop _ _ _ LoopState.ready none _ = rc
   generalize hrd : ABlk.loop _ _ _ LoopState.done (some Code.ret) _ = rd; refine ct_of_sim Tryz.func302 rfl ?_; simp only [Tryz.ntmps302, q7Z, q8Z, qbZ, q9Z, qaZ]
   refine Sim.block (Sim.loopW (fun p : Nat × Int × List Nat => p.1 < many ∧ Vy.row s a0 p.1 = (p.2.2, p.2.1, 0))
     (fun p => [.yld 6, .ptr 4 0, .ptr 5 0] ++ qbZ 23 .top)
     (fun p => [.cells true [.int .i64 many], .cells true [.sl 7 0 p.1 1 false], .cells true [.int .i64 0], .cells true [.int .i64 0], .cells true [.str s], .cells true [.int .i64 p.2.1], rc, .cells true (p.2.2.map aU)]) (fun p => many - p.1) (0, a0, []) (by simp) ⟨by simp only; omega, rfl⟩ ?_ fun p hp => ?_)
   · subst hrc
     exact Weak.mk' [0, 1, 2, 3, 4, 5, 6, 100] (by decide) (by decide) (by simp) (by simp)
   obtain ⟨k, a, vs⟩ := p; obtain ⟨hk, hrow⟩ := hp; simp only at hk hrow ⊢; have hvs := (Vy.row_length s k a0 vs a hrow).1; subst hrc; subst hrd; have hΓ2 := gok_run hmix (goks_cons get_sound goks_nil) 0 [] 1; obtain ⟨⟨n, x, e⟩, hg⟩ : ∃ r, Vy.get s a = r := ⟨_, rfl⟩
   have b1 : (k + 1) * 8 ≤ 140737488355328 := by omega
   have b2 : k + 1 ≤ 9223372036854775807 := by omega
   have tk : (vs.map aU).take k = vs.map aU := q6Z (by simp; omega)
   by_cases he : e = 0
   · subst he
     have hnx := Vy.row_snoc s k a0 vs a hrow (by rw [hg])
     rw [hg] at hnx; by_cases hlast : k + 1 = many
     · have hl2 : ((k : Int) + 1 == (many : Int)) = true := by simp; omega
       rw [hlast, hr] at hnx; simp only [Prod.mk.injEq] at hnx; obtain ⟨rfl, rfl, rfl⟩ := hnx
       refine Sim.exec hmix hΓ2 (n := 0) (by simp +decide [getS, hs2, hg, b1, b2, tk, hvs, hl2]; exact ⟨rfl, rfl, rfl⟩) (by simp) ?_
       exact ⟨.inr rfl, _, by simp [Tryz.f302] <;> rfl, Weak.mk' [0, 1, 2, 3, 4, 5, 6, 10] (by decide) (by decide) (by simp) (by simp [hvs, aU])⟩
     · have hl2 : ((k : Int) + 1 == (many : Int)) = false := by simp; omega
       refine Sim.exec hmix hΓ2 (n := 0) (by simp +decide [getS, hs2, hg, b1, b2, tk, hvs, hl2]; exact ⟨rfl, rfl, rfl⟩) (by simp) ?_
       exact ⟨(k + 1, x, vs ++ [n]), ⟨by simp only; omega, hnx⟩, Weak.mk' [0, 1, 2, 3, 4, 5, 6, 10] (by decide) (by decide) (by simp) (by simp [aU]), by simp only; omega⟩
   · have hst := Vy.row_stop s k many a0 vs a hrow (by rw [hg]; exact he) hk
     have he2 : (e != 0) = true := by simpa using he
     rw [hr, hg] at hst; simp only [Prod.mk.injEq] at hst; obtain ⟨rfl, rfl, rfl⟩ := hst
     refine Sim.exec hmix hΓ2 (n := 0) (by simp +decide [getS, hs2, hg, he2]; exact ⟨rfl, rfl, rfl⟩) (by simp) ?_
     exact ⟨.inr rfl, _, by simp [Tryz.f302] <;> rfl, Weak.mk' [0, 1, 2, 3, 4, 5, 6, 100] (by decide) (by decide) (by simp) (by simp)⟩
 · exact ⟨.inr rfl, _, by simp [Tryz.f241] <;> rfl, Weak.mk' [7] (by decide) (by decide) (by simp) (by simp)⟩
theorem prow_sound : Sound Pz 241 rowS := by
 refine sound_new (enter_of Tryz.func241 rfl (by decide)) fun args v H' h => ?_
 split at h <;> try cases h
 rename_i s a n
 split at h <;> cases h
 rename_i hc; have := prow_ct s a n.toNat hc.1 hc.2.2
 rw [show ((n.toNat : Nat) : Int) = n by omega] at this
 exact ⟨this, by simp, by simp⟩
def sgNums : List Sg → List Nat
 | [] => []
 | s :: l => [s.1.toNat, s.2.1.toNat, s.2.2.toNat] ++ sgNums l
@[simp] theorem sgNums_length : ∀ l, (sgNums l).length = l.length * 3
 | [] => rfl
 | s :: l => by simp [sgNums, sgNums_length l]; omega
theorem sgNums_append (a b : List Sg) : sgNums (a ++ b) = sgNums a ++ sgNums b := by
 induction a with
 | nil => rfl
 | cons x a ih => simp [sgNums, ih]
def Mf.nums (m : Mf) : List Nat := [m.v.toNat, m.f.toNat, m.n.toNat, m.segs.length] ++ sgNums m.segs
def Mf.bytes (m : Mf) : List UInt8 := Cr.seal ([67, 77, 1] ++ Vy.put m.nums)
def Mf.put (m : Mf) : List UInt8 × Int := if m.right then (m.bytes, 0) else ([], 2)
theorem Mf.right_parts {m : Mf} (h : m.right = true) : (0 ≤ m.v ∧ m.v ≤ 900000000 ∧ 1 ≤ m.f ∧ m.f ≤ 900000000 ∧ 1 ≤ m.n ∧ m.n ≤ 900000000) ∧ m.segs.length ≤ 1000 ∧ ∀ x ∈ m.segs, (1 ≤ x.1 ∧ x.1 < m.n) ∧ (1 ≤ x.2.1 ∧ x.2.1 ≤ 100000) ∧ (1 ≤ x.2.2 ∧ x.2.2 ≤ 1000000000) := by
 unfold Mf.right Mf.counts at h; simp only [qrZ, decide_eq_true_eq] at h
 refine ⟨h.1, h.2.1, fun x hx => ?_⟩
 have := s5Z.1 h.2.2.1 x hx; simp only [Sg.ok, decide_eq_true_eq] at this; omega
theorem sgNums_lt (n : Int) (hn : n ≤ 900000000) : ∀ l : List Sg, (∀ x ∈ l, (1 ≤ x.1 ∧ x.1 < n) ∧ (1 ≤ x.2.1 ∧ x.2.1 ≤ 100000) ∧ (1 ≤ x.2.2 ∧ x.2.2 ≤ 1000000000)) → ∀ y ∈ sgNums l, y < 1000000001
 | [], _, y, hy => by simp [sgNums] at hy
 | s :: l, h, y, hy => by
   have hs := h s qhZ; simp only [sgNums, q9Z, qaZ, qwZ] at hy; rcases hy with rfl | rfl | rfl | hy
   · omega
   · omega
   · omega
   · exact sgNums_lt n hn l (fun x hx => h x (qiZ _ hx)) y hy
theorem Mf.nums_lt {m : Mf} (h : m.right = true) : ∀ y ∈ m.nums, y < 1000000001 := by
 obtain ⟨h1, h2, h3⟩ := Mf.right_parts h; intro y hy; unfold Mf.nums at hy; simp only [q9Z, qaZ, qwZ] at hy; rcases hy with rfl | rfl | rfl | rfl | hy
 · omega
 · omega
 · omega
 · omega
 · exact sgNums_lt m.n (by omega) m.segs h3 y hy
theorem Mf.nums_length (m : Mf) : m.nums.length = 4 + m.segs.length * 3 := by simp [Mf.nums]; omega
theorem Mf.put_len {m : Mf} (h : m.right = true) : (Vy.put m.nums).length ≤ 27100 := by
 obtain ⟨h1, h2, h3⟩ := Mf.right_parts h
 have := Vy.put_length_le m.nums fun y hy => Nat.lt_trans (Mf.nums_lt h y hy) (by decide)
 rw [Mf.nums_length] at this; omega
theorem mpΓ_ok : GOk Pz (gams [(111, mrightS), (113, putS'), (112, sealS)]) := goks_cons mright_sound (goks_cons put_sound (goks_cons seal_sound goks_nil))
theorem wr_u64n (x : Int) (h0 : 0 ≤ x) (h1 : x ≤ 1000000000000) : IntKind.u64.wrap x = x := wr_u64 h0 (by omega)
theorem aU_toNat (x : Int) (h : 0 ≤ x) : aU x.toNat = .int .u64 x := by unfold aU; rw [rqZ h]
theorem mput_ct (m : Mf) (hl : m.segs.length ≤ 1000000000000) : Ct Pz 50 [mfA 0 m] [.cells false (sgsA m.segs)] (.tuple [.str m.put.1, .int .i64 m.put.2]) [.cells false (sgsA m.segs)] := by
 have hΓ := mpΓ_ok; by_cases hr : m.right = true; rotate_left
 · have hr' : m.right = false := by simpa using hr
   have e : m.put = ([], 2) := by unfold Mf.put; rw [if_neg hr]
   rw [e]; obtain ⟨mv, mf, mn, l⟩ := m
   refine ct_rd hmix hΓ (n := 0) Tryz.func50 ?_ (fun X => Weak.mk' [0] (by decide) rfl (by simp) (by simp))
   unfold Tryz.f50; simp at hl; simp [mfA, mrightS, rowSgs, hr', hl]
 have e : m.put = (m.bytes, 0) := by unfold Mf.put; rw [if_pos hr]
 rw [e]; obtain ⟨h1, h2, h3⟩ := Mf.right_parts hr; have hnl := Mf.nums_lt hr; have hpl := Mf.put_len hr; have hlen := Mf.nums_length m
 have hN : ∀ x ∈ m.nums, x < 18446744073709551616 := fun y hy => Nat.lt_trans (hnl y hy) (by decide)
 unfold Mf.bytes; obtain ⟨N, eN⟩ : ∃ N, m.nums = N := ⟨_, rfl⟩; rw [eN] at hN hpl hlen ⊢; unfold Mf.nums at eN; clear hnl; obtain ⟨mv, mf, mn, l⟩ := m; simp only at *
 have q1 : IntKind.u64.wrap mv = mv := wr_u64n _ (by omega) (by omega)
 have q2 : IntKind.u64.wrap mf = mf := wr_u64n _ (by omega) (by omega)
 have q3 : IntKind.u64.wrap mn = mn := wr_u64n _ (by omega) (by omega)
 have q4 : IntKind.u64.wrap (l.length : Int) = (l.length : Int) := wr_u64n _ (by omega) (by omega)
 have a1 := aU_toNat mv (by omega)
 have a2 := aU_toNat mf (by omega)
 have a3 := aU_toNat mn (by omega)
 have a4 : aU l.length = .int .u64 (l.length : Int) := rfl; refine ct_of_sim Tryz.func50 rfl ?_; simp only [Tryz.ntmps50, q7Z, q8Z, Nat.reduceAdd, Nat.reduceSub, qbZ, q9Z, qaZ, mfA]
 refine Sim.step hmix hΓ (n := 0) (by simp; exact ⟨rfl, rfl⟩) (by simp) ?_
 refine Sim.step hmix hΓ (n := 0) (by simp [mrightS, rowSgs, hr, hl]; exact ⟨rfl, rfl⟩) (by simp) ?_
 refine Sim.step hmix hΓ (n := 0) (by simp [q1, q2, q3, q4]; exact ⟨rfl, rfl⟩) (by simp) ?_
 refine Sim.seq (Sim.step hmix hΓ (n := 0) (by simp; exact ⟨rfl, rfl⟩) (by simp) ?_)
 refine Sim.block (Sim.loopW (fun k : Nat => k ≤ l.length)
   (fun k => [.top, .ptr 1 0, .str [], .int .i64 0, .slice 2 0 (4 + k * 3) 1 false] ++ qbZ 20 .top ++ [.sl 0 0 l.length 3 false, .int .i64 l.length, .int .i64 k] ++ qbZ 20 .top)
   (fun k => [.cells false (sgsA l), .cells true [.int .i64 mv, .int .i64 mf, .int .i64 mn, .sl 0 0 l.length 3 false], .cells true (([mv.toNat, mf.toNat, mn.toNat, l.length] ++ sgNums (l.take k)).map aU)]) (fun k => l.length - k) 0 (by simp) (by simp) (Weak.mk' [0, 1, 2] (by decide) (by decide) (by simp) (by simp [sgNums, a1, a2, a3, a4])) fun k hk => ?_)
 by_cases hlt : k < l.length
 · obtain ⟨x, hx⟩ : ∃ x, l[k]? = some x := ⟨_, q3Z hlt⟩
   obtain ⟨b1, b2, b3⟩ := h3 x (qcZ hx); have g1 := sgs_get l k hlt; rw [(q1Z.1 hx).2] at g1
   have k1 : k * 3 + 3 ≤ l.length * 3 := by omega
   have wk : IntKind.i64.wrap ((k : Int) + 1) = k + 1 := wr_i64 (by omega) (by omega)
   have p1 : IntKind.u64.wrap x.1 = x.1 := wr_u64n _ (by omega) (by omega)
   have p2 : IntKind.u64.wrap x.2.1 = x.2.1 := wr_u64n _ (by omega) (by omega)
   have p3 : IntKind.u64.wrap x.2.2 = x.2.2 := wr_u64n _ (by omega) (by omega)
   have c1 := aU_toNat x.1 (by omega)
   have c2 := aU_toNat x.2.1 (by omega)
   have c3 := aU_toNat x.2.2 (by omega)
   have e2 : [mv.toNat, mf.toNat, mn.toNat, l.length] ++ sgNums (l.take (k + 1)) = ([mv.toNat, mf.toNat, mn.toNat, l.length] ++ sgNums (l.take k)) ++ [x.1.toNat, x.2.1.toNat, x.2.2.toNat] := by
     rw [List.take_add_one, hx, Option.toList_some, sgNums_append]; simp [sgNums]
   obtain ⟨L, eL⟩ : ∃ L, [mv.toNat, mf.toNat, mn.toNat, l.length] ++ sgNums (l.take k) = L := ⟨_, rfl⟩
   have lL : L.length = 4 + k * 3 := by rw [← eL]; simp; omega
   rw [eL] at e2 ⊢
   have tkL : (L.map aU).take (4 + k * 3) = L.map aU := q6Z (by simp; omega)
   have d1 : (4 + k * 3 + 3) * 8 ≤ 140737488355328 := by omega
   have d2 : 4 + k * 3 + 3 ≤ 9223372036854775807 := by omega
   have d3 : 4 + (k + 1) * 3 = 4 + k * 3 + 3 := by omega
   simp [sgA] at g1
   refine Sim.exec hmix hΓ (n := 0) (by simp +decide [hlt, g1, k1, p1, p2, p3, lL, tkL, d1, d2, wk]; exact ⟨rfl, rfl, rfl⟩) (by simp) ?_
   exact ⟨k + 1, by omega, Weak.mk' [0, 1, 5] (by decide) (by decide) (by simp [d3]) (by rw [e2]; simp [c1, c2, c3]), by omega⟩
 have hkl : k = l.length := by omega
 subst hkl
 refine Sim.exec hmix hΓ (n := 0) (by simp; exact ⟨rfl, rfl, rfl⟩) (by simp) ?_
 dsimp only; rw [if_pos rfl]; have lN : N.length = 4 + l.length * 3 := hlen
 have tkN : (N.map aU).take (4 + l.length * 3) = N.map aU := q6Z (by simp; omega)
 have f1 : 4 + l.length * 3 ≤ 1000000000 := by omega
 have f2 : 3 + (Vy.put N).length ≤ 9223372036854775807 := by omega
 have f3 : (Vy.put N).length + 3 ≤ 1000000000000 := by omega
 refine Sim.weak (Fn := [.top, .ptr 1 0, .str [], .int .i64 0, .slice 2 0 (4 + l.length * 3) 1 false] ++ qbZ 43 .top) (Hn := [.cells false (sgsA l), .cells true [.int .i64 mv, .int .i64 mf, .int .i64 mn, .sl 0 0 l.length 3 false], .cells true (N.map aU)]) (Weak.mk' [0, 1, 2] (by decide) (by decide) (by simp) (by simp [← eN, a1, a2, a3, a4])) (by simp) ?_
 have hN2 : (∀ x : Nat, x ∈ N → x < 18446744073709551616) = True := eq_true hN
 refine Sim.exec hmix hΓ (n := 0) (by simp +decide [putS', sealS, tkN, hN2, f1, f2, f3, lN]; exact ⟨rfl, rfl, rfl⟩) (by simp) ?_
 exact ⟨.inr rfl, _, by simp [Tryz.f50] <;> rfl, Weak.mk' [0] (by decide) (by decide) (by simp) (by simp)⟩
def mputS : Summ := readS fun args H => match args with
 | [x] => match mfOf H x with
   | some m => if m.segs.length ≤ 1000000000000 then some (.tuple [.str m.put.1, .int .i64 m.put.2]) else none
   | _ => none
 | _ => none
theorem mput_sound : Sound Pz 50 mputS := by
 refine sound_read (enter_of Tryz.func50 rfl (by decide)) fun args H v h => ?_
 split at h <;> try cases h
 rename_i x
 split at h <;> try cases h
 rename_i m hx
 split at h <;> cases h
 rename_i hc; obtain ⟨b1, o1, w1, g1⟩ := mf_win hx; refine ct_win (mput_ct m hc) rfl [(b1, o1)] ?_ ?_
 · exact ⟨w1 0 _ rfl, trivial⟩
 · exact ⟨g1, frees_sgs _, trivial⟩
def numI (n : Nat) : Int := min (n : Int) 1099511627776
theorem numI_rng (n : Nat) : 0 ≤ numI n ∧ numI n ≤ 1099511627776 := by unfold numI; omega
theorem num_ct (n : Nat) : Ct Pz 282 [.int .u64 n] [] (.int .i64 (numI n)) [] := by
 have h := numI_rng n
 have w : IntKind.i64.wrap (numI n) = numI n := wr_i64 (by omega) (by omega)
 unfold numI at w ⊢
 refine ct_val hmix goks_nil (n := 0) Tryz.func282 ?_ (by simp)
 unfold Tryz.f282; simp [-minA, minA_min, w]
def numS : Summ := pureS fun | [.int .u64 n] => if 0 ≤ n then some (.int .i64 (numI n.toNat)) else none | _ => none
theorem num_sound : Sound Pz 282 numS := by
 refine sound_pure (enter_of Tryz.func282 rfl (by decide)) fun args v h => ?_
 split at h <;> try cases h
 rename_i n
 split at h <;> cases h
 have := num_ct n.toNat
 rw [show ((n.toNat : Nat) : Int) = n by omega] at this
 exact ⟨this, by simp, by simp⟩
def toSgs : List Nat → List Sg
 | a :: b :: c :: l => (numI a, numI b, numI c) :: toSgs l
 | _ => []
def Mf.ofN (l : List Nat) : Mf := ⟨numI (l.getD 0 0), numI (l.getD 1 0), numI (l.getD 2 0), toSgs (l.drop 4)⟩
theorem toSgs_snoc (a b c : Nat) : ∀ (k : Nat) (l : List Nat), l.length = k * 3 → toSgs (l ++ [a, b, c]) = toSgs l ++ [(numI a, numI b, numI c)]
 | 0, l, h => by have : l = [] := by simpa using h
                 subst this; simp [toSgs]
 | k + 1, l, h => by
   match l, h with
   | x :: y :: z :: l, h =>
     have := toSgs_snoc a b c k l (by simp at h; omega)
     simp [toSgs, this]
   | [x, y], h => simp at h; omega
   | [x], h => simp at h; omega
   | [], h => simp at h
theorem toSgs_length : ∀ (k : Nat) (l : List Nat), l.length = k * 3 → (toSgs l).length = k
 | 0, l, h => by have : l = [] := by simpa using h
                 subst this; simp [toSgs]
 | k + 1, l, h => by
   match l, h with
   | x :: y :: z :: l, h =>
     have := toSgs_length k l (by simp at h; omega)
     simp [toSgs, this]
   | [x, y], h => simp at h; omega
   | [x], h => simp at h; omega
   | [], h => simp at h
def ofInl : List FuncId := [283]
theorem ofΓ_ok : GOk Pz (runG Pz (gams [(282, numS)]) 0 ofInl 1) := gok_run hmix (goks_cons num_sound goks_nil) 0 ofInl 1
theorem of_ct_Gn (l : List Nat) (k : Nat) (hl : l.length = 4 + k * 3) (hk : k ≤ 1000) :
   Ct Pz 242 [.slice 0 0 l.length 1 false] [.cells false (l.map aU)] (mfA 1 (Mf.ofN l)) [.cells false (l.map aU), .cells true (sgsA (Mf.ofN l).segs)] := by
 have hΓ := ofΓ_ok
 have at0 : ∀ i, i < l.length → ∃ x, l[i]? = some x ∧ l.getD i 0 = x := fun i hi => ⟨l[i], q3Z hi, by rw [q2Z, q3Z hi]; rfl⟩
 obtain ⟨x0, y0, z0⟩ := at0 0 (by omega)
 obtain ⟨x1, y1, z1⟩ := at0 1 (by omega)
 obtain ⟨x2, y2, z2⟩ := at0 2 (by omega)
 have lS : (Mf.ofN l).segs.length = k := toSgs_length k _ (by simp; omega)
 unfold Mf.ofN mfA at *; rw [z0, z1, z2]; simp only at lS ⊢; rw [lS]
 have q0 : ∀ h : 0 < l.length, l[0]'h = x0 := fun h => by rw [q3Z h] at y0; exact Option.some.inj y0
 have q1 : ∀ h : 1 < l.length, l[1]'h = x1 := fun h => by rw [q3Z h] at y1; exact Option.some.inj y1
 have q2 : ∀ h : 2 < l.length, l[2]'h = x2 := fun h => by rw [q3Z h] at y2; exact Option.some.inj y2
 have n0 : 0 < l.length := by omega
 have n1 : 1 < l.length := by omega
 have n2 : 2 < l.length := by omega
 have n1' : (1 : Int) < (l.length : Int) := by omega
 have n2' : (2 : Int) < (l.length : Int) := by omega
 have n4 : 4 ≤ l.length := by omega
 have n4' : (4 : Int) ≤ (l.length : Int) := by omega
 have hn4 : l.length - 4 = k * 3 := by omega
 refine ct_of_sim Tryz.func242 rfl ?_; simp only [Tryz.ntmps242, q7Z, q8Z, Nat.reduceAdd, Nat.reduceSub, qbZ, q9Z, qaZ]
 refine Sim.step hmix hΓ (n := 0) (by simp; exact ⟨rfl, rfl⟩) (by simp) ?_
 refine Sim.seq (Sim.draw hmix (by simp) ?_)
 refine SimR.many hΓ 18 (by simp [stageOps]; rfl) (by omega) (by kernel_rfl) (by simp +decide [ofInl, numS, aU, q0, q1, q2, n0, n1, n2, n1', n2']; first | exact ⟨rfl, rfl⟩ | exact ⟨by kernel_rfl, rfl, rfl⟩) ?_
 refine SimR.done rfl ?_; dsimp only
 refine Sim.seq (Sim.step hmix hΓ (n := 0) (by simp +decide [ofInl, Tryz.f283, n4', hn4]; exact ⟨rfl, rfl⟩) (by simp) ?_)
 refine Sim.block ?_
 refine Sim.rangeFuncN hmix (fun rc => [.cells false (l.map aU), .cells true [.int .i64 (numI x0), .int .i64 (numI x1), .int .i64 (numI x2), .sl 5 0 k 3 false], .cells true [.slice 0 4 (k * 3) 1 false], .cells true [.int .i64 3], rc, .cells true (sgsA (toSgs (l.drop 4)))]) .ready none (.tuple []) (gf := 303) (cap := [.ptr 2 0, .ptr 3 0]) (by simp) (enter_of Tryz.func303 rfl (by decide)) (by decide) (by simp) (by simp) (by simp) rfl (by simp) ?_ ?_
 · generalize hrc : ABlk.loop _ _ _ LoopState.ready none _ = rc
   refine ct_of_sim Tryz.func303 rfl ?_; simp only [Tryz.ntmps303, q7Z, q8Z, qbZ, q9Z, qaZ]
   refine Sim.step hmix hΓ (n := 0) (by simp; exact ⟨rfl, rfl⟩) (by simp) ?_
   refine Sim.block (Sim.loopW (fun p : Nat × Nat => p.1 ≤ k ∧ p.2 = p.1 * 3)
     (fun p => [.yld 4, .ptr 2 0, .ptr 3 0, .top, .int .i64 (p.2 : Nat)] ++ qbZ 26 .top)
     (fun p => [.cells false (l.map aU), .cells true [.int .i64 (numI x0), .int .i64 (numI x1), .int .i64 (numI x2), .sl 5 0 p.1 3 false], .cells true [.slice 0 4 (k * 3) 1 false], .cells true [.int .i64 3], rc, .cells true (sgsA (toSgs ((l.drop 4).take p.2)))]) (fun p => k - p.1) (0, 0) (by simp) ⟨qqZ _, rfl⟩ ?_ fun p hp => ?_)
   · subst hrc
     exact Weak.mk' [0, 1, 2, 3, 4, 100] (by decide) (by decide) (by simp) (by simp)
   obtain ⟨j, i⟩ := p; obtain ⟨hj, hi⟩ := hp; simp only at hj hi ⊢; have hΓ2 := goks_cons (P := Pz) num_sound goks_nil; by_cases hlt : j < k
   · have c1 : (i : Int) < (k : Int) * 3 := by omega
     have c1' : i ≤ k * 3 := by omega
     have c2 : (i : Int) ≤ (k : Int) * 3 := by omega
     have hmin : min (3 : Int) ((k * 3 - i : Nat) : Int) = 3 := by omega
     have w3 : IntKind.i64.wrap ((i : Int) + 3) = i + 3 := wr_i64 (by omega) (by omega)
     have c3 : (i : Int) + 3 ≤ (k : Int) * 3 := by omega
     obtain ⟨a, ha⟩ : ∃ a, l[4 + i]? = some a := ⟨_, q3Z (by omega)⟩
     obtain ⟨b, hb⟩ : ∃ b, l[4 + i + 1]? = some b := ⟨_, q3Z (by omega)⟩
     obtain ⟨c, hc⟩ : ∃ c, l[4 + i + 2]? = some c := ⟨_, q3Z (by omega)⟩
     have qa : ∀ h : 4 + i < l.length, l[4 + i]'h = a := fun h => by rw [q3Z h] at ha; exact Option.some.inj ha
     have qb : ∀ h : 4 + i + 1 < l.length, l[4 + i + 1]'h = b := fun h => by rw [q3Z h] at hb; exact Option.some.inj hb
     have qc : ∀ h : 4 + i + 2 < l.length, l[4 + i + 2]'h = c := fun h => by rw [q3Z h] at hc; exact Option.some.inj hc
     have la : 4 + i < l.length := by omega
     have lb : 4 + i + 1 < l.length := by omega
     have lc : 4 + i + 2 < l.length := by omega
     have ht : (l.drop 4).take (i + 3) = (l.drop 4).take i ++ [a, b, c] := by
       rw [show i + 3 = i + 1 + 1 + 1 from rfl, List.take_add_one, List.take_add_one, List.take_add_one, r5Z, r5Z, r5Z, ha, show 4 + (i + 1) = 4 + i + 1 by omega, hb, show 4 + (i + 1 + 1) = 4 + i + 2 by omega, hc]
       simp
     have hst : toSgs ((l.drop 4).take (i + 3)) = toSgs ((l.drop 4).take i) ++ [(numI a, numI b, numI c)] := by
       rw [ht]; exact toSgs_snoc a b c j _ (by simp; omega)
     obtain ⟨L, eL⟩ : ∃ L, toSgs ((l.drop 4).take i) = L := ⟨_, rfl⟩
     have lL : L.length = j := by rw [← eL]; exact toSgs_length j _ (by simp; omega)
     rw [eL] at hst ⊢
     have tkL : (sgsA L).take (j * 3) = sgsA L := q6Z (by simp; omega)
     have b1 : (j + 1) * 24 ≤ 140737488355328 := by omega
     have b2 : j + 1 ≤ 9223372036854775807 := by omega
     have hΓ3 := gok_yield hΓ2 (b := 4) (args := [.slice 0 (4 + i) 3 1 true]) (v := .bool true) hrc
       (H := [.cells false (l.map aU), .cells true [.int .i64 (numI x0), .int .i64 (numI x1), .int .i64 (numI x2), .sl 5 0 j 3 false], .cells true [.slice 0 4 (k * 3) 1 false], .cells true [.int .i64 3], rc, .cells true (sgsA L)])
       (H1 := [.cells false (l.map aU), .cells true [.int .i64 (numI x0), .int .i64 (numI x1), .int .i64 (numI x2), .sl 6 0 (j + 1) 3 false], .cells true [.slice 0 4 (k * 3) 1 false], .cells true [.int .i64 3], rc, .dead, .cells true (sgsA L ++ sgA (numI a, numI b, numI c))])
       rfl rfl (fun r => by
         subst hrc
         refine Sim.exec hmix hΓ2 (n := 0) (by simp; exact ⟨rfl, rfl, rfl⟩) (by simp) ?_
         refine ⟨rfl, _, _, _, _, _, rfl, ?_⟩
         refine Sim.block (Sim.draw hmix (by simp) ?_)
         refine SimR.many hΓ2 16 (by simp [stageOps]; rfl) (by omega) (by kernel_rfl) (by simp +decide [numS, aU, qa, qb, qc, la, lb, lc]; first | exact ⟨rfl, rfl⟩ | exact ⟨by kernel_rfl, rfl, rfl⟩) ?_
         refine SimR.one hΓ2 _ rfl (by kernel_rfl) (by simp +decide [lL, tkL, b1, b2]; exact ⟨rfl, rfl⟩) ?_
         refine SimR.many hΓ2 19 (by simp [stageOps, blankOp]; rfl) (by omega) (by kernel_rfl) (by simp +decide; first | exact ⟨rfl, rfl⟩ | exact ⟨by kernel_rfl, rfl, rfl⟩) ?_
         refine SimR.done rfl ?_; dsimp only
         exact ⟨_, _, _, _, _, _, rfl, rfl, Weak.mk' [0, 1, 2, 3, 4, 5, 7] (by decide) rfl (by simp) (by simp [sgA])⟩) (by simp)
     refine Sim.step hmix hΓ2 (n := 0) (by simp [c1]; exact ⟨rfl, rfl⟩) (by simp) ?_
     refine Sim.seq (Sim.block ?_)
     refine Sim.seq (Sim.draw hmix (by simp) ?_)
     refine SimR.many hΓ2 7 (by simp [stageOps]; rfl) (by omega) (by kernel_rfl) (by simp +decide [-minA, minA_min, c2, hmin]; first | exact ⟨rfl, rfl⟩ | exact ⟨by kernel_rfl, rfl, rfl⟩) ?_
     refine SimR.done rfl ?_; dsimp only
     have f1 : (0 : Int) ≤ (i : Int) + 3 := by omega
     have f2 : ((i : Int) + 3).toNat = i + 3 := by omega
     have f3 : (i : Int) + 3 ≤ ((i + 3 : Nat) : Int) := by omega
     have f4 : i + 3 ≤ k * 3 := by omega
     have f5 : (i : Int) ≤ (i : Int) + 3 := by omega
     have f6 : i + 3 - i = 3 := by omega
     have f7 : k * 3 - i = k * 3 - i := rfl
     refine Sim.exec hmix hΓ3 (n := 0) (by simp [w3, c3, f1, f2, f5, f6]; exact ⟨rfl, rfl, rfl⟩) (by simp) ?_
     dsimp only
     refine Sim.exec hmix hΓ2 (n := 0) (by simp [w3]; exact ⟨rfl, rfl, rfl⟩) (by simp) ?_
     subst hrc
     exact ⟨(j + 1, i + 3), ⟨by simp only; omega, by simp only; omega⟩, Weak.mk' [0, 1, 2, 3, 4, 6] (by decide) (by decide) (by simp) (by simp [hst, sgA, sgsA]), by simp only; omega⟩
   · have c1 : ¬ ((i : Int) < (k : Int) * 3) := by omega
     have hjk : j = k := by omega
     have ht : (l.drop 4).take i = l.drop 4 := q6Z (by simp; omega)
     rw [ht]; subst hjk; subst hrc
     refine Sim.exec hmix hΓ2 (n := 0) (by simp [c1]; exact ⟨rfl, rfl, rfl⟩) (by simp) ?_
     dsimp only; rw [if_pos rfl]
     exact ⟨.inl trivial, _, by simp [Tryz.f303] <;> rfl, Weak.mk' [0, 1, 2, 3, 4, 5] (by decide) (by decide) (by simp) (by simp)⟩
 · dsimp only
   refine Sim.exec hmix hΓ (n := 0) (by simp; exact ⟨rfl, rfl, rfl⟩) (by simp) ?_
   exact ⟨.inr rfl, _, by simp [Tryz.f242] <;> rfl, Weak.mk' [0, 5] (by decide) (by decide) (by simp) (by simp)⟩
def ofS_Gn : Summ := readNewS fun args H => match args with
 | [.sl b o n 1 _] => match H[b]? with
   | some (.cells _ vs) => match natsOf .u64 ((vs.drop o).take n) with
     | some l => if o + n ≤ vs.length ∧ 4 ≤ n ∧ (n - 4) % 3 = 0 ∧ n ≤ 3004 then some (mfA 0 (Mf.ofN l), [.cells true (sgsA (Mf.ofN l).segs)]) else none
     | none => none
   | _ => none
 | _ => none
theorem of_sound_Gn : Sound Pz 242 ofS_Gn := by
 refine sound_readNew (enter_of Tryz.func242 rfl (by decide)) fun args H v N h => ?_
 split at h <;> try cases h
 rename_i b o n c
 split at h <;> try cases h
 rename_i ow vs hb
 split at h <;> try cases h
 rename_i l hl
 split at h <;> cases h
 rename_i hc; obtain ⟨c1, c2, c3, c4⟩ := hc; have e := natsOf_eq hl
 have hn : l.length = n := by have := congrArg List.length e; simp at this; omega
 refine ct_slN (pre := []) ?_ fun h0 => by omega
 have h0 := of_ct_Gn l ((n - 4) / 3) (by omega) (by omega)
 rw [hn] at h0
 refine ct_winN (H0 := [.cells false (l.map aU)]) (args0 := [.slice 0 0 n 1 false]) ?_ rfl [(b, o)] ⟨by simp [winA], trivial⟩ ?_
 · simpa [mfA] using h0
 · simp only [winH, hb]
   refine ⟨⟨by simp; omega, ?_⟩, ?_, trivial⟩
   · rw [r7Z, hn, e]; rfl
   · simp
theorem Vy.row_rel (s : List UInt8) (k : Nat) (hk : k ≤ s.length) : ∀ (n p : Nat), p ≤ s.length - k → Vy.row s ((k : Int) + p) n = ((Vy.row (s.drop k) p n).1, (k : Int) + (Vy.row (s.drop k) p n).2.1, (Vy.row (s.drop k) p n).2.2)
 | 0, p, _ => by simp [Vy.row]
 | n + 1, p, hp => by
   have g1 := Vy.get_rel s (k + p) (by omega)
   have g2 := Vy.get_rel (s.drop k) p (by simp; omega)
   rw [List.drop_drop] at g2
   have g : Vy.get s ((k : Int) + p) = ((Vy.get (s.drop k) p).1, (k : Int) + (Vy.get (s.drop k) p).2.1, (Vy.get (s.drop k) p).2.2) := by
     rw [show ((k : Int) + p) = ((k + p : Nat) : Int) by omega, g1, g2]
     simp [Int.add_assoc]
   obtain ⟨⟨v, x, e⟩, hg⟩ : ∃ r, Vy.get (s.drop k) p = r := ⟨_, rfl⟩; simp only [hg] at g; unfold Vy.row; rw [g, hg]; simp only; by_cases he : e = 0
   · subst he
     obtain ⟨a1, a2, a3⟩ := Vy.get_ok _ _ _ _ hg; simp at a3
     have ih := Vy.row_rel s k hk n x.toNat (by omega)
     rw [show ((x.toNat : Nat) : Int) = x by omega] at ih
     rw [if_pos rfl, if_pos rfl, ih]; simp only
     split <;> rfl
   · rw [if_neg he, if_neg he]
def Mf.zero : Mf := ⟨0, 0, 0, []⟩
def Mf.read (s : List UInt8) : Mf × Int :=
 if (Vy.row s 0 4).2.2 ≠ 0 then (Mf.zero, (Vy.row s 0 4).2.2)
 else if 1000 < (Vy.row s 0 4).1.getD 3 0 then (Mf.zero, 17)
 else if (Vy.row s (Vy.row s 0 4).2.1 (3 * (Vy.row s 0 4).1.getD 3 0)).2.2 ≠ 0 then (Mf.zero, (Vy.row s (Vy.row s 0 4).2.1 (3 * (Vy.row s 0 4).1.getD 3 0)).2.2)
 else if (Vy.row s (Vy.row s 0 4).2.1 (3 * (Vy.row s 0 4).1.getD 3 0)).2.1 < s.length then (Mf.zero, 4)
 else if (Mf.ofN ((Vy.row s 0 4).1 ++ (Vy.row s (Vy.row s 0 4).2.1 (3 * (Vy.row s 0 4).1.getD 3 0)).1)).right = true then (Mf.ofN ((Vy.row s 0 4).1 ++ (Vy.row s (Vy.row s 0 4).2.1 (3 * (Vy.row s 0 4).1.getD 3 0)).1), 0)
 else (Mf.zero, 17)
def Mf.get (s : List UInt8) : Mf × Int :=
 if Cr.openOk s = false then (Mf.zero, 16)
 else if (s.take (s.length - 4)).length < 3 then (Mf.zero, 3)
 else if (s.take (s.length - 4)).take 3 ≠ [67, 77, 1] then (Mf.zero, 6)
 else Mf.read ((s.take (s.length - 4)).drop 3)
def cutS_Gn : Summ := pureS fun
 | [.str s, .str p] => if p.length ≤ 1000000000000 ∧ s.length ≤ 1000000000000 then some (if s.take p.length = p then .tuple [.str (s.drop p.length), .bool true] else .tuple [.str s, .bool false]) else none
 | _ => none
def cutInl_Gn : List FuncId := [219, 123]
theorem cutΓ_ok_Gn : GOk Pz (runG Pz (gams []) 0 cutInl_Gn 2) := gok_run hmix goks_nil 0 cutInl_Gn 2
theorem cut_ct_Gn (s p : List UInt8) (_hs : s.length ≤ 1000000000000) (_hp : p.length ≤ 1000000000000) :
   Ct Pz 153 [.str s, .str p] [] (if s.take p.length = p then .tuple [.str (s.drop p.length), .bool true] else .tuple [.str s, .bool false]) [] := by
 by_cases h : s.take p.length = p
 · have hl : p.length ≤ s.length := by have := congrArg List.length h; simp at this; omega
   have hd : (s.drop p.length).take (s.length - p.length) = s.drop p.length := q6Z (by simp)
   rw [if_pos h]
   refine ct_val hmix cutΓ_ok_Gn (n := 0) Tryz.func153 ?_ (by simp)
   unfold Tryz.f153; simp [cutInl_Gn, Tryz.f219, Tryz.f123, h, hl, hd]
 · rw [if_neg h]
   refine ct_val hmix cutΓ_ok_Gn (n := 0) Tryz.func153 ?_ (by simp)
   unfold Tryz.f153; by_cases hl : p.length ≤ s.length
   · simp [cutInl_Gn, Tryz.f219, Tryz.f123, h, hl]
   · simp [cutInl_Gn, Tryz.f219, Tryz.f123, hl]
theorem cut_sound_Gn : Sound Pz 153 cutS_Gn := by
 refine sound_pure (enter_of Tryz.func153 rfl (by decide)) fun args v h => ?_
 split at h <;> try cases h
 rename_i s p
 split at h <;> cases h
 rename_i hc
 exact ⟨cut_ct_Gn s p hc.2 hc.1, by simp, by split <;> simp⟩
theorem gtΓ_ok : GOk Pz (gams [(240, openS), (153, cutS_Gn), (241, rowS), (242, ofS_Gn), (111, mrightS)]) :=
 goks_cons open_sound (goks_cons cut_sound_Gn (goks_cons prow_sound (goks_cons of_sound_Gn (goks_cons mright_sound goks_nil))))
@[simp] theorem shAs_aUs (k : Nat) : ∀ l : List Nat, shAs k (l.map aU) = l.map aU
 | [] => rfl
 | n :: l => by simp [aU, shAs_aUs k l]
theorem mget_ct (s : List UInt8) (hs : s.length ≤ 1000000000000) :
   Ct Pz 176 [.str s] [] (.tuple [mfA 0 (Mf.get s).1, .int .i64 (Mf.get s).2]) [.cells true (sgsA (Mf.get s).1.segs)] := by
 have hΓ := gtΓ_ok; cases ho : Cr.openOk s
 · have e : Mf.get s = (Mf.zero, 16) := by unfold Mf.get; rw [if_pos ho]
   rw [e]; refine ct_runE hmix hΓ (n := 3) Tryz.func176 ?_; unfold Tryz.f176
   exact ⟨_, _, (by simp [openS, cutS_Gn, hs, ho]; exact ⟨rfl, rfl⟩), Weak.mk' [100] (by decide) rfl (by simp [mfA, Mf.zero]) (by simp)⟩
 obtain ⟨b, hb⟩ : ∃ b, s.take (s.length - 4) = b := ⟨_, rfl⟩
 have bl : b.length ≤ 1000000000000 := by rw [← hb]; simp; omega
 by_cases h3 : b.length < 3
 · have e : Mf.get s = (Mf.zero, 3) := by unfold Mf.get; rw [if_neg (by simp [ho]), hb, if_pos h3]
   have h3i : (b.length : Int) < 3 := by omega
   have t : ¬ b.take 3 = [67, 77, 1] := fun h => by have := congrArg List.length h; simp at this; omega
   rw [e]; refine ct_runE hmix hΓ (n := 3) Tryz.func176 ?_; unfold Tryz.f176
   exact ⟨_, _, (by simp [openS, cutS_Gn, hs, ho, hb, bl, h3i, t]; exact ⟨rfl, rfl⟩), Weak.mk' [100] (by decide) rfl (by simp [mfA, Mf.zero]) (by simp)⟩
 have h3i : ¬ (b.length : Int) < 3 := by omega
 by_cases hm : b.take 3 = [67, 77, 1]; rotate_left
 · have e : Mf.get s = (Mf.zero, 6) := by unfold Mf.get; rw [if_neg (by simp [ho]), hb, if_neg h3, if_pos hm]
   rw [e]; refine ct_runE hmix hΓ (n := 3) Tryz.func176 ?_; unfold Tryz.f176
   exact ⟨_, _, (by simp [openS, cutS_Gn, hs, ho, hb, bl, h3i, hm]; exact ⟨rfl, rfl⟩), Weak.mk' [100] (by decide) rfl (by simp [mfA, Mf.zero]) (by simp)⟩
 have e : Mf.get s = Mf.read (b.drop 3) := by unfold Mf.get; rw [if_neg (by simp [ho]), hb, if_neg h3, if_neg (by simpa using hm)]
 rw [e]; clear e; obtain ⟨r, hr⟩ : ∃ r, b.drop 3 = r := ⟨_, rfl⟩
 have rl : r.length ≤ 1000000000000 := by rw [← hr]; simp; omega
 rw [hr]; unfold Mf.read; obtain ⟨⟨l4, x4, e4⟩, h4⟩ : ∃ q, Vy.row r 0 4 = q := ⟨_, rfl⟩; rw [h4]; simp only; by_cases he : e4 = 0; rotate_left
 · rw [if_pos he]
   refine ct_runE hmix hΓ (n := 3) Tryz.func176 ?_; unfold Tryz.f176
   exact ⟨_, _, (by simp [openS, cutS_Gn, rowS, hs, ho, hb, bl, h3i, hm, hr, rl, h4, he]; exact ⟨rfl, rfl⟩), Weak.mk' [100] (by decide) rfl (by simp [mfA, Mf.zero]) (by simp)⟩
 subst he; have hl4 := (Vy.row_length _ _ _ _ _ h4).1
 obtain ⟨d0, d1, d2, d, rfl⟩ : ∃ a b c d, l4 = [a, b, c, d] := by
   match l4, hl4 with
   | [a, b, c, d], _ => exact ⟨a, b, c, d, rfl⟩
 rw [if_neg (by simp)]
 simp only [List.getD_cons_succ, List.getD_cons_zero]; by_cases hd : 1000 < d
 · have hdi : (1000 : Int) < (d : Int) := by omega
   rw [if_pos hd]; refine ct_runE hmix hΓ (n := 3) Tryz.func176 ?_; unfold Tryz.f176
   exact ⟨_, _, (by simp [openS, cutS_Gn, rowS, hs, ho, hb, bl, h3i, hm, hr, rl, h4, aU, hdi]; exact ⟨rfl, rfl⟩), Weak.mk' [100] (by decide) rfl (by simp [mfA, Mf.zero]) (by simp)⟩
 have hdi : ¬ (1000 : Int) < (d : Int) := by omega
 rw [if_neg hd]
 have w0 : IntKind.i64.wrap (d : Int) = d := wr_i64 (by omega) (by omega)
 have w1 : IntKind.i64.wrap (3 * (d : Int)) = 3 * d := wr_i64 (by omega) (by omega)
 have w2 : IntKind.i64.wrap (4 + 3 * (d : Int)) = 4 + 3 * d := wr_i64 (by omega) (by omega)
 have w3 : IntKind.i64.wrap (4 + 3 * (d : Int) - 4) = 3 * d := by rw [wr_i64 (by omega) (by omega)]; omega
 have t3 : (3 * (d : Int)).toNat = 3 * d := by omega
 obtain ⟨⟨L, y, e2⟩, h5⟩ : ∃ q, Vy.row r x4 (3 * d) = q := ⟨_, rfl⟩; rw [h5]; simp only; by_cases hd0 : d = 0
 · subst hd0
   simp only [Vy.row, Prod.mk.injEq] at h5; obtain ⟨rfl, rfl, rfl⟩ := h5
   rw [if_neg (by simp), r2Z]
   have hS : (Mf.ofN [d0, d1, d2, 0]).segs.length ≤ 1000000000000 := by simp [Mf.ofN, toSgs]
   obtain ⟨⟨mv, mf, mn, S⟩, eM⟩ : ∃ M, Mf.ofN [d0, d1, d2, 0] = M := ⟨_, rfl⟩; rw [eM] at hS ⊢; simp only at hS; by_cases hy : x4 < r.length
   · rw [if_pos hy]
     refine ct_runE hmix hΓ (n := 3) Tryz.func176 ?_; unfold Tryz.f176
     exact ⟨_, _, (by simp [openS, cutS_Gn, rowS, hs, ho, hb, bl, h3i, hm, hr, rl, h4, aU, hy]; exact ⟨rfl, rfl⟩), Weak.mk' [100] (by decide) rfl (by simp [mfA, Mf.zero]) (by simp)⟩
   rw [if_neg hy]; cases hR : Mf.right ⟨mv, mf, mn, S⟩
   · rw [if_neg (by simp)]
     refine ct_runE hmix hΓ (n := 3) Tryz.func176 ?_; unfold Tryz.f176
     exact ⟨_, _, (by simp [openS, cutS_Gn, rowS, hs, ho, hb, bl, h3i, hm, hr, rl, h4, aU, ofS_Gn, mrightS, rowSgs, natsOf, mfA, hy, eM, hS, hR]; exact ⟨rfl, rfl⟩), Weak.mk' [100] (by decide) rfl (by simp [mfA, Mf.zero]) (by simp)⟩
   · rw [if_pos rfl]
     refine ct_runE hmix hΓ (n := 3) Tryz.func176 ?_; unfold Tryz.f176
     exact ⟨_, _, (by simp [openS, cutS_Gn, rowS, hs, ho, hb, bl, h3i, hm, hr, rl, h4, aU, ofS_Gn, mrightS, rowSgs, natsOf, mfA, hy, eM, hS, hR]; exact ⟨rfl, rfl⟩), Weak.mk' [3] (by decide) rfl (by simp [mfA]) (by simp)⟩
 have hd1 : (4 : Int) < 4 + 3 * (d : Int) := by omega
 have b3 : 3 * d ≤ 1000000000 := by omega
 have b4 : (0 : Int) ≤ 3 * (d : Int) := by omega
 have b5 : 3 * (d : Int) ≤ 1000000000 := by omega
 by_cases he : e2 = 0; rotate_left
 · rw [if_pos he]
   refine ct_runE hmix hΓ (n := 3) Tryz.func176 ?_; unfold Tryz.f176
   exact ⟨_, _, (by simp [openS, cutS_Gn, rowS, hs, ho, hb, bl, h3i, hm, hr, rl, h4, aU, hdi, w0, w1, w2, w3, t3, h5, hd1, b4, b5, he]; exact ⟨rfl, rfl⟩), Weak.mk' [100] (by decide) rfl (by simp [mfA, Mf.zero]) (by simp)⟩
 subst he; have hL := (Vy.row_length _ _ _ _ _ h5).1
 have tkL : (L.map aU).take (3 * d) = L.map aU := q6Z (by simp; omega)
 have s1 : (4 + 3 * d) * 8 ≤ 140737488355328 := by omega
 have s2 : 4 + 3 * d ≤ 9223372036854775807 := by omega
 have u1 : ¬ (4 + 3 * (d : Int) = 4) := by omega
 have tk4 : (AV.int .u64 (d0 : Int) :: AV.int .u64 (d1 : Int) :: AV.int .u64 (d2 : Int) :: AV.int .u64 (d : Int) :: L.map aU).take (4 + 3 * d) = AV.int .u64 (d0 : Int) :: AV.int .u64 (d1 : Int) :: AV.int .u64 (d2 : Int) :: AV.int .u64 (d : Int) :: L.map aU := q6Z (by simp; omega)
 have s3 : 4 + 3 * d ≤ 3 * d + 1 + 1 + 1 + 1 := by omega
 have s4 : 4 + 3 * d ≤ 3004 := by omega
 rw [if_neg (by simp)]
 have hS : (Mf.ofN ([d0, d1, d2, d] ++ L)).segs.length ≤ 1000000000000 := by
   unfold Mf.ofN
   rw [toSgs_length d _ (by simp; omega)]
   omega
 obtain ⟨⟨mv, mf, mn, S⟩, eM⟩ : ∃ M, Mf.ofN ([d0, d1, d2, d] ++ L) = M := ⟨_, rfl⟩; rw [eM] at hS ⊢; have eM2 : Mf.ofN (d0 :: d1 :: d2 :: d :: L) = ⟨mv, mf, mn, S⟩ := eM; simp only at hS; by_cases hy : y < r.length
 · rw [if_pos hy]
   refine ct_runE hmix hΓ (n := 3) Tryz.func176 ?_; unfold Tryz.f176
   exact ⟨_, _, (by simp [openS, cutS_Gn, rowS, hs, ho, hb, bl, h3i, hm, hr, rl, h4, aU, hdi, w0, w1, w2, w3, t3, h5, hd1, b4, b5, hL, tkL, s1, s2, u1, hy]; exact ⟨rfl, rfl⟩), Weak.mk' [100] (by decide) rfl (by simp [mfA, Mf.zero]) (by simp)⟩
 rw [if_neg hy]; cases hR : Mf.right ⟨mv, mf, mn, S⟩
 · rw [if_neg (by simp)]
   refine ct_runE hmix hΓ (n := 3) Tryz.func176 ?_; unfold Tryz.f176
   exact ⟨_, _, (by simp [openS, cutS_Gn, rowS, hs, ho, hb, bl, h3i, hm, hr, rl, h4, aU, hdi, w0, w1, w2, w3, t3, h5, hd1, b4, b5, hL, tkL, s1, s2, u1, tk4, s3, s4, ofS_Gn, mrightS, rowSgs, natsOf, mfA, hy, eM2, hS, hR]; exact ⟨rfl, rfl⟩), Weak.mk' [100] (by decide) rfl (by simp [mfA, Mf.zero]) (by simp)⟩
 · rw [if_pos rfl]
   refine ct_runE hmix hΓ (n := 3) Tryz.func176 ?_; unfold Tryz.f176
   exact ⟨_, _, (by simp [openS, cutS_Gn, rowS, hs, ho, hb, bl, h3i, hm, hr, rl, h4, aU, hdi, w0, w1, w2, w3, t3, h5, hd1, b4, b5, hL, tkL, s1, s2, u1, tk4, s3, s4, ofS_Gn, mrightS, rowSgs, natsOf, mfA, hy, eM2, hS, hR]; exact ⟨rfl, rfl⟩), Weak.mk' [5] (by decide) rfl (by simp [mfA]) (by simp)⟩
def mgetS : Summ := newS fun
 | [.str s] => if s.length ≤ 1000000000000 then some (.tuple [mfA 0 (Mf.get s).1, .int .i64 (Mf.get s).2], [.cells true (sgsA (Mf.get s).1.segs)]) else none
 | _ => none
theorem mget_sound : Sound Pz 176 mgetS := by
 refine sound_new (enter_of Tryz.func176 rfl (by decide)) fun args v H' h => ?_
 split at h <;> try cases h
 rename_i s
 split at h <;> cases h
 rename_i hc
 exact ⟨mget_ct s hc, by simp, by simp⟩
end
section
open Go
theorem numI_small {n : Nat} (h : n ≤ 1099511627776) : numI n = n := by unfold numI; omega
theorem toSgs_nums (l : List Sg) (h : ∀ x ∈ l, (0 ≤ x.1 ∧ x.1 ≤ 1000000000) ∧ (0 ≤ x.2.1 ∧ x.2.1 ≤ 1000000000) ∧ (0 ≤ x.2.2 ∧ x.2.2 ≤ 1000000000)) : toSgs (sgNums l) = l := by
 induction l with
 | nil => rfl
 | cons s l ih =>
   have hs := h s qhZ
   have ih2 := ih fun x hx => h x (qiZ _ hx)
   obtain ⟨a, b, c⟩ := s; simp only at hs; simp only [sgNums, q9Z, qaZ, toSgs, ih2]
   rw [numI_small (by omega), numI_small (by omega), numI_small (by omega)]
   rw [rqZ (by omega), rqZ (by omega), rqZ (by omega)]
theorem Mf.ofN_nums {m : Mf} (h : m.right = true) : Mf.ofN m.nums = m := by
 obtain ⟨h1, h2, h3⟩ := Mf.right_parts h; obtain ⟨v, f, n, l⟩ := m; simp only at h1 h2 h3; simp only [Mf.ofN, Mf.nums, q9Z, qaZ, List.getD_cons_zero, List.getD_cons_succ, List.drop_succ_cons, List.drop_zero]
 rw [numI_small (by omega), numI_small (by omega), numI_small (by omega), toSgs_nums l fun x hx => by have := h3 x hx; omega]
 rw [rqZ (by omega), rqZ (by omega), rqZ (by omega)]
theorem Vy.row_put2 (l : List Nat) (hl : ∀ n ∈ l, n < 2^64) (k : Nat) (_hk : k ≤ l.length) : Vy.row (Vy.put l) ((Vy.put (l.take k)).length : Int) (l.length - k) = (l.drop k, ((Vy.put l).length : Int), 0) := by
 have e : Vy.put l = Vy.put (l.take k) ++ Vy.put (l.drop k) := by rw [← Vy.put_append, r6Z]
 have hd : (Vy.put l).drop (Vy.put (l.take k)).length = Vy.put (l.drop k) := by rw [e, List.drop_left]
 have h := Vy.row_rel (Vy.put l) (Vy.put (l.take k)).length (by rw [e]; simp) (l.length - k) 0 (by omega)
 have h2 := Vy.row_put (l.drop k) [] (fun n hn => hl n (List.mem_of_mem_drop hn)) (l.length - k) (by simp)
 rw [r2Z, show List.take (l.length - k) (l.drop k) = l.drop k from q6Z (by simp)] at h2
 have z : ((0 : Nat) : Int) = 0 := rfl; rw [hd, z, h2, Int.add_zero] at h; rw [h, e, qdZ]; simp
theorem Mf.read_put {m : Mf} (h : m.right = true) : Mf.read (Vy.put m.nums) = (m, 0) := by
 obtain ⟨h1, h2, h3⟩ := Mf.right_parts h; have hb := Mf.nums_lt h
 have hb2 : ∀ n ∈ m.nums, n < 2 ^ 64 := fun n hn => Nat.lt_trans (hb n hn) (by decide)
 have hn := Mf.nums_length m
 have r1 := Vy.row_put m.nums [] hb2 4 (by omega)
 rw [r2Z] at r1
 have r2 := Vy.row_put2 m.nums hb2 4 (by omega)
 have e4 : m.nums.length - 4 = 3 * m.segs.length := by omega
 rw [e4] at r2
 have hg : (m.nums.take 4).getD 3 0 = m.segs.length := by simp [Mf.nums]
 unfold Mf.read; rw [r1]; simp only; rw [hg, r2]; simp only
 rw [if_neg (by simp), if_neg (by omega), if_neg (by simp), if_neg (by simp), r6Z, Mf.ofN_nums h, if_pos h]
theorem Mf.get_put {m : Mf} (h : m.right = true) : Mf.get m.bytes = (m, 0) := by
 have e1 : (m.bytes.take (m.bytes.length - 4)) = [67, 77, 1] ++ Vy.put m.nums := by
   unfold Mf.bytes; rw [Cr.seal_length, Nat.add_sub_cancel]; unfold Cr.seal; rw [List.take_left]
 unfold Mf.get
 rw [if_neg (by unfold Mf.bytes; rw [Cr.open_seal]; simp), e1, if_neg (by simp), if_neg (by simp)]
 simp only [q9Z, qaZ, List.drop_succ_cons, List.drop_zero]; exact Mf.read_put h
theorem Mf.bytes_inj {a b : Mf} (ha : a.right = true) (hb : b.right = true) (h : a.bytes = b.bytes) : a = b := by
 have h1 := Mf.get_put ha; rw [h, Mf.get_put hb] at h1; simp only [Prod.mk.injEq, and_true] at h1; exact h1.symm
end
end Go.Proofs.YthafeihjlamhhaaGreatDoor
