/- Walk: cedillalaw03.FrameBack. -/
import Derived.Test.YtmoegdjpmcjhcaaKq
namespace Go.Proofs.Ytmoegdjpmcjhcaa
open Go
set_option maxRecDepth 100000
attribute [-simp] drawOk_eq adraw qrun acode aops

/-- The payloads of a row that can be laid, cut to 300 bytes. -/
def Fr.own (l : List (List UInt8)) : List (List UInt8) := (l.map (List.take 300)).filter fun p => !p.isEmpty

theorem Fr.own_ok (l : List (List UInt8)) : ∀ p ∈ Fr.own l, Fr.ok p := by
  intro p hp
  unfold Fr.own at hp
  obtain ⟨h1, h2⟩ := List.mem_filter.1 hp
  obtain ⟨q, _, rfl⟩ := List.mem_map.1 h1
  refine ⟨?_, by simp; omega⟩
  intro h
  rw [List.eq_nil_of_length_eq_zero h] at h2
  simp at h2

theorem Fr.own_len (l : List (List UInt8)) : (Fr.own l).length ≤ l.length := by
  unfold Fr.own
  have := List.length_filter_le (fun p : List UInt8 => !p.isEmpty) (l.map (List.take 300))
  simpa using this

theorem Fr.own_succ (l : List (List UInt8)) (k : Nat) (h : k < l.length) : Fr.own (l.take (k + 1)) = Fr.own (l.take k) ++ if (l[k].take 300) = [] then [] else [l[k].take 300] := by
  unfold Fr.own
  rw [List.take_succ_eq_append_getElem h, List.map_append, List.filter_append]
  congr 1
  by_cases h0 : l[k].take 300 = []
  · rw [if_pos h0]; simp [h0]
  · rw [if_neg h0]
    simp only [List.map_cons, List.map_nil, List.filter_cons]
    rw [if_pos (by cases hq : l[k].take 300 with | nil => exact absurd hq h0 | cons _ _ => rfl)]
    rfl

/-- The places behind frames. -/
def Fr.ends (l : List (List UInt8)) : List Nat := (List.range (l.length + 1)).map fun i => (Fr.cat (l.take i)).length

theorem Fr.ends_len (l : List (List UInt8)) : (Fr.ends l).length = l.length + 1 := by simp [Fr.ends]
theorem Fr.ends_get (l : List (List UInt8)) (i : Nat) (h : i ≤ l.length) : (Fr.ends l)[i]? = some (Fr.cat (l.take i)).length := by
  unfold Fr.ends
  rw [List.getElem?_map, List.getElem?_range (by omega)]
  rfl
theorem Fr.ends_snoc (l : List (List UInt8)) (p : List UInt8) : Fr.ends (l ++ [p]) = Fr.ends l ++ [(Fr.cat l).length + (Fr.put p).1.length] := by
  unfold Fr.ends
  rw [List.length_append, List.length_singleton, List.range_succ, List.map_append]
  congr 1
  · refine List.map_congr_left fun i hi => ?_
    rw [List.mem_range] at hi
    rw [List.take_append_of_le_length (by omega)]
  · simp [Fr.cat, List.take_of_length_le]

def endsA (l : List (List UInt8)) : List AV := (Fr.ends l).map fun n : Nat => .int .i64 n
theorem endsA_len (l : List (List UInt8)) : (endsA l).length = l.length + 1 := by simp [endsA, Fr.ends_len]
theorem endsA_get (l : List (List UInt8)) (i : Nat) (h : i ≤ l.length) : (endsA l)[i]? = some (.int .i64 ((Fr.cat (l.take i)).length : Int)) := by
  unfold endsA
  rw [List.getElem?_map, Fr.ends_get l i h]
  rfl
theorem endsA_snoc (l : List (List UInt8)) (p : List UInt8) : endsA (l ++ [p]) = endsA l ++ [.int .i64 (((Fr.cat l).length : Int) + ((Fr.put p).1.length : Int))] := by
  unfold endsA
  rw [Fr.ends_snoc]
  simp
@[simp] theorem frees_endsA (l : List (List UInt8)) : frees (endsA l) = true := frees_map _ _ fun _ => rfl
theorem endsA_nil : endsA [] = [.int .i64 0] := rfl

theorem cat_take_le (l : List (List UInt8)) (w : Nat) : (Fr.cat (l.take w)).length ≤ (Fr.cat l).length := by
  conv => rhs; rw [← List.take_append_drop w l, Fr.cat_append, List.length_append]
  omega

set_option maxHeartbeats 16000000 in
theorem back_ct (ss : List (List UInt8)) (x : AV) (hx : x = .nils ∧ ss = [] ∨ x = .slice 0 0 ss.length 1 false) (cut : Int) (c0 : 0 ≤ cut) (c1 : cut ≤ 65535) :
    ∃ H', Ct Try.prog 9 [x, .int .u16 cut] [.cells false (ss.map AV.str)] (.bool true) H' := by
  have hΓ := goks_cons works_sound (goks_cons fput_sound (goks_cons fsize_sound (goks_cons fall_sound (goks_cons fget_sound (goks_cons same_sound goks_nil)))))
  refine ⟨[.cells false (ss.map AV.str)], ?_⟩
  have fss : frees (ss.map AV.str) = true := frees_map _ _ fun _ => rfl
  have hlen : lenA Try.prog 46 x = some (.int .i64 ss.length) := by
    rcases hx with ⟨rfl, rfl⟩ | rfl <;> simp [lenA, Try.underlying46]
  have hax : ∀ rn : List Nat, rn[0]? = some 0 → (AW rn x x ↔ True) := by
    intro rn h
    rcases hx with ⟨rfl, rfl⟩ | rfl <;> simp [AW, h]
  refine ct_of_sim Try.func9 rfl ?_
  simp only [Try.ntmps9, List.length_cons, List.length_nil, Nat.reduceAdd, Nat.reduceSub, List.replicate, List.cons_append, List.nil_append]
  refine Sim.step hmix hΓ (n := 0) (by simp; exact ⟨rfl, rfl⟩) (by simp) ?_
  refine Sim.step hmix hΓ (n := 0) (by simp [worksS]; exact ⟨rfl, rfl⟩) (by simp) ?_
  refine Sim.step hmix hΓ (n := 0) (by simp; exact ⟨rfl, rfl⟩) (by simp) ?_
  refine Sim.step hmix hΓ (n := 0) (by simp; exact ⟨rfl, rfl⟩) (by simp) ?_
  refine Sim.step hmix hΓ (n := 0) (by simp (decide := true); exact ⟨rfl, rfl⟩) (by simp) ?_
  refine Sim.seq (Sim.mono (Q := fun e F' H' => e = .normal ∧ ∃ W : List (List UInt8), (∀ p ∈ W, Fr.ok p) ∧ W.length ≤ 15 ∧
    Weak 1 F' H' ([.top, .int .u16 cut, .top, .top, .bool false, .str (Fr.cat W), payV 2 W, .slice 1 0 (W.length + 1) 1 false] ++ List.replicate 185 .top) (.cells false (ss.map AV.str) :: .cells true (endsA W) :: payB W)) ?_ ?_)
  · refine Sim.step hmix hΓ (n := 0) (by simp; exact ⟨rfl, rfl⟩) (by simp) ?_
    refine Sim.block (Sim.loopW (fun k : Nat => k ≤ ss.length ∧ k ≤ 15)
      (fun k => [x, .int .u16 cut, .top, .top, .bool false, .str (Fr.cat (Fr.own (ss.take k))), payV 2 (Fr.own (ss.take k)), .slice 1 0 ((Fr.own (ss.take k)).length + 1) 1 false, .int .i64 k] ++ List.replicate 184 .top)
      (fun k => .cells false (ss.map .str) :: .cells true (endsA (Fr.own (ss.take k))) :: payB (Fr.own (ss.take k))) (fun k => 15 - k) 0 (by simp) (by simp) ?_ fun k hk => ?_)
    · refine Weak.mk' [0, 1] (by decide) rfl ?_ ?_
      · simp [Fr.own, payV, hax]
      · simp [Fr.own, payB, endsA_nil, fss]
    obtain ⟨hk, hk2⟩ := hk
    have okW := Fr.own_ok (ss.take k)
    have lenW := Fr.own_len (ss.take k)
    have lenT : (ss.take k).length ≤ 15 := by rw [List.length_take]; omega
    have hsucc := Fr.own_succ ss k
    obtain ⟨W, hW⟩ : ∃ W, Fr.own (ss.take k) = W := ⟨_, rfl⟩
    rw [hW] at okW lenW hsucc ⊢
    have lW : W.length ≤ 15 := by omega
    have lcat := Fr.cat_le W
    obtain ⟨acc, hacc⟩ : ∃ a, Fr.cat W = a := ⟨_, rfl⟩
    by_cases hgo : k < ss.length ∧ k < 15
    · obtain ⟨hlt, h15⟩ := hgo
      have hsucc := hsucc hlt
      have h15' : (k : Int) < 15 := by omega
      have hxs : x = .slice 0 0 ss.length 1 false := by
        rcases hx with ⟨_, rfl⟩ | h
        · simp at hlt
        · exact h
      have g1 : (ss.map AV.str)[k]? = some (.str ss[k]) := by rw [List.getElem?_map, List.getElem?_eq_getElem hlt]; rfl
      have hw : IntKind.i64.wrap ((k : Int) + 1) = k + 1 := wr_i64 (by omega) (by omega)
      obtain ⟨m, e1, l1, k1, k2⟩ := cut_len ss[k] 300 300 rfl
      have e2 : ss[k].take m = ss[k].take 300 := by rw [k2, take_min_len]
      have lP : (ss[k].take 300).length ≤ 300 := by simp; omega
      obtain ⟨P, hP⟩ : ∃ P, ss[k].take 300 = P := ⟨_, rfl⟩
      rw [hP] at e2 hsucc lP
      have p1 : P.length ≤ 1000000000 := by omega
      have lf := Fr.put_le P
      have hcs := Fr.cat_append W [P]
      rw [Fr.cat_cons, Fr.cat_nil, List.append_nil] at hcs
      have hes := endsA_snoc W P
      have hsz := Fr.put_ok P
      have hpl := Fr.put_length P
      rw [hacc] at hcs hes
      obtain ⟨⟨f, fe⟩, hf⟩ : ∃ r, Fr.put P = r := ⟨_, rfl⟩
      rw [hf] at lf hcs hes hsz hpl
      dsimp only at lf hcs hes hsz hpl
      rw [hxs] at hax ⊢
      by_cases hP0 : P = []
      · subst hP0
        rw [if_pos rfl, List.append_nil] at hsucc
        have hf' : f = [] ∧ fe = 4 := by
          have : Fr.put [] = ([], 4) := by rfl
          rw [this] at hf
          simpa using hf.symm
        obtain ⟨rfl, rfl⟩ := hf'
        cases W with
        | nil =>
          refine Sim.exec hmix hΓ (n := 4) (by simp (decide := true) (maxSteps := 2000000) [hlt, h15', g1, e1, k1, e2, fputS, fsizeS, hf, hw]; exact ⟨rfl, rfl, rfl⟩) (by simp) ?_
          exact ⟨k + 1, ⟨by omega, by omega⟩, Weak.mk' [0, 1] (by decide) rfl (by simp [hsucc, payV]) (by simp [hsucc, payB, fss]), by omega⟩
        | cons z W =>
          have fl : frees (W.map AV.str) = true := frees_map _ _ fun _ => rfl
          refine Sim.exec hmix hΓ (n := 4) (by simp (decide := true) (maxSteps := 2000000) [hlt, h15', g1, e1, k1, e2, fputS, fsizeS, hf, hw]; exact ⟨rfl, rfl, rfl⟩) (by simp) ?_
          exact ⟨k + 1, ⟨by omega, by omega⟩, Weak.mk' [0, 1, 2] (by decide) rfl (by simp [hsucc, payV]) (by simp [hsucc, payB, fss, fl]), by omega⟩
      · rw [if_neg hP0] at hsucc
        have hPl : P.length ≠ 0 := fun h => hP0 (List.eq_nil_of_length_eq_zero h)
        have hfe : fe = 0 := hsz.2 ⟨hPl, lP⟩
        subst hfe
        have hfl := hpl ⟨hPl, lP⟩
        have hf0 : f ≠ [] := by rintro rfl; simp at hfl
        have hP1 : P.isEmpty = false := by cases P with | nil => exact absurd rfl hP0 | cons _ _ => rfl
        have hP2 : (P == []) = false := by cases P with | nil => exact absurd rfl hP0 | cons _ _ => rfl
        have hf1 : f.isEmpty = false := by cases f with | nil => exact absurd rfl hf0 | cons _ _ => rfl
        have hf2 : (f == []) = false := by cases f with | nil => exact absurd rfl hf0 | cons _ _ => rfl
        have la : acc.length ≤ 313 * 15 := by rw [← hacc]; omega
        have q1 : acc.length + f.length ≤ 9223372036854775807 := by omega
        have hEl := endsA_len W
        have fE : frees (endsA W ++ [AV.int .i64 ((acc.length : Int) + (f.length : Int))]) = true := by rw [← hes]; simp
        have c1' : (W.length + 1 + 1) * 8 ≤ 140737488355328 := by omega
        have c2' : W.length ≤ 9223372036854775805 := by omega
        have hEt : (endsA W).take (W.length + 1) = endsA W := by rw [← hEl, List.take_length]
        cases W with
        | nil =>
          have hcs1 : Fr.cat [P] = acc ++ f := hcs
          have hes1 : endsA [P] = endsA [] ++ [AV.int .i64 ((acc.length : Int) + (f.length : Int))] := hes
          refine Sim.exec hmix hΓ (n := 4) (by simp (decide := true) (maxSteps := 2000000) [hlt, h15', g1, e1, k1, e2, fputS, fsizeS, p1, hf, hw, hacc, hP1, hP2, hf1, hf2, hP0, hf0, q1, payV, payB, hEl, hEt]; exact ⟨rfl, rfl, rfl⟩) (by simp) ?_
          exact ⟨k + 1, ⟨by omega, by omega⟩, Weak.mk' [0, 5, 3] (by decide) rfl (by simp [hsucc, hcs1, payV, hax]) (by simp [hsucc, hes1, payB, fss, AWs_free fE]), by omega⟩
        | cons z W =>
          have fl : frees (W.map AV.str ++ [AV.str P]) = true := frees_iff.2 fun v hv => by
            rcases List.mem_append.1 hv with h | h
            · obtain ⟨_, _, rfl⟩ := List.mem_map.1 h; rfl
            · simp at h; subst h; rfl
          have d1 : (W.length + 1 + 1) * 16 ≤ 140737488355328 := by simp at lW; omega
          have d2 : W.length ≤ 9223372036854775805 := by simp at lW; omega
          have d4 : W.length ≤ 9223372036854775804 := by simp at lW; omega
          have d3 : (W.length + 1 + 1 + 1) * 8 ≤ 140737488355328 := by simp at lW; omega
          have hcs1 : Fr.cat (z :: (W ++ [P])) = acc ++ f := hcs
          have hes1 : endsA (z :: (W ++ [P])) = endsA (z :: W) ++ [AV.int .i64 ((acc.length : Int) + (f.length : Int))] := hes
          have hEl' : (endsA (z :: W)).length = W.length + 1 + 1 := by rw [hEl]; rfl
          have hEt' : (endsA (z :: W)).take (W.length + 1 + 1) = endsA (z :: W) := by rw [← hEl', List.take_length]
          refine Sim.exec hmix hΓ (n := 4) (by simp (decide := true) (maxSteps := 2000000) [hlt, h15', g1, e1, k1, e2, fputS, fsizeS, p1, hf, hw, hacc, hP1, hP2, hf1, hf2, hP0, hf0, q1, payV, payB, hEl', hEt', d1, d2, d3, d4]; exact ⟨rfl, rfl, rfl⟩) (by simp) ?_
          exact ⟨k + 1, ⟨by omega, by omega⟩, Weak.mk' [0, 6, 4] (by decide) rfl (by simp [hsucc, hcs1, payV, hax]) (by simp [hsucc, hes1, payB, fss, AWs_free fE, AWs_free fl]), by omega⟩
    · have hexit : ∀ F' H', Weak 1 F' H' ([.top, .int .u16 cut, .top, .top, .bool false, .str (Fr.cat W), payV 2 W, .slice 1 0 (W.length + 1) 1 false] ++ List.replicate 185 .top) (.cells false (ss.map AV.str) :: .cells true (endsA W) :: payB W) →
          ∃ W : List (List UInt8), (∀ p ∈ W, Fr.ok p) ∧ W.length ≤ 15 ∧ Weak 1 F' H' ([.top, .int .u16 cut, .top, .top, .bool false, .str (Fr.cat W), payV 2 W, .slice 1 0 (W.length + 1) 1 false] ++ List.replicate 185 .top) (.cells false (ss.map AV.str) :: .cells true (endsA W) :: payB W) := fun F' H' h => ⟨W, okW, lW, h⟩
      by_cases hlt : k < ss.length
      · obtain rfl : k = 15 := by omega
        have hlt2 : (15 : Int) < (ss.length : Int) := by omega
        refine Sim.exec hmix hΓ (n := 0) (by simp (decide := true) [hlen, hlt, hlt2, -lenA]; exact ⟨rfl, rfl, rfl⟩) (by simp) ?_
        dsimp only
        rw [if_pos rfl]
        refine ⟨rfl, hexit _ _ ?_⟩
        cases W with
        | nil => exact Weak.mk' [0, 1] (by decide) rfl (by simp [payV]) (by simp [payB, fss])
        | cons z W =>
          have fl : frees (W.map AV.str) = true := frees_map _ _ fun _ => rfl
          exact Weak.mk' [0, 1, 2] (by decide) rfl (by simp [payV]) (by simp [payB, fss, fl])
      · refine Sim.exec hmix hΓ (n := 0) (by simp (decide := true) [hlen, hlt, -lenA]; exact ⟨rfl, rfl, rfl⟩) (by simp) ?_
        dsimp only
        rw [if_pos rfl]
        refine ⟨rfl, hexit _ _ ?_⟩
        cases W with
        | nil => exact Weak.mk' [0, 1] (by decide) rfl (by simp [payV]) (by simp [payB, fss])
        | cons z W =>
          have fl : frees (W.map AV.str) = true := frees_map _ _ fun _ => rfl
          exact Weak.mk' [0, 1, 2] (by decide) rfl (by simp [payV]) (by simp [payB, fss, fl])
  rintro e F' H' hH' ⟨rfl, W, okW, lW, hwk⟩
  dsimp only
  refine Sim.weak hwk hH' ?_
  have lcat := Fr.cat_le W
  obtain ⟨s, hs⟩ : ∃ s, Fr.cat W = s := ⟨_, rfl⟩
  have ls : s.length ≤ 313 * 15 := by rw [← hs]; omega
  have p1 : s.length ≤ 1000000000 := by omega
  have p2 : s.length ≤ 1000000000000 := by omega
  have w0 : IntKind.i64.wrap cut = cut := wr_i64 (by omega) (by omega)
  obtain ⟨n, hn, ln⟩ := rem_nat cut (s.length + 1) c0 (by omega) ((s.length : Int) + 1) (by omega)
  have w1 : IntKind.i64.wrap ((s.length : Int) + 1) = (s.length : Int) + 1 := wr_i64 (by omega) (by omega)
  have w2 : IntKind.i64.wrap (n : Int) = n := wr_i64 (by omega) (by omega)
  have z1 : ¬ ((s.length : Int) + 1 = 0) := by omega
  have ln2 : n ≤ s.length := by omega
  have hall := Fr.all_whole W okW W.length (Nat.le_refl _)
  rw [List.take_length, hs, List.take_length] at hall
  by_cases hW0 : W = []
  · subst hW0
    obtain rfl : s = [] := hs.symm
    obtain rfl : n = 0 := by simp at ln2; exact ln2
    have hn' : cut.tmod 1 = 0 := by simp
    have ha0 : Fr.all [] 0 = ([], 0, 0) := Fr.all_nil
    refine Sim.exec hmix hΓ (n := 2) (by simp (decide := true) (maxSteps := 2000000) [Fr.cat_nil, payV, payB, endsA_nil, fallS, newS, ha0, sameS, textsA, w0, hn']; exact ⟨rfl, rfl, rfl⟩) (by simp) ?_
    exact ⟨.inr rfl, _, by simp; rfl, Weak.mk' [0] (by decide) rfl (by simp) (by simp [fss])⟩
  have hWl : W.length ≠ 0 := fun h => hW0 (List.eq_nil_of_length_eq_zero h)
  have eV : payV 2 W = .slice 2 0 W.length 1 false := by unfold payV; rw [if_neg hWl]
  have eV0 : payV 0 W = .slice 0 0 W.length 1 false := by unfold payV; rw [if_neg hWl]
  have eB : payB W = [.cells true (W.map AV.str)] := by unfold payB; rw [if_neg hWl]
  rw [eV, eB, hs]
  have fW : frees (W.map AV.str) = true := frees_map _ _ fun _ => rfl
  have hst : strsOf ((W.map AV.str).take W.length) = some W := by rw [List.take_of_length_le (by simp)]; simp
  have lW2 : W.length ≤ 1000000000000 := by omega
  have hEl := endsA_len W
  have hEg : ∀ i, i ≤ W.length → (endsA W)[i]? = some (.int .i64 ((Fr.cat (W.take i)).length : Int)) := endsA_get W
  have hEx : ∀ (i : Nat) (h : i < (endsA W).length), (endsA W)[i] = .int .i64 ((Fr.cat (W.take i)).length : Int) := fun i h => (List.getElem?_eq_some_iff.1 (hEg i (by omega))).2
  refine Sim.step hmix hΓ (n := 0) (by simp [fallS, p1, hall, eV0, eB]; exact ⟨rfl, rfl⟩) (by simp) ?_
  refine Sim.step hmix hΓ (n := 0) (by simp [sameS, textsA, hst, lW2]; exact ⟨rfl, rfl⟩) (by simp) ?_
  refine Sim.seq (Sim.mono (Q := fun e F' H' => e = .normal ∧ Weak 1 F' H' ([.top, .int .u16 cut, .top, .top, .bool false, .str s, .slice 2 0 W.length 1 false, .slice 1 0 (W.length + 1) 1 false] ++ List.replicate 185 .top) [.cells false (ss.map AV.str), .cells true (endsA W), .cells true (W.map AV.str)]) ?_ ?_)
  · refine Sim.step hmix hΓ (n := 0) (by simp; exact ⟨rfl, rfl⟩) (by simp) ?_
    refine Sim.block (Sim.loopW (fun k : Nat => k ≤ W.length)
      (fun k => [.top, .int .u16 cut, .top, .top, .bool false, .str s, .slice 2 0 W.length 1 false, .slice 1 0 (W.length + 1) 1 false, .top, .top, .top, .top, .top, .top, .top, .int .i64 k] ++ List.replicate 177 .top)
      (fun _ => [.cells false (ss.map AV.str), .cells true (endsA W), .cells true (W.map AV.str)]) (fun k => W.length - k) 0 (by simp) (by simp) (Weak.mk' [0, 1, 2] (by decide) rfl (by simp) (by simp [fss, fW])) fun k hk => ?_)
    by_cases hlt : k < W.length
    · have hw : IntKind.i64.wrap ((k : Int) + 1) = k + 1 := wr_i64 (by omega) (by omega)
      have b1 : k < W.length + 1 := by omega
      have b2 : (k : Int) < (W.length : Int) + 1 := by omega
      have b3 : (k : Int) + 1 < (W.length : Int) + 1 := by omega
      have b4 : (0 : Int) ≤ (k : Int) + 1 := by omega
      have b5 : ((k : Int) + 1).toNat = k + 1 := by omega
      have b6 : (endsA W)[k]? = some (.int .i64 ((Fr.cat (W.take k)).length : Int)) := hEg k (by omega)
      have b7 : (endsA W)[k + 1]? = some (.int .i64 ((Fr.cat (W.take (k + 1))).length : Int)) := hEg (k + 1) (by omega)
      have hget := Fr.get_at W okW k hlt
      rw [hs] at hget
      refine Sim.exec hmix hΓ (n := 0) (by simp (decide := true) (maxSteps := 2000000) [hlt, hEl, b1, b2, b3, b4, b5, b6, b7, hEx, fgetS, p2, hget, hw]; exact ⟨rfl, rfl, rfl⟩) (by simp) ?_
      exact ⟨k + 1, by omega, Weak.mk' [0, 1, 2] (by decide) rfl (by simp) (by simp [fss, fW]), by omega⟩
    · refine Sim.exec hmix hΓ (n := 0) (by simp [hlt]; exact ⟨rfl, rfl, rfl⟩) (by simp) ?_
      dsimp only
      rw [if_pos rfl]
      exact ⟨rfl, Weak.mk' [0, 1, 2] (by decide) rfl (by simp) (by simp [fss, fW])⟩
  rintro e F2 H2 hH2 ⟨rfl, hwk2⟩
  dsimp only
  refine Sim.weak hwk2 hH2 ?_
  refine Sim.step hmix hΓ (n := 0) (by simp [w0, w1, hn, w2, z1]; exact ⟨rfl, rfl⟩) (by simp) ?_
  refine Sim.step hmix hΓ (n := 0) (by simp; exact ⟨rfl, rfl⟩) (by simp) ?_
  refine Sim.seq (Sim.mono (Q := fun e F' H' => e = .normal ∧ ∃ w : Nat, w ≤ W.length ∧ (Fr.cat (W.take w)).length ≤ n ∧ (w < W.length → n < (Fr.cat (W.take (w + 1))).length) ∧
    Weak 1 F' H' ([.top, .int .u16 cut, .top, .top, .bool false, .str s, .slice 2 0 W.length 1 false, .slice 1 0 (W.length + 1) 1 false, .top, .top, .top, .top, .top, .top, .top, .top, .top, .top, .top, .int .i64 n, .int .i64 w] ++ List.replicate 172 .top) [.cells false (ss.map AV.str), .cells true (endsA W), .cells true (W.map AV.str)]) ?_ ?_)
  · refine Sim.block (Sim.loopW (fun w : Nat => w ≤ W.length ∧ (Fr.cat (W.take w)).length ≤ n)
      (fun w => [.top, .int .u16 cut, .top, .top, .bool false, .str s, .slice 2 0 W.length 1 false, .slice 1 0 (W.length + 1) 1 false, .top, .top, .top, .top, .top, .top, .top, .top, .top, .top, .top, .int .i64 n, .int .i64 w] ++ List.replicate 172 .top)
      (fun _ => [.cells false (ss.map AV.str), .cells true (endsA W), .cells true (W.map AV.str)]) (fun w => W.length - w) 0 (by simp) (by simp) (Weak.mk' [0, 1, 2] (by decide) rfl (by simp) (by simp [fss, fW])) fun w hw => ?_)
    obtain ⟨hw, hwn⟩ := hw
    have hw1 : IntKind.i64.wrap ((w : Int) + 1) = w + 1 := wr_i64 (by omega) (by omega)
    by_cases hlt : w < W.length
    · have b3 : (w : Int) + 1 < (W.length : Int) + 1 := by omega
      have b3' : w + 1 < W.length + 1 := by omega
      have b4 : (0 : Int) ≤ (w : Int) + 1 := by omega
      have b5 : ((w : Int) + 1).toNat = w + 1 := by omega
      have b7 : (endsA W)[w + 1]? = some (.int .i64 ((Fr.cat (W.take (w + 1))).length : Int)) := hEg (w + 1) (by omega)
      by_cases hle : (Fr.cat (W.take (w + 1))).length ≤ n
      · have hle2 : ((Fr.cat (W.take (w + 1))).length : Int) ≤ (n : Int) := by omega
        refine Sim.exec hmix hΓ (n := 0) (by simp (decide := true) (maxSteps := 2000000) [hlt, hEl, b3, b3', b4, b5, b7, hEx, hw1, hle, hle2]; exact ⟨rfl, rfl, rfl⟩) (by simp) ?_
        exact ⟨w + 1, ⟨by omega, hle⟩, Weak.mk' [0, 1, 2] (by decide) rfl (by simp) (by simp [fss, fW]), by omega⟩
      · have hle2 : ¬ ((Fr.cat (W.take (w + 1))).length : Int) ≤ (n : Int) := by omega
        refine Sim.exec hmix hΓ (n := 0) (by simp (decide := true) (maxSteps := 2000000) [hlt, hEl, b3, b3', b4, b5, b7, hEx, hw1, hle, hle2]; exact ⟨rfl, rfl, rfl⟩) (by simp) ?_
        dsimp only
        rw [if_pos rfl]
        exact ⟨rfl, w, hw, hwn, fun _ => by omega, Weak.mk' [0, 1, 2] (by decide) rfl (by simp) (by simp [fss, fW])⟩
    · have b3 : ¬ (w : Int) + 1 < (W.length : Int) + 1 := by omega
      refine Sim.exec hmix hΓ (n := 0) (by simp (decide := true) [hlt, b3, hw1]; exact ⟨rfl, rfl, rfl⟩) (by simp) ?_
      dsimp only
      rw [if_pos rfl]
      exact ⟨rfl, w, hw, hwn, fun h => absurd h hlt, Weak.mk' [0, 1, 2] (by decide) rfl (by simp) (by simp [fss, fW])⟩
  rintro e F3 H3 hH3 ⟨rfl, w, hw, hwn, hnx, hwk3⟩
  dsimp only
  refine Sim.weak hwk3 hH3 ?_
  have g1 : (endsA W)[w]? = some (.int .i64 ((Fr.cat (W.take w)).length : Int)) := hEg w hw
  have hres : ∃ ee : Int, Fr.all (s.take n) 0 = (W.take w, ((Fr.cat (W.take w)).length : Int), ee) ∧ (n = (Fr.cat (W.take w)).length → ee = 0) ∧ (n ≠ (Fr.cat (W.take w)).length → ee = 3) := by
    by_cases hq : n = (Fr.cat (W.take w)).length
    · have := Fr.all_whole W okW w hw
      rw [hs, ← hq] at this
      exact ⟨0, by rw [this, hq], fun _ => rfl, fun h => absurd hq h⟩
    · have hlt : w < W.length := by
        rcases Nat.lt_or_ge w W.length with h | h
        · exact h
        · exfalso
          rw [List.take_of_length_le h, hs] at hwn hq
          omega
      have := Fr.all_cut W okW w n hlt (by omega) (hnx hlt)
      rw [hs] at this
      exact ⟨3, this, fun h => absurd h hq, fun _ => rfl⟩
  obtain ⟨ee, hres, he0, he3⟩ := hres
  have p3 : n ≤ 1000000000 := by omega
  have p3' : min n s.length ≤ 1000000000 := by omega
  have ln3 : (n : Int) ≤ (s.length : Int) := by omega
  have b1 : w < W.length + 1 := by omega
  have b2 : (w : Int) < (W.length : Int) + 1 := by omega
  have hw2 : (w : Int) ≤ (W.length : Int) := by omega
  obtain ⟨T, hT⟩ : ∃ T, W.take w = T := ⟨_, rfl⟩
  have hTl : T.length = w := by rw [← hT, List.length_take]; omega
  have hst2 : strsOf ((W.map AV.str).take w) = some T := by rw [← List.map_take, hT]; simp
  have hst3 : strsOf ((T.map AV.str).take w) = some T := by rw [List.take_of_length_le (by simp [hTl])]; simp
  have hT2 : T.length ≤ 1000000000000 := by omega
  have hT3 : w ≤ 1000000000000 := by omega
  have fT : frees (T.map AV.str) = true := frees_map _ _ fun _ => rfl
  rw [hT] at hres g1 he0 he3
  have hEx' : ∀ (h : w < (endsA W).length), (endsA W)[w] = .int .i64 ((Fr.cat T).length : Int) := fun h => by rw [hEx w h, hT]
  by_cases hq : n = (Fr.cat T).length
  · have hee := he0 hq
    subst hee
    have hq2 : ((Fr.cat T).length : Int) = (n : Int) := by omega
    by_cases hw0 : w = 0
    · obtain rfl : T = [] := List.eq_nil_of_length_eq_zero (by omega)
      refine Sim.step hmix hΓ (n := 0) (by simp [ln2, ln3, fallS, p1, p3, p3', hres, payV, payB]; exact ⟨rfl, rfl⟩) (by simp) ?_
      subst hw0
      refine Sim.exec hmix hΓ (n := 0) (by simp (decide := true) (maxSteps := 2000000) [sameS, textsA, hst2, hEl, g1, hEx', b1, b2, hw, hw2, hq, hq2]; exact ⟨rfl, rfl, rfl⟩) (by simp) ?_
      exact ⟨.inr rfl, _, by simp; rfl, Weak.mk' [0] (by decide) rfl (by simp) (by simp [fss])⟩
    · have eT : payV 0 T = .slice 0 0 w 1 false := by unfold payV; rw [hTl, if_neg hw0]
      have eTB : payB T = [.cells true (T.map AV.str)] := by unfold payB; rw [hTl, if_neg hw0]
      refine Sim.step hmix hΓ (n := 0) (by simp [ln2, ln3, fallS, p1, p3, p3', hres, eT, eTB]; exact ⟨rfl, rfl⟩) (by simp) ?_
      refine Sim.exec hmix hΓ (n := 0) (by simp (decide := true) (maxSteps := 2000000) [sameS, textsA, hst2, hst3, hTl, hT3, hEl, g1, hEx', b1, b2, hw, hw2, hq, hq2]; exact ⟨rfl, rfl, rfl⟩) (by simp) ?_
      exact ⟨.inr rfl, _, by simp; rfl, Weak.mk' [0] (by decide) rfl (by simp) (by simp [fss])⟩
  · have hee := he3 hq
    subst hee
    have hq2 : ¬ (n : Int) = ((Fr.cat T).length : Int) := by omega
    have hq3 : ((n : Int) == ((Fr.cat T).length : Int)) = false := by simpa using hq2
    by_cases hw0 : w = 0
    · obtain rfl : T = [] := List.eq_nil_of_length_eq_zero (by omega)
      refine Sim.step hmix hΓ (n := 0) (by simp [ln2, ln3, fallS, p1, p3, p3', hres, payV, payB]; exact ⟨rfl, rfl⟩) (by simp) ?_
      subst hw0
      have hq4 : ¬ n = 0 := by simpa using hq
      refine Sim.exec hmix hΓ (n := 0) (by simp (decide := true) (maxSteps := 2000000) [sameS, textsA, hst2, hEl, g1, hEx', b1, b2, hw, hw2, hq, hq2, hq3, hq4]; exact ⟨rfl, rfl, rfl⟩) (by simp) ?_
      exact ⟨.inr rfl, _, by simp; rfl, Weak.mk' [0] (by decide) rfl (by simp) (by simp [fss])⟩
    · have eT : payV 0 T = .slice 0 0 w 1 false := by unfold payV; rw [hTl, if_neg hw0]
      have eTB : payB T = [.cells true (T.map AV.str)] := by unfold payB; rw [hTl, if_neg hw0]
      refine Sim.step hmix hΓ (n := 0) (by simp [ln2, ln3, fallS, p1, p3, p3', hres, eT, eTB]; exact ⟨rfl, rfl⟩) (by simp) ?_
      refine Sim.exec hmix hΓ (n := 0) (by simp (decide := true) (maxSteps := 2000000) [sameS, textsA, hst2, hst3, hTl, hT3, hEl, g1, hEx', b1, b2, hw, hw2, hq, hq2, hq3]; exact ⟨rfl, rfl, rfl⟩) (by simp) ?_
      exact ⟨.inr rfl, _, by simp; rfl, Weak.mk' [0] (by decide) rfl (by simp) (by simp [fss])⟩

def frameBack_shape : List (Bool × List CT) := [(false, [.row [.str]]), (false, [.one (.int .u16)])]

theorem frameBack_law : ∀ xs H, AbsArgs frameBack_shape 0 xs H → ∃ H', Ct Try.prog 9 xs H (.bool true) H' := by
  intro xs H h0
  obtain ⟨x2, y2, l, n, H2, rfl, rfl, hx, _, hl, h2⟩ := absArgs_row h0
  obtain ⟨ss, rfl, hn, _⟩ := row_strs hl
  obtain ⟨x1, y1, rfl, ⟨c, rfl, hc⟩, h3⟩ := absArgs_one h2
  obtain ⟨rfl, rfl⟩ := absArgs_nil h3
  have bc := bounds_u16 hc
  subst hn
  refine back_ct ss x2 ?_ c bc.1 (by omega)
  rcases hx with ⟨h, rfl⟩ | rfl
  · exact .inl ⟨rfl, List.eq_nil_of_length_eq_zero h⟩
  · exact .inr rfl

end Go.Proofs.Ytmoegdjpmcjhcaa
