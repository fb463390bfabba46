/- Manifests, the document's: within, Right, Same. -/
import Derived.Test.YtbbgmaklmlagcaaMf
import Derived.Test.YtbbgmaklmlagcaaMd
namespace Go.Proofs.Ytbbgmaklmlagcaa
open Go
set_option maxRecDepth 100000
attribute [-simp] drawOk_eq adraw qrun acode aops

def inB (n a b : Int) : Bool := decide (a ≤ n ∧ n ≤ b)
theorem within_ct (n a b : Int) : Ct Try.prog 78 [.int .i64 n, .int .i64 a, .int .i64 b] [] (.bool (inB n a b)) [] := by
  refine ct_val hmix goks_nil (n := 0) Try.func78 ?_ (by simp)
  unfold Try.f78
  by_cases h1 : a ≤ n
  · simp [h1, inB]
  · simp [h1, inB]

def withinS : Summ := pureS fun | [.int .i64 n, .int .i64 a, .int .i64 b] => some (.bool (inB n a b)) | _ => none
theorem within_sound : Sound Try.prog 78 withinS := by
  refine sound_pure (enter_of Try.func78 rfl (by decide)) fun args v h => ?_
  split at h <;> cases h
  exact ⟨within_ct _ _ _, by simp, by simp⟩

theorem wiΓ_ok : GOk Try.prog (gams [(78, withinS)]) := goks_cons within_sound goks_nil

theorem all_take (p : Sg → Bool) (l : List Sg) (k : Nat) (x : Sg) (h : l[k]? = some x) : (l.take (k + 1)).all p = ((l.take k).all p && p x) := by
  rw [List.take_add_one, h]; simp

theorem nums_take (l : List Sg) (k : Nat) (x : Sg) (h : l[k]? = some x) : numsS (l.take (k + 1)) = numsS (l.take k) ++ [x.1] := by
  rw [List.take_add_one, h]; simp [numsS]

theorem nodup_snoc (u : List Int) (x : Int) : (u ++ [x]).Nodup ↔ u.Nodup ∧ x ∉ u := by
  rw [List.nodup_append]
  constructor
  · rintro ⟨a, _, b⟩; exact ⟨a, fun h => b x h x (by simp) rfl⟩
  · rintro ⟨a, b⟩; exact ⟨a, by simp, fun y hy z hz e => b (by simp at hz; rw [← hz, ← e]; exact hy)⟩

theorem nodup_take (l : List Sg) (k : Nat) (h : (numsS l).Nodup) : (numsS (l.take k)).Nodup := by
  unfold numsS at h ⊢
  rw [List.map_take]
  exact h.sublist (List.take_sublist _ _)

set_option maxHeartbeats 8000000 in
theorem rright_ct (m : Mf) (hl : m.segs.length ≤ 1000000000000) : Ct Try.prog 41 [mfA 0 m] [.cells false (sgsA m.segs)] (.bool m.right) [.cells false (sgsA m.segs)] := by
  have hΓ := wiΓ_ok
  unfold Mf.right
  obtain ⟨mv, mf, mn, l⟩ := m
  simp only at hl ⊢
  have hc : Mf.counts ⟨mv, mf, mn, l⟩ = (inB mv 0 900000000 && (inB mf 1 900000000 && inB mn 1 900000000)) := by
    unfold Mf.counts inB; rw [Bool.eq_iff_iff]; simp [and_assoc]
  have hok : ∀ x : Sg, Sg.ok mn x = (inB x.1 1 (mn - 1) && (inB x.2.1 1 100000 && inB x.2.2 1 1000000000)) := by
    intro x; unfold Sg.ok inB; rw [Bool.eq_iff_iff]; simp [and_assoc, Int.le_sub_one_iff]
  rw [hc]
  clear hc
  have hl2 : (1000 < (l.length : Int)) ↔ ¬ (l.length ≤ 1000) := by omega
  refine ct_of_sim Try.func41 rfl ?_
  simp only [Try.ntmps41, List.length_cons, List.length_nil, Nat.reduceAdd, Nat.reduceSub, List.replicate, List.cons_append, List.nil_append, mfA]
  refine Sim.step hmix hΓ (n := 0) (by simp; exact ⟨rfl, rfl⟩) (by simp) ?_
  cases h1 : inB mv 0 900000000
  · refine Sim.exec hmix hΓ (n := 0) (by simp [withinS, h1]; exact ⟨rfl, rfl, rfl⟩) (by simp) ?_
    exact ⟨.inr rfl, _, by simp [Try.f41] <;> rfl, Weak.mk' [0] (by decide) rfl (by simp [h1]) (by simp)⟩
  cases h2 : inB mf 1 900000000
  · refine Sim.exec hmix hΓ (n := 0) (by simp [withinS, h1, h2]; exact ⟨rfl, rfl, rfl⟩) (by simp) ?_
    exact ⟨.inr rfl, _, by simp [Try.f41] <;> rfl, Weak.mk' [0] (by decide) rfl (by simp [h1, h2]) (by simp)⟩
  cases h3 : inB mn 1 900000000
  · refine Sim.exec hmix hΓ (n := 0) (by simp [withinS, h1, h2, h3]; exact ⟨rfl, rfl, rfl⟩) (by simp) ?_
    exact ⟨.inr rfl, _, by simp [Try.f41] <;> rfl, Weak.mk' [0] (by decide) rfl (by simp [h1, h2, h3]) (by simp)⟩
  by_cases h4 : l.length ≤ 1000
  rotate_left
  · refine Sim.exec hmix hΓ (n := 0) (by simp [withinS, h1, h2, h3, h4, hl2]; exact ⟨rfl, rfl, rfl⟩) (by simp) ?_
    exact ⟨.inr rfl, _, by simp [Try.f41] <;> rfl, Weak.mk' [0] (by decide) rfl (by simp [h1, h2, h3, h4]) (by simp)⟩
  refine Sim.step hmix hΓ (n := 0) (by simp [withinS, h1, h2, h3, h4, hl2]; exact ⟨rfl, rfl⟩) (by simp) ?_
  have w0 : IntKind.i64.wrap (mn - 1) = mn - 1 := by
    simp only [inB, decide_eq_true_eq] at h3
    exact wr_i64 (by omega) (by omega)
  simp only [Bool.true_and, h4, decide_true]
  have hfin : ∀ k x, l[k]? = some x → (l.take k).all (Sg.ok mn) = true → (Sg.ok mn x = false ∨ x.1 ∈ numsS (l.take k)) → (l.all (Sg.ok mn) && decide (numsS l).Nodup) = false := by
    intro k x hx ha hb
    rw [Bool.eq_false_iff]
    intro h
    rw [Bool.and_eq_true, decide_eq_true_eq] at h
    rcases hb with hb | hb
    · have := List.all_eq_true.1 h.1 x (List.mem_of_getElem? hx)
      rw [hb] at this; cases this
    · have := nodup_take l (k + 1) h.2
      rw [nums_take l k x hx, nodup_snoc] at this
      exact this.2 hb
  refine Sim.seq (Sim.step hmix hΓ (n := 0) (by simp; exact ⟨rfl, rfl⟩) (by simp) ?_)
  refine Sim.block (Sim.loopW (fun i : Nat => i ≤ l.length ∧ (l.take i).all (Sg.ok mn) = true ∧ (numsS (l.take i)).Nodup)
    (fun i => [.top, .ptr 1 0, .bool false, .int .i64 i] ++ List.replicate 69 .top)
    (fun _ => [.cells false (sgsA l), .cells true [.int .i64 mv, .int .i64 mf, .int .i64 mn, .sl 0 0 l.length 3 false]]) (fun i => l.length - i) 0 (by simp) (by simp [numsS]) (Weak.mk' [0, 1] (by decide) (by decide) (by simp) (by simp)) fun i hi => ?_)
  obtain ⟨hi, ha, hn⟩ := hi
  by_cases hlt : i < l.length
  rotate_left
  · refine Sim.exec hmix hΓ (n := 0) (by simp [hlt]; exact ⟨rfl, rfl, rfl⟩) (by simp) ?_
    dsimp only
    rw [if_pos rfl]
    refine Sim.exec hmix hΓ (n := 0) (by simp; exact ⟨rfl, rfl, rfl⟩) (by simp) ?_
    rw [List.take_of_length_le (by omega)] at ha hn
    exact ⟨.inr rfl, _, by simp [Try.f41] <;> rfl, Weak.mk' [0] (by decide) rfl (by simp only [ha, hn]; simp) (by simp)⟩
  obtain ⟨x, hx⟩ : ∃ x, l[i]? = some x := ⟨_, List.getElem?_eq_getElem hlt⟩
  have g1 := sgs_get l i hlt
  rw [(List.getElem?_eq_some_iff.1 hx).2] at g1
  have hf := hfin i x hx ha
  have hokx := hok x
  have hall := all_take (Sg.ok mn) l i x hx
  have hnums := nums_take l i x hx
  have k1 : i * 3 + 3 ≤ l.length * 3 := by omega
  have w1 : IntKind.i64.wrap ((i : Int) + 1) = i + 1 := wr_i64 (by omega) (by omega)
  obtain ⟨x1, x2, x3⟩ := x
  simp [sgA] at g1
  refine Sim.step hmix hΓ (n := 0) (by simp [hlt]; exact ⟨rfl, rfl⟩) (by simp) ?_
  refine Sim.seq (Sim.block ?_)
  refine Sim.step hmix hΓ (n := 0) (by simp (decide := true) [hlt, g1, k1]; exact ⟨rfl, rfl⟩) (by simp) ?_
  cases e1 : inB x1 1 (mn - 1)
  · rw [hf (.inl (by rw [hokx]; simp [e1]))]
    refine Sim.exec hmix hΓ (n := 0) (by simp [withinS, w0, e1]; exact ⟨rfl, rfl, rfl⟩) (by simp) ?_
    exact ⟨.inr rfl, _, by simp [Try.f41] <;> rfl, Weak.mk' [0] (by decide) rfl (by simp) (by simp)⟩
  cases e2 : inB x2 1 100000
  · rw [hf (.inl (by rw [hokx]; simp [e2]))]
    refine Sim.exec hmix hΓ (n := 0) (by simp [withinS, w0, e1, e2]; exact ⟨rfl, rfl, rfl⟩) (by simp) ?_
    exact ⟨.inr rfl, _, by simp [Try.f41] <;> rfl, Weak.mk' [0] (by decide) rfl (by simp) (by simp)⟩
  cases e3 : inB x3 1 1000000000
  · rw [hf (.inl (by rw [hokx]; simp [e3]))]
    refine Sim.exec hmix hΓ (n := 0) (by simp [withinS, w0, e1, e2, e3]; exact ⟨rfl, rfl, rfl⟩) (by simp) ?_
    exact ⟨.inr rfl, _, by simp [Try.f41] <;> rfl, Weak.mk' [0] (by decide) rfl (by simp) (by simp)⟩
  have hokt : Sg.ok mn (x1, x2, x3) = true := by rw [hokx]; simp [e1, e2, e3]
  refine Sim.step hmix hΓ (n := 0) (by simp [withinS, w0, e1, e2, e3]; exact ⟨rfl, rfl⟩) (by simp) ?_
  refine Sim.step hmix hΓ (n := 0) (by simp; exact ⟨rfl, rfl⟩) (by simp) ?_
  refine Sim.block (Sim.loopW (fun k : Nat => k ≤ i ∧ x1 ∉ numsS (l.take k))
    (fun k => [.top, .ptr 1 0, .bool false, .int .i64 i, .ptr 2 0, .int .i64 k] ++ List.replicate 67 .top)
    (fun _ => [.cells false (sgsA l), .cells true [.int .i64 mv, .int .i64 mf, .int .i64 mn, .sl 0 0 l.length 3 false], .cells true [.int .i64 x1, .int .i64 x2, .int .i64 x3]]) (fun k => i - k) 0 (by simp) (by simp [numsS]) (Weak.mk' [0, 1, 2] (by decide) (by decide) (by simp) (by simp)) fun k hk => ?_)
  obtain ⟨hk, hnk⟩ := hk
  by_cases hki : k < i
  rotate_left
  · have : k = i := by omega
    subst this
    refine Sim.exec hmix hΓ (n := 0) (by simp; exact ⟨rfl, rfl, rfl⟩) (by simp) ?_
    dsimp only
    rw [if_pos rfl]
    refine Sim.exec hmix hΓ (n := 0) (by simp [w1]; exact ⟨rfl, rfl, rfl⟩) (by simp) ?_
    exact ⟨k + 1, ⟨by omega, by rw [hall, ha, hokt]; rfl, by rw [hnums, nodup_snoc]; exact ⟨hn, hnk⟩⟩, Weak.mk' [0, 1] (by decide) (by decide) (by simp) (by simp), by omega⟩
  have hkl : k < l.length := by omega
  obtain ⟨y, hy⟩ : ∃ y, l[k]? = some y := ⟨_, List.getElem?_eq_getElem hkl⟩
  have g2 : ∀ h, (sgsA l)[k * 3]'h = .int .i64 y.1 := fun h => by have := sgs_fst l k y hy; rw [List.getElem?_eq_getElem h] at this; simpa using this
  have w2 : IntKind.i64.wrap ((k : Int) + 1) = k + 1 := wr_i64 (by omega) (by omega)
  have hny := nums_take l k y hy
  by_cases he : y.1 = x1
  · have hmem : x1 ∈ numsS (l.take i) := by
      have : x1 ∈ numsS (l.take (k + 1)) := by rw [hny, he]; simp
      unfold numsS at this ⊢
      rw [List.map_take] at this ⊢
      have h9 : (List.map (fun x : Sg => x.1) l).take (k + 1) = ((List.map (fun x : Sg => x.1) l).take i).take (k + 1) := by rw [List.take_take, Nat.min_eq_left (by omega)]
      rw [h9] at this
      exact List.mem_of_mem_take this
    rw [hf (.inr hmem)]
    refine Sim.exec hmix hΓ (n := 0) (by simp (decide := true) [hki, hkl, g2, he]; exact ⟨rfl, rfl, rfl⟩) (by simp) ?_
    exact ⟨.inr rfl, _, by simp [Try.f41] <;> rfl, Weak.mk' [0] (by decide) rfl (by simp) (by simp)⟩
  · have he' : (y.1 == x1) = false := by simpa using he
    refine Sim.exec hmix hΓ (n := 0) (by simp (decide := true) [hki, hkl, g2, he', w2]; exact ⟨rfl, rfl, rfl⟩) (by simp) ?_
    exact ⟨k + 1, ⟨by omega, by rw [hny]; simp [hnk]; exact fun e => he e.symm⟩, Weak.mk' [0, 1, 2] (by decide) (by decide) (by simp) (by simp), by omega⟩

theorem rright_sound : Sound Try.prog 41 mrightS := by
  refine sound_read (enter_of Try.func41 rfl (by decide)) fun args H v h => ?_
  split at h <;> try cases h
  rename_i x
  split at h <;> try cases h
  rename_i m hx
  split at h <;> cases h
  rename_i hc
  obtain ⟨b1, o1, w1, g1⟩ := mf_win hx
  refine ct_win (rright_ct m hc) rfl [(b1, o1)] ?_ ?_
  · exact ⟨w1 0 _ rfl, trivial⟩
  · exact ⟨g1, frees_sgs _, trivial⟩

set_option maxHeartbeats 8000000 in
theorem rsame_ct (a b : Mf) (ha : a.segs.length ≤ 1000000000000) :
    Ct Try.prog 21 [mfA 0 a, mfA 1 b] [.cells false (sgsA a.segs), .cells false (sgsA b.segs)] (.bool (decide (a = b))) [.cells false (sgsA a.segs), .cells false (sgsA b.segs)] := by
  obtain ⟨av, af, an, l⟩ := a
  obtain ⟨bv, bf, bn, m⟩ := b
  simp only at ha
  refine ct_of_sim Try.func21 rfl ?_
  simp only [Try.ntmps21, List.length_cons, List.length_nil, Nat.reduceAdd, Nat.reduceSub, List.replicate, List.cons_append, List.nil_append, mfA]
  have hΓ := goks_nil (P := Try.prog)
  refine Sim.step hmix hΓ (n := 0) (by simp; exact ⟨rfl, rfl⟩) (by simp) ?_
  have fin : ∀ (x y : List AV) (v : Bool), Weak 2 [.bool v] ([.cells false (sgsA l), .cells false (sgsA m)] ++ [.cells true x, .cells true y]) [.bool v] [.cells false (sgsA l), .cells false (sgsA m)] := fun x y v => Weak.mk' [0, 1] (by decide) (by decide) (by simp) (by simp)
  have ne : ∀ x y : Int, x ≠ y → (x != y) = true := fun x y h => by simpa using h
  by_cases h1 : av = bv
  rotate_left
  · have e : decide ((⟨av, af, an, l⟩ : Mf) = ⟨bv, bf, bn, m⟩) = false := by simp [h1]
    rw [e]
    refine Sim.exec hmix hΓ (n := 0) (by simp [ne _ _ h1]; exact ⟨rfl, rfl, rfl⟩) (by simp) ?_
    exact ⟨.inr rfl, _, by simp [Try.f21] <;> rfl, fin _ _ _⟩
  by_cases h2 : af = bf
  rotate_left
  · have e : decide ((⟨av, af, an, l⟩ : Mf) = ⟨bv, bf, bn, m⟩) = false := by simp [h2]
    rw [e]
    refine Sim.exec hmix hΓ (n := 0) (by simp [h1, ne _ _ h2]; exact ⟨rfl, rfl, rfl⟩) (by simp) ?_
    exact ⟨.inr rfl, _, by simp [Try.f21] <;> rfl, fin _ _ _⟩
  by_cases h3 : an = bn
  rotate_left
  · have e : decide ((⟨av, af, an, l⟩ : Mf) = ⟨bv, bf, bn, m⟩) = false := by simp [h3]
    rw [e]
    refine Sim.exec hmix hΓ (n := 0) (by simp [h1, h2, ne _ _ h3]; exact ⟨rfl, rfl, rfl⟩) (by simp) ?_
    exact ⟨.inr rfl, _, by simp [Try.f21] <;> rfl, fin _ _ _⟩
  by_cases h4 : l.length = m.length
  rotate_left
  · have e : decide ((⟨av, af, an, l⟩ : Mf) = ⟨bv, bf, bn, m⟩) = false := by simp; rintro _ _ _ rfl; exact h4 rfl
    rw [e]
    have h4' : ((l.length : Int) != (m.length : Int)) = true := ne _ _ (by omega)
    refine Sim.exec hmix hΓ (n := 0) (by simp [h1, h2, h3, h4']; exact ⟨rfl, rfl, rfl⟩) (by simp) ?_
    exact ⟨.inr rfl, _, by simp [Try.f21] <;> rfl, fin _ _ _⟩
  subst h1; subst h2; subst h3
  have hd : decide ((⟨av, af, an, l⟩ : Mf) = ⟨av, af, an, m⟩) = decide (l = m) := by simp
  rw [hd]
  refine Sim.step hmix hΓ (n := 0) (by simp [h4]; exact ⟨rfl, rfl⟩) (by simp) ?_
  refine Sim.seq (Sim.step hmix hΓ (n := 0) (by simp; exact ⟨rfl, rfl⟩) (by simp) ?_)
  refine Sim.block (Sim.loopW (fun k : Nat => k ≤ l.length ∧ l.take k = m.take k)
    (fun k => [.top, .top, .ptr 2 0, .ptr 3 0, .bool false, .int .i64 k] ++ List.replicate 46 .top)
    (fun _ => [.cells false (sgsA l), .cells false (sgsA m), .cells true [.int .i64 av, .int .i64 af, .int .i64 an, .sl 0 0 l.length 3 false], .cells true [.int .i64 av, .int .i64 af, .int .i64 an, .sl 1 0 m.length 3 false]]) (fun k => l.length - k) 0 (by simp) (by simp) (Weak.mk' [0, 1, 2, 3] (by decide) (by decide) (by simp) (by simp [h4])) fun k hk => ?_)
  obtain ⟨hk, hak⟩ := hk
  by_cases hlt : k < l.length
  rotate_left
  · have e : decide (l = m) = true := by
      rw [List.take_of_length_le (by omega), List.take_of_length_le (by omega)] at hak
      simpa using hak
    rw [e]
    refine Sim.exec hmix hΓ (n := 0) (by simp [hlt]; exact ⟨rfl, rfl, rfl⟩) (by simp) ?_
    dsimp only
    rw [if_pos rfl]
    refine Sim.exec hmix hΓ (n := 0) (by simp; exact ⟨rfl, rfl, rfl⟩) (by simp) ?_
    exact ⟨.inr rfl, _, by simp [Try.f21] <;> rfl, fin _ _ _⟩
  have hltm : k < m.length := by omega
  have w1 : IntKind.i64.wrap ((k : Int) + 1) = k + 1 := wr_i64 (by omega) (by omega)
  obtain ⟨x, hx⟩ : ∃ x, l[k]? = some x := ⟨_, List.getElem?_eq_getElem hlt⟩
  obtain ⟨y, hy⟩ : ∃ y, m[k]? = some y := ⟨_, List.getElem?_eq_getElem hltm⟩
  have g1 := sgs_get l k hlt
  have g2 := sgs_get m k hltm
  rw [(List.getElem?_eq_some_iff.1 hx).2] at g1
  rw [(List.getElem?_eq_some_iff.1 hy).2] at g2
  have k1 : k * 3 + 3 ≤ l.length * 3 := by omega
  have k2 : k * 3 + 3 ≤ m.length * 3 := by omega
  by_cases he : x = y
  · subst he
    have ht : l.take (k + 1) = m.take (k + 1) := by rw [List.take_add_one, List.take_add_one, hak, hx, hy]
    refine Sim.exec hmix hΓ (n := 0) (by simp (decide := true) [hlt, hltm, g1, g2, w1, k1, k2, sgA]; exact ⟨rfl, rfl, rfl⟩) (by simp) ?_
    exact ⟨k + 1, ⟨by omega, ht⟩, Weak.mk' [0, 1, 2, 3] (by decide) (by decide) (by simp) (by simp), by omega⟩
  · have e : decide (l = m) = false := by simp; rintro rfl; rw [hx] at hy; exact he (Option.some.inj hy)
    rw [e]
    have hne : (x.1 == y.1 && (x.2.1 == y.2.1 && (x.2.2 == y.2.2 && true))) = false := by
      obtain ⟨x1, x2, x3⟩ := x
      obtain ⟨y1, y2, y3⟩ := y
      simp at he ⊢
      exact he
    refine Sim.exec hmix hΓ (n := 0) (by simp (decide := true) [hlt, hltm, g1, g2, k1, k2, sgA, -Bool.and_true, hne]; exact ⟨rfl, rfl, rfl⟩) (by simp) ?_
    exact ⟨.inr rfl, _, by simp [Try.f21] <;> rfl, fin _ _ _⟩

theorem rsame_sound : Sound Try.prog 21 msameS := by
  refine sound_read (enter_of Try.func21 rfl (by decide)) fun args H v h => ?_
  split at h <;> try cases h
  rename_i x y
  split at h <;> try cases h
  rename_i a b hx hy
  split at h <;> cases h
  rename_i hc
  obtain ⟨b1, o1, w1, g1⟩ := mf_win hx
  obtain ⟨b2, o2, w2, g2⟩ := mf_win hy
  refine ct_win (rsame_ct a b hc) rfl [(b1, o1), (b2, o2)] ?_ ?_
  · exact ⟨w1 0 _ rfl, w2 1 _ rfl, trivial⟩
  · exact ⟨g1, frees_sgs _, g2, frees_sgs _, trivial⟩

end Go.Proofs.Ytbbgmaklmlagcaa
