/- Manifests: manifest.Compacted and Flushed. -/
import Derived.Test.YtbbgmaklmlagcaaMe
namespace Go.Proofs.Ytbbgmaklmlagcaa
open Go
set_option maxRecDepth 100000
attribute [-simp] drawOk_eq adraw qrun acode aops

/-- Segments with numbers from n on. -/
def numb (n : Int) : List Sg → List Sg
  | [] => []
  | s :: l => (n, s.2) :: numb (n + 1) l

@[simp] theorem numb_length (n : Int) (l : List Sg) : (numb n l).length = l.length := by
  induction l generalizing n with
  | nil => rfl
  | cons s l ih => simp [numb, ih]

theorem numb_snoc (x : Sg) : ∀ (l : List Sg) (n : Int), numb n (l ++ [x]) = numb n l ++ [(n + l.length, x.2)]
  | [], n => by simp [numb]
  | s :: l, n => by
    have := numb_snoc x l (n + 1)
    simp only [List.cons_append, numb, this, List.length_cons]
    rw [show n + 1 + (l.length : Int) = n + ((l.length + 1 : Nat) : Int) by omega]

theorem numb_step (n : Int) (s : List Sg) (k : Nat) (x : Sg) (h : s[k]? = some x) : (numb n (s.take k) ++ s.drop k).set k (n + k, x.2) = numb n (s.take (k + 1)) ++ s.drop (k + 1) := by
  have hk := (List.getElem?_eq_some_iff.1 h).1
  have hx := (List.getElem?_eq_some_iff.1 h).2
  have hl : (s.take k).length = k := by simp; omega
  have e : s.drop k = x :: s.drop (k + 1) := by rw [List.drop_eq_getElem_cons hk, hx]
  rw [List.take_add_one, h, Option.toList_some, numb_snoc, hl, e, List.set_append_right _ _ (by simp; omega)]
  simp [Nat.min_eq_left (Nat.le_of_lt hk)]

theorem sgs_set1 (n : Int) : ∀ (l : List Sg) (k : Nat) (x : Sg), l[k]? = some x → (sgsA l).take (k * 3) ++ [.int .i64 n] ++ (sgsA l).drop (k * 3 + 1) = sgsA (l.set k (n, x.2))
  | [], k, x, h => by simp at h
  | s :: l, 0, x, h => by
    simp at h; subst h
    simp [sgsA, sgA]
  | s :: l, k + 1, x, h => by
    have := sgs_set1 n l k x (by simpa using h)
    rw [show (k + 1) * 3 = k * 3 + 3 by omega, show k * 3 + 3 + 1 = (k * 3 + 1) + 3 by omega]
    simp only [sgsA, sgA, List.cons_append, List.nil_append, List.take_succ_cons, List.drop_succ_cons, List.set_cons_succ, List.append_assoc] at this ⊢
    simpa using this

/-- P23.3. -/
def Mf.lo (m : Mf) (a : Int) : Nat := (max 0 (min a m.segs.length)).toNat
def Mf.hi (m : Mf) (a b : Int) : Nat := (max (m.lo a : Int) (min b m.segs.length)).toNat
def Mf.compacted (m : Mf) (a b : Int) (s : List Sg) : Mf := ⟨m.v + 1, m.f, m.n + s.length, m.segs.take (m.lo a) ++ ((numb m.n s).reverse ++ m.segs.drop (m.hi a b))⟩

theorem Mf.lo_le (m : Mf) (a : Int) : max 0 (min a (m.segs.length : Int)) = m.lo a ∧ m.lo a ≤ m.segs.length := by unfold Mf.lo; omega
theorem Mf.hi_le (m : Mf) (a b : Int) : max (m.lo a : Int) (min b (m.segs.length : Int)) = m.hi a b ∧ m.lo a ≤ m.hi a b ∧ m.hi a b ≤ m.segs.length := by
  have := m.lo_le a
  unfold Mf.hi; omega

def mInl : List FuncId := [60, 62, 93]
theorem mcΓ_ok : GOk Try.prog (runG Try.prog (gams [(59, cloneS), (61, reverseS)]) 4 mInl 2) := gok_run hmix (goks_cons clone_sound (goks_cons reverse_sound goks_nil)) 4 mInl 2

set_option maxHeartbeats 8000000 in
theorem compacted_ct (m : Mf) (from_ to_ : Int) (s : List Sg) (hm : m.segs.length ≤ 1000000) (hs : s.length ≤ 1000000) (v0 : -4611686018427387904 ≤ m.v) (v1 : m.v ≤ 4611686018427387904) (n0 : -4611686018427387904 ≤ m.n) (n1 : m.n ≤ 4611686018427387904) :
    Ct Try.prog 17 [mfA 0 m, .int .i64 from_, .int .i64 to_, .sl 1 0 s.length 3 false] [.cells false (sgsA m.segs), .cells false (sgsA s)]
      (mfA 2 (m.compacted from_ to_ s)) [.cells false (sgsA m.segs), .cells false (sgsA s), .cells true (sgsA (m.compacted from_ to_ s).segs)] := by
  have hΓ := mcΓ_ok
  obtain ⟨la, lb⟩ := m.lo_le from_
  obtain ⟨ha, hb, hc⟩ := m.hi_le from_ to_
  unfold Mf.compacted mfA
  dsimp only
  obtain ⟨a, ea⟩ : ∃ a, m.lo from_ = a := ⟨_, rfl⟩
  obtain ⟨b, eb⟩ : ∃ b, m.hi from_ to_ = b := ⟨_, rfl⟩
  rw [ea] at la lb ha hb ⊢
  rw [eb] at ha hb hc ⊢
  clear ea eb
  obtain ⟨mv, mf, mn, l⟩ := m
  simp only at *
  refine ct_of_sim Try.func17 rfl ?_
  simp only [Try.ntmps17, List.length_cons, List.length_nil, Nat.reduceAdd, Nat.reduceSub, List.replicate, List.cons_append, List.nil_append]
  refine Sim.step hmix hΓ (n := 0) (by simp; exact ⟨rfl, rfl⟩) (by simp) ?_
  refine Sim.step hmix hΓ (n := 0) (by simp [-minA, minA_min, minA_max, la]; exact ⟨rfl, rfl⟩) (by simp) ?_
  refine Sim.step hmix hΓ (n := 0) (by simp [-minA, minA_min, minA_max, ha]; exact ⟨rfl, rfl⟩) (by simp) ?_
  have c1 : s.length ≤ 1000000000 := by omega
  refine Sim.step hmix hΓ (n := 0) (by simp [mInl, cloneS, rowSgs, c1]; exact ⟨rfl, rfl⟩) (by simp) ?_
  refine Sim.step hmix hΓ (n := 0) (by simp; exact ⟨rfl, rfl⟩) (by simp) ?_
  refine Sim.seq (Sim.step hmix hΓ (n := 0) (by simp; exact ⟨rfl, rfl⟩) (by simp) ?_)
  refine Sim.block (Sim.loopW (fun k : Nat => k ≤ s.length)
    (fun k => [.top, .int .i64 a, .int .i64 b, .top, .ptr 2 0, .top, .top, .top, .ptr 3 0, .ptr 5 0, .func 60 [] [.ptr 2 0, .ptr 5 0]] ++ List.replicate 18 .top ++ [.int .i64 s.length, .int .i64 k] ++ List.replicate 25 .top)
    (fun k => [.cells false (sgsA l), .cells false (sgsA s), .cells true [.int .i64 mv, .int .i64 mf, .int .i64 (mn + k), .sl 0 0 l.length 3 false], .cells true [.int .i64 0, .int .i64 0, .int .i64 0, .nils], .cells true (sgsA (numb mn (s.take k) ++ s.drop k)), .cells true [.sl 4 0 s.length 3 false]]) (fun k => s.length - k) 0 (by simp) (by simp) (Weak.mk' [0, 1, 2, 3, 4, 5] (by decide) (by decide) (by simp) (by simp [numb])) fun k hk => ?_)
  by_cases hlt : k < s.length
  · obtain ⟨x, hx⟩ : ∃ x, s[k]? = some x := ⟨_, List.getElem?_eq_getElem hlt⟩
    have hst := numb_step mn s k x hx
    have hL : (numb mn (s.take k) ++ s.drop k).length = s.length := by simp; omega
    have hxL : (numb mn (s.take k) ++ s.drop k)[k]? = some x := by
      rw [List.getElem?_append_right (by simp; omega)]; simp [Nat.min_eq_left hk, hx]
    have h1 := sgs_set1 (mn + k) _ k x hxL
    rw [hst] at h1
    obtain ⟨L, eL⟩ : ∃ L, numb mn (s.take k) ++ s.drop k = L := ⟨_, rfl⟩
    rw [eL] at h1 hL ⊢
    have w1 : IntKind.i64.wrap (mn + k + 1) = mn + (k + 1 : Nat) := by rw [wr_i64 (by omega) (by omega)]; push_cast; omega
    have w2 : IntKind.i64.wrap ((k : Int) + 1) = k + 1 := wr_i64 (by omega) (by omega)
    have t1 : k * 3 + 1 ≤ s.length * 3 := by omega
    simp only [List.append_assoc, List.cons_append, List.nil_append] at h1
    refine Sim.exec hmix hΓ (n := 0) (by simp (decide := true) [hlt, w1, w2, t1, mInl, Try.f60, hL, h1]; exact ⟨rfl, rfl, rfl⟩) (by simp) ?_
    exact ⟨k + 1, by omega, Weak.mk' [0, 1, 2, 3, 4, 5] (by decide) (by decide) (by simp) (by simp), by omega⟩
  have hks : k = s.length := by omega
  subst hks
  refine Sim.exec hmix hΓ (n := 0) (by simp; exact ⟨rfl, rfl, rfl⟩) (by simp) ?_
  dsimp only
  rw [if_pos rfl]
  obtain ⟨N, hN⟩ : ∃ N, numb mn s = N := ⟨_, rfl⟩
  have lN : N.length = s.length := by rw [← hN]; simp
  rw [hN, ← lN]
  have c2 : N.length ≤ 1000000000 := by omega
  refine Sim.step hmix hΓ (n := 0) (by simp [mInl, reverseS, c2]; exact ⟨rfl, rfl⟩) (by simp) ?_
  have w3 : IntKind.i64.wrap (mv + 1) = mv + 1 := wr_i64 (by omega) (by omega)
  refine Sim.step hmix hΓ (n := 0) (by simp [w3]; exact ⟨rfl, rfl⟩) (by simp) ?_
  obtain ⟨r, hr⟩ : ∃ r, N.reverse = r := ⟨_, rfl⟩
  have lr : r.length = N.length := by rw [← hr]; simp
  rw [hr, ← lr]
  have cr : r.length ≤ 1000000 := by omega
  have eA : (sgsA l).take (a * 3) = sgsA (l.take a) := sgs_take l a
  have eB : (sgsA l).drop (b * 3) = sgsA (l.drop b) := sgs_drop l b
  obtain ⟨q, hq⟩ : ∃ q, r.length = q := ⟨_, rfl⟩
  obtain ⟨w, hw⟩ : ∃ w, l.length - b = w := ⟨_, rfl⟩
  obtain ⟨T, hT⟩ : ∃ T : Nat, (a : Int) + q + w = T := ⟨a + q + w, by push_cast; rfl⟩
  have x1 : IntKind.i64.wrap (a : Int) = a := wr_i64 (by omega) (by omega)
  have x2 : IntKind.i64.wrap ((a : Int) + q) = (a : Int) + q := wr_i64 (by omega) (by omega)
  have x3 : IntKind.i64.wrap (T : Int) = T := wr_i64 (by omega) (by omega)
  have x4 : ¬ ((a : Int) + q < 0) := by omega
  have x5 : ¬ ((a : Int) < 0) := by omega
  have y1 : ∀ x : Nat, x = 0 → IntKind.i64.wrap (x : Int) = 0 := fun x h => by subst h; rfl
  have lA : (sgsA (l.take a)).length = a * 3 := by simp; omega
  have lr3 : (sgsA r).length = q * 3 := by simp [hq]
  have lB : (sgsA (l.drop b)).length = w * 3 := by simp [hw]
  have z1 : a * 3 ≤ l.length * 3 := by omega
  have z2 : b * 3 + w * 3 ≤ l.length * 3 := by omega
  have tkA : (sgsA (l.take a)).take (a * 3) = sgsA (l.take a) := List.take_of_length_le (by omega)
  have tkr : (sgsA r).take (q * 3) = sgsA r := List.take_of_length_le (by omega)
  have tkB : (sgsA (l.drop b)).take (w * 3) = sgsA (l.drop b) := List.take_of_length_le (by omega)
  have hba : b ≤ l.length := hc
  rw [hq]
  refine Sim.seq (Sim.draw hmix (by simp) ?_)
  refine SimR.many hΓ 10 (by simp [stageOps, blankOp]; rfl) (by omega) (by kernel_rfl) (by simp (decide := true) [lb, hc, hw]; exact ⟨rfl, rfl⟩) ?_
  by_cases htot : T = 0
  · have ea : a = 0 := by omega
    have eq : q = 0 := by omega
    have ew : w = 0 := by omega
    have eb : b = l.length := by omega
    have er : r = [] := by apply List.eq_nil_of_length_eq_zero; omega
    subst ea; subst eq; subst ew; subst eb; subst er; subst htot
    refine SimR.one hΓ _ rfl (by kernel_rfl) (by simp (decide := true) [mInl, Try.f62, Try.f93]; exact ⟨rfl, rfl⟩) ?_
    refine SimR.many hΓ 13 (by simp [stageOps, blankOp]; rfl) (by omega) (by kernel_rfl) (by simp (decide := true); exact ⟨rfl, rfl⟩) ?_
    refine SimR.done rfl ?_
    dsimp only
    refine Sim.exec hmix hΓ (n := 0) (by simp; exact ⟨rfl, rfl, rfl⟩) (by simp) ?_
    exact ⟨.inr rfl, _, by simp [Try.f17] <;> rfl, Weak.mk' [0, 1, 9] (by decide) (by decide) (by simp) (by simp [sgsA])⟩
  have t0 : 0 < T := by omega
  have tb : T * 24 ≤ 140737488355328 := by omega
  have tm : T ≤ 9223372036854775807 := by omega
  have hmin : min a l.length = a := by omega
  have b1 : a * 24 ≤ 140737488355328 := by omega
  have b2 : a ≤ 9223372036854775807 := by omega
  have b3 : (a + q) * 24 ≤ 140737488355328 := by omega
  have b4 : a + q ≤ 9223372036854775807 := by omega
  have b5 : (a + q + w) * 24 ≤ 140737488355328 := by omega
  have b6 : a + q + w ≤ 9223372036854775807 := by omega
  have h4 : (a + q) * 3 = a * 3 + q * 3 := by omega
  have h3 : (sgsA (l.take a) ++ sgsA r).take ((a + q) * 3) = sgsA (l.take a) ++ sgsA r := List.take_of_length_le (by rw [List.length_append]; omega)
  have h5 := h3
  rw [h4] at h5
  refine SimR.one hΓ _ rfl (by kernel_rfl) (by simp (decide := true) [mInl, Try.f62, Try.f93, x1, x2, x3, x4, x5, hT, t0, tb, tm, lb, hba, z1, z2, eA, eB, tkA, tkr, tkB, hmin, hq, hw, b1, b2, b3, b4, b5, b6, h3, h4]; exact ⟨rfl, rfl⟩) ?_
  refine SimR.many hΓ 13 (by simp [stageOps, blankOp]; rfl) (by omega) (by kernel_rfl) (by simp (decide := true); exact ⟨rfl, rfl⟩) ?_
  refine SimR.done rfl ?_
  dsimp only
  refine Sim.exec hmix hΓ (n := 0) (by simp; exact ⟨rfl, rfl, rfl⟩) (by simp) ?_
  exact ⟨.inr rfl, _, by simp [Try.f17] <;> rfl, Weak.mk' [0, 1, 10] (by decide) (by decide) (by simp [hq, hw, hmin]; omega) (by simp [h5])⟩

/-- Segments that a slice holds, a second window. -/
theorem mf_row_win {H : AHeap} {x y : AV} {m : Mf} {a : List Sg} (h : mfOf H x = some m) (k : rowSgs H y = some a) : ∃ wd : List (Nat × Nat), winA wd (mfA 0 m) x ∧ winA wd (.sl 1 0 a.length 3 false) y ∧ winH H [.cells false (sgsA m.segs), .cells false (sgsA a)] wd := by
  obtain ⟨b1, o1, w1, g1⟩ := mf_win h
  obtain ⟨b2, o2, w2, g2⟩ := rowSgs_win k
  exact ⟨[(b1, o1), (b2, o2)], w1 0 _ rfl, w2 1 _ rfl, g1, frees_sgs _, g2, frees_sgs _, trivial⟩

/-- A manifest's numbers may be counted with. -/
def Mf.fit (m : Mf) (s : List Sg) : Prop := m.segs.length ≤ 1000000 ∧ s.length ≤ 1000000 ∧ -4611686018427387904 ≤ m.v ∧ m.v ≤ 4611686018427387904 ∧ -4611686018427387904 ≤ m.n ∧ m.n ≤ 4611686018427387904
instance (m : Mf) (s : List Sg) : Decidable (m.fit s) := by unfold Mf.fit; infer_instance

def compactedS : Summ := readNewS fun args H => match args with
  | [x, .int .i64 a, .int .i64 b, y] => match mfOf H x, rowSgs H y with
    | some m, some s => if m.fit s then some (mfA 0 (m.compacted a b s), [.cells true (sgsA (m.compacted a b s).segs)]) else none
    | _, _ => none
  | _ => none

theorem compacted_sound : Sound Try.prog 17 compactedS := by
  refine sound_readNew (enter_of Try.func17 rfl (by decide)) fun args H v N h => ?_
  split at h <;> try cases h
  rename_i x a b y
  split at h <;> try cases h
  rename_i m s hx hy
  split at h <;> cases h
  rename_i hc
  obtain ⟨c1, c2, c3, c4, c5, c6⟩ := hc
  obtain ⟨wd, w1, w2, w3⟩ := mf_row_win hx hy
  refine ct_winN (H0 := [.cells false (sgsA m.segs), .cells false (sgsA s)]) (args0 := [mfA 0 m, .int .i64 a, .int .i64 b, .sl 1 0 s.length 3 false]) ?_ rfl wd ⟨w1, by simp [winA], by simp [winA], w2, trivial⟩ w3
  have := compacted_ct m a b s c1 c2 c3 c4 c5 c6
  simpa [mfA] using this

/-- P23.3. -/
def Mf.flushed (m : Mf) (f : Int) (s : List Sg) : Mf := { m.compacted 0 0 s with f := f }

theorem flΓ_ok : GOk Try.prog (gams [(17, compactedS)]) := goks_cons compacted_sound goks_nil

set_option maxHeartbeats 4000000 in
theorem flushed_ct (m : Mf) (f : Int) (s : List Sg) (hc : m.fit s) :
    Ct Try.prog 16 [mfA 0 m, .int .i64 f, .sl 1 0 s.length 3 false] [.cells false (sgsA m.segs), .cells false (sgsA s)]
      (mfA 2 (m.flushed f s)) [.cells false (sgsA m.segs), .cells false (sgsA s), .cells true (sgsA (m.flushed f s).segs)] := by
  have e : m.flushed f s = ⟨(m.compacted 0 0 s).v, f, (m.compacted 0 0 s).n, (m.compacted 0 0 s).segs⟩ := rfl
  obtain ⟨r, hr⟩ : ∃ r, m.compacted 0 0 s = r := ⟨_, rfl⟩
  rw [e, hr]
  obtain ⟨mv, mf, mn, l⟩ := m
  obtain ⟨rv, rf, rn, rl⟩ := r
  refine ct_runE hmix flΓ_ok (n := 0) Try.func16 ?_
  unfold Try.f16
  exact ⟨_, _, (by simp (decide := true) [mfA, compactedS, rowSgs, hc, hr]; exact ⟨rfl, rfl⟩), Weak.mk' [0, 1, 4] (by decide) rfl (by simp [mfA]) (by simp)⟩

def flushedS : Summ := readNewS fun args H => match args with
  | [x, .int .i64 f, y] => match mfOf H x, rowSgs H y with
    | some m, some s => if m.fit s then some (mfA 0 (m.flushed f s), [.cells true (sgsA (m.flushed f s).segs)]) else none
    | _, _ => none
  | _ => none

theorem flushed_sound : Sound Try.prog 16 flushedS := by
  refine sound_readNew (enter_of Try.func16 rfl (by decide)) fun args H v N h => ?_
  split at h <;> try cases h
  rename_i x f y
  split at h <;> try cases h
  rename_i m s hx hy
  split at h <;> cases h
  rename_i hc
  obtain ⟨wd, w1, w2, w3⟩ := mf_row_win hx hy
  refine ct_winN (H0 := [.cells false (sgsA m.segs), .cells false (sgsA s)]) (args0 := [mfA 0 m, .int .i64 f, .sl 1 0 s.length 3 false]) ?_ rfl wd ⟨w1, by simp [winA], w2, trivial⟩ w3
  have := flushed_ct m f s hc
  simpa [mfA] using this

end Go.Proofs.Ytbbgmaklmlagcaa
