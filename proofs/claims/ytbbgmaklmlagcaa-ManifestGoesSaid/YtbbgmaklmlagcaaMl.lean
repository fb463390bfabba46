/- Walk: cedillalaw23.ManifestGoes. -/
import Derived.Test.YtbbgmaklmlagcaaMk
namespace Go.Proofs.Ytbbgmaklmlagcaa
open Go
set_option maxRecDepth 100000
attribute [-simp] drawOk_eq adraw qrun acode aops

@[simp] theorem shAs_append (k : Nat) : ∀ xs ys : List AV, shAs k (xs ++ ys) = shAs k xs ++ shAs k ys
  | [], ys => rfl
  | x :: xs, ys => by simp [shAs_append k xs ys]

/-- Turns, as cells. -/
def gosA : List (Int × Int × Int) → List AV
  | [] => []
  | s :: l => [.int .u8 s.1, .int .u8 s.2.1, .int .u8 s.2.2] ++ gosA l

@[simp] theorem gosA_length : ∀ l, (gosA l).length = l.length * 3
  | [] => rfl
  | s :: l => by simp [gosA, gosA_length l]; omega

@[simp] theorem frees_gos : ∀ l, frees (gosA l) = true
  | [] => rfl
  | s :: l => by simp [gosA, frees_gos l]

@[simp] theorem belows_gos (n : Nat) (l) : belows n (gosA l) = true := belows_free n _ (frees_gos l)

theorem gos_get : ∀ (l : List (Int × Int × Int)) (k : Nat) (x), l[k]? = some x → ((gosA l).drop (k * 3)).take 3 = [.int .u8 x.1, .int .u8 x.2.1, .int .u8 x.2.2]
  | [], k, x, h => by simp at h
  | s :: l, 0, x, h => by simp at h; subst h; simp [gosA]
  | s :: l, k + 1, x, h => by
    have := gos_get l k x (by simpa using h)
    rw [show (k + 1) * 3 = k * 3 + 3 by omega]
    simpa [gosA] using this

theorem gos_at (l : List (Int × Int × Int)) (k : Nat) (x) (h : l[k]? = some x) : (∀ h, (gosA l)[k * 3]'h = .int .u8 x.1) ∧ (∀ h, (gosA l)[k * 3 + 1]'h = .int .u8 x.2.1) ∧ (∀ h, (gosA l)[k * 3 + 2]'h = .int .u8 x.2.2) := by
  have g := gos_get l k x h
  have e : ∀ i, i < 3 → (gosA l)[k * 3 + i]? = [AV.int .u8 x.1, .int .u8 x.2.1, .int .u8 x.2.2][i]? := by
    intro i hi
    rw [← g, List.getElem?_take, if_pos hi, List.getElem?_drop]
  refine ⟨fun h => ?_, fun h => ?_, fun h => ?_⟩
  · have := e 0 (by omega); rw [Nat.add_zero, List.getElem?_eq_getElem h] at this; simpa using this
  · have := e 1 (by omega); rw [List.getElem?_eq_getElem h] at this; simpa using this
  · have := e 2 (by omega); rw [List.getElem?_eq_getElem h] at this; simpa using this

theorem Sg.ok_mono {n : Int} {x : Sg} (k : Nat) (h : Sg.ok n x = true) : Sg.ok (n + k) x = true := by
  simp only [Sg.ok, decide_eq_true_eq] at h ⊢
  omega

theorem nums_append (a b : List Sg) : numsS (a ++ b) = numsS a ++ numsS b := by simp [numsS]

/-- What is put together of what is right is right. -/
theorem put_right (v f n g : Int) (S : List Sg) (a b mk : Nat) (x y : Int) (h : Mf.right ⟨v, f, n, S⟩ = true) (hab : a ≤ b) (hmk : mk = 0 ∨ mk = 1) (hl : S.length < 1000) (hv : v < 900000000) (hg : 1 ≤ g ∧ g ≤ 900000000) (hn : n < 900000000) (hx : 1 ≤ x ∧ x ≤ 100000) (hy : 1 ≤ y ∧ y ≤ 1000000000) :
    Mf.right ⟨v + 1, g, n + mk, S.take a ++ ((if mk = 1 then [(n, x, y)] else []) ++ S.drop b)⟩ = true := by
  unfold Mf.right Mf.counts at h ⊢
  simp only [Bool.and_eq_true, decide_eq_true_eq] at h ⊢
  obtain ⟨h1, h2, h3, h4⟩ := h
  have hno : ∀ s ∈ numsS S, s < n := by
    intro s hs
    obtain ⟨q, hq, rfl⟩ := List.mem_map.1 hs
    have := List.all_eq_true.1 h3 q hq
    simp only [Sg.ok, decide_eq_true_eq] at this
    omega
  have hsub : ∀ q ∈ S.take a ++ S.drop b, q ∈ S := by
    intro q hq
    rcases List.mem_append.1 hq with h | h
    · exact List.mem_of_mem_take h
    · exact List.mem_of_mem_drop h
  have hnd : (numsS (S.take a ++ S.drop b)).Nodup := by
    refine h4.sublist ?_
    unfold numsS
    refine List.Sublist.map _ ?_
    have e : S.drop b = (S.drop a).drop (b - a) := by rw [List.drop_drop]; congr 1; omega
    have : (S.take a ++ S.drop b).Sublist (S.take a ++ S.drop a) := by
      refine List.Sublist.append (List.Sublist.refl _) ?_
      rw [e]; exact List.drop_sublist _ _
    rwa [List.take_append_drop] at this
  refine ⟨by omega, ?_, ?_, ?_⟩
  · rcases hmk with rfl | rfl <;> simp <;> omega
  · rw [List.all_eq_true]
    intro q hq
    rw [List.mem_append, List.mem_append] at hq
    have old : q ∈ S → Sg.ok (n + mk) q = true := fun h => Sg.ok_mono mk (List.all_eq_true.1 h3 q h)
    rcases hq with hq | hq | hq
    · exact old (List.mem_of_mem_take hq)
    · rcases hmk with rfl | rfl
      · simp at hq
      · simp at hq
        subst hq
        simp only [Sg.ok, decide_eq_true_eq]
        omega
    · exact old (List.mem_of_mem_drop hq)
  · rcases hmk with rfl | rfl
    · simpa using hnd
    · simp only [if_true, nums_append]
      have e : numsS [((n, x, y) : Sg)] = [n] := rfl
      rw [e]
      rw [nums_append] at hnd
      have hp : (numsS (S.take a) ++ ([n] ++ numsS (S.drop b))).Perm (n :: (numsS (S.take a) ++ numsS (S.drop b))) := by
        exact List.perm_middle
      rw [hp.nodup_iff, List.nodup_cons]
      refine ⟨fun hm => ?_, hnd⟩
      rw [← nums_append] at hm
      have : n ∈ numsS S := by
        obtain ⟨q, hq, e⟩ := List.mem_map.1 hm
        exact List.mem_map.2 ⟨q, hsub q hq, e⟩
      have := hno n this
      omega

def goInl : List FuncId := [15]
theorem goΓ_ok : GOk Try.prog (runG Try.prog (gams [(16, flushedS), (17, compactedS), (18, mrightS), (14, trueS)]) 0 goInl 1) :=
  gok_run hmix (goks_cons flushed_sound (goks_cons compacted_sound (goks_cons mright_sound (goks_cons (true_sound Try.func14 rfl (by decide) mworks_ct) goks_nil)))) 0 goInl 1

set_option maxHeartbeats 16000000 in
theorem goes_switch (l : List (Int × Int × Int)) (v f n z : Int) (S : List Sg) (i : Nat) (p : Int × Int × Int) (hp : l[i]? = some p) (hr : Mf.right ⟨v, f, n, S⟩ = true) (hi : i < 60) (hS : S.length ≤ i) (hf : f ≤ 1 + 2 * i) (hf1 : 1 ≤ f) (hn : n ≤ i + 1) (hn1 : 1 ≤ n) (hv : v = i)
    (b0 : 0 ≤ p.1 ∧ p.1 ≤ 255) (b1 : 0 ≤ p.2.1 ∧ p.2.1 ≤ 255) (b2 : 0 ≤ p.2.2 ∧ p.2.2 ≤ 255) (hz : p.2.2 = z) (r : Int) (hrr : p.1.tmod 4 = r) :
    Sim Try.prog none 1 (restC 1 (fstC (restC 4 (inC (fstC (restC 1 (inC (inC (restC 1 (fstC (restC 4 (bodyOf Try.f3)))))))))))) ([.sl 0 0 l.length 3 false, .top, .bool false, .ptr 1 0, .int .i64 (n - 1), .int .i64 (i : Nat), .ptr 3 0, .ptr 4 0, .int .i64 0, .int .i64 0, .int .i64 1] ++ List.replicate 36 .top ++ [.int .u8 r] ++ List.replicate 169 .top) [.cells false (gosA l), .cells true [.int .i64 v, .int .i64 f, .int .i64 n, .sl 2 0 S.length 3 false], .cells true (sgsA S), .cells true [.int .i64 v, .int .i64 f, .int .i64 n, .sl 2 0 S.length 3 false], .cells true [.int .i64 7, .int .i64 (1 + z), .int .i64 (50 + z)]] (fun e F' H' => e = .normal ∧ ∃ (a b mk : Nat) (g : Int) (W : List Sg), a ≤ b ∧ b ≤ S.length ∧ (mk = 0 ∨ mk = 1) ∧ f ≤ g ∧ g ≤ f + 2 ∧ W = S.take a ++ ((if mk = 1 then [(n, 1 + z, 50 + z)] else []) ++ S.drop b) ∧ Weak 1 F' H' ([.sl 0 0 l.length 3 false, .top, .bool false, .ptr 1 0, .int .i64 (n - 1), .int .i64 (i : Nat), .ptr 3 0, .ptr 4 0, .int .i64 (a : Nat), .int .i64 (b : Nat), .int .i64 (mk : Nat)] ++ List.replicate 206 .top) [.cells false (gosA l), .cells true [.int .i64 (v + 1), .int .i64 g, .int .i64 (n + (mk : Nat)), .sl 5 0 W.length 3 false], .cells true (sgsA S), .cells true [.int .i64 v, .int .i64 f, .int .i64 n, .sl 2 0 S.length 3 false], .cells true [.int .i64 7, .int .i64 (1 + z), .int .i64 (50 + z)], .cells true (sgsA W)]) := by
  have hΓ := goΓ_ok
  simp only [bodyOf, Try.f3, Option.getD_some, restC, inC, fstC]
  obtain ⟨q1, q2, q3⟩ := gos_at l i p hp
  have hil : i < l.length := (List.getElem?_eq_some_iff.1 hp).1
  have z1 : i * 3 < l.length * 3 := by omega
  have z2 : i * 3 + 1 < l.length * 3 := by omega
  have z3 : i * 3 + 2 < l.length * 3 := by omega
  rw [hz] at q3 b2
  have hr4 : 0 ≤ r ∧ r < 4 := by
    rw [← hrr]; exact ⟨Int.tmod_nonneg _ b0.1, Int.tmod_lt_of_pos _ (by decide)⟩
  have lim : S.length ≤ 1000000 := by omega
  have e0 : max 0 (min 0 (S.length : Int)) = 0 := by omega
  by_cases h01 : r = 0 ∨ r = 1
  · obtain ⟨y, hy, hy1, hy2⟩ : ∃ y, z.tmod 3 = y ∧ 0 ≤ y ∧ y ≤ 2 := ⟨_, rfl, Int.tmod_nonneg _ b2.1, by have := Int.tmod_lt_of_pos z (show (0 : Int) < 3 by decide); omega⟩
    have wy : IntKind.i64.wrap y = y := wr_i64 (by omega) (by omega)
    have wfy : IntKind.i64.wrap (f + y) = f + y := wr_i64 (by omega) (by omega)
    have hfit : Mf.fit ⟨v, f, n, S⟩ [(7, 1 + z, 50 + z)] := by unfold Mf.fit; simp; omega
    have hF : Mf.flushed ⟨v, f, n, S⟩ (f + y) [(7, 1 + z, 50 + z)] = ⟨v + 1, f + y, n + 1, (n, 1 + z, 50 + z) :: S⟩ := by
      simp [Mf.flushed, Mf.compacted, Mf.lo, Mf.hi, numb, e0]
    have fin : ∀ (F' : List AV) (H' : AHeap), Weak 1 F' H' ([.sl 0 0 l.length 3 false, .top, .bool false, .ptr 1 0, .int .i64 (n - 1), .int .i64 (i : Nat), .ptr 3 0, .ptr 4 0, .int .i64 0, .int .i64 0, .int .i64 1] ++ List.replicate 206 .top) [.cells false (gosA l), .cells true [.int .i64 (v + 1), .int .i64 (f + y), .int .i64 (n + 1), .sl 5 0 ((n, 1 + z, 50 + z) :: S).length 3 false], .cells true (sgsA S), .cells true [.int .i64 v, .int .i64 f, .int .i64 n, .sl 2 0 S.length 3 false], .cells true [.int .i64 7, .int .i64 (1 + z), .int .i64 (50 + z)], .cells true (sgsA ((n, 1 + z, 50 + z) :: S))] → ∃ (a b mk : Nat) (g : Int) (W : List Sg), a ≤ b ∧ b ≤ S.length ∧ (mk = 0 ∨ mk = 1) ∧ f ≤ g ∧ g ≤ f + 2 ∧ W = S.take a ++ ((if mk = 1 then [(n, 1 + z, 50 + z)] else []) ++ S.drop b) ∧ Weak 1 F' H' ([.sl 0 0 l.length 3 false, .top, .bool false, .ptr 1 0, .int .i64 (n - 1), .int .i64 (i : Nat), .ptr 3 0, .ptr 4 0, .int .i64 (a : Nat), .int .i64 (b : Nat), .int .i64 (mk : Nat)] ++ List.replicate 206 .top) [.cells false (gosA l), .cells true [.int .i64 (v + 1), .int .i64 g, .int .i64 (n + (mk : Nat)), .sl 5 0 W.length 3 false], .cells true (sgsA S), .cells true [.int .i64 v, .int .i64 f, .int .i64 n, .sl 2 0 S.length 3 false], .cells true [.int .i64 7, .int .i64 (1 + z), .int .i64 (50 + z)], .cells true (sgsA W)] := fun F' H' hw =>
      ⟨0, 0, 1, f + y, (n, 1 + z, 50 + z) :: S, by omega, by omega, .inr rfl, by omega, by omega, by simp, by simpa using hw⟩
    rcases h01 with rfl | rfl
    all_goals
      refine Sim.block (Sim.step hmix hΓ (n := 0) (by simp; exact ⟨rfl, rfl⟩) (by simp) ?_)
      refine Sim.cond (t := true) (by simp) ?_
      rw [if_pos rfl]
      refine Sim.draw hmix (by simp) ?_
      refine SimR.many hΓ 15 (by simp [stageOps, blankOp]; rfl) (by omega) (by kernel_rfl) (by simp (decide := true) [goInl, hil, q3, z3, hy, wy, wfy, flushedS, rowSgs, sgsOf, mfA, hfit, hF, scA]; first | exact ⟨rfl, rfl⟩ | exact ⟨by kernel_rfl, rfl, rfl⟩) ?_
      refine SimR.done rfl ?_
      dsimp only
      exact ⟨rfl, fin _ _ (Weak.mk' [0, 1, 2, 3, 4, 6] (by decide) (by decide) (by simp) (by simp [sgsA, sgA]))⟩
  obtain ⟨a, ha, la⟩ : ∃ a : Nat, p.2.1.tmod ((S.length : Int) + 1) = a ∧ a ≤ S.length := by
    refine ⟨(p.2.1.tmod ((S.length : Int) + 1)).toNat, ?_, ?_⟩
    · have := Int.tmod_nonneg ((S.length : Int) + 1) b1.1; omega
    · have := Int.tmod_lt_of_pos p.2.1 (show (0 : Int) < (S.length : Int) + 1 by omega); omega
  have wl : IntKind.i64.wrap ((S.length : Int) + 1) = (S.length : Int) + 1 := wr_i64 (by omega) (by omega)
  have nz : ¬ ((S.length : Int) + 1 = 0) := by omega
  have wp : IntKind.i64.wrap p.2.1 = p.2.1 := wr_i64 (by omega) (by omega)
  by_cases h2 : r = 2
  · subst h2
    obtain ⟨y, hy, hy1, hy2⟩ : ∃ y, z.tmod 5 = y ∧ 0 ≤ y ∧ y ≤ 4 := ⟨_, rfl, Int.tmod_nonneg _ b2.1, by have := Int.tmod_lt_of_pos z (show (0 : Int) < 5 by decide); omega⟩
    have wy : IntKind.i64.wrap y = y := wr_i64 (by omega) (by omega)
    have way : IntKind.i64.wrap ((a : Int) + y) = a + y := wr_i64 (by omega) (by omega)
    obtain ⟨b, hb, lb, lab⟩ : ∃ b : Nat, min (S.length : Int) (a + y) = b ∧ b ≤ S.length ∧ a ≤ b := ⟨(min (S.length : Int) (a + y)).toNat, by omega, by omega, by omega⟩
    have hfit : Mf.fit ⟨v, f, n, S⟩ [(7, 1 + z, 50 + z)] := by unfold Mf.fit; simp; omega
    have hC : Mf.compacted ⟨v, f, n, S⟩ a b [(7, 1 + z, 50 + z)] = ⟨v + 1, f, n + 1, S.take a ++ ((n, 1 + z, 50 + z) :: S.drop b)⟩ := by
      have g1 : Mf.lo ⟨v, f, n, S⟩ a = a := by unfold Mf.lo; simp only; omega
      have g2 : Mf.hi ⟨v, f, n, S⟩ a b = b := by unfold Mf.hi; rw [g1]; simp only; omega
      unfold Mf.compacted; rw [g1, g2]; simp [numb]
    have fin : ∀ (F' : List AV) (H' : AHeap), Weak 1 F' H' ([.sl 0 0 l.length 3 false, .top, .bool false, .ptr 1 0, .int .i64 (n - 1), .int .i64 (i : Nat), .ptr 3 0, .ptr 4 0, .int .i64 (a : Nat), .int .i64 (b : Nat), .int .i64 1] ++ List.replicate 206 .top) [.cells false (gosA l), .cells true [.int .i64 (v + 1), .int .i64 f, .int .i64 (n + 1), .sl 5 0 (S.take a ++ ((n, 1 + z, 50 + z) :: S.drop b)).length 3 false], .cells true (sgsA S), .cells true [.int .i64 v, .int .i64 f, .int .i64 n, .sl 2 0 S.length 3 false], .cells true [.int .i64 7, .int .i64 (1 + z), .int .i64 (50 + z)], .cells true (sgsA (S.take a ++ ((n, 1 + z, 50 + z) :: S.drop b)))] → ∃ (a b mk : Nat) (g : Int) (W : List Sg), a ≤ b ∧ b ≤ S.length ∧ (mk = 0 ∨ mk = 1) ∧ f ≤ g ∧ g ≤ f + 2 ∧ W = S.take a ++ ((if mk = 1 then [(n, 1 + z, 50 + z)] else []) ++ S.drop b) ∧ Weak 1 F' H' ([.sl 0 0 l.length 3 false, .top, .bool false, .ptr 1 0, .int .i64 (n - 1), .int .i64 (i : Nat), .ptr 3 0, .ptr 4 0, .int .i64 (a : Nat), .int .i64 (b : Nat), .int .i64 (mk : Nat)] ++ List.replicate 206 .top) [.cells false (gosA l), .cells true [.int .i64 (v + 1), .int .i64 g, .int .i64 (n + (mk : Nat)), .sl 5 0 W.length 3 false], .cells true (sgsA S), .cells true [.int .i64 v, .int .i64 f, .int .i64 n, .sl 2 0 S.length 3 false], .cells true [.int .i64 7, .int .i64 (1 + z), .int .i64 (50 + z)], .cells true (sgsA W)] := fun F' H' hw =>
      ⟨a, b, 1, f, S.take a ++ ((n, 1 + z, 50 + z) :: S.drop b), lab, lb, .inr rfl, by omega, by omega, by simp, by simpa using hw⟩
    refine Sim.block (Sim.step hmix hΓ (n := 0) (by simp; exact ⟨rfl, rfl⟩) (by simp) ?_)
    refine Sim.cond (t := false) (by simp) ?_
    rw [if_neg (by simp)]
    refine Sim.step hmix hΓ (n := 0) (by simp; exact ⟨rfl, rfl⟩) (by simp) ?_
    refine Sim.cond (t := true) (by simp) ?_
    rw [if_pos rfl]
    refine Sim.seq (Sim.draw hmix (by simp) ?_)
    refine SimR.many hΓ 12 (by simp [stageOps, blankOp]; rfl) (by omega) (by kernel_rfl) (by simp (decide := true) [hil, q2, z2, ha, wl, nz, wp]; first | exact ⟨rfl, rfl⟩ | exact ⟨by kernel_rfl, rfl, rfl⟩) ?_
    refine SimR.done rfl ?_
    dsimp only
    refine Sim.seq (Sim.draw hmix (by simp) ?_)
    refine SimR.many hΓ 14 (by simp [stageOps, blankOp]; rfl) (by omega) (by kernel_rfl) (by simp (decide := true) [-minA, minA_min, hil, q3, z3, hy, wy, way, hb]; first | exact ⟨rfl, rfl⟩ | exact ⟨by kernel_rfl, rfl, rfl⟩) ?_
    refine SimR.done rfl ?_
    dsimp only
    refine Sim.exec hmix hΓ (n := 0) (by simp (decide := true) [goInl, compactedS, rowSgs, sgsOf, mfA, hfit, hC]; exact ⟨rfl, rfl, rfl⟩) (by simp) ?_
    exact ⟨rfl, fin _ _ (Weak.mk' [0, 1, 2, 3, 4, 6] (by decide) (by decide) (by simp) (by simp [sgsA, sgA]))⟩
  · have h3 : r = 3 := by omega
    subst h3
    obtain ⟨y, hy, hy1, hy2⟩ : ∃ y, z.tmod 3 = y ∧ 0 ≤ y ∧ y ≤ 2 := ⟨_, rfl, Int.tmod_nonneg _ b2.1, by have := Int.tmod_lt_of_pos z (show (0 : Int) < 3 by decide); omega⟩
    have wy : IntKind.i64.wrap y = y := wr_i64 (by omega) (by omega)
    have way : IntKind.i64.wrap ((a : Int) + y) = a + y := wr_i64 (by omega) (by omega)
    obtain ⟨b, hb, lb, lab⟩ : ∃ b : Nat, min (S.length : Int) (a + y) = b ∧ b ≤ S.length ∧ a ≤ b := ⟨(min (S.length : Int) (a + y)).toNat, by omega, by omega, by omega⟩
    have hfit : Mf.fit ⟨v, f, n, S⟩ [] := by unfold Mf.fit; simp; omega
    have hC : Mf.compacted ⟨v, f, n, S⟩ a b [] = ⟨v + 1, f, n, S.take a ++ S.drop b⟩ := by
      have g1 : Mf.lo ⟨v, f, n, S⟩ a = a := by unfold Mf.lo; simp only; omega
      have g2 : Mf.hi ⟨v, f, n, S⟩ a b = b := by unfold Mf.hi; rw [g1]; simp only; omega
      unfold Mf.compacted; rw [g1, g2]; simp [numb]
    have fin : ∀ (F' : List AV) (H' : AHeap), Weak 1 F' H' ([.sl 0 0 l.length 3 false, .top, .bool false, .ptr 1 0, .int .i64 (n - 1), .int .i64 (i : Nat), .ptr 3 0, .ptr 4 0, .int .i64 (a : Nat), .int .i64 (b : Nat), .int .i64 0] ++ List.replicate 206 .top) [.cells false (gosA l), .cells true [.int .i64 (v + 1), .int .i64 f, .int .i64 n, .sl 5 0 (S.take a ++ S.drop b).length 3 false], .cells true (sgsA S), .cells true [.int .i64 v, .int .i64 f, .int .i64 n, .sl 2 0 S.length 3 false], .cells true [.int .i64 7, .int .i64 (1 + z), .int .i64 (50 + z)], .cells true (sgsA (S.take a ++ S.drop b))] → ∃ (a b mk : Nat) (g : Int) (W : List Sg), a ≤ b ∧ b ≤ S.length ∧ (mk = 0 ∨ mk = 1) ∧ f ≤ g ∧ g ≤ f + 2 ∧ W = S.take a ++ ((if mk = 1 then [(n, 1 + z, 50 + z)] else []) ++ S.drop b) ∧ Weak 1 F' H' ([.sl 0 0 l.length 3 false, .top, .bool false, .ptr 1 0, .int .i64 (n - 1), .int .i64 (i : Nat), .ptr 3 0, .ptr 4 0, .int .i64 (a : Nat), .int .i64 (b : Nat), .int .i64 (mk : Nat)] ++ List.replicate 206 .top) [.cells false (gosA l), .cells true [.int .i64 (v + 1), .int .i64 g, .int .i64 (n + (mk : Nat)), .sl 5 0 W.length 3 false], .cells true (sgsA S), .cells true [.int .i64 v, .int .i64 f, .int .i64 n, .sl 2 0 S.length 3 false], .cells true [.int .i64 7, .int .i64 (1 + z), .int .i64 (50 + z)], .cells true (sgsA W)] := fun F' H' hw =>
      ⟨a, b, 0, f, S.take a ++ S.drop b, lab, lb, .inl rfl, by omega, by omega, by simp, by simpa using hw⟩
    refine Sim.block (Sim.step hmix hΓ (n := 0) (by simp; exact ⟨rfl, rfl⟩) (by simp) ?_)
    refine Sim.cond (t := false) (by simp) ?_
    rw [if_neg (by simp)]
    refine Sim.step hmix hΓ (n := 0) (by simp; exact ⟨rfl, rfl⟩) (by simp) ?_
    refine Sim.cond (t := false) (by simp) ?_
    rw [if_neg (by simp)]
    refine Sim.seq (Sim.draw hmix (by simp) ?_)
    refine SimR.many hΓ 12 (by simp [stageOps, blankOp]; rfl) (by omega) (by kernel_rfl) (by simp (decide := true) [hil, q2, z2, ha, wl, nz, wp]; first | exact ⟨rfl, rfl⟩ | exact ⟨by kernel_rfl, rfl, rfl⟩) ?_
    refine SimR.done rfl ?_
    dsimp only
    refine Sim.seq (Sim.draw hmix (by simp) ?_)
    refine SimR.many hΓ 14 (by simp [stageOps, blankOp]; rfl) (by omega) (by kernel_rfl) (by simp (decide := true) [-minA, minA_min, hil, q3, z3, hy, wy, way, hb]; first | exact ⟨rfl, rfl⟩ | exact ⟨by kernel_rfl, rfl, rfl⟩) ?_
    refine SimR.done rfl ?_
    dsimp only
    refine Sim.exec hmix hΓ (n := 0) (by simp (decide := true) [goInl, compactedS, rowSgs, sgsOf, mfA, hfit, hC]; exact ⟨rfl, rfl, rfl⟩) (by simp) ?_
    exact ⟨rfl, fin _ _ (Weak.mk' [0, 1, 2, 3, 4, 5] (by decide) (by decide) (by simp) (by simp [sgsA, sgA]))⟩

end Go.Proofs.Ytbbgmaklmlagcaa
