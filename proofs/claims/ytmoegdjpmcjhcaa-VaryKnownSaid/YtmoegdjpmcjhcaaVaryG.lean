/- Walks: vary.Row. -/
import Derived.Test.YtmoegdjpmcjhcaaVaryF
namespace Go.Proofs.Ytmoegdjpmcjhcaa
open Go.RowKit Go.Shelf
attribute [local go_sem] Oper.semAt_some

theorem Try.infoU64 : (Try.prog.info? 22).map (fun i => (i.zero, i.size, i.bytes)) = some (some (.int .u64 0), 1, 8) := by kernel_rfl

set_option maxRecDepth 100000 in
set_option maxHeartbeats 400000 in
theorem rowv_none (s : ByteArray) (at_ many : Int) (w : World) (h : many < 1) :
    Calls Try.prog 21 #[.string s, .int .i64 at_, .int .i64 many] w fun e w' => e = .returned (.tuple #[.slice none 0 0, .int .i64 at_, .int .i64 0]) ∧ Below w.heap.size w w' := by
  refine (callsIn_wide (n := 6)).1 ?_
  refine callsIn_of_wp_marks Try.func21 rfl trivial ?_ rfl
  simp only [Try.ntmps21, List.size_toArray, List.length_cons, List.length_nil, Nat.reduceAdd, Nat.reduceSub, Array.replicate_succ, Array.replicate_zero, List.push_toArray, List.append_toArray, List.nil_append, List.cons_append]
  gi_wp2_with fail
  refine ⟨_, (by simp [results, Try.results21, go_sem]), rfl, ?_⟩
  exact ((((Below.refl _ _).alloc (Nat.le_refl _) _).alloc (by simp) _).alloc (by simp; omega) _).alloc (by simp; omega) _

/-- Between two rounds of Row: k numbers have come, the next one stands at a. -/
structure RowJ (s : ByteArray) (at_ : Int) (m B D l : Nat) (R : LoopState → Option Code → Obj) (w : World) (k : Nat) (a : Int) (W : World) : Prop where
  had : ∃ vs v, Vy.row s.data.toList at_ k = (vs, a, 0) ∧ Blk W (B + 1) #[v] 28 ∧ W.ownsRow (B + 8) 22 1 v vs.length (vs.map vU)
  lt : k < m
  b0 : Blk W B #[.int .i64 m] 3
  b2 : Blk W (B + 2) #[.int .i64 0] 3
  b3 : Blk W (B + 3) #[.int .i64 0] 34
  b4 : Blk W (B + 4) #[.string s] 9
  b5 : Blk W (B + 5) #[.int .i64 a] 3
  hD : W.heap[D]? = some (.deferred (some []))
  hl : W.heap[l]? = some (R .ready none)
  bel : Below B w W

/-- Row has its answer. -/
structure RowX (s : ByteArray) (at_ : Int) (m B D l : Nat) (R : LoopState → Option Code → Obj) (w : World) (W : World) : Prop where
  had : ∃ v, Blk W (B + 1) #[v] 28 ∧ W.ownsRow (B + 8) 22 1 v (Vy.row s.data.toList at_ m).1.length ((Vy.row s.data.toList at_ m).1.map vU)
  b2 : Blk W (B + 2) #[.int .i64 (Vy.row s.data.toList at_ m).2.1] 3
  b3 : Blk W (B + 3) #[.int .i64 (Vy.row s.data.toList at_ m).2.2] 34
  hD : W.heap[D]? = some (.deferred (some []))
  hl : W.heap[l]? = some (R .done (some .ret))
  bel : Below B w W

set_option maxRecDepth 100000 in
set_option maxHeartbeats 4000000 in
theorem rowv_some (s : ByteArray) (hm : s.size ≤ 1099511627776) (at_ : Int) (m : Nat) (h : 1 ≤ m) (w : World) :
    Calls Try.prog 21 #[.string s, .int .i64 at_, .int .i64 m] w fun e w' => ∃ v, e = .returned (.tuple #[v, .int .i64 (Vy.row s.data.toList at_ m).2.1, .int .i64 (Vy.row s.data.toList at_ m).2.2]) ∧
      w'.ownsRow w.heap.size 22 1 v (Vy.row s.data.toList at_ m).1.length ((Vy.row s.data.toList at_ m).1.map vU) ∧ Below w.heap.size w w' := by
  refine (callsIn_wide (n := 6)).1 ?_
  refine callsIn_of_wp_marks Try.func21 rfl trivial ?_ rfl
  simp only [Try.ntmps21, List.size_toArray, List.length_cons, List.length_nil, Nat.reduceAdd, Nat.reduceSub, Array.replicate_succ, Array.replicate_zero, List.push_toArray, List.append_toArray, List.nil_append, List.cons_append]
  gi_wp2_with fail
  refine ⟨trivial, callsIn_wide.2 ((row_any s at_ _).mono ?_)⟩
  rintro e w1 ⟨rfl, rfl⟩
  gi_wp2_with fail
  have hmx : Try.prog.follows .mixedOrders = true := by kernel_rfl
  refine rf_stmt rfl (enters_of Try.func63 (by kernel_rfl) rfl) ?_
  intro fn R W1 hR hW1
  obtain ⟨B, hB⟩ : ∃ B : Nat, w.heap.size = B := ⟨_, rfl⟩
  simp only [World.size_alloc, Nat.add_assoc, Nat.reduceAdd, hB] at hR hW1 ⊢
  refine (row1_any s (by omega) (B + 7) (B + 4) (B + 5) (RowJ s at_ m B (B + 6) (B + 7) R w) (RowX s at_ m B (B + 6) (B + 7) R w) ?hJ ?hget ?hround W1 at_ ?h0).mono ?post
  case hJ =>
    intro k a W h
    exact ⟨h.b4.cell rfl, h.b5.cell rfl, h.b5.free 0⟩
  case hget =>
    intro k a W W2 h hb
    obtain ⟨vs, v, h1, h2, h3⟩ := h.had
    have hlt := h.b5.lt
    have hlt2 := (Array.getElem?_eq_some_iff.1 h.hl).1
    exact ⟨⟨vs, v, h1, h2.below hb h2.lt, ownsRow_below h3 hb (Nat.le_refl _)⟩, h.lt, h.b0.below hb h.b0.lt, h.b2.below hb h.b2.lt, h.b3.below hb h.b3.lt, h.b4.below hb h.b4.lt, h.b5.below hb h.b5.lt,
      (hb.block _ (by omega)).trans h.hD, (hb.block _ hlt2).trans h.hl, below_trans' h.bel hb (by rw [← hB]; exact h.bel.size)⟩
  case h0 =>
    subst hW1
    subst hB
    refine ⟨⟨[], .slice none 0 0, rfl, ?_, World.ownsRow_nil _ _ _ _⟩, by omega, ?_, ?_, ?_, ?_, ?_, ?_, ?_, ?_⟩
    all_goals first
      | (simp only [Blk, heap_alloc, Array.getElem?_push, Array.size_push]; simp; done)
      | exact Blk.alloc (Blk.alloc (Blk.alloc (Blk.alloc (Blk.alloc (Blk.alloc (Blk.alloc (Blk.new _ _ _) _) _) _) _) _) _) _
      | skip
    exact below_alloc (below_alloc (below_alloc (below_alloc (below_alloc (below_alloc (below_alloc (below_alloc (Below.refl _ _) _) _) _) _) _) _) _) _
  case hround =>
    intro k a W h
    obtain ⟨vs, v, h1, h2, h3⟩ := h.had
    obtain ⟨⟨n, x, e⟩, hr⟩ : ∃ r, Vy.get s.data.toList a = r := ⟨_, rfl⟩
    rw [hr]
    have Hr := Lib.hid hr; clear hr
    have H1 := Lib.hid h1; clear h1
    have HR := Lib.hid hR; clear hR hW1
    have hR1 := h.hl.trans (congrArg some (congrFun (congrFun HR.out _) _))
    have hlt := (Array.getElem?_eq_some_iff.1 h.hl).1
    refine rf_round hR1 rfl ?_
    clear hR1
    unfold hadV
    dsimp only
    gi_wp2_with fail
    refine ⟨(Below.heap_alloc _ _ _ hlt).trans (h.hl.trans (congrArg some (congrFun (congrFun HR.out _) _))), ?_⟩
    rw [← HR.out]
    clear HR
    have b0 := blk_putObj (o := R .busy none) (h.b0.alloc (.cells #[.int .u64 n, .int .i64 x, .int .i64 e] 73)) (show B ≠ B + 7 by omega)
    have b1 := blk_putObj (o := R .busy none) (h2.alloc (.cells #[.int .u64 n, .int .i64 x, .int .i64 e] 73)) (show B + 1 ≠ B + 7 by omega)
    have b2 := blk_putObj (o := R .busy none) (h.b2.alloc (.cells #[.int .u64 n, .int .i64 x, .int .i64 e] 73)) (show B + 2 ≠ B + 7 by omega)
    have b3 := blk_putObj (o := R .busy none) (h.b3.alloc (.cells #[.int .u64 n, .int .i64 x, .int .i64 e] 73)) (show B + 3 ≠ B + 7 by omega)
    have b4 := blk_putObj (o := R .busy none) (h.b4.alloc (.cells #[.int .u64 n, .int .i64 x, .int .i64 e] 73)) (show B + 4 ≠ B + 7 by omega)
    have b5 := blk_putObj (o := R .busy none) (h.b5.alloc (.cells #[.int .u64 n, .int .i64 x, .int .i64 e] 73)) (show B + 5 ≠ B + 7 by omega)
    have b9 := blk_putObj (o := R .busy none) (Blk.new W #[.int .u64 n, .int .i64 x, .int .i64 e] 73) (show W.heap.size ≠ B + 7 by omega)
    have hK2 : ((W.alloc (.cells #[.int .u64 n, .int .i64 x, .int .i64 e] 73)).putObj (B + 7) (R .busy none)).heap[B + 7]? = some (R .busy none) := World.putObj_heap_same (by simp; omega)
    have hD2 : ((W.alloc (.cells #[.int .u64 n, .int .i64 x, .int .i64 e] 73)).putObj (B + 7) (R .busy none)).heap[B + 6]? = some (.deferred (some [])) :=
      (World.putObj_heap_other (by omega)).trans ((Below.heap_alloc _ _ _ (by omega)).trans h.hD)
    have hbel : Below B w ((W.alloc (.cells #[.int .u64 n, .int .i64 x, .int .i64 e] 73)).putObj (B + 7) (R .busy none)) :=
      below_putObj (h.bel.alloc (by omega) _) (by omega) _
    have hown : ((W.alloc (.cells #[.int .u64 n, .int .i64 x, .int .i64 e] 73)).putObj (B + 7) (R .busy none)).ownsRow (B + 8) 22 1 v vs.length (vs.map vU) :=
      own_putObj (h3.alloc _) (by omega) _
    obtain ⟨b, hbd⟩ : ∃ b, W.heap.size = b := ⟨_, rfl⟩
    rw [hbd] at b9 ⊢
    have hb8 : B + 8 ≤ b := by omega
    generalize (W.alloc (.cells #[.int .u64 n, .int .i64 x, .int .i64 e] 73)).putObj (B + 7) (R .busy none) = W2 at *
    have c0 := b0.cell (i := 0) rfl
    have c1 := b1.cell (i := 0) rfl
    have c2 := b2.cell (i := 0) rfl
    have c3 := b3.cell (i := 0) rfl
    have d0 := b9.cell (i := 0) rfl
    have d1 := b9.cell (i := 1) rfl
    have d2 := b9.cell (i := 2) rfl
    have f1 := b1.free 0
    have f2 := b2.free 0
    have f3 := b3.free 0
    have hnb : some b ≠ v.ownBlock := by
      intro e1
      have := (h3.lt b e1.symm).2
      omega
    clear h2 h3
    have n1 : ¬ b = B + 1 := by omega
    have n2 : ¬ b = B + 2 := by omega
    have n3 : ¬ b = B + 3 := by omega
    by_cases he : e = 0
    · subst he
      obtain ⟨i0, hi, hz0, hz1, hz2⟩ := info_parts Try.infoU64
      have hsn := Lib.hid (Vy.row_snoc _ k at_ vs a H1.out (by rw [Hr.out]))
      rw [Hr.out] at hsn
      dsimp only at hsn
      have hlen := Vy.row_length _ _ _ _ _ H1.out
      have hlen2 := Vy.row_length _ _ _ _ _ hsn.out
      have hvs : vs.length ≤ s.size := by
        have h1 := hlen2.2 (by omega)
        simp at h1
        have h2 := hlen.1
        omega
      clear hlen2
      obtain ⟨hvk, _⟩ := hlen
      gi_wp2_with (gi_at_builtin; refine wpListIn_append_own _ rfl _ _ 28 rfl (B + 8) 22 i0 (.int .u64 0) 1 8 Try.underlying28 hi hz0 hz1 hz2 rfl (by decide) _ _ _ rfl (hown.alloc _) ⟨W2.heap.size, 0, none⟩ 1 1 [vU n] rfl rfl ?c1 ?c2 ?c3 ?c4 ?c5 ?_)
      case c1 => exact news_blk (Blk.new W2 #[vU n] 22) _ (by simp)
      case c2 => intro u hu; simp at hu; subst hu; rfl
      case c3 => unfold maxLen; omega
      case c4 => omega
      case c5 =>
        have := (Array.getElem?_eq_some_iff.1 hK2).1
        simp; omega
      intro v' w4 hown4 hg4 _
      obtain ⟨g', cap', rfl⟩ := ownsRow_succ hown4
      have e0 := blk_grown (b0.alloc _) hg4 (own_ne hown (by omega))
      have e1 := blk_grown (b1.alloc _) hg4 (own_ne hown (by omega))
      have e2 := blk_grown (b2.alloc _) hg4 (own_ne hown (by omega))
      have e3 := blk_grown (b3.alloc _) hg4 (own_ne hown (by omega))
      have e4 := blk_grown (b4.alloc _) hg4 (own_ne hown (by omega))
      have e5 := blk_grown (b5.alloc _) hg4 (own_ne hown (by omega))
      have e9 := blk_grown (b9.alloc _) hg4 hnb
      clear b0 b1 b2 b3 b4 b5 b9 c0 c1 c2 c3 d0 d1 d2 f1 f2 f3
      have hD4 := (hg4.block _ (by simp; have := (Array.getElem?_eq_some_iff.1 hD2).1; omega) (own_ne hown (by omega))).trans ((Below.heap_alloc W2 (.cells #[vU n] 22) _ (Array.getElem?_eq_some_iff.1 hD2).1).trans hD2)
      have hK4 := (hg4.block _ (by simp; have := (Array.getElem?_eq_some_iff.1 hK2).1; omega) (own_ne hown (by omega))).trans ((Below.heap_alloc W2 (.cells #[vU n] 22) _ (Array.getElem?_eq_some_iff.1 hK2).1).trans hK2)
      have hbel4 : Below B w w4 := by
        have hsz := (Array.getElem?_eq_some_iff.1 hK2).1
        exact below_append (hbel.alloc (by omega) _) (ownsRow_mono (hown.alloc _) (by omega)) (by simp; omega) hg4
      have g1 := e1.free 0
      have g2 := e2.free 0
      have g3 := e3.free 0
      have c0 := e0.cell (i := 0) rfl
      have c1 := e1.cell (i := 0) rfl
      have c2 := e2.cell (i := 0) rfl
      have c3 := e3.cell (i := 0) rfl
      have d1 := e9.cell (i := 1) rfl
      have hh : ∀ u j o, B + 6 ≤ j → w4.heap[j]? = some o → (w4.setCell ⟨B + 1, 0, none⟩ u).heap[j]? = some o := fun u j o hj ho => by
        rw [Below.heap_setCell _ _ _ _ (by simp; omega)]; exact ho
      have hn : ¬ ((n : Int) = 0 ∧ False) := by simp
      by_cases hkm : k + 1 = m
      · have ht : ((k : Int) + 1 == (m : Int)) = true := by rw [← hkm]; simp
        have Hkm := Lib.hid hkm; clear hkm
        gi_wp2_with fail
        have x1 := e1.set 0 (.slice (some ⟨g', 0, none⟩) (k + 1) cap')
        have x2 := e2.set_other (a := ⟨B + 1, 0, none⟩) (by simp) (.slice (some ⟨g', 0, none⟩) (k + 1) cap')
        have x3 := e3.set_other (a := ⟨B + 1, 0, none⟩) (by simp) (.slice (some ⟨g', 0, none⟩) (k + 1) cap')
        have x9 := e9.set_other (a := ⟨B + 1, 0, none⟩) (by simp; omega) (.slice (some ⟨g', 0, none⟩) (k + 1) cap')
        have k5 := hh (.slice (some ⟨g', 0, none⟩) (k + 1) cap') _ _ (by omega) hK4
        have d5 := hh (.slice (some ⟨g', 0, none⟩) (k + 1) cap') _ _ (by omega) hD4
        have l5 := below_set hbel4 (by omega : B ≤ B + 1) 0 (.slice (some ⟨g', 0, none⟩) (k + 1) cap')
        have o5 := ownsRow_set (o := 0) (u := .slice (some ⟨g', 0, none⟩) (k + 1) cap') hown4 (by omega : B + 1 < B + 8)
        generalize w4.setCell ⟨B + 1, 0, none⟩ (.slice (some ⟨g', 0, none⟩) (k + 1) cap') = W5 at *
        clear e0 e1 e2 e3 e4 e5 e9 c0 c1 c2 c3 d1 g1 g2 g3
        have c1 := x1.cell (i := 0) (v := .slice (some ⟨g', 0, none⟩) (k + 1) cap') rfl
        have c2 := x2.cell (i := 0) rfl
        have c3 := x3.cell (i := 0) rfl
        have d1 := x9.cell (i := 1) rfl
        have g1 := x1.free 0
        have g2 := x2.free 0
        have g3 := x3.free 0
        apply wpIn_point
        case h =>
          gi_region_with_o (fail)
          all_goals exact ⟨rfl, rfl, rfl⟩
        case hc =>
          simp only [Exit.then]
          gi_wp2_with fail
          have hm1 := Hkm.out
          subst hm1
          have hrow := hsn.out
          have y1 := (((x1.set 0 (.slice (some ⟨g', 0, none⟩) (k + 1) cap')).set_other (a := ⟨B + 2, 0, none⟩) (by simp) (.int .i64 x)).set_other (a := ⟨B + 3, 0, none⟩) (by simp) (.int .i64 0))
          have y2 := (((x2.set_other (a := ⟨B + 1, 0, none⟩) (by simp) (.slice (some ⟨g', 0, none⟩) (k + 1) cap')).set 0 (.int .i64 x)).set_other (a := ⟨B + 3, 0, none⟩) (by simp) (.int .i64 0))
          have y3 := (((x3.set_other (a := ⟨B + 1, 0, none⟩) (by simp) (.slice (some ⟨g', 0, none⟩) (k + 1) cap')).set_other (a := ⟨B + 2, 0, none⟩) (by simp) (.int .i64 x)).set 0 (.int .i64 0))
          have h3 : ∀ j o, B + 6 ≤ j → W5.heap[j]? = some o → (((W5.setCell ⟨B + 1, 0, none⟩ (.slice (some ⟨g', 0, none⟩) (k + 1) cap')).setCell ⟨B + 2, 0, none⟩ (.int .i64 x)).setCell ⟨B + 3, 0, none⟩ (.int .i64 0)).heap[j]? = some o := fun j o hj ho => by
            rw [Below.heap_setCell _ _ _ _ (by simp; omega), Below.heap_setCell _ _ _ _ (by simp; omega), Below.heap_setCell _ _ _ _ (by simp; omega)]; exact ho
          refine ⟨h3 _ _ (by omega) k5, .inr ⟨rfl, ⟨⟨.slice (some ⟨g', 0, none⟩) (k + 1) cap', ?_, ?_⟩, ?_, ?_, ?_, ?_, ?_⟩⟩⟩
          · exact blk_putObj y1 (by omega)
          · rw [hrow]
            have e1 : (vs ++ [n]).length = k + 1 := by simp [hvk]
            rw [e1, List.map_append]
            exact own_putObj (ownsRow_set (ownsRow_set (ownsRow_set o5 (by omega)) (by omega)) (by omega)) (by omega) _
          · rw [hrow]; exact blk_putObj y2 (by omega)
          · rw [hrow]; exact blk_putObj y3 (by omega)
          · exact (World.putObj_heap_other (by omega)).trans (h3 _ _ (by omega) d5)
          · exact World.putObj_heap_same (Array.getElem?_eq_some_iff.1 (h3 _ _ (by omega) k5)).1
          · exact below_putObj (below_set (below_set (below_set l5 (by omega) _ _) (by omega) _ _) (by omega) _ _).drew (by omega) _
      · have ht : ((k : Int) + 1 == (m : Int)) = false := by simp; omega
        gi_wp2_with fail
        have hlt2 := h.lt
        have k5 := hh (.slice (some ⟨g', 0, none⟩) (k + 1) cap') _ _ (by omega) hK4
        have d5 := hh (.slice (some ⟨g', 0, none⟩) (k + 1) cap') _ _ (by omega) hD4
        have x0 := (blk_putObj (o := R .ready none) (e0.set_other (a := ⟨B + 1, 0, none⟩) (by simp) (.slice (some ⟨g', 0, none⟩) (k + 1) cap')) (show B ≠ B + 7 by omega)).set_other (a := ⟨B + 5, 0, none⟩) (by simp) (.int .i64 x)
        have x1 := (blk_putObj (o := R .ready none) (e1.set 0 (.slice (some ⟨g', 0, none⟩) (k + 1) cap')) (show B + 1 ≠ B + 7 by omega)).set_other (a := ⟨B + 5, 0, none⟩) (by simp) (.int .i64 x)
        have x2 := (blk_putObj (o := R .ready none) (e2.set_other (a := ⟨B + 1, 0, none⟩) (by simp) (.slice (some ⟨g', 0, none⟩) (k + 1) cap')) (show B + 2 ≠ B + 7 by omega)).set_other (a := ⟨B + 5, 0, none⟩) (by simp) (.int .i64 x)
        have x3 := (blk_putObj (o := R .ready none) (e3.set_other (a := ⟨B + 1, 0, none⟩) (by simp) (.slice (some ⟨g', 0, none⟩) (k + 1) cap')) (show B + 3 ≠ B + 7 by omega)).set_other (a := ⟨B + 5, 0, none⟩) (by simp) (.int .i64 x)
        have x4 := (blk_putObj (o := R .ready none) (e4.set_other (a := ⟨B + 1, 0, none⟩) (by simp) (.slice (some ⟨g', 0, none⟩) (k + 1) cap')) (show B + 4 ≠ B + 7 by omega)).set_other (a := ⟨B + 5, 0, none⟩) (by simp) (.int .i64 x)
        have x5 := blk_putObj (o := R .ready none) (e5.set_other (a := ⟨B + 1, 0, none⟩) (by simp) (.slice (some ⟨g', 0, none⟩) (k + 1) cap')) (show B + 5 ≠ B + 7 by omega)
        refine ⟨k5, .inl ⟨rfl, ⟨_, x5.cell (i := 0) rfl⟩, x5.free 0, ⟨⟨vs ++ [n], _, hsn.out, x1, ?_⟩, by omega, x0, x2, x3, x4, x5.set 0 _, ?_, ?_, ?_⟩⟩⟩
        · have e1 : (vs ++ [n]).length = k + 1 := by simp [hvk]
          rw [e1, List.map_append]
          exact ownsRow_set (own_putObj (ownsRow_set hown4 (by omega)) (by omega) _) (by omega)
        · rw [Below.heap_setCell _ _ _ _ (by simp)]
          exact (World.putObj_heap_other (by omega)).trans d5
        · rw [Below.heap_setCell _ _ _ _ (by simp)]
          exact World.putObj_heap_same (Array.getElem?_eq_some_iff.1 k5).1
        · exact below_set (below_putObj (below_set hbel4 (by omega) _ _) (by omega) _) (by omega) _ _
    · have hne : (e != 0) = true := by simp [he]
      gi_wp2_with fail
      apply wpIn_point
      case h =>
        gi_region_with_o (fail)
        all_goals exact ⟨rfl, rfl, rfl⟩
      case hc =>
        simp only [Exit.then]
        gi_wp2_with fail
        have hst := Vy.row_stop _ k m at_ vs a H1.out (by rw [Hr.out]; exact he) h.lt
        rw [Hr.out] at hst
        have x1 := (((b1.set 0 (.slice none 0 0)).set_other (a := ⟨B + 2, 0, none⟩) (by simp) (.int .i64 x)).set_other (a := ⟨B + 3, 0, none⟩) (by simp) (.int .i64 e))
        have x2 := (((b2.set_other (a := ⟨B + 1, 0, none⟩) (by simp) (.slice none 0 0)).set 0 (.int .i64 x)).set_other (a := ⟨B + 3, 0, none⟩) (by simp) (.int .i64 e))
        have x3 := (((b3.set_other (a := ⟨B + 1, 0, none⟩) (by simp) (.slice none 0 0)).set_other (a := ⟨B + 2, 0, none⟩) (by simp) (.int .i64 x)).set 0 (.int .i64 e))
        have hh : ∀ j o, B + 6 ≤ j → W2.heap[j]? = some o → (((W2.setCell ⟨B + 1, 0, none⟩ (.slice none 0 0)).setCell ⟨B + 2, 0, none⟩ (.int .i64 x)).setCell ⟨B + 3, 0, none⟩ (.int .i64 e)).heap[j]? = some o := fun j o hj ho => by
          rw [Below.heap_setCell _ _ _ _ (by simp; omega), Below.heap_setCell _ _ _ _ (by simp; omega), Below.heap_setCell _ _ _ _ (by simp; omega)]; exact ho
        refine ⟨hh _ _ (by omega) hK2, .inr ⟨rfl, ⟨⟨.slice none 0 0, ?_, ?_⟩, ?_, ?_, ?_, ?_, ?_⟩⟩⟩
        · exact blk_putObj x1 (by omega)
        · rw [hst]; exact World.ownsRow_nil _ _ _ _
        · rw [hst]; exact blk_putObj x2 (by omega)
        · rw [hst]; exact blk_putObj x3 (by omega)
        · exact (World.putObj_heap_other (by omega)).trans (hh _ _ (by omega) hD2)
        · exact World.putObj_heap_same (Array.getElem?_eq_some_iff.1 (hh _ _ (by omega) hK2)).1
        · exact below_putObj (below_set (below_set (below_set hbel (by omega) _ _) (by omega) _ _) (by omega) _ _).drew (by omega) _
  case post =>
    rintro e W2 ⟨⟨v0, rfl⟩, hx⟩
    obtain ⟨v, x1, x2⟩ := hx.had
    refine ⟨.done, some .ret, by simp, hx.hl, hx.hD, ?_⟩
    dsimp only
    gi_wp2_with fail
    have hK := (World.putObj_heap_other (o := R .exhausted (some .ret)) (show B + 6 ≠ B + 7 by omega)).trans hx.hD
    refine ⟨by simp, .inl ⟨_, _, rfl, run_takeDeferred hK, ?_⟩⟩
    have y1 := blk_putObj (o := .deferred none) (blk_putObj (o := R .exhausted (some .ret)) x1 (show B + 1 ≠ B + 7 by omega)) (show B + 1 ≠ B + 6 by omega)
    have y2 := blk_putObj (o := .deferred none) (blk_putObj (o := R .exhausted (some .ret)) hx.b2 (show B + 2 ≠ B + 7 by omega)) (show B + 2 ≠ B + 6 by omega)
    have y3 := blk_putObj (o := .deferred none) (blk_putObj (o := R .exhausted (some .ret)) hx.b3 (show B + 3 ≠ B + 7 by omega)) (show B + 3 ≠ B + 6 by omega)
    have o1 := own_putObj (own_putObj x2 (show B + 7 < B + 8 by omega) (R .exhausted (some .ret))) (show B + 6 < B + 8 by omega) (.deferred none)
    have l1 := below_putObj (below_putObj hx.bel (show B ≤ B + 7 by omega) (R .exhausted (some .ret))) (show B ≤ B + 6 by omega) (.deferred none)
    have c1 := y1.cell (i := 0) (v := v) rfl
    have c2 := y2.cell (i := 0) (v := .int .i64 (Vy.row s.data.toList at_ m).2.1) rfl
    have c3 := y3.cell (i := 0) (v := .int .i64 (Vy.row s.data.toList at_ m).2.2) rfl
    refine ⟨.tuple #[v, .int .i64 (Vy.row s.data.toList at_ m).2.1, .int .i64 (Vy.row s.data.toList at_ m).2.2], (by simp [results, Try.results21, go_sem, c1, c2, c3]), v, rfl, ownsRow_mono o1 (by omega), ?_⟩
    exact l1.mono (by omega)
end Go.Proofs.Ytmoegdjpmcjhcaa
