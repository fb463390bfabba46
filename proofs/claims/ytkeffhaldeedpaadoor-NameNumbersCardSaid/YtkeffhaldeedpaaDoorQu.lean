/- The law cedillalaw09.NameNumbers: the walk. -/
import Derived.Test.YtkeffhaldeedpaaDoorQt
namespace Go.Proofs.YtkeffhaldeedpaaDoor
open Go Go.Lib
set_option maxRecDepth 100000
attribute [-simp] drawOk_eq adraw qrun acode aops

/-- What Numbers makes of a row of names, wherever it lies. -/
theorem numbersS_at {H : AHeap} {x : AV} {l : List (List UInt8)} (k : Int) (hx : rowSt H x = some l) (h1 : l.length ≤ 1000000) (h2 : ∀ s ∈ l, s.length ≤ 1000000) :
    numbersS [.int .i64 k, x] H = some (.sl H.length 0 (numN k l).length 1 false, H ++ [nnR (srt (numRaw k l))], []) := by
  have hall : (l.all fun s => decide (s.length ≤ 1000000)) = true := by
    rw [List.all_eq_true]; intro s hs; simpa using h2 s hs
  simp only [numbersS, readNewS, hx, h1, hall]
  simp [shA, shB]

theorem intsS_at {H : AHeap} {x y : AV} {a : List Int} (hx : rowI H x = some a) (hy : rowI H y = some a) (h1 : a.length ≤ 1000000000000) : intsS [x, y] H = some (.bool true, H, []) := by
  simp only [intsS, readS, hx, hy]
  simp [h1]

theorem rowI_at {H : AHeap} {b : Nat} {z : List Int} (hb : H[b]? = some (nnR z)) : rowI H (.sl b 0 (compact z).length 1 false) = some (compact z) := by
  have h1 := cpt_takeB z
  have h2 : (compact z).length ≤ (cpt z).length := by rw [cpt_length]; exact compact_le z
  simp only [rowI, hb, nnR, Nat.zero_add, intsA_length, h2, if_true, List.drop_zero, h1, intsOf_intsA]

theorem rowSt_at {H : AHeap} {b : Nat} {o : Bool} {l : List (List UInt8)} (hb : H[b]? = some (.cells o (l.map .str))) : rowSt H (.sl b 0 l.length 1 false) = some l := by
  have : List.take l.length (l.map AV.str) = l.map AV.str := List.take_of_length_le (by simp)
  simp [rowSt, hb, this]

theorem rowSt_at' {H : AHeap} {b : Nat} {o c : Bool} {l : List (List UInt8)} (hb : H[b]? = some (.cells o (l.map .str))) : rowSt H (.slice b 0 l.length 1 c) = some l := by
  have : List.take l.length (l.map AV.str) = l.map AV.str := List.take_of_length_le (by simp)
  simp [rowSt, hb, this]

set_option maxHeartbeats 16000000 in
theorem nn_nums (a b : List Int) (o : List UInt8) (q : Nat) (_hq : q = 3 ∨ q = 4) (X Y bk : List (List UInt8)) (_hX0 : X ≠ []) (hY0 : Y ≠ []) (hX : X.length ≤ 100) (hY : Y.length ≤ 100) (hXe : ∀ s ∈ X, s.length ≤ 40) (hYe : ∀ s ∈ Y, s.length ≤ 40) (hbk : BkInv X bk X.length) :
    Sim Tryd.prog none 2 (restC 3 nnC)
      (nnHd a.length b.length o q ++ [.sl 2 0 X.length 1 false, .sl 3 0 Y.length 1 false, .sl 4 0 bk.length 1 false] ++ List.replicate 116 .top)
      [.cells false (u32sA a), .cells false (u32sA b), .cells true (X.map .str), .cells true (Y.map .str), .cells true (bk.map .str)]
      fun e F' H' => e = .normal ∧ Weak 2 F' H' (nnHd a.length b.length o q ++ List.replicate 119 .top) [.cells false (u32sA a), .cells false (u32sA b)] := by
  have hΓ := nnΓ_ok
  have fa := frees_u32s a
  have fb := frees_u32s b
  have fi := frees_ints
  have hmap := nn_map a b o q (srt (numRaw q X)) (srt (numRaw q Y)) (srt (numRaw q (Y ++ X))) (numN q X) (numN q Y) (numN q (Y ++ X)) rfl rfl rfl
    (by have h1 := compact_le (srt (numRaw q X)); have h2 := srt_length (numRaw q X); have h3 := numRaw_length q X; unfold numN; omega)
    (by have h1 := compact_le (srt (numRaw q Y)); have h2 := srt_length (numRaw q Y); have h3 := numRaw_length q Y; unfold numN; omega)
    (by have h1 := compact_le (srt (numRaw q (Y ++ X))); have h2 := srt_length (numRaw q (Y ++ X)); have h3 := numRaw_length q (Y ++ X); rw [List.length_append] at h3; unfold numN; omega)
    (numN_asc _ _) (fun u hu => has_all hu)
  simp only [nnC, bodyOf, Tryd.f5, Option.getD_some, restC, fstC, inC, nnHd] at hmap ⊢
  have hbl := hbk.len
  have hbe : ∀ s ∈ bk, s.length ≤ 40 := fun s hs => hXe s (hbk.sub s hs)
  have hsame : numN q bk = numN q X := numN_same hbk.all
  have f1 := numbersS_at (H := [.cells false (u32sA a), .cells false (u32sA b), .cells true (X.map .str), .cells true (Y.map .str), .cells true (bk.map .str)]) (x := .sl 2 0 X.length 1 false) (q : Int) (rowSt_at rfl) (by omega) (fun s hs => by have := hXe s hs; omega)
  have f2 := numbersS_at (H := [.cells false (u32sA a), .cells false (u32sA b), .cells true (X.map .str), .cells true (Y.map .str), .cells true (bk.map .str), nnR (srt (numRaw q X))]) (x := .sl 3 0 Y.length 1 false) (q : Int) (rowSt_at rfl) (by omega) (fun s hs => by have := hYe s hs; omega)
  have htX : List.take X.length (X.map AV.str) = X.map AV.str := List.take_of_length_le (by simp)
  have htY : List.take Y.length (Y.map AV.str) = Y.map AV.str := List.take_of_length_le (by simp)
  simp only [List.length_cons, List.length_nil, Nat.reduceAdd, List.cons_append, List.nil_append, nnR] at f1 f2
  have b1 : Y.length * 16 ≤ 140737488355328 := by omega
  have b2 : Y.length ≤ 9223372036854775807 := by omega
  have b3 : (Y.length + X.length) * 16 ≤ 140737488355328 := by omega
  have b4 : Y.length + X.length ≤ 9223372036854775807 := by omega
  refine Sim.seq (Sim.plain (by simp) ?_)
  refine SimP.many hΓ 7 rfl rfl (by simp [nnΓ, f1, f2]; exact ⟨rfl, rfl⟩) ?_
  refine SimP.many hΓ 5 rfl rfl (by simp [hY0, htX, htY, b1, b2, b3, b4]; exact ⟨rfl, rfl⟩) ?_
  have hYX : ∀ s ∈ Y ++ X, s.length ≤ 1000000 := by
    intro s hs
    rcases List.mem_append.1 hs with hs | hs
    · have := hYe s hs; omega
    · have := hXe s hs; omega
  have f3 := numbersS_at (H := [.cells false (u32sA a), .cells false (u32sA b), .cells true (X.map .str), .cells true (Y.map .str), .cells true (bk.map .str), nnR (srt (numRaw q X)), nnR (srt (numRaw q Y)), .cells true [], .dead, .cells true ((Y ++ X).map .str)]) (x := .slice 9 0 (Y ++ X).length 1 false) (q : Int) (rowSt_at' rfl) (by rw [List.length_append]; omega) hYX
  have f4 := numbersS_at (H := [.cells false (u32sA a), .cells false (u32sA b), .cells true (X.map .str), .cells true (Y.map .str), .cells true (bk.map .str), nnR (srt (numRaw q X)), nnR (srt (numRaw q Y)), .cells true [], .dead, .cells true ((Y ++ X).map .str), nnR (srt (numRaw q (Y ++ X)))]) (x := .sl 4 0 bk.length 1 false) (q : Int) (rowSt_at rfl) (by omega) (fun s hs => by have := hbe s hs; omega)
  have f5 := intsS_at (H := [.cells false (u32sA a), .cells false (u32sA b), .cells true (X.map .str), .cells true (Y.map .str), .cells true (bk.map .str), nnR (srt (numRaw q X)), nnR (srt (numRaw q Y)), .cells true [], .dead, .cells true ((Y ++ X).map .str), nnR (srt (numRaw q (Y ++ X))), nnR (srt (numRaw q bk))]) (x := .sl 11 0 (numN q bk).length 1 false) (y := .sl 5 0 (numN q X).length 1 false) (rowI_at rfl) (by rw [show compact (srt (numRaw q bk)) = compact (srt (numRaw q X)) from hsame]; exact rowI_at rfl) (by
    have h1 := compact_le (srt (numRaw q bk)); have h2 := srt_length (numRaw q bk); have h3 := numRaw_length q bk; omega)
  simp only [List.length_cons, List.length_nil, Nat.reduceAdd, List.cons_append, List.nil_append, nnR, List.length_append, List.map_append] at f3 f4 f5
  refine SimP.many hΓ 4 rfl rfl (by simp [nnΓ, f3]; exact ⟨rfl, rfl⟩) ?_
  refine SimP.done ?_
  dsimp only
  refine Sim.step hmix hΓ (n := 0) (by simp [nnΓ, f4, f5]; exact ⟨rfl, rfl⟩) (by simp) ?_
  refine Sim.weak (Weak.mk' [0, 1, 5, 6, 10] (by decide) (by decide) ?_ ?_) (by simp) hmap
  · simp
  · simp [fa, fb, fi]

theorem madeS_at {H : AHeap} {x : AV} {zs : List Int} {o : List UInt8} {k : Int} (hk : k = 3 ∨ k = 4) (hx : rowU H x = some zs) (hz : ∀ z ∈ zs, 0 ≤ z ∧ z < 4294967296) (h1 : zs.length ≤ 9223372036854775807) (h2 : o.length ≤ 9223372036854775807) :
    madeS [.int .i64 k, x, .str o] H = some (.sl H.length 0 (madeN k zs o).length 1 false, H ++ [.cells true ((madeN k zs o).map .str)], []) := by
  have hall : (zs.all fun z => decide (0 ≤ z ∧ z < 4294967296)) = true := by
    rw [List.all_eq_true]; intro z hz'; simpa using hz z hz'
  have fs : frees ((madeN k zs o).map AV.str) = true := frees_map _ _ fun _ => rfl
  simp only [madeS, readNewS, hx, hk, h1, h2, hall]
  simp [shA, shB, shAs_free _ _ fs]

theorem rowU_at {H : AHeap} {b : Nat} {o : Bool} {l : List Int} (hb : H[b]? = some (.cells o (u32sA l))) : rowU H (.sl b 0 l.length 1 false) = some l := by
  have : List.take l.length (u32sA l) = u32sA l := List.take_of_length_le (by simp)
  simp [rowU, hb, this]

set_option maxHeartbeats 16000000 in
theorem nnumbers_ct (a b : List Int) (ha : ∀ z ∈ a, 0 ≤ z ∧ z < 4294967296) (hb : ∀ z ∈ b, 0 ≤ z ∧ z < 4294967296) (hal : a.length ≤ 9223372036854775807) (hbl : b.length ≤ 9223372036854775807) (o : List UInt8) (ho : o.length ≤ 9223372036854775807) :
    Ct Tryd.prog 5 [.sl 0 0 a.length 1 false, .sl 1 0 b.length 1 false, .str o] [.cells false (u32sA a), .cells false (u32sA b)] (.bool true) [.cells false (u32sA a), .cells false (u32sA b)] := by
  have hΓ := nnΓ_ok
  have fa := frees_u32s a
  have fb := frees_u32s b
  have hback := fun q X Y h1 h2 => nn_back a b o q X Y h1 h2
  have hnums := fun q hq X Y bk h1 h2 h3 h4 h5 h6 h7 => nn_nums a b o q hq X Y bk h1 h2 h3 h4 h5 h6 h7
  simp only [nnC, bodyOf, Tryd.f5, Option.getD_some, restC, fstC, inC, nnHd] at hback hnums
  refine ct_of_sim Tryd.func5 rfl ?_
  simp only [Tryd.ntmps5, List.length_cons, List.length_nil, Nat.reduceAdd, Nat.reduceSub, List.replicate, List.cons_append, List.nil_append]
  refine Sim.step hmix hΓ (n := 0) (by simp; exact ⟨rfl, rfl⟩) (by simp) ?_
  refine Sim.step hmix hΓ (n := 0) (by simp [nnΓ, trueK]; exact ⟨rfl, rfl⟩) (by simp) ?_
  refine Sim.seq (Sim.mono (Q := fun e F' H' => e = .normal ∧ Weak 2 F' H' ([.sl 0 0 a.length 1 false, .sl 1 0 b.length 1 false, .str o, .top, .top, .top, .bool false] ++ List.replicate 120 .top) [.cells false (u32sA a), .cells false (u32sA b)]) ?_ ?_)
  · refine Sim.step hmix hΓ (n := 0) (by simp; exact ⟨rfl, rfl⟩) (by simp) ?_
    refine Sim.block (Sim.loopW (fun q : Nat => 3 ≤ q ∧ q ≤ 5)
      (fun q => nnHd a.length b.length o q ++ List.replicate 119 .top) (fun _ => [.cells false (u32sA a), .cells false (u32sA b)]) (fun q => 5 - q) 3 (by simp) (by omega) (Weak.mk' [0, 1] (by decide) (by decide) (by simp) (by simp [fa, fb])) fun q hq => ?_)
    simp only [nnHd]
    by_cases hlt : q ≤ 4
    · have hk : (q : Int) = 3 ∨ (q : Int) = 4 := by omega
      have hlti : (q : Int) ≤ 4 := by omega
      have hw : IntKind.i64.wrap ((q : Int) + 1) = q + 1 := wr_i64 (by omega) (by omega)
      obtain ⟨X, hX⟩ : ∃ X, madeN q a o = X := ⟨_, rfl⟩
      obtain ⟨Y, hY⟩ : ∃ Y, madeN q b o = Y := ⟨_, rfl⟩
      have xl := madeN_length q a o
      have yl := madeN_length q b o
      have xe := madeN_each q a o
      have ye := madeN_each q b o
      have m1 := madeS_at (H := [.cells false (u32sA a), .cells false (u32sA b)]) (x := .sl 0 0 a.length 1 false) (o := o) hk (rowU_at rfl) ha hal ho
      have m2 := madeS_at (H := [.cells false (u32sA a), .cells false (u32sA b), .cells true (X.map .str)]) (x := .sl 1 0 b.length 1 false) (o := o) hk (rowU_at rfl) hb hbl ho
      rw [hX] at xl xe m1
      rw [hY] at yl ye m2
      simp only [List.length_cons, List.length_nil, Nat.reduceAdd, List.cons_append, List.nil_append] at m1 m2
      refine Sim.step hmix hΓ (n := 0) (by simp [hlti]; exact ⟨rfl, rfl⟩) (by simp) ?_
      refine Sim.seq (Sim.block ?_)
      refine Sim.step hmix hΓ (n := 0) (by simp [nnΓ, m1, m2]; exact ⟨rfl, rfl⟩) (by simp) ?_
      refine Sim.step hmix hΓ (n := 0) (by simp; exact ⟨rfl, rfl⟩) (by simp) ?_
      refine Sim.seq (Sim.weak (Weak.mk' [0, 1, 2, 3] (by decide) (by decide) (by simp) (by simp [fa, fb])) (by simp) (Sim.mono (hback q X Y (by omega) (by omega)) ?_))
      rintro e F' H' hlen ⟨rfl, bk, hI, hwk⟩
      dsimp only
      refine Sim.weak hwk hlen ?_
      clear hwk hlen
      refine Sim.mono (hnums q (by omega) X Y bk (by rintro rfl; simp at xl; omega) (by rintro rfl; simp at yl; omega) (by omega) (by omega) xe ye hI) ?_
      rintro e F' H' hlen ⟨rfl, hwk⟩
      dsimp only
      refine Sim.weak hwk hlen ?_
      clear hwk hlen
      refine Sim.exec hmix hΓ (n := 0) (by simp [hw]; exact ⟨rfl, rfl, rfl⟩) (by simp) ?_
      dsimp only
      exact ⟨q + 1, by omega, Weak.mk' [0, 1] (by decide) (by decide) (by simp) (by simp [fa, fb]), by omega⟩
    · have hlti : ¬ (q : Int) ≤ 4 := by omega
      refine Sim.exec hmix hΓ (n := 0) (by simp [hlti]; exact ⟨rfl, rfl, rfl⟩) (by simp) ?_
      dsimp only
      rw [if_pos rfl]
      exact ⟨by trivial, Weak.mk' [0, 1] (by decide) (by decide) (by simp) (by simp [fa, fb])⟩
  rintro e F' H' hlen ⟨rfl, hwk⟩
  dsimp only
  refine Sim.weak hwk hlen ?_
  clear hwk hlen
  refine Sim.exec hmix hΓ (n := 0) (by simp; exact ⟨rfl, rfl, rfl⟩) (by simp) ?_
  exact ⟨.inr rfl, _, by simp [Tryd.f5] <;> rfl, Weak.mk' [0, 1] (by decide) (by decide) (by simp) (by simp [fa, fb])⟩

def nameNumbers_shape : List (Bool × List CT) := [(false, [.row [.int .u32]]), (false, [.row [.int .u32]]), (false, [.one .str])]

theorem nameNumbers_law : ∀ xs H, AbsArgs nameNumbers_shape 0 xs H → ∃ H', Ct Tryd.prog 5 xs H (.bool true) H' := by
  intro xs H h0
  obtain ⟨y1, zs1, l1, n1, H1, rfl, rfl, hy1, hm1, hl1, h1⟩ := absArgs_row h0
  obtain ⟨a, rfl, rfl, ha⟩ := row_u32s hl1
  obtain ⟨y2, zs2, l2, n2, H2, rfl, rfl, hy2, hm2, hl2, h2⟩ := absArgs_row h1
  obtain ⟨b, rfl, rfl, hb⟩ := row_u32s hl2
  obtain ⟨x, ys, rfl, ⟨o, rfl, ho⟩, h3⟩ := absArgs_one h2
  obtain ⟨rfl, rfl⟩ := absArgs_nil h3
  unfold maxLen at hm1 hm2 ho
  refine ⟨_, ct_args (nnumbers_ct a b ha hb (by omega) (by omega) o (by omega)) fun j vs hv => ?_⟩
  simp only [VRs] at hv ⊢
  obtain ⟨v1, w1, e1, g1, v2, w2, e2, g2, r⟩ := hv
  exact ⟨v1, w1, e1, VR_arg_sl hy1 g1, v2, w2, e2, VR_arg_sl hy2 g2, r⟩

end Go.Proofs.YtkeffhaldeedpaaDoor
