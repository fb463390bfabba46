/- XJu: cedillalaw08: rows of acts; name; Same; Size.
XJv: cedillaref08.Same of lists that are alike; Size. -/
import Derived.Test.YtjolihoakdifoaaJbe
import Derived.Test.YtjolihoakdifoaaGh
import Derived.Test.YtjolihoakdifoaaEd
namespace Go.Proofs.Ytjolihoakdifoaa
open Go Go.Lib
set_option maxRecDepth 100000
attribute [-simp] drawOk_eq adraw qrun acode aops

/-- What is drawn of an act. -/
structure DA where
  w : Nat
  a : Nat
  b : Nat
  s : List UInt8
  n : Int
  l : List Int
def DA.ok (x : DA) : Prop := x.w ≤ 255 ∧ x.a ≤ 255 ∧ x.b ≤ 255 ∧ x.s.length ≤ 9223372036854775807 ∧ (-32768 ≤ x.n ∧ x.n ≤ 32767) ∧ x.l.length ≤ 9223372036854775807 ∧ ∀ c ∈ x.l, 0 ≤ c ∧ c ≤ 65535
def daA (k : Nat) (x : DA) : List AV := [.int .u8 x.w, .int .u8 x.a, .int .u8 x.b, .str x.s, .int .i16 x.n, .sl k 0 x.l.length 1 false]
def dasA : Nat → List DA → List AV
  | _, [] => []
  | k, x :: l => daA k x ++ dasA (k + 1) l
def dasB (l : List DA) : AHeap := l.map fun x => .cells false (numA x.l)
def dasH (l : List DA) : AHeap := .cells false (dasA 1 l) :: dasB l
@[simp] theorem dasA_length : ∀ (k : Nat) (l : List DA), (dasA k l).length = l.length * 6
  | _, [] => rfl
  | k, x :: l => by simp [dasA, daA, dasA_length (k + 1) l]; omega
theorem das_get : ∀ (l : List DA) (k i : Nat) (h : i < l.length), ((dasA k l).drop (i * 6)).take 6 = daA (k + i) l[i]
  | a :: l, k, 0, _ => by simp [dasA, daA]
  | a :: l, k, i + 1, h => by
    have := das_get l (k + 1) i (by simpa using h)
    rw [show (i + 1) * 6 = 6 + i * 6 by omega, show k + (i + 1) = k + 1 + i by omega]
    simp only [dasA, List.getElem_cons_succ]
    rw [← List.drop_drop]
    simpa [daA] using this
theorem dasH_length (l : List DA) : (dasH l).length = l.length + 1 := by simp [dasH, dasB]
theorem belows_das : ∀ (l : List DA) (k N : Nat), k + l.length ≤ N → belows N (dasA k l) = true
  | [], _, _, _ => rfl
  | d :: l, k, N, h => by
    simp only [List.length_cons] at h
    simp only [dasA, daA, List.cons_append, List.nil_append, belows, below, Bool.and_eq_true, decide_eq_true_eq, Bool.true_and]
    exact ⟨by omega, belows_das l (k + 1) N (by omega)⟩
theorem dasH_id (l : List DA) (rn : List Nat) (hr : ∀ i, i < l.length + 1 → rn[i]? = some i) : ∀ B ∈ dasH l, AWb rn B B := by
  intro B hB
  rcases List.mem_cons.1 hB with rfl | hB
  · exact ⟨id, AWs.pre hr _ (belows_das l 1 _ (by omega))⟩
  · obtain ⟨x, _, rfl⟩ := List.mem_map.1 hB
    exact ⟨id, (AWs_free (frees_numA x.l)).2 trivial⟩

theorem row_nums : ∀ {n : Nat} {l : List AV}, All2 PrimA (List.replicate n [Prim.int .u16]).flatten l → ∃ zs : List Int, l = numA zs ∧ zs.length = n ∧ ∀ z ∈ zs, 0 ≤ z ∧ z ≤ 65535
  | 0, [], _ => ⟨[], rfl, rfl, by simp⟩
  | n + 1, x :: l, h => by
    rw [List.replicate_succ, List.flatten_cons] at h
    obtain ⟨a, rfl, ha⟩ := h.1
    obtain ⟨zs, rfl, hl, hq⟩ := row_nums (n := n) (l := l) h.2
    have ba := bounds_u16 ha
    refine ⟨a :: zs, rfl, by simp [hl], fun x hx => ?_⟩
    rcases List.mem_cons.1 hx with rfl | hx
    · exact ⟨by omega, by omega⟩
    · exact hq x hx
  | 0, _ :: _, h => h.elim
  | n + 1, [], h => by
    rw [List.replicate_succ, List.flatten_cons] at h
    exact h.elim

theorem absOk_row8 {el : List Prim} {ts : List CT} {k : Nat} {xs : List AV} {H : AHeap} (h : AbsOk (.row el :: ts) k xs H) :
    ∃ x ys l n H2, xs = x :: ys ∧ H = .cells false l :: H2 ∧ (n = 0 ∧ x = .nils ∨ x = .slice k 0 n el.length false) ∧ n ≤ maxLen ∧ All2 PrimA (List.replicate n el).flatten l ∧ AbsOk ts (k + 1) ys H2 := by
  cases xs with
  | nil => exact h.elim
  | cons x ys =>
    cases H with
    | nil => exact h.elim
    | cons B H1 =>
      simp only [AbsOk] at h
      obtain ⟨⟨l, n, rfl, h3, h4, h5⟩, h6⟩ := h
      exact ⟨x, ys, l, n, H1, rfl, rfl, h3, h4, h5, h6⟩

abbrev da_ct : List CT := [.one (.int .u8), .one (.int .u8), .one (.int .u8), .one .str, .one (.int .i16), .row [.int .u16]]
theorem row_das : ∀ (n k : Nat) (ys : List AV) (H : AHeap), AbsOk (List.replicate n da_ct).flatten k ys H →
    ∃ l : List DA, l.length = n ∧ (∀ x ∈ l, x.ok) ∧ H = dasB l ∧ ∀ rn : List Nat, (∀ i, i < n → rn[k + i]? = some (k + i)) → AWs rn (dasA k l) ys
  | 0, k, ys, H, h => by
    obtain ⟨rfl, rfl⟩ := absOk_nil h
    exact ⟨[], rfl, by simp, rfl, fun _ _ => by simp [dasA, AWs]⟩
  | n + 1, k, ys, H, h => by
    rw [List.replicate_succ, List.flatten_cons] at h
    obtain ⟨x1, w1, rfl, ⟨a, rfl, ha⟩, k1⟩ := absOk_one h
    obtain ⟨x2, w2, rfl, ⟨b, rfl, hb⟩, k2⟩ := absOk_one k1
    obtain ⟨x3, w3, rfl, ⟨c, rfl, hc⟩, k3⟩ := absOk_one k2
    obtain ⟨x4, w4, rfl, ⟨s, rfl, hs⟩, k4⟩ := absOk_one k3
    obtain ⟨x5, w5, rfl, ⟨z, rfl, hz⟩, k5⟩ := absOk_one k4
    obtain ⟨x6, w6, l, m, H3, rfl, rfl, hx, hmx, hl, k6⟩ := absOk_row8 k5
    obtain ⟨ns, rfl, hn, hnb⟩ := row_nums hl
    subst hn
    have ba := bounds_u8 ha
    have bb := bounds_u8 hb
    have bc := bounds_u8 hc
    have bz := bounds_i16 hz
    obtain ⟨ds, e1, e2, e4, e5⟩ := row_das n (k + 1) w6 H3 k6
    refine ⟨⟨a.toNat, b.toNat, c.toNat, s, z, ns⟩ :: ds, by simp [e1], fun d hd => ?_, by simp [dasB, e4], fun rn hr => ?_⟩
    · rcases List.mem_cons.1 hd with rfl | hd
      · refine ⟨by dsimp only; omega, by dsimp only; omega, by dsimp only; omega, by unfold maxLen at hs; dsimp only; omega, by dsimp only; omega, by unfold maxLen at hmx; dsimp only; omega, hnb⟩
      · exact e2 d hd
    · have h0 := hr 0 (by omega)
      have hrest := e5 rn fun i hi => by
        have := hr (i + 1) (by omega)
        rwa [show k + (i + 1) = k + 1 + i by omega] at this
      have t1 : ((a.toNat : Nat) : Int) = a := by omega
      have t2 : ((b.toNat : Nat) : Int) = b := by omega
      have t3 : ((c.toNat : Nat) : Int) = c := by omega
      simp only [dasA, daA, List.cons_append, List.nil_append, AWs]
      refine ⟨by simp [AW, t1], by simp [AW, t2], by simp [AW, t3], by simp [AW], by simp [AW], ?_, hrest⟩
      rcases hx with ⟨h1, rfl⟩ | rfl
      · simp [AW, h1]
      · simpa [AW] using h0

theorem das_weak {l : List DA} {ys : List AV} {x : AV} {T : AHeap} {rest restN : List AV} (hx : l.length = 0 ∧ x = .nils ∨ x = .slice 0 0 l.length 6 false)
    (hy : ∀ rn : List Nat, (∀ i, i < l.length → rn[1 + i]? = some (1 + i)) → AWs rn (dasA 1 l) ys) (hT : ∀ B ∈ T, ∃ o l, B = ABlk.cells o l ∧ frees l = true)
    (hr : ∀ rn : List Nat, (∀ i, i < l.length + 1 + T.length → rn[i]? = some i) → AWs rn restN rest) :
    Weak (ABlk.cells false ys :: dasB l ++ T).length (x :: rest) (ABlk.cells false ys :: dasB l ++ T) (.sl 0 0 l.length 6 false :: restN) (dasH l ++ T) := by
  have hM : (ABlk.cells false ys :: dasB l ++ T).length = l.length + 1 + T.length := by simp [dasB]; omega
  rw [hM]
  obtain ⟨M, hm⟩ : ∃ M, l.length + 1 + T.length = M := ⟨_, rfl⟩
  rw [hm] at hM hr ⊢
  have hrn : ∀ i, i < M → (List.range M)[i]? = some i := fun i hi => List.getElem?_range hi
  refine Weak.mk' (List.range M) List.nodup_range (by rw [List.take_of_length_le (by simp)]) ?_ (AWg.of _ _ (by simp [dasH_length]; omega) fun i B b hB hb hlt => ?_)
  · refine ⟨?_, hr _ hrn⟩
    rcases hx with ⟨h1, rfl⟩ | rfl
    · simp [AW, h1]
    · simp only [AW, true_and]
      exact ⟨hrn 0 (by omega), id⟩
  · have hi : i < M := by
      have := (List.getElem?_eq_some_iff.1 hB).1
      rw [List.length_append, dasH_length] at this
      omega
    have hbi : b = i := by rw [List.getElem?_range hi] at hb; cases hb; rfl
    subst hbi
    cases b with
    | zero =>
      simp only [dasH, List.cons_append, List.getElem?_cons_zero, Option.some.injEq] at hB
      subst hB
      exact ⟨id, hy _ fun i hi => hrn _ (by omega)⟩
    | succ b =>
      simp only [dasH, List.cons_append, List.getElem?_cons_succ] at hB
      rw [List.getD_eq_getElem?_getD]
      simp only [List.cons_append, List.getElem?_cons_succ, hB, Option.getD_some]
      rcases List.mem_append.1 (List.mem_of_getElem? hB) with h | h
      · obtain ⟨d, _, rfl⟩ := List.mem_map.1 h
        exact ⟨id, AWs.refl _ _ (frees_numA _)⟩
      · obtain ⟨o, l, rfl, hl⟩ := hT _ h
        exact ⟨id, AWs.refl _ _ hl⟩

/-! name -/

def nmD (s : List UInt8) (m : Nat) : List UInt8 := if m % 16 = 15 then s else [[97], [98], [99], [108, 111, 103]].getD (m % 4) []
set_option maxHeartbeats 4000000 in
theorem name_ctD (x : DA) (L : Nat) (m : Nat) (hm : m ≤ 255) : Ct Try.prog 27 [.agg [.int .u8 x.w, .int .u8 x.a, .int .u8 x.b, .str x.s, .int .i16 x.n, .sl 0 0 L 1 false], .int .u8 m] [.dead] (.str (nmD x.s m)) [.dead] := by
  obtain ⟨q, hq⟩ : ∃ q, m % 16 = q := ⟨_, rfl⟩
  obtain ⟨p, hp⟩ : ∃ p, m % 4 = p := ⟨_, rfl⟩
  have t1 : (m : Int).tmod 16 = q := by rw [Int.tmod_eq_emod_of_nonneg (by omega)]; omega
  have t2 : (m : Int).tmod 4 = p := by rw [Int.tmod_eq_emod_of_nonneg (by omega)]; omega
  have w1 : IntKind.u8.wrap (q : Int) = q := wr_u8 (by omega) (by omega)
  have w2 : IntKind.u8.wrap (p : Int) = p := wr_u8 (by omega) (by omega)
  unfold nmD
  rw [hq, hp]
  refine ct_of_sim Try.func27 rfl ?_
  simp only [Try.ntmps27, List.length_cons, List.length_nil, Nat.reduceAdd, Nat.reduceSub, List.replicate, List.cons_append, List.nil_append]
  refine Sim.step hmix goks_nil (n := 0) (by simp; exact ⟨rfl, rfl⟩) (by simp) ?_
  by_cases h : q = 15
  · subst h
    rw [if_pos rfl]
    refine Sim.exec hmix goks_nil (n := 0) (by simp (decide := true) [t1]; exact ⟨rfl, rfl, rfl⟩) (by simp) ?_
    exact ⟨.inr rfl, _, by simp [Try.f27] <;> rfl, Weak.mk' [0] (by decide) (by decide) (by simp) (by simp [AWb])⟩
  · rw [if_neg h]
    have h' : ((q : Int) == 15) = false := by simp; omega
    refine Sim.step hmix goks_nil (n := 0) (by simp (decide := true) [t1, h']; exact ⟨rfl, rfl⟩) (by simp) ?_
    have hp4 : p < 4 := by omega
    match p, hp4 with
    | 0, _ =>
      refine Sim.exec hmix goks_nil (n := 0) (by simp (decide := true) [t2]; exact ⟨rfl, rfl, rfl⟩) (by simp) ?_
      exact ⟨.inr rfl, _, by simp [Try.f27] <;> rfl, Weak.mk' [0] (by decide) (by decide) (by simp) (by simp [AWb])⟩
    | 1, _ =>
      refine Sim.exec hmix goks_nil (n := 0) (by simp (decide := true) [t2]; exact ⟨rfl, rfl, rfl⟩) (by simp) ?_
      exact ⟨.inr rfl, _, by simp [Try.f27] <;> rfl, Weak.mk' [0] (by decide) (by decide) (by simp) (by simp [AWb])⟩
    | 2, _ =>
      refine Sim.exec hmix goks_nil (n := 0) (by simp (decide := true) [t2]; exact ⟨rfl, rfl, rfl⟩) (by simp) ?_
      exact ⟨.inr rfl, _, by simp [Try.f27] <;> rfl, Weak.mk' [0] (by decide) (by decide) (by simp) (by simp [AWb])⟩
    | 3, _ =>
      refine Sim.exec hmix goks_nil (n := 0) (by simp (decide := true) [t2]; exact ⟨rfl, rfl, rfl⟩) (by simp) ?_
      exact ⟨.inr rfl, _, by simp [Try.f27] <;> rfl, Weak.mk' [0] (by decide) (by decide) (by simp) (by simp [AWb])⟩
noncomputable def nameDS : Summ := open Classical in fun args H => match args with
  | [.agg [.int .u8 w, .int .u8 a, .int .u8 b, .str s, .int .i16 _n, .sl q 0 _L 1 false], .int .u8 m] => if q < H.length ∧ (0 ≤ w ∧ 0 ≤ a ∧ 0 ≤ b) ∧ 0 ≤ m ∧ m ≤ 255 then some (.str (nmD s m.toNat), H, []) else none
  | _ => none
theorem nameD_sound : Sound Try.prog 27 nameDS := by
  refine ⟨enter_of Try.func27 rfl (by decide), fun args H v H' W hs => ?_, fun args H v H' W hs => ?_⟩ <;> (unfold nameDS at hs; split at hs <;> try cases hs) <;> (split at hs <;> cases hs) <;> (rename_i w a b s n q L m hk)
  · obtain ⟨hq, ⟨h1, h2, h3⟩, h4, h5⟩ := hk
    have := name_ctD ⟨w.toNat, a.toNat, b.toNat, s, n, []⟩ L m.toNat (by omega)
    dsimp only at this
    rw [Int.toNat_of_nonneg h1, Int.toNat_of_nonneg h2, Int.toNat_of_nonneg h3, Int.toNat_of_nonneg h4] at this
    have := ct_frame (H := H) (args := [.agg [.int .u8 w, .int .u8 a, .int .u8 b, .str s, .int .i16 n, .sl q 0 L 1 false], .int .u8 m]) this [q] (by simp) (by simp [AW]) ⟨trivial, hq, trivial⟩ rfl
    simpa [setOwn, ABlk.own, reA] using this
  · exact ⟨Nat.le_refl _, fun _ _ _ => rfl⟩

end Go.Proofs.Ytjolihoakdifoaa

namespace Go.Proofs.Ytjolihoakdifoaa
open Go Go.Lib
set_option maxRecDepth 100000
attribute [-simp] drawOk_eq adraw qrun acode aops

set_option maxHeartbeats 8000000 in
theorem same_ctD (x : List (List UInt8 × List UInt8)) (hx : x.length ≤ 9223372036854775807) : Ct Try.prog 37 [.sl 0 0 x.length 2 false, .sl 1 0 x.length 2 false] [.cells false (flA x), .cells false (flA x)] (.bool true) [.cells false (flA x), .cells false (flA x)] := by
  refine ct_of_sim Try.func37 rfl ?_
  simp only [Try.ntmps37, List.length_cons, List.length_nil, Nat.reduceAdd, Nat.reduceSub, List.replicate, List.cons_append, List.nil_append]
  obtain ⟨m, hm⟩ : ∃ m, x.length = m := ⟨_, rfl⟩
  rw [hm] at hx ⊢
  refine Sim.step hmix goks_nil (n := 0) (by simp; exact ⟨rfl, rfl⟩) (by simp) ?_
  refine Sim.step hmix goks_nil (n := 0) (by simp; exact ⟨rfl, rfl⟩) (by simp) ?_
  refine Sim.seq (Sim.step hmix goks_nil (n := 0) (by simp; exact ⟨rfl, rfl⟩) (by simp) ?_)
  refine Sim.mono (Q := fun e F' H' => e = .normal ∧ Weak 2 F' H' (List.replicate 26 .top) [.cells false (flA x), .cells false (flA x)]) ?_ ?_
  · refine Sim.block (Sim.loopW (fun i : Nat => i ≤ m) (fun i => [.sl 0 0 m 2 false, .sl 1 0 m 2 false, .top, .top, .top, .int .i64 i] ++ List.replicate 20 .top) (fun _ => [.cells false (flA x), .cells false (flA x)]) (fun i => m - i) 0 (by simp) (by simp) ?_ fun i hi => ?_)
    · exact Weak.mk' [0, 1] (by decide) (by decide) (by simp) (by simp [AWb])
    · by_cases hlt : i < m
      · have hltI : (i : Int) < m := by omega
        have hilt : i < x.length := by omega
        obtain ⟨e, he⟩ : ∃ e, x[i] = e := ⟨_, rfl⟩
        have hg := flA_get x i hilt
        rw [he] at hg
        have k1 : i * 2 + 2 ≤ m * 2 := by omega
        have y1 : IntKind.i64.wrap ((i : Int) + 1) = i + 1 := wr_i64 (by omega) (by omega)
        refine Sim.step hmix goks_nil (n := 0) (by simp [hltI]; exact ⟨rfl, rfl⟩) (by simp) ?_
        refine Sim.seq (Sim.block ?_)
        refine Sim.exec hmix goks_nil (n := 0) (by simp (decide := true) [hlt, hm, hg, k1]; first | exact ⟨rfl, rfl, rfl⟩ | exact ⟨by kernel_rfl, rfl, rfl, rfl⟩) (by simp) ?_
        dsimp only
        refine Sim.exec hmix goks_nil (n := 0) (by simp [y1]; exact ⟨rfl, rfl, rfl⟩) (by simp) ?_
        dsimp only
        exact ⟨i + 1, by omega, Weak.mk' [0, 1] (by decide) (by decide) (by simp) (by simp [AWb]), by omega⟩
      · have hin : i = m := by omega
        subst hin
        refine Sim.exec hmix goks_nil (n := 0) (by simp; exact ⟨rfl, rfl, rfl⟩) (by simp) ?_
        dsimp only
        rw [if_pos rfl]
        exact ⟨by trivial, Weak.mk' [0, 1] (by decide) (by decide) (by simp) (by simp [AWb])⟩
  rintro e F' H' hlen1 ⟨rfl, hwk⟩
  dsimp only
  refine Sim.weak hwk hlen1 ?_
  clear hwk hlen1
  simp only [List.replicate]
  refine Sim.exec hmix goks_nil (n := 0) (by simp; exact ⟨rfl, rfl, rfl⟩) (by simp) ?_
  exact ⟨.inr rfl, _, by simp [Try.f37] <;> rfl, Weak.mk' [0, 1] (by decide) (by decide) (by simp) (by simp [AWb])⟩

noncomputable def flD (l : List AV) : Option (List (List UInt8 × List UInt8)) := open Classical in if h : ∃ x, l = flA x then some h.choose else none
theorem flD_eq {l : List AV} {x : List (List UInt8 × List UInt8)} (h : flD l = some x) : l = flA x := by
  unfold flD at h
  split at h
  · rename_i hx
    cases h
    exact hx.choose_spec
  · cases h
theorem flA_inj : ∀ {x y : List (List UInt8 × List UInt8)}, flA x = flA y → x = y
  | [], [], _ => rfl
  | [], _ :: _, h => by simp [flA] at h
  | _ :: _, [], h => by simp [flA] at h
  | (a, b) :: x, (c, d) :: y, h => by
    simp only [flA, List.cons.injEq, AV.str.injEq] at h
    rw [h.1, h.2.1, flA_inj h.2.2]
@[simp] theorem flD_flA (x : List (List UInt8 × List UInt8)) : flD (flA x) = some x := by
  unfold flD
  have h : ∃ y, flA x = flA y := ⟨x, rfl⟩
  rw [dif_pos h]
  exact congrArg some (flA_inj h.choose_spec).symm
noncomputable def sameDS : Summ := open Classical in fun args H => match args with
  | [.sl b 0 n 2 _c, .sl b2 0 m 2 _c2] => match H[b]?, H[b2]? with
    | some (.cells _ l), some (.cells _ l2) => match flD l with
      | some x => if n = x.length ∧ m = x.length ∧ l2 = l ∧ b ≠ b2 ∧ x.length ≤ 9223372036854775807 then some (.bool true, H, []) else none
      | none => none
    | _, _ => none
  | _ => none
theorem sameD_sound : Sound Try.prog 37 sameDS := by
  refine ⟨enter_of Try.func37 rfl (by decide), fun args H v H' W hs => ?_, fun args H v H' W hs => ?_⟩ <;> (unfold sameDS at hs; split at hs <;> try cases hs) <;> (rename_i b n c b2 m c2; split at hs <;> try cases hs) <;> (rename_i o l o2 l2 hb hb2; split at hs <;> try cases hs) <;> (rename_i x hx; split at hs <;> cases hs; rename_i hk)
  · obtain ⟨rfl, rfl, rfl, hne, hl⟩ := hk
    have e := flD_eq hx
    subst e
    have hbl : b < H.length := (List.getElem?_eq_some_iff.1 hb).1
    have hbl2 : b2 < H.length := (List.getElem?_eq_some_iff.1 hb2).1
    have := ct_frame (H := H) (args := [.sl b 0 x.length 2 c, .sl b2 0 x.length 2 c2]) (same_ctD x hl) [b, b2] (by simp [hne]) ⟨⟨rfl, rfl, rfl, by simp⟩, ⟨rfl, rfl, rfl, by simp⟩, trivial⟩ ⟨by rw [List.getD_eq_getElem?_getD, hb]; exact ⟨by simp, AWs_flat _ (flatsA_flA x)⟩, hbl, by rw [List.getD_eq_getElem?_getD, hb2]; exact ⟨by simp, AWs_flat _ (flatsA_flA x)⟩, hbl2, trivial⟩ rfl
    simpa [setOwn, ABlk.own, reA] using this
  · exact ⟨Nat.le_refl _, fun _ _ _ => rfl⟩

end Go.Proofs.Ytjolihoakdifoaa

