/- XMo: Contracts: cedillaref02.All, both Rows of numbers.
XMq: Contracts: vary.Row.
XMr: Manifests as bytes: both Puts.
XMs: Manifests as bytes: the document's Put.
XMt: Manifests of numbers: manifest.of.
XMu: A manifest from its bytes, plain; manifest.of as a summary.
XMv: Contracts: strings.CutPrefix, manifest.Get.
XMx: Contracts: the document's Get.
XMz: Contracts: cedillalaw23.alike. -/
import Derived.Test.YtbbgmaklmlagcaaGk
import Derived.Test.YtbbgmaklmlagcaaGv
import Derived.Test.YtbbgmaklmlagcaaGm
import Derived.Test.YtbbgmaklmlagcaaGc
namespace Go.Proofs.Ytbbgmaklmlagcaa
open Go
set_option maxRecDepth 100000
attribute [-simp] drawOk_eq adraw qrun acode aops

theorem rall_ct (l : List Nat) (hl : ∀ n ∈ l, n < 2 ^ 64) (hlen : l.length ≤ 1000000000) : Ct Try.prog 77 [.slice 0 0 l.length 1 false] [.cells false (l.map aU)] (.str (Vy.put l)) [.cells false (l.map aU)] := by
  intro j w cs hR hcs
  simp only [VRs, VR] at hcs
  obtain ⟨v, vs, e, ⟨p, a, cap, hp, rfl, h1, h2, h3, h4⟩, rfl⟩ := hcs
  have e' : cs = #[.slice (some a) l.length cap] := by apply Array.ext'; exact e
  subst e'
  have hrd : Rd w 1 (some a) l.length (l.map vU) := by
    refine ⟨by simp, fun h0 => ?_⟩
    obtain ⟨cs', T, fz, g1, g2, g3, g4, g5⟩ := hR.blk 0 _ p rfl hp
    rcases h4 with h5 | ⟨rfl, h5⟩
    · simp at h0; omega
    · refine ⟨p.blk, p.base + 0, rfl, (Array.getElem?_eq_some_iff.1 g1).1, fun k u hk => ?_⟩
      rw [List.getElem?_map] at hk
      obtain ⟨n, hn, rfl⟩ := Option.map_eq_some_iff.1 hk
      obtain ⟨v, hv, hr⟩ := g4 k (aU n) (by rw [List.getElem?_map, hn]; rfl)
      simp only [aU, VR] at hr
      subst hr
      simp [World.cell?, g1, hv, vU]
  refine (rall_any l (some a) cap w hl hlen hrd).mono ?_
  rintro e w' ⟨rfl, hb⟩
  exact ⟨_, j, rfl, rfl, hR.same fun c hc => hb.block c hc, fun _ _ => rfl, Nat.le_refl _, ⟨hb.os, hb.tape, hb.output, hb.size, fun c hc _ => hb.block c hc⟩, fun b l' p hb' hy => by
    cases b with
    | zero => cases hb'; cases hy
    | succ b => simp at hb'⟩

theorem rall_sound : Sound Try.prog 77 putS' := by
  refine sound_read (enter_of Try.func77 rfl (by decide)) fun args H v h => ?_
  split at h <;> try cases h
  rename_i b off len c
  split at h <;> try cases h
  rename_i o l hb
  split at h <;> try cases h
  rename_i ns hns
  split at h <;> cases h
  rename_i hc
  obtain ⟨c2, c3, c6⟩ := hc
  have e := natsOf_eq hns
  have hlen : ns.length = len := by have := congrArg List.length e; simp at this; omega
  have h0 := rall_ct ns (by simpa using c3) (by omega)
  rw [hlen] at h0
  refine ct_win h0 rfl [(b, off)] (by simp) ?_
  simp only [winH, hb]
  refine ⟨⟨by simp; omega, ?_⟩, by simp, trivial⟩
  rw [List.length_map, hlen, e]
  rfl

@[simp] theorem cells_aU : ∀ l : List Nat, (l.map aU).all isCell = true
  | [] => rfl
  | n :: l => by simp [aU, cells_aU l]

theorem rowΓ_ok : GOk Try.prog (gams [(75, getS)]) := goks_cons rget_sound goks_nil

set_option maxHeartbeats 8000000 in
theorem rrow_ct (s : List UInt8) (a0 : Int) (many : Nat) (hs : s.length ≤ 1000000000000) (hm : many ≤ 1000000000) :
    Ct Try.prog 107 [.str s, .int .i64 a0, .int .i64 many] [] (.tuple [.sl 0 0 (Vy.row s a0 many).1.length 1 false, .int .i64 (Vy.row s a0 many).2.1, .int .i64 (Vy.row s a0 many).2.2]) [.cells true ((Vy.row s a0 many).1.map aU)] := by
  have hΓ := rowΓ_ok
  have hs2 : s.length ≤ 140737488351232 := by omega
  refine ct_of_sim Try.func107 rfl ?_
  simp only [Try.ntmps107, List.length_cons, List.length_nil, Nat.reduceAdd, Nat.reduceSub, List.replicate, List.cons_append, List.nil_append]
  refine Sim.step hmix hΓ (n := 0) (by simp; exact ⟨rfl, rfl⟩) (by simp) ?_
  refine Sim.step hmix hΓ (n := 0) (by simp; exact ⟨rfl, rfl⟩) (by simp) ?_
  refine Sim.seq (Sim.step hmix hΓ (n := 0) (by simp; exact ⟨rfl, rfl⟩) (by simp) ?_)
  refine Sim.block (Sim.loopW (fun p : Nat × Int × List Nat => p.1 ≤ many ∧ Vy.row s a0 p.1 = (p.2.2, p.2.1, 0))
    (fun p => [.str s, .int .i64 p.2.1, .int .i64 many, .top, .top, .top, .nils, .int .i64 0, .int .i64 0, .sl 0 0 p.1 1 false, .int .i64 (p.1 : Nat)] ++ List.replicate 26 .top)
    (fun p => [.cells true (p.2.2.map aU)]) (fun p => many - p.1) (0, a0, []) (by simp) ⟨Nat.zero_le _, rfl⟩ (Weak.mk' [100] (by decide) (by decide) (by simp) (by simp)) fun p hp => ?_)
  obtain ⟨k, a, vs⟩ := p
  obtain ⟨hk, hrow⟩ := hp
  simp only at hk hrow ⊢
  have hvs := (Vy.row_length s k a0 vs a hrow).1
  by_cases hlt : k < many
  · obtain ⟨⟨n, x, e⟩, hg⟩ : ∃ r, Vy.get s a = r := ⟨_, rfl⟩
    by_cases he : e = 0
    · subst he
      have hnx := Vy.row_snoc s k a0 vs a hrow (by rw [hg])
      rw [hg] at hnx
      have b1 : (k + 1) * 8 ≤ 140737488355328 := by omega
      have b2 : k + 1 ≤ 9223372036854775807 := by omega
      have tk : (vs.map aU).take k = vs.map aU := List.take_of_length_le (by simp; omega)
      have wk : IntKind.i64.wrap ((k : Int) + 1) = k + 1 := wr_i64 (by omega) (by omega)
      refine Sim.exec hmix hΓ (n := 0) (by simp (decide := true) [hlt, getS, hs2, hg, b1, b2, tk, hvs, wk]; exact ⟨rfl, rfl, rfl⟩) (by simp) ?_
      exact ⟨(k + 1, x, vs ++ [n]), ⟨by simp only; omega, hnx⟩, Weak.mk' [2] (by decide) (by decide) (by simp) (by simp [aU]), by simp only; omega⟩
    · have hst := Vy.row_stop s k many a0 vs a hrow (by rw [hg]; exact he) hlt
      have hx := Vy.get_err s a n x e hg he
      rw [hst, hg]
      have he2 : (e != 0) = true := by simpa using he
      refine Sim.exec hmix hΓ (n := 0) (by simp (decide := true) [hlt, getS, hs2, hg, he2]; exact ⟨rfl, rfl, rfl⟩) (by simp) ?_
      exact ⟨.inr rfl, _, by simp [Try.f107] <;> rfl, Weak.mk' [100] (by decide) (by decide) (by simp [hx.2]) (by simp)⟩
  · have : k = many := by omega
    subst this
    refine Sim.exec hmix hΓ (n := 0) (by simp; exact ⟨rfl, rfl, rfl⟩) (by simp) ?_
    dsimp only
    rw [if_pos rfl]
    rw [hrow]
    refine Sim.exec hmix hΓ (n := 0) (by simp; exact ⟨rfl, rfl, rfl⟩) (by simp) ?_
    exact ⟨.inr rfl, _, by simp [Try.f107] <;> rfl, Weak.mk' [0] (by decide) (by decide) (by simp [hvs]) (by simp)⟩

def rowS : Summ := newS fun
  | [.str s, .int .i64 a, .int .i64 n] => if s.length ≤ 1000000000000 ∧ 0 ≤ n ∧ n.toNat ≤ 1000000000 then some (.tuple [.sl 0 0 (Vy.row s a n.toNat).1.length 1 false, .int .i64 (Vy.row s a n.toNat).2.1, .int .i64 (Vy.row s a n.toNat).2.2], [.cells true ((Vy.row s a n.toNat).1.map aU)]) else none
  | _ => none

theorem rrow_sound : Sound Try.prog 107 rowS := by
  refine sound_new (enter_of Try.func107 rfl (by decide)) fun args v H' h => ?_
  split at h <;> try cases h
  rename_i s a n
  split at h <;> cases h
  rename_i hc
  have := rrow_ct s a n.toNat hc.1 hc.2.2
  rw [show ((n.toNat : Nat) : Int) = n by omega] at this
  exact ⟨this, by simp, by simp⟩

end Go.Proofs.Ytbbgmaklmlagcaa

namespace Go.Proofs.Ytbbgmaklmlagcaa
open Go
set_option maxRecDepth 100000
attribute [-simp] drawOk_eq adraw qrun acode aops

set_option maxHeartbeats 8000000 in
theorem prow_ct (s : List UInt8) (a0 : Int) (many : Nat) (hs : s.length ≤ 1000000000000) (hm : many ≤ 1000000000) :
    Ct Try.prog 69 [.str s, .int .i64 a0, .int .i64 many] [] (.tuple [.sl 0 0 (Vy.row s a0 many).1.length 1 false, .int .i64 (Vy.row s a0 many).2.1, .int .i64 (Vy.row s a0 many).2.2]) [.cells true ((Vy.row s a0 many).1.map aU)] := by
  have hΓ := gok_run hmix goks_nil 0 [97] 1
  have hs2 : s.length ≤ 140737488351232 := by omega
  refine ct_of_sim Try.func69 rfl ?_
  simp only [Try.ntmps69, List.length_cons, List.length_nil, Nat.reduceAdd, Nat.reduceSub, List.replicate, List.cons_append, List.nil_append]
  refine Sim.step hmix hΓ (n := 0) (by simp; exact ⟨rfl, rfl⟩) (by simp) ?_
  by_cases h0 : many = 0
  · subst h0
    refine Sim.exec hmix hΓ (n := 0) (by simp; exact ⟨rfl, rfl, rfl⟩) (by simp) ?_
    exact ⟨.inr rfl, _, by simp [Try.f69] <;> rfl, Weak.mk' [100] (by decide) (by decide) (by simp [Vy.row]) (by simp)⟩
  have h1 : ¬ ((many : Int) < 1) := by omega
  obtain ⟨⟨L, X, E⟩, hr⟩ : ∃ r, Vy.row s a0 many = r := ⟨_, rfl⟩
  rw [hr]
  dsimp only
  refine Sim.step hmix hΓ (n := 0) (by simp [h1]; exact ⟨rfl, rfl⟩) (by simp) ?_
  refine Sim.seq (Sim.step hmix hΓ (n := 0) (by simp [Try.f97]; exact ⟨rfl, rfl⟩) (by simp) ?_)
  refine Sim.block ?_
  refine Sim.rangeFuncN hmix (fun rc => [.cells true [.int .i64 many], .cells true [.sl 7 0 L.length 1 false], .cells true [.int .i64 X], .cells true [.int .i64 E], .cells true [.str s], .cells true [.top], rc, .cells true (L.map aU)]) .done (some .ret) (.tuple []) (gf := 119) (cap := [.ptr 4 0, .ptr 5 0]) (by simp) (enter_of Try.func119 rfl (by decide)) (by decide) (by simp) (by simp) (by simp) rfl (by simp) ?_ ?_
  · generalize hrc : ABlk.loop _ _ _ LoopState.ready none _ = rc
    generalize hrd : ABlk.loop _ _ _ LoopState.done (some Code.ret) _ = rd
    refine ct_of_sim Try.func119 rfl ?_
    simp only [Try.ntmps119, List.length_cons, List.length_nil, List.replicate, List.cons_append, List.nil_append]
    refine Sim.block (Sim.loopW (fun p : Nat × Int × List Nat => p.1 < many ∧ Vy.row s a0 p.1 = (p.2.2, p.2.1, 0))
      (fun p => [.yld 6, .ptr 4 0, .ptr 5 0] ++ List.replicate 23 .top)
      (fun p => [.cells true [.int .i64 many], .cells true [.sl 7 0 p.1 1 false], .cells true [.int .i64 0], .cells true [.int .i64 0], .cells true [.str s], .cells true [.int .i64 p.2.1], rc, .cells true (p.2.2.map aU)]) (fun p => many - p.1) (0, a0, []) (by simp) ⟨by simp only; omega, rfl⟩ ?_ fun p hp => ?_)
    · subst hrc
      exact Weak.mk' [0, 1, 2, 3, 4, 5, 6, 100] (by decide) (by decide) (by simp) (by simp)
    obtain ⟨k, a, vs⟩ := p
    obtain ⟨hk, hrow⟩ := hp
    simp only at hk hrow ⊢
    have hvs := (Vy.row_length s k a0 vs a hrow).1
    subst hrc
    subst hrd
    have hΓ2 := gok_run hmix (goks_cons get_sound goks_nil) 0 [] 1
    obtain ⟨⟨n, x, e⟩, hg⟩ : ∃ r, Vy.get s a = r := ⟨_, rfl⟩
    have b1 : (k + 1) * 8 ≤ 140737488355328 := by omega
    have b2 : k + 1 ≤ 9223372036854775807 := by omega
    have tk : (vs.map aU).take k = vs.map aU := List.take_of_length_le (by simp; omega)
    by_cases he : e = 0
    · subst he
      have hnx := Vy.row_snoc s k a0 vs a hrow (by rw [hg])
      rw [hg] at hnx
      by_cases hlast : k + 1 = many
      · have hl2 : ((k : Int) + 1 == (many : Int)) = true := by simp; omega
        rw [hlast, hr] at hnx
        simp only [Prod.mk.injEq] at hnx
        obtain ⟨rfl, rfl, rfl⟩ := hnx
        refine Sim.exec hmix hΓ2 (n := 0) (by simp (decide := true) [getS, hs2, hg, b1, b2, tk, hvs, hl2]; exact ⟨rfl, rfl, rfl⟩) (by simp) ?_
        exact ⟨.inr rfl, _, by simp [Try.f119] <;> rfl, Weak.mk' [0, 1, 2, 3, 4, 5, 6, 10] (by decide) (by decide) (by simp) (by simp [hvs, aU])⟩
      · have hl2 : ((k : Int) + 1 == (many : Int)) = false := by simp; omega
        refine Sim.exec hmix hΓ2 (n := 0) (by simp (decide := true) [getS, hs2, hg, b1, b2, tk, hvs, hl2]; exact ⟨rfl, rfl, rfl⟩) (by simp) ?_
        exact ⟨(k + 1, x, vs ++ [n]), ⟨by simp only; omega, hnx⟩, Weak.mk' [0, 1, 2, 3, 4, 5, 6, 10] (by decide) (by decide) (by simp) (by simp [aU]), by simp only; omega⟩
    · have hst := Vy.row_stop s k many a0 vs a hrow (by rw [hg]; exact he) hk
      have he2 : (e != 0) = true := by simpa using he
      rw [hr, hg] at hst
      simp only [Prod.mk.injEq] at hst
      obtain ⟨rfl, rfl, rfl⟩ := hst
      refine Sim.exec hmix hΓ2 (n := 0) (by simp (decide := true) [getS, hs2, hg, he2]; exact ⟨rfl, rfl, rfl⟩) (by simp) ?_
      exact ⟨.inr rfl, _, by simp [Try.f119] <;> rfl, Weak.mk' [0, 1, 2, 3, 4, 5, 6, 100] (by decide) (by decide) (by simp) (by simp)⟩
  · exact ⟨.inr rfl, _, by simp [Try.f69] <;> rfl, Weak.mk' [7] (by decide) (by decide) (by simp) (by simp)⟩

theorem prow_sound : Sound Try.prog 69 rowS := by
  refine sound_new (enter_of Try.func69 rfl (by decide)) fun args v H' h => ?_
  split at h <;> try cases h
  rename_i s a n
  split at h <;> cases h
  rename_i hc
  have := prow_ct s a n.toNat hc.1 hc.2.2
  rw [show ((n.toNat : Nat) : Int) = n by omega] at this
  exact ⟨this, by simp, by simp⟩

end Go.Proofs.Ytbbgmaklmlagcaa

namespace Go.Proofs.Ytbbgmaklmlagcaa
open Go
set_option maxRecDepth 100000
attribute [-simp] drawOk_eq adraw qrun acode aops

def sgNums : List Sg → List Nat
  | [] => []
  | s :: l => [s.1.toNat, s.2.1.toNat, s.2.2.toNat] ++ sgNums l

@[simp] theorem sgNums_length : ∀ l, (sgNums l).length = l.length * 3
  | [] => rfl
  | s :: l => by simp [sgNums, sgNums_length l]; omega

theorem sgNums_append (a b : List Sg) : sgNums (a ++ b) = sgNums a ++ sgNums b := by
  induction a with
  | nil => rfl
  | cons x a ih => simp [sgNums, ih]

/-- A manifest's numbers. -/
def Mf.nums (m : Mf) : List Nat := [m.v.toNat, m.f.toNat, m.n.toNat, m.segs.length] ++ sgNums m.segs

/-- P23.2. -/
def Mf.bytes (m : Mf) : List UInt8 := Cr.seal ([67, 77, 1] ++ Vy.put m.nums)
def Mf.put (m : Mf) : List UInt8 × Int := if m.right then (m.bytes, 0) else ([], 2)

theorem Mf.right_parts {m : Mf} (h : m.right = true) : (0 ≤ m.v ∧ m.v ≤ 900000000 ∧ 1 ≤ m.f ∧ m.f ≤ 900000000 ∧ 1 ≤ m.n ∧ m.n ≤ 900000000) ∧ m.segs.length ≤ 1000 ∧ ∀ x ∈ m.segs, (1 ≤ x.1 ∧ x.1 < m.n) ∧ (1 ≤ x.2.1 ∧ x.2.1 ≤ 100000) ∧ (1 ≤ x.2.2 ∧ x.2.2 ≤ 1000000000) := by
  unfold Mf.right Mf.counts at h
  simp only [Bool.and_eq_true, decide_eq_true_eq] at h
  refine ⟨h.1, h.2.1, fun x hx => ?_⟩
  have := List.all_eq_true.1 h.2.2.1 x hx
  simp only [Sg.ok, decide_eq_true_eq] at this
  omega

theorem sgNums_lt (n : Int) (hn : n ≤ 900000000) : ∀ l : List Sg, (∀ x ∈ l, (1 ≤ x.1 ∧ x.1 < n) ∧ (1 ≤ x.2.1 ∧ x.2.1 ≤ 100000) ∧ (1 ≤ x.2.2 ∧ x.2.2 ≤ 1000000000)) → ∀ y ∈ sgNums l, y < 1000000001
  | [], _, y, hy => by simp [sgNums] at hy
  | s :: l, h, y, hy => by
    have hs := h s List.mem_cons_self
    simp only [sgNums, List.cons_append, List.nil_append, List.mem_cons] at hy
    rcases hy with rfl | rfl | rfl | hy
    · omega
    · omega
    · omega
    · exact sgNums_lt n hn l (fun x hx => h x (List.mem_cons_of_mem _ hx)) y hy

theorem Mf.nums_lt {m : Mf} (h : m.right = true) : ∀ y ∈ m.nums, y < 1000000001 := by
  obtain ⟨h1, h2, h3⟩ := Mf.right_parts h
  intro y hy
  unfold Mf.nums at hy
  simp only [List.cons_append, List.nil_append, List.mem_cons] at hy
  rcases hy with rfl | rfl | rfl | rfl | hy
  · omega
  · omega
  · omega
  · omega
  · exact sgNums_lt m.n (by omega) m.segs h3 y hy

theorem Mf.nums_length (m : Mf) : m.nums.length = 4 + m.segs.length * 3 := by simp [Mf.nums]; omega

theorem Mf.put_len {m : Mf} (h : m.right = true) : (Vy.put m.nums).length ≤ 27100 := by
  obtain ⟨h1, h2, h3⟩ := Mf.right_parts h
  have := Vy.put_length_le m.nums fun y hy => Nat.lt_trans (Mf.nums_lt h y hy) (by decide)
  rw [Mf.nums_length] at this
  omega

theorem mpΓ_ok : GOk Try.prog (gams [(18, mrightS), (66, putS'), (45, sealS)]) := goks_cons mright_sound (goks_cons put_sound (goks_cons seal_sound goks_nil))

theorem wr_u64n (x : Int) (h0 : 0 ≤ x) (h1 : x ≤ 1000000000000) : IntKind.u64.wrap x = x := wr_u64 h0 (by omega)

theorem aU_toNat (x : Int) (h : 0 ≤ x) : aU x.toNat = .int .u64 x := by unfold aU; rw [Int.toNat_of_nonneg h]

set_option maxHeartbeats 8000000 in
theorem mput_ct (m : Mf) (hl : m.segs.length ≤ 1000000000000) : Ct Try.prog 27 [mfA 0 m] [.cells false (sgsA m.segs)] (.tuple [.str m.put.1, .int .i64 m.put.2]) [.cells false (sgsA m.segs)] := by
  have hΓ := mpΓ_ok
  by_cases hr : m.right = true
  rotate_left
  · have hr' : m.right = false := by simpa using hr
    have e : m.put = ([], 2) := by unfold Mf.put; rw [if_neg hr]
    rw [e]
    obtain ⟨mv, mf, mn, l⟩ := m
    refine ct_rd hmix hΓ (n := 0) Try.func27 ?_ (fun X => Weak.mk' [0] (by decide) rfl (by simp) (by simp))
    unfold Try.f27
    simp at hl
    simp [mfA, mrightS, rowSgs, hr', hl]
  have e : m.put = (m.bytes, 0) := by unfold Mf.put; rw [if_pos hr]
  rw [e]
  obtain ⟨h1, h2, h3⟩ := Mf.right_parts hr
  have hnl := Mf.nums_lt hr
  have hpl := Mf.put_len hr
  have hlen := Mf.nums_length m
  have hN : ∀ x ∈ m.nums, x < 18446744073709551616 := fun y hy => Nat.lt_trans (hnl y hy) (by decide)
  unfold Mf.bytes
  obtain ⟨N, eN⟩ : ∃ N, m.nums = N := ⟨_, rfl⟩
  rw [eN] at hN hpl hlen ⊢
  unfold Mf.nums at eN
  clear hnl
  obtain ⟨mv, mf, mn, l⟩ := m
  simp only at *
  have q1 : IntKind.u64.wrap mv = mv := wr_u64n _ (by omega) (by omega)
  have q2 : IntKind.u64.wrap mf = mf := wr_u64n _ (by omega) (by omega)
  have q3 : IntKind.u64.wrap mn = mn := wr_u64n _ (by omega) (by omega)
  have q4 : IntKind.u64.wrap (l.length : Int) = (l.length : Int) := wr_u64n _ (by omega) (by omega)
  have a1 := aU_toNat mv (by omega)
  have a2 := aU_toNat mf (by omega)
  have a3 := aU_toNat mn (by omega)
  have a4 : aU l.length = .int .u64 (l.length : Int) := rfl
  refine ct_of_sim Try.func27 rfl ?_
  simp only [Try.ntmps27, List.length_cons, List.length_nil, Nat.reduceAdd, Nat.reduceSub, List.replicate, List.cons_append, List.nil_append, mfA]
  refine Sim.step hmix hΓ (n := 0) (by simp; exact ⟨rfl, rfl⟩) (by simp) ?_
  refine Sim.step hmix hΓ (n := 0) (by simp [mrightS, rowSgs, hr, hl]; exact ⟨rfl, rfl⟩) (by simp) ?_
  refine Sim.step hmix hΓ (n := 0) (by simp [q1, q2, q3, q4]; exact ⟨rfl, rfl⟩) (by simp) ?_
  refine Sim.seq (Sim.step hmix hΓ (n := 0) (by simp; exact ⟨rfl, rfl⟩) (by simp) ?_)
  refine Sim.block (Sim.loopW (fun k : Nat => k ≤ l.length)
    (fun k => [.top, .ptr 1 0, .str [], .int .i64 0, .slice 2 0 (4 + k * 3) 1 false] ++ List.replicate 20 .top ++ [.sl 0 0 l.length 3 false, .int .i64 l.length, .int .i64 k] ++ List.replicate 20 .top)
    (fun k => [.cells false (sgsA l), .cells true [.int .i64 mv, .int .i64 mf, .int .i64 mn, .sl 0 0 l.length 3 false], .cells true (([mv.toNat, mf.toNat, mn.toNat, l.length] ++ sgNums (l.take k)).map aU)]) (fun k => l.length - k) 0 (by simp) (by simp) (Weak.mk' [0, 1, 2] (by decide) (by decide) (by simp) (by simp [sgNums, a1, a2, a3, a4])) fun k hk => ?_)
  by_cases hlt : k < l.length
  · obtain ⟨x, hx⟩ : ∃ x, l[k]? = some x := ⟨_, List.getElem?_eq_getElem hlt⟩
    obtain ⟨b1, b2, b3⟩ := h3 x (List.mem_of_getElem? hx)
    have g1 := sgs_get l k hlt
    rw [(List.getElem?_eq_some_iff.1 hx).2] at g1
    have k1 : k * 3 + 3 ≤ l.length * 3 := by omega
    have wk : IntKind.i64.wrap ((k : Int) + 1) = k + 1 := wr_i64 (by omega) (by omega)
    have p1 : IntKind.u64.wrap x.1 = x.1 := wr_u64n _ (by omega) (by omega)
    have p2 : IntKind.u64.wrap x.2.1 = x.2.1 := wr_u64n _ (by omega) (by omega)
    have p3 : IntKind.u64.wrap x.2.2 = x.2.2 := wr_u64n _ (by omega) (by omega)
    have c1 := aU_toNat x.1 (by omega)
    have c2 := aU_toNat x.2.1 (by omega)
    have c3 := aU_toNat x.2.2 (by omega)
    have e2 : [mv.toNat, mf.toNat, mn.toNat, l.length] ++ sgNums (l.take (k + 1)) = ([mv.toNat, mf.toNat, mn.toNat, l.length] ++ sgNums (l.take k)) ++ [x.1.toNat, x.2.1.toNat, x.2.2.toNat] := by
      rw [List.take_add_one, hx, Option.toList_some, sgNums_append]; simp [sgNums]
    obtain ⟨L, eL⟩ : ∃ L, [mv.toNat, mf.toNat, mn.toNat, l.length] ++ sgNums (l.take k) = L := ⟨_, rfl⟩
    have lL : L.length = 4 + k * 3 := by rw [← eL]; simp; omega
    rw [eL] at e2 ⊢
    have tkL : (L.map aU).take (4 + k * 3) = L.map aU := List.take_of_length_le (by simp; omega)
    have d1 : (4 + k * 3 + 3) * 8 ≤ 140737488355328 := by omega
    have d2 : 4 + k * 3 + 3 ≤ 9223372036854775807 := by omega
    have d3 : 4 + (k + 1) * 3 = 4 + k * 3 + 3 := by omega
    simp [sgA] at g1
    refine Sim.exec hmix hΓ (n := 0) (by simp (decide := true) [hlt, g1, k1, p1, p2, p3, lL, tkL, d1, d2, wk]; exact ⟨rfl, rfl, rfl⟩) (by simp) ?_
    exact ⟨k + 1, by omega, Weak.mk' [0, 1, 5] (by decide) (by decide) (by simp [d3]) (by rw [e2]; simp [c1, c2, c3]), by omega⟩
  have hkl : k = l.length := by omega
  subst hkl
  refine Sim.exec hmix hΓ (n := 0) (by simp; exact ⟨rfl, rfl, rfl⟩) (by simp) ?_
  dsimp only
  rw [if_pos rfl]
  have lN : N.length = 4 + l.length * 3 := hlen
  have tkN : (N.map aU).take (4 + l.length * 3) = N.map aU := List.take_of_length_le (by simp; omega)
  have f1 : 4 + l.length * 3 ≤ 1000000000 := by omega
  have f2 : 3 + (Vy.put N).length ≤ 9223372036854775807 := by omega
  have f3 : (Vy.put N).length + 3 ≤ 1000000000000 := by omega
  refine Sim.weak (Fn := [.top, .ptr 1 0, .str [], .int .i64 0, .slice 2 0 (4 + l.length * 3) 1 false] ++ List.replicate 43 .top) (Hn := [.cells false (sgsA l), .cells true [.int .i64 mv, .int .i64 mf, .int .i64 mn, .sl 0 0 l.length 3 false], .cells true (N.map aU)]) (Weak.mk' [0, 1, 2] (by decide) (by decide) (by simp) (by simp [← eN, a1, a2, a3, a4])) (by simp) ?_
  have hN2 : (∀ x : Nat, x ∈ N → x < 18446744073709551616) = True := eq_true hN
  refine Sim.exec hmix hΓ (n := 0) (by simp (decide := true) [putS', sealS, tkN, hN2, f1, f2, f3, lN]; exact ⟨rfl, rfl, rfl⟩) (by simp) ?_
  exact ⟨.inr rfl, _, by simp [Try.f27] <;> rfl, Weak.mk' [0] (by decide) (by decide) (by simp) (by simp)⟩

end Go.Proofs.Ytbbgmaklmlagcaa

namespace Go.Proofs.Ytbbgmaklmlagcaa
open Go
set_option maxRecDepth 100000
attribute [-simp] drawOk_eq adraw qrun acode aops

theorem rmpΓ_ok : GOk Try.prog (gams [(41, mrightS), (77, putS'), (44, rsealS)]) := goks_cons rright_sound (goks_cons rall_sound (goks_cons rseal_sound goks_nil))

set_option maxHeartbeats 8000000 in
theorem rmput_ct (m : Mf) (hl : m.segs.length ≤ 1000000000000) : Ct Try.prog 40 [mfA 0 m] [.cells false (sgsA m.segs)] (.tuple [.str m.put.1, .int .i64 m.put.2]) [.cells false (sgsA m.segs)] := by
  have hΓ := rmpΓ_ok
  by_cases hr : m.right = true
  rotate_left
  · have hr' : m.right = false := by simpa using hr
    have e : m.put = ([], 2) := by unfold Mf.put; rw [if_neg hr]
    rw [e]
    obtain ⟨mv, mf, mn, l⟩ := m
    refine ct_rd hmix hΓ (n := 0) Try.func40 ?_ (fun X => Weak.mk' [0] (by decide) rfl (by simp) (by simp))
    unfold Try.f40
    simp at hl
    simp [mfA, mrightS, rowSgs, hr', hl]
  have e : m.put = (m.bytes, 0) := by unfold Mf.put; rw [if_pos hr]
  rw [e]
  obtain ⟨h1, h2, h3⟩ := Mf.right_parts hr
  have hnl := Mf.nums_lt hr
  have hpl := Mf.put_len hr
  have hlen := Mf.nums_length m
  have hN : ∀ x ∈ m.nums, x < 18446744073709551616 := fun y hy => Nat.lt_trans (hnl y hy) (by decide)
  unfold Mf.bytes
  obtain ⟨N, eN⟩ : ∃ N, m.nums = N := ⟨_, rfl⟩
  rw [eN] at hN hpl hlen ⊢
  unfold Mf.nums at eN
  clear hnl
  obtain ⟨mv, mf, mn, l⟩ := m
  simp only at *
  have q1 : IntKind.u64.wrap mv = mv := wr_u64n _ (by omega) (by omega)
  have q2 : IntKind.u64.wrap mf = mf := wr_u64n _ (by omega) (by omega)
  have q3 : IntKind.u64.wrap mn = mn := wr_u64n _ (by omega) (by omega)
  have q4 : IntKind.u64.wrap (l.length : Int) = (l.length : Int) := wr_u64n _ (by omega) (by omega)
  have a1 := aU_toNat mv (by omega)
  have a2 := aU_toNat mf (by omega)
  have a3 := aU_toNat mn (by omega)
  have a4 : aU l.length = .int .u64 (l.length : Int) := rfl
  refine ct_of_sim Try.func40 rfl ?_
  simp only [Try.ntmps40, List.length_cons, List.length_nil, Nat.reduceAdd, Nat.reduceSub, List.replicate, List.cons_append, List.nil_append, mfA]
  refine Sim.step hmix hΓ (n := 0) (by simp; exact ⟨rfl, rfl⟩) (by simp) ?_
  refine Sim.step hmix hΓ (n := 0) (by simp [mrightS, rowSgs, hr, hl]; exact ⟨rfl, rfl⟩) (by simp) ?_
  refine Sim.step hmix hΓ (n := 0) (by simp [q1, q2, q3, q4]; exact ⟨rfl, rfl⟩) (by simp) ?_
  refine Sim.seq (Sim.step hmix hΓ (n := 0) (by simp; exact ⟨rfl, rfl⟩) (by simp) ?_)
  refine Sim.block (Sim.loopW (fun k : Nat => k ≤ l.length)
    (fun k => [.top, .ptr 1 0, .str [], .int .i64 0, .slice 2 0 (4 + k * 3) 1 false, .int .i64 k] ++ List.replicate 52 .top)
    (fun k => [.cells false (sgsA l), .cells true [.int .i64 mv, .int .i64 mf, .int .i64 mn, .sl 0 0 l.length 3 false], .cells true (([mv.toNat, mf.toNat, mn.toNat, l.length] ++ sgNums (l.take k)).map aU)]) (fun k => l.length - k) 0 (by simp) (by simp) (Weak.mk' [0, 1, 2] (by decide) (by decide) (by simp) (by simp [sgNums, a1, a2, a3, a4])) fun k hk => ?_)
  by_cases hlt : k < l.length
  · obtain ⟨x, hx⟩ : ∃ x, l[k]? = some x := ⟨_, List.getElem?_eq_getElem hlt⟩
    obtain ⟨b1, b2, b3⟩ := h3 x (List.mem_of_getElem? hx)
    have g1 : ∀ h, (sgsA l)[k * 3]'h = .int .i64 x.1 := fun h => by have := sgs_fst l k x hx; rw [List.getElem?_eq_getElem h] at this; simpa using this
    have g2 : ∀ h, (sgsA l)[k * 3 + 1]'h = .int .i64 x.2.1 := fun h => by have := (sgs_snd l k x hx).1; rw [List.getElem?_eq_getElem h] at this; simpa using this
    have g3 : ∀ h, (sgsA l)[k * 3 + 2]'h = .int .i64 x.2.2 := fun h => by have := (sgs_snd l k x hx).2; rw [List.getElem?_eq_getElem h] at this; simpa using this
    have k1 : k * 3 + 1 < l.length * 3 := by omega
    have k2 : k * 3 + 2 < l.length * 3 := by omega
    have wk : IntKind.i64.wrap ((k : Int) + 1) = k + 1 := wr_i64 (by omega) (by omega)
    have p1 : IntKind.u64.wrap x.1 = x.1 := wr_u64n _ (by omega) (by omega)
    have p2 : IntKind.u64.wrap x.2.1 = x.2.1 := wr_u64n _ (by omega) (by omega)
    have p3 : IntKind.u64.wrap x.2.2 = x.2.2 := wr_u64n _ (by omega) (by omega)
    have c1 := aU_toNat x.1 (by omega)
    have c2 := aU_toNat x.2.1 (by omega)
    have c3 := aU_toNat x.2.2 (by omega)
    have e2 : [mv.toNat, mf.toNat, mn.toNat, l.length] ++ sgNums (l.take (k + 1)) = ([mv.toNat, mf.toNat, mn.toNat, l.length] ++ sgNums (l.take k)) ++ [x.1.toNat, x.2.1.toNat, x.2.2.toNat] := by
      rw [List.take_add_one, hx, Option.toList_some, sgNums_append]; simp [sgNums]
    obtain ⟨L, eL⟩ : ∃ L, [mv.toNat, mf.toNat, mn.toNat, l.length] ++ sgNums (l.take k) = L := ⟨_, rfl⟩
    have lL : L.length = 4 + k * 3 := by rw [← eL]; simp; omega
    rw [eL] at e2 ⊢
    have tkL : (L.map aU).take (4 + k * 3) = L.map aU := List.take_of_length_le (by simp; omega)
    have d1 : (4 + k * 3 + 3) * 8 ≤ 140737488355328 := by omega
    have d2 : 4 + k * 3 + 3 ≤ 9223372036854775807 := by omega
    have d3 : 4 + (k + 1) * 3 = 4 + k * 3 + 3 := by omega
    refine Sim.step hmix hΓ (n := 0) (by simp [hlt]; exact ⟨rfl, rfl⟩) (by simp) ?_
    refine Sim.seq (Sim.block (Sim.draw hmix (by simp) ?_))
    refine SimR.many hΓ 23 (by simp [stageOps]; rfl) (by omega) (by kernel_rfl) (by simp (decide := true) [hlt, g1, g2, g3, k1, k2, p1, p2, p3]; first | exact ⟨rfl, rfl⟩ | exact ⟨by kernel_rfl, rfl, rfl⟩) ?_
    refine SimR.one hΓ _ rfl (by kernel_rfl) (by simp (decide := true) [lL, tkL, d1, d2]; exact ⟨rfl, rfl⟩) ?_
    refine SimR.many hΓ 25 (by simp [stageOps, blankOp]; rfl) (by omega) (by kernel_rfl) (by simp (decide := true); first | exact ⟨rfl, rfl⟩ | exact ⟨by kernel_rfl, rfl, rfl⟩) ?_
    refine SimR.done rfl ?_
    dsimp only
    refine Sim.exec hmix hΓ (n := 0) (by simp [wk]; exact ⟨rfl, rfl, rfl⟩) (by simp) ?_
    exact ⟨k + 1, by omega, Weak.mk' [0, 1, 4] (by decide) (by decide) (by simp [d3]) (by rw [e2]; simp [c1, c2, c3]), by omega⟩
  have hkl : k = l.length := by omega
  subst hkl
  refine Sim.exec hmix hΓ (n := 0) (by simp; exact ⟨rfl, rfl, rfl⟩) (by simp) ?_
  dsimp only
  rw [if_pos rfl]
  have lN : N.length = 4 + l.length * 3 := hlen
  have tkN : (N.map aU).take (4 + l.length * 3) = N.map aU := List.take_of_length_le (by simp; omega)
  have f1 : 4 + l.length * 3 ≤ 1000000000 := by omega
  have f2 : 3 + (Vy.put N).length ≤ 9223372036854775807 := by omega
  have f3 : (Vy.put N).length + 3 ≤ 1000000000000 := by omega
  refine Sim.weak (Fn := [.top, .ptr 1 0, .str [], .int .i64 0, .slice 2 0 (4 + l.length * 3) 1 false] ++ List.replicate 53 .top) (Hn := [.cells false (sgsA l), .cells true [.int .i64 mv, .int .i64 mf, .int .i64 mn, .sl 0 0 l.length 3 false], .cells true (N.map aU)]) (Weak.mk' [0, 1, 2] (by decide) (by decide) (by simp) (by simp [← eN, a1, a2, a3, a4])) (by simp) ?_
  have hN2 : (∀ x : Nat, x ∈ N → x < 18446744073709551616) = True := eq_true hN
  refine Sim.exec hmix hΓ (n := 0) (by simp (decide := true) [putS', rsealS, tkN, hN2, f1, f2, f3, lN]; exact ⟨rfl, rfl, rfl⟩) (by simp) ?_
  exact ⟨.inr rfl, _, by simp [Try.f40] <;> rfl, Weak.mk' [0] (by decide) (by decide) (by simp) (by simp)⟩

def mputS : Summ := readS fun args H => match args with
  | [x] => match mfOf H x with
    | some m => if m.segs.length ≤ 1000000000000 then some (.tuple [.str m.put.1, .int .i64 m.put.2]) else none
    | _ => none
  | _ => none

theorem mput_sound : Sound Try.prog 27 mputS := by
  refine sound_read (enter_of Try.func27 rfl (by decide)) fun args H v h => ?_
  split at h <;> try cases h
  rename_i x
  split at h <;> try cases h
  rename_i m hx
  split at h <;> cases h
  rename_i hc
  obtain ⟨b1, o1, w1, g1⟩ := mf_win hx
  refine ct_win (mput_ct m hc) rfl [(b1, o1)] ?_ ?_
  · exact ⟨w1 0 _ rfl, trivial⟩
  · exact ⟨g1, frees_sgs _, trivial⟩

theorem rmput_sound : Sound Try.prog 40 mputS := by
  refine sound_read (enter_of Try.func40 rfl (by decide)) fun args H v h => ?_
  split at h <;> try cases h
  rename_i x
  split at h <;> try cases h
  rename_i m hx
  split at h <;> cases h
  rename_i hc
  obtain ⟨b1, o1, w1, g1⟩ := mf_win hx
  refine ct_win (rmput_ct m hc) rfl [(b1, o1)] ?_ ?_
  · exact ⟨w1 0 _ rfl, trivial⟩
  · exact ⟨g1, frees_sgs _, trivial⟩

end Go.Proofs.Ytbbgmaklmlagcaa

namespace Go.Proofs.Ytbbgmaklmlagcaa
open Go
set_option maxRecDepth 100000
attribute [-simp] drawOk_eq adraw qrun acode aops

/-- A number, of which the greatest ones are alike. -/
def numI (n : Nat) : Int := min (n : Int) 1099511627776

theorem numI_rng (n : Nat) : 0 ≤ numI n ∧ numI n ≤ 1099511627776 := by unfold numI; omega

theorem num_ct (n : Nat) : Ct Try.prog 98 [.int .u64 n] [] (.int .i64 (numI n)) [] := by
  have h := numI_rng n
  have w : IntKind.i64.wrap (numI n) = numI n := wr_i64 (by omega) (by omega)
  unfold numI at w ⊢
  refine ct_val hmix goks_nil (n := 0) Try.func98 ?_ (by simp)
  unfold Try.f98
  simp [-minA, minA_min, w]

theorem rnum_ct (n : Nat) : Ct Try.prog 108 [.int .u64 n] [] (.int .i64 (numI n)) [] := by
  have h := numI_rng n
  have w : IntKind.i64.wrap (numI n) = numI n := wr_i64 (by omega) (by omega)
  unfold numI at w ⊢
  refine ct_val hmix goks_nil (n := 0) Try.func108 ?_ (by simp)
  unfold Try.f108
  simp [-minA, minA_min, w]

def numS : Summ := pureS fun | [.int .u64 n] => if 0 ≤ n then some (.int .i64 (numI n.toNat)) else none | _ => none
theorem num_sound : Sound Try.prog 98 numS := by
  refine sound_pure (enter_of Try.func98 rfl (by decide)) fun args v h => ?_
  split at h <;> try cases h
  rename_i n
  split at h <;> cases h
  have := num_ct n.toNat
  rw [show ((n.toNat : Nat) : Int) = n by omega] at this
  exact ⟨this, by simp, by simp⟩
theorem rnum_sound : Sound Try.prog 108 numS := by
  refine sound_pure (enter_of Try.func108 rfl (by decide)) fun args v h => ?_
  split at h <;> try cases h
  rename_i n
  split at h <;> cases h
  have := rnum_ct n.toNat
  rw [show ((n.toNat : Nat) : Int) = n by omega] at this
  exact ⟨this, by simp, by simp⟩

/-- Numbers by threes. -/
def toSgs : List Nat → List Sg
  | a :: b :: c :: l => (numI a, numI b, numI c) :: toSgs l
  | _ => []

def Mf.ofN (l : List Nat) : Mf := ⟨numI (l.getD 0 0), numI (l.getD 1 0), numI (l.getD 2 0), toSgs (l.drop 4)⟩

theorem toSgs_snoc (a b c : Nat) : ∀ (k : Nat) (l : List Nat), l.length = k * 3 → toSgs (l ++ [a, b, c]) = toSgs l ++ [(numI a, numI b, numI c)]
  | 0, l, h => by have : l = [] := by simpa using h
                  subst this; simp [toSgs]
  | k + 1, l, h => by
    match l, h with
    | x :: y :: z :: l, h =>
      have := toSgs_snoc a b c k l (by simp at h; omega)
      simp [toSgs, this]
    | [x, y], h => simp at h; omega
    | [x], h => simp at h; omega
    | [], h => simp at h

theorem toSgs_length : ∀ (k : Nat) (l : List Nat), l.length = k * 3 → (toSgs l).length = k
  | 0, l, h => by have : l = [] := by simpa using h
                  subst this; simp [toSgs]
  | k + 1, l, h => by
    match l, h with
    | x :: y :: z :: l, h =>
      have := toSgs_length k l (by simp at h; omega)
      simp [toSgs, this]
    | [x, y], h => simp at h; omega
    | [x], h => simp at h; omega
    | [], h => simp at h

theorem aU_at (l : List Nat) (i : Nat) (x : Nat) (h : l[i]? = some x) : ∀ h, (l.map aU)[i]'h = .int .u64 (x : Int) := fun h' => by
  have : (l.map aU)[i]? = some (aU x) := by rw [List.getElem?_map, h]; rfl
  rw [List.getElem?_eq_getElem h'] at this
  simpa [aU] using this

def ofInl : List FuncId := [99]
theorem ofΓ_ok : GOk Try.prog (runG Try.prog (gams [(98, numS)]) 0 ofInl 1) := gok_run hmix (goks_cons num_sound goks_nil) 0 ofInl 1

set_option maxHeartbeats 8000000 in
theorem of_ct (l : List Nat) (k : Nat) (hl : l.length = 4 + k * 3) (hk : k ≤ 1000) :
    Ct Try.prog 70 [.slice 0 0 l.length 1 false] [.cells false (l.map aU)] (mfA 1 (Mf.ofN l)) [.cells false (l.map aU), .cells true (sgsA (Mf.ofN l).segs)] := by
  have hΓ := ofΓ_ok
  have at0 : ∀ i, i < l.length → ∃ x, l[i]? = some x ∧ l.getD i 0 = x := fun i hi => ⟨l[i], List.getElem?_eq_getElem hi, by rw [List.getD_eq_getElem?_getD, List.getElem?_eq_getElem hi]; rfl⟩
  obtain ⟨x0, y0, z0⟩ := at0 0 (by omega)
  obtain ⟨x1, y1, z1⟩ := at0 1 (by omega)
  obtain ⟨x2, y2, z2⟩ := at0 2 (by omega)
  have lS : (Mf.ofN l).segs.length = k := toSgs_length k _ (by simp; omega)
  unfold Mf.ofN mfA at *
  rw [z0, z1, z2]
  simp only at lS ⊢
  rw [lS]
  have q0 : ∀ h : 0 < l.length, l[0]'h = x0 := fun h => by rw [List.getElem?_eq_getElem h] at y0; exact Option.some.inj y0
  have q1 : ∀ h : 1 < l.length, l[1]'h = x1 := fun h => by rw [List.getElem?_eq_getElem h] at y1; exact Option.some.inj y1
  have q2 : ∀ h : 2 < l.length, l[2]'h = x2 := fun h => by rw [List.getElem?_eq_getElem h] at y2; exact Option.some.inj y2
  have n0 : 0 < l.length := by omega
  have n1 : 1 < l.length := by omega
  have n2 : 2 < l.length := by omega
  have n1' : (1 : Int) < (l.length : Int) := by omega
  have n2' : (2 : Int) < (l.length : Int) := by omega
  have n4 : 4 ≤ l.length := by omega
  have n4' : (4 : Int) ≤ (l.length : Int) := by omega
  have hn4 : l.length - 4 = k * 3 := by omega
  refine ct_of_sim Try.func70 rfl ?_
  simp only [Try.ntmps70, List.length_cons, List.length_nil, Nat.reduceAdd, Nat.reduceSub, List.replicate, List.cons_append, List.nil_append]
  refine Sim.step hmix hΓ (n := 0) (by simp; exact ⟨rfl, rfl⟩) (by simp) ?_
  refine Sim.seq (Sim.draw hmix (by simp) ?_)
  refine SimR.many hΓ 18 (by simp [stageOps]; rfl) (by omega) (by kernel_rfl) (by simp (decide := true) [ofInl, numS, aU, q0, q1, q2, n0, n1, n2, n1', n2']; first | exact ⟨rfl, rfl⟩ | exact ⟨by kernel_rfl, rfl, rfl⟩) ?_
  refine SimR.done rfl ?_
  dsimp only
  refine Sim.seq (Sim.step hmix hΓ (n := 0) (by simp (decide := true) [ofInl, Try.f99, n4', hn4]; exact ⟨rfl, rfl⟩) (by simp) ?_)
  refine Sim.block ?_
  refine Sim.rangeFuncN hmix (fun rc => [.cells false (l.map aU), .cells true [.int .i64 (numI x0), .int .i64 (numI x1), .int .i64 (numI x2), .sl 5 0 k 3 false], .cells true [.slice 0 4 (k * 3) 1 false], .cells true [.int .i64 3], rc, .cells true (sgsA (toSgs (l.drop 4)))]) .ready none (.tuple []) (gf := 120) (cap := [.ptr 2 0, .ptr 3 0]) (by simp) (enter_of Try.func120 rfl (by decide)) (by decide) (by simp) (by simp) (by simp) rfl (by simp) ?_ ?_
  · generalize hrc : ABlk.loop _ _ _ LoopState.ready none _ = rc
    refine ct_of_sim Try.func120 rfl ?_
    simp only [Try.ntmps120, List.length_cons, List.length_nil, List.replicate, List.cons_append, List.nil_append]
    refine Sim.step hmix hΓ (n := 0) (by simp; exact ⟨rfl, rfl⟩) (by simp) ?_
    refine Sim.block (Sim.loopW (fun p : Nat × Nat => p.1 ≤ k ∧ p.2 = p.1 * 3)
      (fun p => [.yld 4, .ptr 2 0, .ptr 3 0, .top, .int .i64 (p.2 : Nat)] ++ List.replicate 26 .top)
      (fun p => [.cells false (l.map aU), .cells true [.int .i64 (numI x0), .int .i64 (numI x1), .int .i64 (numI x2), .sl 5 0 p.1 3 false], .cells true [.slice 0 4 (k * 3) 1 false], .cells true [.int .i64 3], rc, .cells true (sgsA (toSgs ((l.drop 4).take p.2)))]) (fun p => k - p.1) (0, 0) (by simp) ⟨Nat.zero_le _, rfl⟩ ?_ fun p hp => ?_)
    · subst hrc
      exact Weak.mk' [0, 1, 2, 3, 4, 100] (by decide) (by decide) (by simp) (by simp)
    obtain ⟨j, i⟩ := p
    obtain ⟨hj, hi⟩ := hp
    simp only at hj hi ⊢
    have hΓ2 := goks_cons (P := Try.prog) num_sound goks_nil
    by_cases hlt : j < k
    · have c1 : (i : Int) < (k : Int) * 3 := by omega
      have c1' : i ≤ k * 3 := by omega
      have c2 : (i : Int) ≤ (k : Int) * 3 := by omega
      have hmin : min (3 : Int) ((k * 3 - i : Nat) : Int) = 3 := by omega
      have w3 : IntKind.i64.wrap ((i : Int) + 3) = i + 3 := wr_i64 (by omega) (by omega)
      have c3 : (i : Int) + 3 ≤ (k : Int) * 3 := by omega
      obtain ⟨a, ha⟩ : ∃ a, l[4 + i]? = some a := ⟨_, List.getElem?_eq_getElem (by omega)⟩
      obtain ⟨b, hb⟩ : ∃ b, l[4 + i + 1]? = some b := ⟨_, List.getElem?_eq_getElem (by omega)⟩
      obtain ⟨c, hc⟩ : ∃ c, l[4 + i + 2]? = some c := ⟨_, List.getElem?_eq_getElem (by omega)⟩
      have qa : ∀ h : 4 + i < l.length, l[4 + i]'h = a := fun h => by rw [List.getElem?_eq_getElem h] at ha; exact Option.some.inj ha
      have qb : ∀ h : 4 + i + 1 < l.length, l[4 + i + 1]'h = b := fun h => by rw [List.getElem?_eq_getElem h] at hb; exact Option.some.inj hb
      have qc : ∀ h : 4 + i + 2 < l.length, l[4 + i + 2]'h = c := fun h => by rw [List.getElem?_eq_getElem h] at hc; exact Option.some.inj hc
      have la : 4 + i < l.length := by omega
      have lb : 4 + i + 1 < l.length := by omega
      have lc : 4 + i + 2 < l.length := by omega
      have ht : (l.drop 4).take (i + 3) = (l.drop 4).take i ++ [a, b, c] := by
        rw [show i + 3 = i + 1 + 1 + 1 from rfl, List.take_add_one, List.take_add_one, List.take_add_one, List.getElem?_drop, List.getElem?_drop, List.getElem?_drop, ha, show 4 + (i + 1) = 4 + i + 1 by omega, hb, show 4 + (i + 1 + 1) = 4 + i + 2 by omega, hc]
        simp
      have hst : toSgs ((l.drop 4).take (i + 3)) = toSgs ((l.drop 4).take i) ++ [(numI a, numI b, numI c)] := by
        rw [ht]; exact toSgs_snoc a b c j _ (by simp; omega)
      obtain ⟨L, eL⟩ : ∃ L, toSgs ((l.drop 4).take i) = L := ⟨_, rfl⟩
      have lL : L.length = j := by rw [← eL]; exact toSgs_length j _ (by simp; omega)
      rw [eL] at hst ⊢
      have tkL : (sgsA L).take (j * 3) = sgsA L := List.take_of_length_le (by simp; omega)
      have b1 : (j + 1) * 24 ≤ 140737488355328 := by omega
      have b2 : j + 1 ≤ 9223372036854775807 := by omega
      have hΓ3 := gok_yield hΓ2 (b := 4) (args := [.slice 0 (4 + i) 3 1 true]) (v := .bool true) hrc
        (H := [.cells false (l.map aU), .cells true [.int .i64 (numI x0), .int .i64 (numI x1), .int .i64 (numI x2), .sl 5 0 j 3 false], .cells true [.slice 0 4 (k * 3) 1 false], .cells true [.int .i64 3], rc, .cells true (sgsA L)])
        (H1 := [.cells false (l.map aU), .cells true [.int .i64 (numI x0), .int .i64 (numI x1), .int .i64 (numI x2), .sl 6 0 (j + 1) 3 false], .cells true [.slice 0 4 (k * 3) 1 false], .cells true [.int .i64 3], rc, .dead, .cells true (sgsA L ++ sgA (numI a, numI b, numI c))])
        rfl rfl (fun r => by
          subst hrc
          refine Sim.exec hmix hΓ2 (n := 0) (by simp; exact ⟨rfl, rfl, rfl⟩) (by simp) ?_
          refine ⟨rfl, _, _, _, _, _, rfl, ?_⟩
          refine Sim.block (Sim.draw hmix (by simp) ?_)
          refine SimR.many hΓ2 16 (by simp [stageOps]; rfl) (by omega) (by kernel_rfl) (by simp (decide := true) [numS, aU, qa, qb, qc, la, lb, lc]; first | exact ⟨rfl, rfl⟩ | exact ⟨by kernel_rfl, rfl, rfl⟩) ?_
          refine SimR.one hΓ2 _ rfl (by kernel_rfl) (by simp (decide := true) [lL, tkL, b1, b2]; exact ⟨rfl, rfl⟩) ?_
          refine SimR.many hΓ2 19 (by simp [stageOps, blankOp]; rfl) (by omega) (by kernel_rfl) (by simp (decide := true); first | exact ⟨rfl, rfl⟩ | exact ⟨by kernel_rfl, rfl, rfl⟩) ?_
          refine SimR.done rfl ?_
          dsimp only
          exact ⟨_, _, _, _, _, _, rfl, rfl, Weak.mk' [0, 1, 2, 3, 4, 5, 7] (by decide) rfl (by simp) (by simp [sgA])⟩) (by simp)
      refine Sim.step hmix hΓ2 (n := 0) (by simp [c1]; exact ⟨rfl, rfl⟩) (by simp) ?_
      refine Sim.seq (Sim.block ?_)
      refine Sim.seq (Sim.draw hmix (by simp) ?_)
      refine SimR.many hΓ2 7 (by simp [stageOps]; rfl) (by omega) (by kernel_rfl) (by simp (decide := true) [-minA, minA_min, c2, hmin]; first | exact ⟨rfl, rfl⟩ | exact ⟨by kernel_rfl, rfl, rfl⟩) ?_
      refine SimR.done rfl ?_
      dsimp only
      have f1 : (0 : Int) ≤ (i : Int) + 3 := by omega
      have f2 : ((i : Int) + 3).toNat = i + 3 := by omega
      have f3 : (i : Int) + 3 ≤ ((i + 3 : Nat) : Int) := by omega
      have f4 : i + 3 ≤ k * 3 := by omega
      have f5 : (i : Int) ≤ (i : Int) + 3 := by omega
      have f6 : i + 3 - i = 3 := by omega
      have f7 : k * 3 - i = k * 3 - i := rfl
      refine Sim.exec hmix hΓ3 (n := 0) (by simp [w3, c3, f1, f2, f5, f6]; exact ⟨rfl, rfl, rfl⟩) (by simp) ?_
      dsimp only
      refine Sim.exec hmix hΓ2 (n := 0) (by simp [w3]; exact ⟨rfl, rfl, rfl⟩) (by simp) ?_
      subst hrc
      exact ⟨(j + 1, i + 3), ⟨by simp only; omega, by simp only; omega⟩, Weak.mk' [0, 1, 2, 3, 4, 6] (by decide) (by decide) (by simp) (by simp [hst, sgA, sgsA]), by simp only; omega⟩
    · have c1 : ¬ ((i : Int) < (k : Int) * 3) := by omega
      have hjk : j = k := by omega
      have ht : (l.drop 4).take i = l.drop 4 := List.take_of_length_le (by simp; omega)
      rw [ht]
      subst hjk
      subst hrc
      refine Sim.exec hmix hΓ2 (n := 0) (by simp [c1]; exact ⟨rfl, rfl, rfl⟩) (by simp) ?_
      dsimp only
      rw [if_pos rfl]
      exact ⟨.inl trivial, _, by simp [Try.f120] <;> rfl, Weak.mk' [0, 1, 2, 3, 4, 5] (by decide) (by decide) (by simp) (by simp)⟩
  · dsimp only
    refine Sim.exec hmix hΓ (n := 0) (by simp; exact ⟨rfl, rfl, rfl⟩) (by simp) ?_
    exact ⟨.inr rfl, _, by simp [Try.f70] <;> rfl, Weak.mk' [0, 5] (by decide) (by decide) (by simp) (by simp)⟩

end Go.Proofs.Ytbbgmaklmlagcaa

namespace Go.Proofs.Ytbbgmaklmlagcaa
open Go
set_option maxRecDepth 100000
attribute [-simp] drawOk_eq adraw qrun acode aops

def ofS : Summ := readNewS fun args H => match args with
  | [.sl b o n 1 _] => match H[b]? with
    | some (.cells _ vs) => match natsOf .u64 ((vs.drop o).take n) with
      | some l => if o + n ≤ vs.length ∧ 4 ≤ n ∧ (n - 4) % 3 = 0 ∧ n ≤ 3004 then some (mfA 0 (Mf.ofN l), [.cells true (sgsA (Mf.ofN l).segs)]) else none
      | none => none
    | _ => none
  | _ => none

theorem of_sound : Sound Try.prog 70 ofS := by
  refine sound_readNew (enter_of Try.func70 rfl (by decide)) fun args H v N h => ?_
  split at h <;> try cases h
  rename_i b o n c
  split at h <;> try cases h
  rename_i ow vs hb
  split at h <;> try cases h
  rename_i l hl
  split at h <;> cases h
  rename_i hc
  obtain ⟨c1, c2, c3, c4⟩ := hc
  have e := natsOf_eq hl
  have hn : l.length = n := by have := congrArg List.length e; simp at this; omega
  refine ct_slN (pre := []) ?_ fun h0 => by omega
  have h0 := of_ct l ((n - 4) / 3) (by omega) (by omega)
  rw [hn] at h0
  refine ct_winN (H0 := [.cells false (l.map aU)]) (args0 := [.slice 0 0 n 1 false]) ?_ rfl [(b, o)] ⟨by simp [winA], trivial⟩ ?_
  · simpa [mfA] using h0
  · simp only [winH, hb]
    refine ⟨⟨by simp; omega, ?_⟩, ?_, trivial⟩
    · rw [List.length_map, hn, e]; rfl
    · simp

/-- Numbers stand alike wherever they stand. -/
theorem Vy.row_rel (s : List UInt8) (k : Nat) (hk : k ≤ s.length) : ∀ (n p : Nat), p ≤ s.length - k → Vy.row s ((k : Int) + p) n = ((Vy.row (s.drop k) p n).1, (k : Int) + (Vy.row (s.drop k) p n).2.1, (Vy.row (s.drop k) p n).2.2)
  | 0, p, _ => by simp [Vy.row]
  | n + 1, p, hp => by
    have g1 := Vy.get_rel s (k + p) (by omega)
    have g2 := Vy.get_rel (s.drop k) p (by simp; omega)
    rw [List.drop_drop] at g2
    have g : Vy.get s ((k : Int) + p) = ((Vy.get (s.drop k) p).1, (k : Int) + (Vy.get (s.drop k) p).2.1, (Vy.get (s.drop k) p).2.2) := by
      rw [show ((k : Int) + p) = ((k + p : Nat) : Int) by omega, g1, g2]
      simp [Int.add_assoc]
    obtain ⟨⟨v, x, e⟩, hg⟩ : ∃ r, Vy.get (s.drop k) p = r := ⟨_, rfl⟩
    simp only [hg] at g
    unfold Vy.row
    rw [g, hg]
    simp only
    by_cases he : e = 0
    · subst he
      obtain ⟨a1, a2, a3⟩ := Vy.get_ok _ _ _ _ hg
      simp at a3
      have ih := Vy.row_rel s k hk n x.toNat (by omega)
      rw [show ((x.toNat : Nat) : Int) = x by omega] at ih
      rw [if_pos rfl, if_pos rfl, ih]
      simp only
      split <;> rfl
    · rw [if_neg he, if_neg he]

def Mf.zero : Mf := ⟨0, 0, 0, []⟩

/-- P23.2: what the bytes behind the mark say. -/
def Mf.read (s : List UInt8) : Mf × Int :=
  if (Vy.row s 0 4).2.2 ≠ 0 then (Mf.zero, (Vy.row s 0 4).2.2)
  else if 1000 < (Vy.row s 0 4).1.getD 3 0 then (Mf.zero, 17)
  else if (Vy.row s (Vy.row s 0 4).2.1 (3 * (Vy.row s 0 4).1.getD 3 0)).2.2 ≠ 0 then (Mf.zero, (Vy.row s (Vy.row s 0 4).2.1 (3 * (Vy.row s 0 4).1.getD 3 0)).2.2)
  else if (Vy.row s (Vy.row s 0 4).2.1 (3 * (Vy.row s 0 4).1.getD 3 0)).2.1 < s.length then (Mf.zero, 4)
  else if (Mf.ofN ((Vy.row s 0 4).1 ++ (Vy.row s (Vy.row s 0 4).2.1 (3 * (Vy.row s 0 4).1.getD 3 0)).1)).right = true then (Mf.ofN ((Vy.row s 0 4).1 ++ (Vy.row s (Vy.row s 0 4).2.1 (3 * (Vy.row s 0 4).1.getD 3 0)).1), 0)
  else (Mf.zero, 17)

def Mf.get (s : List UInt8) : Mf × Int :=
  if Cr.openOk s = false then (Mf.zero, 16)
  else if (s.take (s.length - 4)).length < 3 then (Mf.zero, 3)
  else if (s.take (s.length - 4)).take 3 ≠ [67, 77, 1] then (Mf.zero, 6)
  else Mf.read ((s.take (s.length - 4)).drop 3)

end Go.Proofs.Ytbbgmaklmlagcaa

namespace Go.Proofs.Ytbbgmaklmlagcaa
open Go
set_option maxRecDepth 100000
attribute [-simp] drawOk_eq adraw qrun acode aops

def cutS : Summ := pureS fun
  | [.str s, .str p] => if p.length ≤ 1000000000000 ∧ s.length ≤ 1000000000000 then some (if s.take p.length = p then .tuple [.str (s.drop p.length), .bool true] else .tuple [.str s, .bool false]) else none
  | _ => none

def cutInl : List FuncId := [96, 115]
theorem cutΓ_ok : GOk Try.prog (runG Try.prog (gams []) 0 cutInl 2) := gok_run hmix goks_nil 0 cutInl 2

set_option maxHeartbeats 4000000 in
theorem cut_ct (s p : List UInt8) (_hs : s.length ≤ 1000000000000) (_hp : p.length ≤ 1000000000000) :
    Ct Try.prog 68 [.str s, .str p] [] (if s.take p.length = p then .tuple [.str (s.drop p.length), .bool true] else .tuple [.str s, .bool false]) [] := by
  by_cases h : s.take p.length = p
  · have hl : p.length ≤ s.length := by have := congrArg List.length h; simp at this; omega
    have hd : (s.drop p.length).take (s.length - p.length) = s.drop p.length := List.take_of_length_le (by simp)
    rw [if_pos h]
    refine ct_val hmix cutΓ_ok (n := 0) Try.func68 ?_ (by simp)
    unfold Try.f68
    simp [cutInl, Try.f96, Try.f115, h, hl, hd]
  · rw [if_neg h]
    refine ct_val hmix cutΓ_ok (n := 0) Try.func68 ?_ (by simp)
    unfold Try.f68
    by_cases hl : p.length ≤ s.length
    · simp [cutInl, Try.f96, Try.f115, h, hl]
    · simp [cutInl, Try.f96, Try.f115, hl]

theorem cut_sound : Sound Try.prog 68 cutS := by
  refine sound_pure (enter_of Try.func68 rfl (by decide)) fun args v h => ?_
  split at h <;> try cases h
  rename_i s p
  split at h <;> cases h
  rename_i hc
  exact ⟨cut_ct s p hc.2 hc.1, by simp, by split <;> simp⟩

theorem gtΓ_ok : GOk Try.prog (gams [(67, openS), (68, cutS), (69, rowS), (70, ofS), (18, mrightS)]) :=
  goks_cons open_sound (goks_cons cut_sound (goks_cons prow_sound (goks_cons of_sound (goks_cons mright_sound goks_nil))))

@[simp] theorem shAs_aUs (k : Nat) : ∀ l : List Nat, shAs k (l.map aU) = l.map aU
  | [] => rfl
  | n :: l => by simp [aU, shAs_aUs k l]

set_option maxHeartbeats 16000000 in
theorem mget_ct (s : List UInt8) (hs : s.length ≤ 1000000000000) :
    Ct Try.prog 28 [.str s] [] (.tuple [mfA 0 (Mf.get s).1, .int .i64 (Mf.get s).2]) [.cells true (sgsA (Mf.get s).1.segs)] := by
  have hΓ := gtΓ_ok
  cases ho : Cr.openOk s
  · have e : Mf.get s = (Mf.zero, 16) := by unfold Mf.get; rw [if_pos ho]
    rw [e]
    refine ct_runE hmix hΓ (n := 3) Try.func28 ?_
    unfold Try.f28
    exact ⟨_, _, (by simp [openS, cutS, hs, ho]; exact ⟨rfl, rfl⟩), Weak.mk' [100] (by decide) rfl (by simp [mfA, Mf.zero]) (by simp)⟩
  obtain ⟨b, hb⟩ : ∃ b, s.take (s.length - 4) = b := ⟨_, rfl⟩
  have bl : b.length ≤ 1000000000000 := by rw [← hb]; simp; omega
  by_cases h3 : b.length < 3
  · have e : Mf.get s = (Mf.zero, 3) := by unfold Mf.get; rw [if_neg (by simp [ho]), hb, if_pos h3]
    have h3i : (b.length : Int) < 3 := by omega
    have t : ¬ b.take 3 = [67, 77, 1] := fun h => by have := congrArg List.length h; simp at this; omega
    rw [e]
    refine ct_runE hmix hΓ (n := 3) Try.func28 ?_
    unfold Try.f28
    exact ⟨_, _, (by simp [openS, cutS, hs, ho, hb, bl, h3i, t]; exact ⟨rfl, rfl⟩), Weak.mk' [100] (by decide) rfl (by simp [mfA, Mf.zero]) (by simp)⟩
  have h3i : ¬ (b.length : Int) < 3 := by omega
  by_cases hm : b.take 3 = [67, 77, 1]
  rotate_left
  · have e : Mf.get s = (Mf.zero, 6) := by unfold Mf.get; rw [if_neg (by simp [ho]), hb, if_neg h3, if_pos hm]
    rw [e]
    refine ct_runE hmix hΓ (n := 3) Try.func28 ?_
    unfold Try.f28
    exact ⟨_, _, (by simp [openS, cutS, hs, ho, hb, bl, h3i, hm]; exact ⟨rfl, rfl⟩), Weak.mk' [100] (by decide) rfl (by simp [mfA, Mf.zero]) (by simp)⟩
  have e : Mf.get s = Mf.read (b.drop 3) := by unfold Mf.get; rw [if_neg (by simp [ho]), hb, if_neg h3, if_neg (by simpa using hm)]
  rw [e]
  clear e
  obtain ⟨r, hr⟩ : ∃ r, b.drop 3 = r := ⟨_, rfl⟩
  have rl : r.length ≤ 1000000000000 := by rw [← hr]; simp; omega
  rw [hr]
  unfold Mf.read
  obtain ⟨⟨l4, x4, e4⟩, h4⟩ : ∃ q, Vy.row r 0 4 = q := ⟨_, rfl⟩
  rw [h4]
  simp only
  by_cases he : e4 = 0
  rotate_left
  · rw [if_pos he]
    refine ct_runE hmix hΓ (n := 3) Try.func28 ?_
    unfold Try.f28
    exact ⟨_, _, (by simp [openS, cutS, rowS, hs, ho, hb, bl, h3i, hm, hr, rl, h4, he]; exact ⟨rfl, rfl⟩), Weak.mk' [100] (by decide) rfl (by simp [mfA, Mf.zero]) (by simp)⟩
  subst he
  have hl4 := (Vy.row_length _ _ _ _ _ h4).1
  obtain ⟨d0, d1, d2, d, rfl⟩ : ∃ a b c d, l4 = [a, b, c, d] := by
    match l4, hl4 with
    | [a, b, c, d], _ => exact ⟨a, b, c, d, rfl⟩
  rw [if_neg (by simp)]
  simp only [List.getD_cons_succ, List.getD_cons_zero]
  by_cases hd : 1000 < d
  · have hdi : (1000 : Int) < (d : Int) := by omega
    rw [if_pos hd]
    refine ct_runE hmix hΓ (n := 3) Try.func28 ?_
    unfold Try.f28
    exact ⟨_, _, (by simp [openS, cutS, rowS, hs, ho, hb, bl, h3i, hm, hr, rl, h4, aU, hdi]; exact ⟨rfl, rfl⟩), Weak.mk' [100] (by decide) rfl (by simp [mfA, Mf.zero]) (by simp)⟩
  have hdi : ¬ (1000 : Int) < (d : Int) := by omega
  rw [if_neg hd]
  have w0 : IntKind.i64.wrap (d : Int) = d := wr_i64 (by omega) (by omega)
  have w1 : IntKind.i64.wrap (3 * (d : Int)) = 3 * d := wr_i64 (by omega) (by omega)
  have w2 : IntKind.i64.wrap (4 + 3 * (d : Int)) = 4 + 3 * d := wr_i64 (by omega) (by omega)
  have w3 : IntKind.i64.wrap (4 + 3 * (d : Int) - 4) = 3 * d := by rw [wr_i64 (by omega) (by omega)]; omega
  have t3 : (3 * (d : Int)).toNat = 3 * d := by omega
  obtain ⟨⟨L, y, e2⟩, h5⟩ : ∃ q, Vy.row r x4 (3 * d) = q := ⟨_, rfl⟩
  rw [h5]
  simp only
  by_cases hd0 : d = 0
  · subst hd0
    simp only [Vy.row, Prod.mk.injEq] at h5
    obtain ⟨rfl, rfl, rfl⟩ := h5
    rw [if_neg (by simp), List.append_nil]
    have hS : (Mf.ofN [d0, d1, d2, 0]).segs.length ≤ 1000000000000 := by simp [Mf.ofN, toSgs]
    obtain ⟨⟨mv, mf, mn, S⟩, eM⟩ : ∃ M, Mf.ofN [d0, d1, d2, 0] = M := ⟨_, rfl⟩
    rw [eM] at hS ⊢
    simp only at hS
    by_cases hy : x4 < r.length
    · rw [if_pos hy]
      refine ct_runE hmix hΓ (n := 3) Try.func28 ?_
      unfold Try.f28
      exact ⟨_, _, (by simp [openS, cutS, rowS, hs, ho, hb, bl, h3i, hm, hr, rl, h4, aU, hy]; exact ⟨rfl, rfl⟩), Weak.mk' [100] (by decide) rfl (by simp [mfA, Mf.zero]) (by simp)⟩
    rw [if_neg hy]
    cases hR : Mf.right ⟨mv, mf, mn, S⟩
    · rw [if_neg (by simp)]
      refine ct_runE hmix hΓ (n := 3) Try.func28 ?_
      unfold Try.f28
      exact ⟨_, _, (by simp [openS, cutS, rowS, hs, ho, hb, bl, h3i, hm, hr, rl, h4, aU, ofS, mrightS, rowSgs, natsOf, mfA, hy, eM, hS, hR]; exact ⟨rfl, rfl⟩), Weak.mk' [100] (by decide) rfl (by simp [mfA, Mf.zero]) (by simp)⟩
    · rw [if_pos rfl]
      refine ct_runE hmix hΓ (n := 3) Try.func28 ?_
      unfold Try.f28
      exact ⟨_, _, (by simp [openS, cutS, rowS, hs, ho, hb, bl, h3i, hm, hr, rl, h4, aU, ofS, mrightS, rowSgs, natsOf, mfA, hy, eM, hS, hR]; exact ⟨rfl, rfl⟩), Weak.mk' [3] (by decide) rfl (by simp [mfA]) (by simp)⟩
  have hd1 : (4 : Int) < 4 + 3 * (d : Int) := by omega
  have b3 : 3 * d ≤ 1000000000 := by omega
  have b4 : (0 : Int) ≤ 3 * (d : Int) := by omega
  have b5 : 3 * (d : Int) ≤ 1000000000 := by omega
  by_cases he : e2 = 0
  rotate_left
  · rw [if_pos he]
    refine ct_runE hmix hΓ (n := 3) Try.func28 ?_
    unfold Try.f28
    exact ⟨_, _, (by simp [openS, cutS, rowS, hs, ho, hb, bl, h3i, hm, hr, rl, h4, aU, hdi, w0, w1, w2, w3, t3, h5, hd1, b4, b5, he]; exact ⟨rfl, rfl⟩), Weak.mk' [100] (by decide) rfl (by simp [mfA, Mf.zero]) (by simp)⟩
  subst he
  have hL := (Vy.row_length _ _ _ _ _ h5).1
  have tkL : (L.map aU).take (3 * d) = L.map aU := List.take_of_length_le (by simp; omega)
  have s1 : (4 + 3 * d) * 8 ≤ 140737488355328 := by omega
  have s2 : 4 + 3 * d ≤ 9223372036854775807 := by omega
  have u1 : ¬ (4 + 3 * (d : Int) = 4) := by omega
  have tk4 : (AV.int .u64 (d0 : Int) :: AV.int .u64 (d1 : Int) :: AV.int .u64 (d2 : Int) :: AV.int .u64 (d : Int) :: L.map aU).take (4 + 3 * d) = AV.int .u64 (d0 : Int) :: AV.int .u64 (d1 : Int) :: AV.int .u64 (d2 : Int) :: AV.int .u64 (d : Int) :: L.map aU := List.take_of_length_le (by simp; omega)
  have s3 : 4 + 3 * d ≤ 3 * d + 1 + 1 + 1 + 1 := by omega
  have s4 : 4 + 3 * d ≤ 3004 := by omega
  rw [if_neg (by simp)]
  have hS : (Mf.ofN ([d0, d1, d2, d] ++ L)).segs.length ≤ 1000000000000 := by
    unfold Mf.ofN
    rw [toSgs_length d _ (by simp; omega)]
    omega
  obtain ⟨⟨mv, mf, mn, S⟩, eM⟩ : ∃ M, Mf.ofN ([d0, d1, d2, d] ++ L) = M := ⟨_, rfl⟩
  rw [eM] at hS ⊢
  have eM2 : Mf.ofN (d0 :: d1 :: d2 :: d :: L) = ⟨mv, mf, mn, S⟩ := eM
  simp only at hS
  by_cases hy : y < r.length
  · rw [if_pos hy]
    refine ct_runE hmix hΓ (n := 3) Try.func28 ?_
    unfold Try.f28
    exact ⟨_, _, (by simp [openS, cutS, rowS, hs, ho, hb, bl, h3i, hm, hr, rl, h4, aU, hdi, w0, w1, w2, w3, t3, h5, hd1, b4, b5, hL, tkL, s1, s2, u1, hy]; exact ⟨rfl, rfl⟩), Weak.mk' [100] (by decide) rfl (by simp [mfA, Mf.zero]) (by simp)⟩
  rw [if_neg hy]
  cases hR : Mf.right ⟨mv, mf, mn, S⟩
  · rw [if_neg (by simp)]
    refine ct_runE hmix hΓ (n := 3) Try.func28 ?_
    unfold Try.f28
    exact ⟨_, _, (by simp [openS, cutS, rowS, hs, ho, hb, bl, h3i, hm, hr, rl, h4, aU, hdi, w0, w1, w2, w3, t3, h5, hd1, b4, b5, hL, tkL, s1, s2, u1, tk4, s3, s4, ofS, mrightS, rowSgs, natsOf, mfA, hy, eM2, hS, hR]; exact ⟨rfl, rfl⟩), Weak.mk' [100] (by decide) rfl (by simp [mfA, Mf.zero]) (by simp)⟩
  · rw [if_pos rfl]
    refine ct_runE hmix hΓ (n := 3) Try.func28 ?_
    unfold Try.f28
    exact ⟨_, _, (by simp [openS, cutS, rowS, hs, ho, hb, bl, h3i, hm, hr, rl, h4, aU, hdi, w0, w1, w2, w3, t3, h5, hd1, b4, b5, hL, tkL, s1, s2, u1, tk4, s3, s4, ofS, mrightS, rowSgs, natsOf, mfA, hy, eM2, hS, hR]; exact ⟨rfl, rfl⟩), Weak.mk' [5] (by decide) rfl (by simp [mfA]) (by simp)⟩

def mgetS : Summ := newS fun
  | [.str s] => if s.length ≤ 1000000000000 then some (.tuple [mfA 0 (Mf.get s).1, .int .i64 (Mf.get s).2], [.cells true (sgsA (Mf.get s).1.segs)]) else none
  | _ => none

theorem mget_sound : Sound Try.prog 28 mgetS := by
  refine sound_new (enter_of Try.func28 rfl (by decide)) fun args v H' h => ?_
  split at h <;> try cases h
  rename_i s
  split at h <;> cases h
  rename_i hc
  exact ⟨mget_ct s hc, by simp, by simp⟩

end Go.Proofs.Ytbbgmaklmlagcaa

namespace Go.Proofs.Ytbbgmaklmlagcaa
open Go
set_option maxRecDepth 100000
attribute [-simp] drawOk_eq adraw qrun acode aops

theorem rgtΓ_ok : GOk Try.prog (gams [(42, ropenS), (107, rowS), (108, numS), (41, mrightS)]) :=
  goks_cons ropen_sound (goks_cons rrow_sound (goks_cons rnum_sound (goks_cons rright_sound goks_nil)))

set_option maxHeartbeats 16000000 in
theorem rmget_ct (s : List UInt8) (hs : s.length ≤ 1000000000000) :
    Ct Try.prog 81 [.str s] [] (.tuple [mfA 0 (Mf.get s).1, .int .i64 (Mf.get s).2]) [.cells true (sgsA (Mf.get s).1.segs)] := by
  have hΓ := rgtΓ_ok
  cases ho : Cr.openOk s
  · have e : Mf.get s = (Mf.zero, 16) := by unfold Mf.get; rw [if_pos ho]
    rw [e]
    refine ct_runE hmix hΓ (n := 3) Try.func81 ?_
    unfold Try.f81
    exact ⟨_, _, (by simp [ropenS, rowS, hs, ho]; exact ⟨rfl, rfl⟩), Weak.mk' [100] (by decide) rfl (by simp [mfA, Mf.zero]) (by simp)⟩
  obtain ⟨b, hb⟩ : ∃ b, s.take (s.length - 4) = b := ⟨_, rfl⟩
  have bl : b.length ≤ 1000000000000 := by rw [← hb]; simp; omega
  by_cases h3 : b.length < 3
  · have e : Mf.get s = (Mf.zero, 3) := by unfold Mf.get; rw [if_neg (by simp [ho]), hb, if_pos h3]
    have h3i : (b.length : Int) < 3 := by omega
    rw [e]
    refine ct_runE hmix hΓ (n := 3) Try.func81 ?_
    unfold Try.f81
    exact ⟨_, _, (by simp [ropenS, rowS, hs, ho, hb, h3i]; exact ⟨rfl, rfl⟩), Weak.mk' [100] (by decide) rfl (by simp [mfA, Mf.zero]) (by simp)⟩
  have h3i : ¬ (b.length : Int) < 3 := by omega
  have h3n : 3 ≤ b.length := by omega
  have h3j : (3 : Int) ≤ (b.length : Int) := by omega
  by_cases hm : b.take 3 = [67, 77, 1]
  rotate_left
  · have e : Mf.get s = (Mf.zero, 6) := by unfold Mf.get; rw [if_neg (by simp [ho]), hb, if_neg h3, if_pos hm]
    rw [e]
    refine ct_runE hmix hΓ (n := 3) Try.func81 ?_
    unfold Try.f81
    exact ⟨_, _, (by simp [ropenS, rowS, hs, ho, hb, h3i, h3j, hm]; exact ⟨rfl, rfl⟩), Weak.mk' [100] (by decide) rfl (by simp [mfA, Mf.zero]) (by simp)⟩
  have e : Mf.get s = Mf.read (b.drop 3) := by unfold Mf.get; rw [if_neg (by simp [ho]), hb, if_neg h3, if_neg (by simpa using hm)]
  rw [e]
  clear e
  have rel := fun n p h => Vy.row_rel b 3 h3n n p h
  obtain ⟨r, hr⟩ : ∃ r, b.drop 3 = r := ⟨_, rfl⟩
  have rl : r.length = b.length - 3 := by rw [← hr]; simp
  rw [hr] at rel ⊢
  unfold Mf.read
  obtain ⟨⟨l4, x4, e4⟩, h4⟩ : ∃ q, Vy.row r 0 4 = q := ⟨_, rfl⟩
  have g4 : Vy.row b 3 4 = (l4, 3 + x4, e4) := by have := rel 4 0 (by omega); simpa [h4] using this
  rw [h4]
  simp only
  by_cases he : e4 = 0
  rotate_left
  · rw [if_pos he]
    refine ct_runE hmix hΓ (n := 3) Try.func81 ?_
    unfold Try.f81
    exact ⟨_, _, (by simp [ropenS, rowS, hs, ho, hb, bl, h3i, h3j, hm, g4, he]; exact ⟨rfl, rfl⟩), Weak.mk' [100] (by decide) rfl (by simp [mfA, Mf.zero]) (by simp)⟩
  subst he
  have hl4 := Vy.row_length _ _ _ _ _ h4
  obtain ⟨hl4, hx4⟩ := hl4
  have hx4 := hx4 (by decide)
  obtain ⟨d0, d1, d2, d, rfl⟩ : ∃ a b c d, l4 = [a, b, c, d] := by
    match l4, hl4 with
    | [a, b, c, d], _ => exact ⟨a, b, c, d, rfl⟩
  rw [if_neg (by simp)]
  simp only [List.getD_cons_succ, List.getD_cons_zero]
  by_cases hd : 1000 < d
  · have hdi : (1000 : Int) < (d : Int) := by omega
    rw [if_pos hd]
    refine ct_runE hmix hΓ (n := 3) Try.func81 ?_
    unfold Try.f81
    exact ⟨_, _, (by simp [ropenS, rowS, hs, ho, hb, bl, h3i, h3j, hm, g4, aU, hdi]; exact ⟨rfl, rfl⟩), Weak.mk' [100] (by decide) rfl (by simp [mfA, Mf.zero]) (by simp)⟩
  have hdi : ¬ (1000 : Int) < (d : Int) := by omega
  rw [if_neg hd]
  have w0 : IntKind.i64.wrap (d : Int) = d := wr_i64 (by omega) (by omega)
  have w1 : IntKind.i64.wrap (3 * (d : Int)) = 3 * d := wr_i64 (by omega) (by omega)
  have t3 : (3 * (d : Int)).toNat = 3 * d := by omega
  have b4 : (0 : Int) ≤ 3 * (d : Int) := by omega
  have b5 : 3 * (d : Int) ≤ 1000000000 := by omega
  obtain ⟨⟨L, y, e2⟩, h5⟩ : ∃ q, Vy.row r x4 (3 * d) = q := ⟨_, rfl⟩
  have g5 : Vy.row b (3 + x4) (3 * d) = (L, 3 + y, e2) := by
    have := rel (3 * d) x4.toNat (by omega)
    rw [show ((x4.toNat : Nat) : Int) = x4 by omega, h5] at this
    exact this
  rw [h5]
  simp only
  by_cases he : e2 = 0
  rotate_left
  · rw [if_pos he]
    refine ct_runE hmix hΓ (n := 3) Try.func81 ?_
    unfold Try.f81
    exact ⟨_, _, (by simp [ropenS, rowS, hs, ho, hb, bl, h3i, h3j, hm, g4, aU, hdi, w0, w1, t3, b4, b5, g5, he]; exact ⟨rfl, rfl⟩), Weak.mk' [100] (by decide) rfl (by simp [mfA, Mf.zero]) (by simp)⟩
  subst he
  have hL := (Vy.row_length _ _ _ _ _ h5).1
  rw [if_neg (by simp)]
  by_cases hy : y < r.length
  · have hyi : 3 + y < (b.length : Int) := by omega
    rw [if_pos hy]
    refine ct_runE hmix hΓ (n := 3) Try.func81 ?_
    unfold Try.f81
    exact ⟨_, _, (by simp [ropenS, rowS, hs, ho, hb, bl, h3i, h3j, hm, g4, aU, hdi, w0, w1, t3, b4, b5, g5, hyi]; exact ⟨rfl, rfl⟩), Weak.mk' [100] (by decide) rfl (by simp [mfA, Mf.zero]) (by simp)⟩
  have hyi : ¬ 3 + y < (b.length : Int) := by omega
  rw [if_neg hy]
  have eM : Mf.ofN ([d0, d1, d2, d] ++ L) = ⟨numI d0, numI d1, numI d2, toSgs L⟩ := rfl
  rw [eM]
  refine ct_of_sim Try.func81 rfl ?_
  simp only [Try.ntmps81, List.length_cons, List.length_nil, Nat.reduceAdd, Nat.reduceSub, List.replicate, List.cons_append, List.nil_append]
  refine Sim.step hmix hΓ (n := 0) (by simp [ropenS, rowS]; exact ⟨rfl, rfl⟩) (by simp) ?_
  refine Sim.step hmix hΓ (n := 0) (by simp [ropenS, rowS, hs, ho, hb]; exact ⟨rfl, rfl⟩) (by simp) ?_
  refine Sim.step hmix hΓ (n := 0) (by simp [ropenS, rowS]; exact ⟨rfl, rfl⟩) (by simp) ?_
  refine Sim.step hmix hΓ (n := 0) (by simp [ropenS, rowS, h3i]; exact ⟨rfl, rfl⟩) (by simp) ?_
  refine Sim.step hmix hΓ (n := 0) (by simp [ropenS, rowS, h3j, hm]; exact ⟨rfl, rfl⟩) (by simp) ?_
  refine Sim.step hmix hΓ (n := 0) (by simp [ropenS, rowS, bl, g4, aU]; exact ⟨rfl, rfl⟩) (by simp) ?_
  refine Sim.step hmix hΓ (n := 0) (by simp [ropenS, rowS]; exact ⟨rfl, rfl⟩) (by simp) ?_
  refine Sim.step hmix hΓ (n := 0) (by simp [ropenS, rowS, hdi]; exact ⟨rfl, rfl⟩) (by simp) ?_
  refine Sim.step hmix hΓ (n := 0) (by simp [ropenS, rowS, bl, w0, w1, t3, b4, b5, g5, hL]; exact ⟨rfl, rfl⟩) (by simp) ?_
  refine Sim.step hmix hΓ (n := 0) (by simp [ropenS, rowS]; exact ⟨rfl, rfl⟩) (by simp) ?_
  refine Sim.step hmix hΓ (n := 0) (by simp [ropenS, rowS, hyi]; exact ⟨rfl, rfl⟩) (by simp) ?_
  refine Sim.step hmix hΓ (n := 0) (by simp (decide := true) [numS]; first | exact ⟨rfl, rfl⟩ | exact ⟨by kernel_rfl, rfl, rfl⟩) (by simp) ?_
  refine Sim.seq (Sim.step hmix hΓ (n := 0) (by simp; exact ⟨rfl, rfl⟩) (by simp) ?_)
  refine Sim.block (Sim.loopW (fun p : Nat × Nat => p.1 ≤ d ∧ p.2 = p.1 * 3)
    (fun p => [.top, .top, .ptr 0 0, .top, .top, .top, .top, .top, .top, .sl 1 0 (3 * d) 1 false, .top, .ptr 2 0, .int .i64 (p.2 : Nat)] ++ List.replicate 100 .top)
    (fun p => [.cells true [.int .i64 0, .int .i64 0, .int .i64 0, .nils], .cells true (L.map aU), .cells true [.int .i64 (numI d0), .int .i64 (numI d1), .int .i64 (numI d2), .sl 3 0 p.1 3 false], .cells true (sgsA (toSgs (L.take p.2)))]) (fun p => d - p.1) (0, 0) (by simp) ⟨Nat.zero_le _, rfl⟩ ?_ fun p hp => ?_)
  · exact Weak.mk' [0, 2, 3, 100] (by decide) (by decide) (by simp) (by simp)
  obtain ⟨j, i⟩ := p
  obtain ⟨hj, hi⟩ := hp
  simp only at hj hi ⊢
  have c0 : IntKind.i64.wrap ((i : Int) + 2) = i + 2 := wr_i64 (by omega) (by omega)
  by_cases hlt : j < d
  · have c1 : (i : Int) + 2 < 3 * (d : Int) := by omega
    have k1 : IntKind.i64.wrap ((i : Int) + 1) = i + 1 := wr_i64 (by omega) (by omega)
    have k3 : IntKind.i64.wrap ((i : Int) + 3) = i + 3 := wr_i64 (by omega) (by omega)
    obtain ⟨a, ha⟩ : ∃ a, L[i]? = some a := ⟨_, List.getElem?_eq_getElem (by omega)⟩
    obtain ⟨b', hb'⟩ : ∃ b, L[i + 1]? = some b := ⟨_, List.getElem?_eq_getElem (by omega)⟩
    obtain ⟨c, hc⟩ : ∃ c, L[i + 2]? = some c := ⟨_, List.getElem?_eq_getElem (by omega)⟩
    have qa : ∀ h : i < L.length, L[i]'h = a := fun h => by rw [List.getElem?_eq_getElem h] at ha; exact Option.some.inj ha
    have qb : ∀ h : i + 1 < L.length, L[i + 1]'h = b' := fun h => by rw [List.getElem?_eq_getElem h] at hb'; exact Option.some.inj hb'
    have qc : ∀ h : i + 2 < L.length, L[i + 2]'h = c := fun h => by rw [List.getElem?_eq_getElem h] at hc; exact Option.some.inj hc
    have la : i < 3 * d := by omega
    have lb : i + 1 < 3 * d := by omega
    have lc : i + 2 < 3 * d := by omega
    have la' : i < L.length := by omega
    have lb' : i + 1 < L.length := by omega
    have lc' : i + 2 < L.length := by omega
    have la2 : (i : Int) < 3 * (d : Int) := by omega
    have lb2 : (i : Int) + 1 < 3 * (d : Int) := by omega
    have z1 : (0 : Int) ≤ (i : Int) + 1 := by omega
    have z2 : (0 : Int) ≤ (i : Int) + 2 := by omega
    have n1 : ((i : Int) + 1).toNat = i + 1 := by omega
    have n2 : ((i : Int) + 2).toNat = i + 2 := by omega
    have ht : L.take (i + 3) = L.take i ++ [a, b', c] := by
      rw [show i + 3 = i + 1 + 1 + 1 from rfl, List.take_add_one, List.take_add_one, List.take_add_one, ha, hb', hc]
      simp
    have hst : toSgs (L.take (i + 3)) = toSgs (L.take i) ++ [(numI a, numI b', numI c)] := by
      rw [ht]; exact toSgs_snoc a b' c j _ (by simp; omega)
    obtain ⟨T, eT⟩ : ∃ T, toSgs (L.take i) = T := ⟨_, rfl⟩
    have lT : T.length = j := by rw [← eT]; exact toSgs_length j _ (by simp; omega)
    rw [eT] at hst ⊢
    have tkT : (sgsA T).take (j * 3) = sgsA T := List.take_of_length_le (by simp; omega)
    have s1 : (j + 1) * 24 ≤ 140737488355328 := by omega
    have s2 : j + 1 ≤ 9223372036854775807 := by omega
    refine Sim.step hmix hΓ (n := 0) (by simp [c0, c1]; exact ⟨rfl, rfl⟩) (by simp) ?_
    refine Sim.seq (Sim.block (Sim.draw hmix (by simp) ?_))
    refine SimR.many hΓ 21 (by simp [stageOps]; rfl) (by omega) (by kernel_rfl) (by simp (decide := true) [numS, aU, c0, c1, k1, qa, qb, qc, la', lb', lc', la2, lb2, z1, z2, n1, n2]; first | exact ⟨rfl, rfl⟩ | exact ⟨by kernel_rfl, rfl, rfl⟩) ?_
    refine SimR.one hΓ _ rfl (by kernel_rfl) (by simp (decide := true) [lT, tkT, s1, s2]; exact ⟨rfl, rfl⟩) ?_
    refine SimR.many hΓ 24 (by simp [stageOps, blankOp]; rfl) (by omega) (by kernel_rfl) (by simp (decide := true); first | exact ⟨rfl, rfl⟩ | exact ⟨by kernel_rfl, rfl, rfl⟩) ?_
    refine SimR.done rfl ?_
    dsimp only
    refine Sim.exec hmix hΓ (n := 0) (by simp [k3]; exact ⟨rfl, rfl, rfl⟩) (by simp) ?_
    exact ⟨(j + 1, i + 3), ⟨by simp only; omega, by simp only; omega⟩, Weak.mk' [0, 1, 2, 5] (by decide) (by decide) (by simp) (by simp [hst, sgA, sgsA]), by simp only; omega⟩
  have c1 : ¬ ((i : Int) + 2 < 3 * (d : Int)) := by omega
  have hjd : j = d := by omega
  have ht : L.take i = L := List.take_of_length_le (by omega)
  rw [ht]
  subst hjd
  refine Sim.exec hmix hΓ (n := 0) (by simp [c0, c1]; exact ⟨rfl, rfl, rfl⟩) (by simp) ?_
  dsimp only
  rw [if_pos rfl]
  have lS : (toSgs L).length = j := toSgs_length j _ (by omega)
  have lS2 : j ≤ 1000000000000 := by omega
  obtain ⟨S, eS⟩ : ∃ S, toSgs L = S := ⟨_, rfl⟩
  rw [eS] at lS ⊢
  have sg : rowSgs [.cells true [.int .i64 0, .int .i64 0, .int .i64 0, .nils], .cells true (L.map aU), .cells true [.int .i64 (numI d0), .int .i64 (numI d1), .int .i64 (numI d2), .sl 3 0 j 3 false], .cells true (sgsA S)] (.sl 3 0 j 3 false) = some S := by subst lS; simp [rowSgs]
  cases hR : Mf.right ⟨numI d0, numI d1, numI d2, S⟩
  · rw [if_neg (by simp)]
    refine Sim.exec hmix hΓ (n := 0) (by simp [mrightS, sg, hR, lS, lS2]; exact ⟨rfl, rfl, rfl⟩) (by simp) ?_
    exact ⟨.inr rfl, _, by simp [Try.f81] <;> rfl, Weak.mk' [100] (by decide) (by decide) (by simp [mfA, Mf.zero]) (by simp)⟩
  · rw [if_pos rfl]
    refine Sim.exec hmix hΓ (n := 0) (by simp [mrightS, sg, hR, lS, lS2]; exact ⟨rfl, rfl, rfl⟩) (by simp) ?_
    exact ⟨.inr rfl, _, by simp [Try.f81] <;> rfl, Weak.mk' [3] (by decide) (by decide) (by simp [mfA, lS]) (by simp)⟩

theorem rmget_sound : Sound Try.prog 81 mgetS := by
  refine sound_new (enter_of Try.func81 rfl (by decide)) fun args v H' h => ?_
  split at h <;> try cases h
  rename_i s
  split at h <;> cases h
  rename_i hc
  exact ⟨rmget_ct s hc, by simp, by simp⟩

end Go.Proofs.Ytbbgmaklmlagcaa

namespace Go.Proofs.Ytbbgmaklmlagcaa
open Go
set_option maxRecDepth 100000
attribute [-simp] drawOk_eq adraw qrun acode aops

def alInl : List FuncId := [22]
theorem alΓ_ok : GOk Try.prog (runG Try.prog (gams [(28, mgetS), (81, mgetS), (21, msameS)]) 0 alInl 1) :=
  gok_run hmix (goks_cons mget_sound (goks_cons rmget_sound (goks_cons rsame_sound goks_nil))) 0 alInl 1

theorem Mf.read_few (r : List UInt8) : (Mf.read r).1.segs.length ≤ 1000 := by
  have z : Mf.zero.segs.length ≤ 1000 := by simp [Mf.zero]
  unfold Mf.read
  obtain ⟨⟨l4, x4, e4⟩, h4⟩ : ∃ q, Vy.row r 0 4 = q := ⟨_, rfl⟩
  rw [h4]
  simp only
  obtain ⟨⟨L, y, e2⟩, h5⟩ : ∃ q, Vy.row r x4 (3 * l4.getD 3 0) = q := ⟨_, rfl⟩
  rw [h5]
  simp only
  by_cases h1 : e4 = 0
  rotate_left
  · rw [if_pos h1]; exact z
  subst h1
  have a1 := (Vy.row_length _ _ _ _ _ h4).1
  rw [if_neg (by simp)]
  by_cases h2 : 1000 < l4.getD 3 0
  · rw [if_pos h2]; exact z
  rw [if_neg h2]
  by_cases h3 : e2 = 0
  rotate_left
  · rw [if_pos h3]; exact z
  subst h3
  have a2 := (Vy.row_length _ _ _ _ _ h5).1
  rw [if_neg (by simp)]
  split
  · exact z
  split
  · simp only [Mf.ofN]
    rw [toSgs_length (l4.getD 3 0) _ (by simp only [List.length_drop, List.length_append]; omega)]
    omega
  · exact z

theorem Mf.get_few (s : List UInt8) : (Mf.get s).1.segs.length ≤ 1000 := by
  have z : Mf.zero.segs.length ≤ 1000 := by simp [Mf.zero]
  unfold Mf.get
  split
  · exact z
  split
  · exact z
  split
  · exact z
  · exact Mf.read_few _

set_option maxHeartbeats 8000000 in
theorem alike_ct (s : List UInt8) (hs : s.length ≤ 1000000000000) : Ct Try.prog 43 [.str s] [] (.bool true) [] := by
  have hf := Mf.get_few s
  obtain ⟨⟨⟨mv, mf, mn, S⟩, e⟩, hr⟩ : ∃ r, Mf.get s = r := ⟨_, rfl⟩
  rw [hr] at hf
  simp only at hf
  have h1 : S.length ≤ 1000000000000 := by omega
  refine ct_runE hmix alΓ_ok (n := 0) Try.func43 ?_
  unfold Try.f43
  exact ⟨_, _, (by simp (decide := true) [alInl, Try.f22, mgetS, msameS, rowSgs, mfA, hs, hr, h1, free, scA]; exact ⟨rfl, rfl⟩), Weak.mk' [] (by decide) rfl (by simp) (by simp)⟩

def alikeS : Summ := pureS fun | [.str s] => if s.length ≤ 1000000000000 then some (.bool true) else none | _ => none
theorem alike_sound : Sound Try.prog 43 alikeS := by
  refine sound_pure (enter_of Try.func43 rfl (by decide)) fun args v h => ?_
  split at h <;> try cases h
  rename_i s
  split at h <;> cases h
  exact ⟨alike_ct s ‹_›, by simp, by simp⟩

end Go.Proofs.Ytbbgmaklmlagcaa

