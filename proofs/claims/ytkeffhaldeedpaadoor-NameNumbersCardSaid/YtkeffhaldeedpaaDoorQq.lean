/- Names: made (the names of a row of numbers). -/
import Derived.Test.YtkeffhaldeedpaaDoorQo
import Derived.Test.YtkeffhaldeedpaaDoorQl
namespace Go.Proofs.YtkeffhaldeedpaaDoor
open Go Go.Lib
set_option maxRecDepth 100000
attribute [-simp] drawOk_eq adraw qrun acode aops

def u32sA (zs : List Int) : List AV := zs.map (AV.int .u32)
@[simp] theorem u32sA_length (zs : List Int) : (u32sA zs).length = zs.length := by simp [u32sA]
theorem frees_u32s (a : List Int) : frees (u32sA a) = true := frees_map _ _ fun _ => rfl
def u32sOf : List AV → Option (List Int)
  | [] => some []
  | .int .u32 n :: l => (u32sOf l).map (n :: ·)
  | _ => none
@[simp] theorem u32sOf_u32sA : ∀ zs : List Int, u32sOf (u32sA zs) = some zs
  | [] => rfl
  | z :: zs => by
    have := u32sOf_u32sA zs
    simp only [u32sA, List.map_cons, u32sOf] at this ⊢
    rw [this]; rfl
theorem u32sOf_eq : ∀ {l : List AV} {zs : List Int}, u32sOf l = some zs → l = u32sA zs
  | [], zs, h => by cases h; rfl
  | x :: l, zs, h => by
    unfold u32sOf at h
    split at h
    · rename_i h1; cases h1
    · rename_i n l' h1
      cases h1
      obtain ⟨ys, h2, rfl⟩ := Option.map_eq_some_iff.1 h
      rw [u32sOf_eq h2]; rfl
    · cases h

/-- The numbers of a row. -/
def rowU (H : AHeap) : AV → Option (List Int)
  | .nils => some []
  | .slice b off len 1 _ => match H[b]? with
    | some (.cells _ l) => if off + len ≤ l.length then u32sOf ((l.drop off).take len) else none
    | _ => none
  | .sl b off len 1 _ => match H[b]? with
    | some (.cells _ l) => if off + len ≤ l.length then u32sOf ((l.drop off).take len) else none
    | _ => none
  | _ => none

theorem rowU_win {H : AHeap} {x : AV} {a : List Int} (h : rowU H x = some a) : ∃ b off, (∀ (i : Nat) (wd : List (Nat × Nat)), wd[i]? = some (b, off) → winA wd (.sl i 0 a.length 1 false) x) ∧
    (match H[b]? with | some (.cells _ l) => off + (u32sA a).length ≤ l.length ∧ u32sA a = (l.drop off).take (u32sA a).length | none => True | _ => False) := by
  have key : ∀ (b off len : Nat) (o : Bool) (l : List AV), H[b]? = some (.cells o l) → off + len ≤ l.length → u32sOf ((l.drop off).take len) = some a → len = a.length ∧ off + (u32sA a).length ≤ l.length ∧ u32sA a = (l.drop off).take (u32sA a).length := by
    intro b off len o l hb hle hs
    have e := u32sOf_eq hs
    have hlen : len = a.length := by
      have := congrArg List.length e
      simp at this
      omega
    subst hlen
    exact ⟨rfl, by simpa using hle, by rw [u32sA_length]; exact e.symm⟩
  unfold rowU at h
  split at h
  · cases h
    exact ⟨H.length, 0, fun i wd _ => by simp [winA], by simp⟩
  · rename_i b off len c
    split at h
    rotate_left
    · cases h
    rename_i o l hb
    split at h
    rotate_left
    · cases h
    rename_i hle
    obtain ⟨rfl, h1, h2⟩ := key b off len o l hb hle h
    exact ⟨b, off, fun i wd hw => by simp [winA, hw], by rw [hb]; exact ⟨h1, h2⟩⟩
  · rename_i b off len c
    split at h
    rotate_left
    · cases h
    rename_i o l hb
    split at h
    rotate_left
    · cases h
    rename_i hle
    obtain ⟨rfl, h1, h2⟩ := key b off len o l hb hle h
    exact ⟨b, off, fun i wd hw => by simp [winA, hw], by rw [hb]; exact ⟨h1, h2⟩⟩
  · cases h


theorem row_u32s : ∀ {n : Nat} {l : List AV}, All2 PrimA (List.replicate n [Prim.int .u32]).flatten l → ∃ zs : List Int, l = u32sA zs ∧ zs.length = n ∧ ∀ z ∈ zs, 0 ≤ z ∧ z < 4294967296
  | 0, [], _ => ⟨[], rfl, rfl, by simp⟩
  | n + 1, x :: l, h => by
    rw [List.replicate_succ, List.flatten_cons] at h
    obtain ⟨a, rfl, ha⟩ := h.1
    obtain ⟨zs, rfl, hl, hq⟩ := row_u32s (n := n) (l := l) h.2
    have ba := bounds_u32 ha
    refine ⟨a :: zs, rfl, by simp [hl], fun x hx => ?_⟩
    rcases List.mem_cons.1 hx with rfl | hx
    · exact ⟨ba.1, by omega⟩
    · exact hq x hx
  | 0, _ :: _, h => h.elim
  | n + 1, [], h => by
    rw [List.replicate_succ, List.flatten_cons] at h
    exact h.elim

def madeOne (k z : Int) : List (List UInt8) := [mk k (1 + z.tmod 1000000000), mk (7 - k) (1 + z.tmod 1000000000 + 1), manifW]
def madeN (k : Int) (zs : List Int) (o : List UInt8) : List (List UInt8) := o.take 20 :: ((zs.take 20).map (madeOne k)).flatten

theorem madeOne_length (k : Int) : ∀ zs : List Int, (zs.map (madeOne k)).flatten.length = 3 * zs.length
  | [] => rfl
  | z :: zs => by
    rw [List.map_cons, List.flatten_cons, List.length_append, madeOne_length k zs, List.length_cons]
    simp [madeOne]; omega
theorem madeN_length (k : Int) (zs : List Int) (o : List UInt8) : (madeN k zs o).length = 1 + 3 * min 20 zs.length := by
  unfold madeN
  rw [List.length_cons, madeOne_length, List.length_take]; omega
theorem madeN_each (k : Int) (zs : List Int) (o : List UInt8) : ∀ s ∈ madeN k zs o, s.length ≤ 40 := by
  intro s hs
  unfold madeN at hs
  rcases List.mem_cons.1 hs with rfl | hs
  · rw [List.length_take]; omega
  · obtain ⟨l, hl, hs⟩ := List.mem_flatten.1 hs
    obtain ⟨z, -, rfl⟩ := List.mem_map.1 hl
    unfold madeOne at hs
    simp only [List.mem_cons, List.not_mem_nil, or_false] at hs
    rcases hs with rfl | rfl | rfl
    · have := mk_length k (1 + z.tmod 1000000000); omega
    · have := mk_length (7 - k) (1 + z.tmod 1000000000 + 1); omega
    · decide
theorem made_snoc (k : Int) (zs : List Int) (i : Nat) (z : Int) (h : zs[i]? = some z) : ((zs.take (i + 1)).map (madeOne k)).flatten = ((zs.take i).map (madeOne k)).flatten ++ madeOne k z := by
  rw [List.take_add_one, h]; simp

theorem maΓ_ok : GOk Tryd.prog (gams [(10, mkS)]) := goks_cons make_sound goks_nil

set_option maxHeartbeats 16000000 in
theorem made_ct (k : Int) (hk : k = 3 ∨ k = 4) (zs : List Int) (hz : ∀ z ∈ zs, 0 ≤ z ∧ z < 4294967296) (hl : zs.length ≤ 9223372036854775807) (o : List UInt8) (ho : o.length ≤ 9223372036854775807) :
    Ct Tryd.prog 17 [.int .i64 k, .sl 0 0 zs.length 1 false, .str o] [.cells false (u32sA zs)] (.sl 1 0 (madeN k zs o).length 1 false) [.cells false (u32sA zs), .cells true ((madeN k zs o).map .str)] := by
  have hΓ := maΓ_ok
  have fu := frees_u32s zs
  obtain ⟨z0, ez⟩ : ∃ z : Nat, min (o.length : Int) 20 = z := ⟨min o.length 20, by omega⟩
  have z1 : z0 ≤ o.length := by omega
  have z2 : o.take z0 = o.take 20 := by
    by_cases h : o.length ≤ 20
    · rw [List.take_of_length_le (by omega), List.take_of_length_le h]
    · rw [show z0 = 20 by omega]
  refine ct_of_sim Tryd.func17 rfl ?_
  simp only [Tryd.ntmps17, List.length_cons, List.length_nil, Nat.reduceAdd, Nat.reduceSub, List.replicate, List.cons_append, List.nil_append]
  refine Sim.step hmix hΓ (n := 0) (by simp; exact ⟨rfl, rfl⟩) (by simp) ?_
  refine Sim.step hmix hΓ (n := 0) (by simp [-minA, minA_min, ez, z1, z2]; exact ⟨rfl, rfl⟩) (by simp) ?_
  refine Sim.seq (Sim.step hmix hΓ (n := 0) (by simp; exact ⟨rfl, rfl⟩) (by simp) ?_)
  refine Sim.block (Sim.loopW (fun i : Nat => i ≤ zs.length ∧ i ≤ 20)
    (fun i => [.int .i64 k, .sl 0 0 zs.length 1 false, .str o, .top, .top, .top, .top, .sl 1 0 (o.take 20 :: ((zs.take i).map (madeOne k)).flatten).length 1 false, .int .i64 i] ++ List.replicate 36 .top)
    (fun i => [.cells false (u32sA zs), .cells true ((o.take 20 :: ((zs.take i).map (madeOne k)).flatten).map .str)]) (fun i => 20 - i) 0 (by simp) (by omega) (Weak.mk' [0, 1] (by decide) (by decide) (by simp) (by simp [fu])) fun i hi => ?_)
  obtain ⟨hi1, hi2⟩ := hi
  obtain ⟨out, hout⟩ : ∃ out, o.take 20 :: ((zs.take i).map (madeOne k)).flatten = out := ⟨_, rfl⟩
  have hol : out.length = 1 + 3 * i := by rw [← hout, List.length_cons, madeOne_length, List.length_take]; omega
  rw [hout]
  by_cases hlt : i < zs.length ∧ i < 20
  · obtain ⟨hlt, h20⟩ := hlt
    have hlti : (i : Int) < zs.length := by omega
    have h20i : (i : Int) < 20 := by omega
    obtain ⟨z, hz1⟩ : ∃ z, zs[i] = z := ⟨_, rfl⟩
    have hz' : zs[i]? = some z := by rw [List.getElem?_eq_getElem hlt, hz1]
    have hzb := hz z (List.mem_of_getElem? hz')
    have hg : ∀ h, (u32sA zs)[i]'h = .int .u32 z := fun h => by simp [u32sA, hz1]
    have hw : IntKind.i64.wrap ((i : Int) + 1) = i + 1 := wr_i64 (by omega) (by omega)
    obtain ⟨r, hr⟩ : ∃ r : Nat, z.tmod 1000000000 = r := ⟨(z.tmod 1000000000).toNat, by rw [Int.tmod_eq_emod_of_nonneg hzb.1]; omega⟩
    have hr2 : r < 1000000000 := by rw [Int.tmod_eq_emod_of_nonneg hzb.1] at hr; omega
    have v1 : IntKind.i64.wrap z = z := wr_i64 (by omega) (by omega)
    have v2 : IntKind.i64.wrap (r : Int) = r := wr_i64 (by omega) (by omega)
    have v3 : IntKind.i64.wrap (1 + (r : Int)) = 1 + r := wr_i64 (by omega) (by omega)
    have v4 : IntKind.i64.wrap (1 + (r : Int) + 1) = 1 + (r : Int) + 1 := wr_i64 (by omega) (by omega)
    have v5 : IntKind.i64.wrap (7 - k) = 7 - k := wr_i64 (by omega) (by omega)
    obtain ⟨x1, hx1⟩ : ∃ x, mk k (1 + (r : Int)) = x := ⟨_, rfl⟩
    obtain ⟨x2, hx2⟩ : ∃ x, mk (7 - k) (1 + (r : Int) + 1) = x := ⟨_, rfl⟩
    have hone : madeOne k z = [x1, x2, [109, 97, 110, 105, 102, 101, 115, 116]] := by unfold madeOne; rw [hr, hx1, hx2]; rfl
    have hnext := made_snoc k zs i z hz'
    have hnx : o.take 20 :: ((zs.take (i + 1)).map (madeOne k)).flatten = out ++ [x1, x2, [109, 97, 110, 105, 102, 101, 115, 116]] := by rw [hnext, hone, ← hout]; rfl
    have htk : List.take out.length (out.map AV.str) = out.map AV.str := List.take_of_length_le (by simp)
    have b1 : (out.length + 3) * 16 ≤ 140737488355328 := by omega
    have b2 : out.length + 3 ≤ 9223372036854775807 := by omega
    refine Sim.step hmix hΓ (n := 0) (by simp [hlti, h20i]; exact ⟨rfl, rfl⟩) (by simp) ?_
    refine Sim.seq (Sim.block ?_)
    refine Sim.step hmix hΓ (n := 0) (by simp [hlt, hg, v1, v3, hr]; exact ⟨rfl, rfl⟩) (by simp) ?_
    refine Sim.exec hmix hΓ (n := 0) (by simp (decide := true) [mkS, v4, v5, hx1, hx2, b1, b2, htk]; exact ⟨rfl, rfl, rfl⟩) (by simp) ?_
    dsimp only
    refine Sim.exec hmix hΓ (n := 0) (by simp [hw]; exact ⟨rfl, rfl, rfl⟩) (by simp) ?_
    dsimp only
    exact ⟨i + 1, ⟨by omega, by omega⟩, by rw [hnx]; exact Weak.mk' [0, 3] (by decide) (by decide) (by simp) (by simp [fu]), by omega⟩
  · have hend : o.take 20 :: ((zs.take 20).map (madeOne k)).flatten = out := by
      rw [← hout]
      by_cases h : i < zs.length
      · rw [show i = 20 by omega]
      · rw [show zs.take 20 = zs from List.take_of_length_le (by omega), show zs.take i = zs from List.take_of_length_le (by omega)]
    have hm : madeN k zs o = out := hend
    rw [hm]
    by_cases h1 : i < zs.length
    · have hlti : (i : Int) < zs.length := by omega
      have h20i : ¬ (i : Int) < 20 := by omega
      refine Sim.exec hmix hΓ (n := 0) (by simp [hlti, h20i]; exact ⟨rfl, rfl, rfl⟩) (by simp) ?_
      dsimp only
      rw [if_pos rfl]
      refine Sim.exec hmix hΓ (n := 0) (by simp; exact ⟨rfl, rfl, rfl⟩) (by simp) ?_
      exact ⟨.inr rfl, _, by simp [Tryd.f17] <;> rfl, Weak.mk' [0, 1] (by decide) (by decide) (by simp) (by simp [fu])⟩
    · have hlti : ¬ (i : Int) < zs.length := by omega
      refine Sim.exec hmix hΓ (n := 0) (by simp [hlti]; exact ⟨rfl, rfl, rfl⟩) (by simp) ?_
      dsimp only
      rw [if_pos rfl]
      refine Sim.exec hmix hΓ (n := 0) (by simp; exact ⟨rfl, rfl, rfl⟩) (by simp) ?_
      exact ⟨.inr rfl, _, by simp [Tryd.f17] <;> rfl, Weak.mk' [0, 1] (by decide) (by decide) (by simp) (by simp [fu])⟩

def madeS : Summ := readNewS fun args H => match args with
  | [.int .i64 k, x, .str o] => match rowU H x with
    | some zs => if (k = 3 ∨ k = 4) ∧ (zs.all fun z => decide (0 ≤ z ∧ z < 4294967296)) = true ∧ zs.length ≤ 9223372036854775807 ∧ o.length ≤ 9223372036854775807 then some (.sl 0 0 (madeN k zs o).length 1 false, [.cells true ((madeN k zs o).map .str)]) else none
    | none => none
  | _ => none

theorem made_sound : Sound Tryd.prog 17 madeS := by
  refine sound_readNew (enter_of Tryd.func17 rfl (by decide)) fun args H v N h => ?_
  split at h <;> try cases h
  rename_i k x o
  split at h <;> try cases h
  rename_i zs hx
  split at h <;> cases h
  rename_i hc
  obtain ⟨b1, o1, w1, g1⟩ := rowU_win hx
  refine ct_winN (H0 := [.cells false (u32sA zs)]) (args0 := [.int .i64 k, .sl 0 0 zs.length 1 false, .str o]) ?_ rfl [(b1, o1)] ⟨by simp [winA], w1 0 _ rfl, by simp [winA], trivial⟩ ⟨g1, frees_u32s _, trivial⟩
  have := made_ct k hc.1 zs (fun z hz => by simpa using List.all_eq_true.1 hc.2.1 z hz) hc.2.2.1 o hc.2.2.2
  have fs : frees ((madeN k zs o).map AV.str) = true := frees_map _ _ fun _ => rfl
  simpa [shAs_free _ _ fs] using this

end Go.Proofs.YtkeffhaldeedpaaDoor
