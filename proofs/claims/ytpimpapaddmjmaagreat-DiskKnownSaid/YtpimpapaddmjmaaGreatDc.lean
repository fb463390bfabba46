/- (*disk.Disk).Copy: a map whose keys are numbers is copied, and its keys are had in whatever order. -/
import Derived.Test.YtpimpapaddmjmaaGreatIt
import Derived.Test.YtpimpapaddmjmaaGreatBz
import Derived.Shelf.SlIterI.Collect
namespace Go.Proofs.YtpimpapaddmjmaaGreat
open Go.RowKit Go.Maps Go.Sort Go.Shelf
set_option maxRecDepth 100000

/-! Orders -/

def insAll (x : Int) : List Int → List (List Int)
  | [] => [[x]]
  | y :: l => (x :: y :: l) :: (insAll x l).map (y :: ·)

def permsL : List Int → List (List Int)
  | [] => [[]]
  | x :: l => (permsL l).flatMap (insAll x)

theorem insAll_mem (x : Int) : ∀ a b : List Int, a ++ x :: b ∈ insAll x (a ++ b)
  | [], [] => by simp [insAll]
  | [], y :: b => by simp [insAll]
  | y :: a, b => by
    simp only [List.cons_append, insAll, List.mem_cons, List.mem_map]
    exact .inr ⟨_, insAll_mem x a b, rfl⟩

theorem permsL_mem : ∀ (ks σ : List Int), σ.Perm ks → σ ∈ permsL ks
  | [], σ, h => by simp [permsL, h.eq_nil]
  | x :: l, σ, h => by
    obtain ⟨a, b, rfl⟩ := List.append_of_mem (h.symm.subset (List.mem_cons_self ..))
    have h2 : (a ++ b).Perm l := (List.perm_middle.symm.trans h).cons_inv
    exact List.mem_flatMap.2 ⟨_, permsL_mem l _ h2, insAll_mem x a b⟩

/-! Keys that are numbers -/

def intsA : List AV → Option (List Int)
  | [] => some []
  | .int .i64 n :: l => (intsA l).map (n :: ·)
  | _ => none

theorem intsA_eq : ∀ {l : List AV} {ks : List Int}, intsA l = some ks → l = ks.map (.int .i64)
  | [], ks, h => by cases h; rfl
  | x :: l, ks, h => by
    unfold intsA at h
    split at h
    · cases h; simp_all
    · rename_i n l' e
      cases e
      obtain ⟨ks', h1, rfl⟩ := Option.map_eq_some_iff.1 h
      rw [intsA_eq h1]; rfl
    · cases h

theorem ints_at {es : List (AV × AV)} {ks : List Int} (h : intsA (es.map (·.1)) = some ks) : ks.length = es.length ∧ ∀ (i : Nat) x, es[i]? = some x → ∃ k, ks[i]? = some k ∧ x.1 = .int .i64 k := by
  have e := intsA_eq h
  have hl : ks.length = es.length := by
    have := congrArg List.length e
    simpa using this.symm
  refine ⟨hl, fun i x hx => ?_⟩
  have hi : i < ks.length := by rw [hl]; exact (List.getElem?_eq_some_iff.1 hx).1
  refine ⟨ks[i], List.getElem?_eq_getElem hi, ?_⟩
  have := congrArg (fun l => l[i]?) e
  simp only [List.getElem?_map, hx, List.getElem?_eq_getElem hi, Option.map_some, Option.some.injEq] at this
  exact this

theorem map_fitI {P : Program} {K : TypeId} (hK : P.underlying K = some (.int .i64)) {j : Inj} {es : List (AV × AV)} {ents : Array MapEntry} {cl : Nat} (hs : MapKept.Stamped ents cl) (hm : MRel j es ents.toList) {ks : List Int} (hk : intsA (es.map (·.1)) = some ks)
    (hb : ks.length ≤ 1000000 ∧ ∀ k ∈ ks, (Lit.int .i64 k).wf = true) {w : World} {b : Nat} (hw : w.heap[b]? = some (.map ents cl)) :
    ∃ D : DataW Unit, w.ownsMap P K anyR b ents.size D ∧ (intKeys D).Perm ks ∧ Maps.size D = ks.length := by
  obtain ⟨hl, hat⟩ := ints_at hk
  have key : ∀ x ∈ ents.toList, ∃ k, k ∈ ks ∧ x.key = .int .i64 k ∧ WideElems.rd P K (anyR (H := Unit)) x = some (.int .i64 k, .nil) := by
    intro x hx
    obtain ⟨i, hi⟩ := List.getElem?_of_mem hx
    have hil : i < es.length := by rw [hm.1]; exact (List.getElem?_eq_some_iff.1 hi).1
    obtain ⟨k, h1, h2⟩ := hat i _ (List.getElem?_eq_getElem hil)
    have h3 := (hm.2 i _ x (List.getElem?_eq_getElem hil) hi).1
    rw [h2] at h3
    simp only [VR] at h3
    have hkm := List.mem_of_getElem? h1
    refine ⟨k, hkm, h3, ?_⟩
    have hkl := hb.2 k hkm
    have : keyOf P K x.key = some (.int .i64 k) := by
      rw [h3]
      simp [keyOf, hK, mapKey, hkl]
    simp [WideElems.rd, this, anyR]
  have hperm : ((ents.toList.map (WideElems.rg P K (anyR (H := Unit)))).foldr DataW.insert []).Perm (ents.toList.map (WideElems.rg P K (anyR (H := Unit)))) := WideShapes.sorted_perm _
  have hkeys : (ents.toList.map (WideElems.rg P K (anyR (H := Unit)))).map (fun p => Go.intOf p.1) = ks := by
    refine List.ext_getElem? fun i => ?_
    simp only [List.getElem?_map]
    cases hx : ents.toList[i]? with
    | none =>
      have : ks.length ≤ i := by rw [hl, hm.1]; exact List.getElem?_eq_none_iff.1 hx
      rw [List.getElem?_eq_none this]
      rfl
    | some x =>
      obtain ⟨k, h1, h2, h3⟩ := key x (List.mem_of_getElem? hx)
      have hil : i < es.length := by rw [hm.1]; exact (List.getElem?_eq_some_iff.1 hx).1
      obtain ⟨k', h4, h5⟩ := hat i _ (List.getElem?_eq_getElem hil)
      have h6 := (hm.2 i _ x (List.getElem?_eq_getElem hil) hx).1
      rw [h5] at h6
      simp only [VR] at h6
      rw [h4]
      have e : k = k' := by
        rw [h2] at h6
        simpa using h6
      simp only [Option.map_some, WideElems.rg_of h3, e]
      rfl
  refine ⟨_, ⟨ents, cl, hw, ⟨?_, hs, fun x hx => ?_⟩, Nat.le_refl _, rfl⟩, ?_, ?_⟩
  · have := hm.1
    simp at this
    unfold maxLen
    omega
  · obtain ⟨k, _, _, h3⟩ := key x hx
    exact ⟨_, h3⟩
  · have := hperm.map (fun p => Go.intOf p.1)
    rw [hkeys] at this
    exact this
  · have := hperm.length_eq
    show List.length _ = _
    rw [this]
    rw [← hkeys]
    simp

/-- maps.Keys: a function over a box of the map. -/
def keysIS : Summ := fun args H => match args with
  | [.map b] => some (.func 78 [] [.ptr H.length 0], H ++ [.pin [.map b]], [])
  | _ => none

theorem keysI_sound : Sound Tryz.prog 44 keysIS := by
  refine ⟨enter_of Tryz.func44 rfl (by decide), fun args H v H' W h => ?_, fun args H v H' W h => ?_⟩ <;> (unfold keysIS at h; split at h <;> cases h)
  · rename_i b
    intro j w cargs hR hargs
    obtain ⟨a, cs, e, h1, h2⟩ := hargs
    simp only [VRs] at h2
    subst h2
    simp only [VR] at h1
    obtain ⟨p, hp, rfl⟩ := h1
    have ec : cargs = #[.map (some p.blk)] := by apply Array.ext'; rw [e]
    subst ec
    refine (callsIn_wide (n := 5)).1 ?_
    refine (AnyZI.keys_in Tryz.keys44 Fence.wide 5 trivial rfl (some p.blk) w).mono ?_
    rintro e w' ⟨rfl, rfl⟩
    have st := step_newO hR (x := .pin [.map b]) (.cells #[.map (some p.blk)] (Tryz.keys44_ren.t 23)) fun w' hw' => ⟨rfl, #[.map (some p.blk)], Tryz.keys44_ren.t 23, (0, 0), by rw [hw']; simp, fun i x hx => by
      have hi : i = 0 := by
        have := (List.getElem?_eq_some_iff.1 hx).1
        simpa using this
      subst hi
      cases hx
      exact ⟨.map (some p.blk), rfl, p, jput_le (hR.dom _ (Nat.le_refl _)) b p hp, rfl⟩⟩
    refine ⟨_, _, rfl, ?_, st⟩
    simp only [VR]
    exact ⟨#[], #[.pointer (some ⟨w.heap.size, 0, none⟩)], rfl, rfl, _, [], rfl, ⟨_, jput_same _ _ _, rfl⟩, rfl⟩
  · exact ⟨by simp, fun b hb _ => by rw [List.getElem?_append_left hb]⟩

theorem ints_vr (j : Inj) : ∀ l : List Int, VRs j (l.map (.int .i64)) (l.map encZ)
  | [] => rfl
  | x :: l => ⟨_, _, rfl, rfl, ints_vr j l⟩

/-- What slices.Collect hands back, for one order of the keys. -/
def collA (H : AHeap) (σ : List Int) : AV × AHeap :=
  if σ.length = 0 then (.nils, H) else (.slice H.length 0 σ.length 1 false, H ++ [.cells true (σ.map (.int .i64))])

/-- slices.Collect of a map's keys, in whatever order. -/
theorem collect_nd {j : Inj} {H : AHeap} {w : World} {cargs : Array Value} {b m : Nat} {es : List (AV × AV)} {ks : List Int} (hb : H[b]? = some (.pin [.map m])) (hm : H[m]? = some (.map es)) (hk : intsA (es.map (·.1)) = some ks)
    (hbd : ks.length ≤ 1000000 ∧ ∀ k ∈ ks, (Lit.int .i64 k).wf = true) (hR : R j H w) (hargs : VRs j [.func 78 [] [.ptr b 0]] cargs.toList) :
    Calls Tryz.prog 43 cargs w fun e w' => ∃ x ∈ (permsL ks).map (collA H), ∃ cv j', e = .returned cv ∧ VR j' x.1 cv ∧ Step H.length j H w j' x.2 w' := by
  obtain ⟨a, cs, e, h1, h2⟩ := hargs
  simp only [VRs] at h2
  subst h2
  simp only [VR, VRs] at h1
  obtain ⟨cx, cy, rfl, h3, u, us, h4, ⟨p, hp, rfl⟩, rfl⟩ := h1
  have ex : cx = #[] := by apply Array.ext'; rw [h3]
  subst ex
  obtain ⟨p0, bcs, T, fz, hbw, hbc⟩ := hR.blk b _ p hb hp
  have ey : cy = #[.pointer (some ⟨p.blk, 0, none⟩)] := by apply Array.ext'; rw [h4, p0]
  subst ey
  have ec : cargs = #[.func (.func 78) #[] #[.pointer (some ⟨p.blk, 0, none⟩)]] := by apply Array.ext'; rw [e]
  subst ec
  obtain ⟨vm, hvm, hvr⟩ := hbc 0 _ rfl
  simp only [VR] at hvr
  obtain ⟨pm, hpm, rfl⟩ := hvr
  obtain ⟨ents, cl, g1, gs, g2⟩ := hR.blk m _ pm hm hpm
  have hK : Tryz.prog.underlying (Tryz.keys44_ren.t 26) = some (.int .i64) := Tryz.underlying3
  obtain ⟨D, hown, hperm, hsz⟩ := map_fitI hK gs g2 hk hbd g1
  have hcell : w.cell? ⟨p.blk, 0, none⟩ = some (.map (some pm.blk)) := by simp [World.cell?, hbw, hvm]
  have hlt : p.blk < w.heap.size := (Array.getElem?_eq_some_iff.1 hbw).1
  have hseq : SeqGives Fence.wide (5 - 1 - 1) Tryz.prog 78 #[.pointer (some ⟨p.blk, 0, none⟩)] encZ (fun ss => ss.Perm (intKeys D)) (Maps.size D) w :=
    AnyZI.keys_gives (ρ := Tryz.keys44_ren) { Tryz.keys44 with } Fence.wide _ trivial rfl (by omega) p.blk pm.blk _ D w hlt hcell hown
  refine (callsIn_wide (n := 5)).1 ?_
  refine (AnyZI.collect_in Tryz.collect43 Fence.wide 5 trivial trivial rfl (by omega) 78 #[.pointer (some ⟨p.blk, 0, none⟩)] trivial (enters_of Tryz.func78 (by kernel_rfl) rfl) _ _ (by rw [hsz]; unfold maxLen; omega) (by rw [hsz]; omega) w hseq).mono ?_
  rintro e w' ⟨v', ss, rfl, hS, hrow, hnil, hbelow⟩
  have hperm2 : ss.Perm ks := hS.trans hperm
  have hlen : ss.length = ks.length := hperm2.length_eq
  refine ⟨collA H ss, List.mem_map.2 ⟨ss, permsL_mem _ _ hperm2, rfl⟩, ?_⟩
  unfold collA
  by_cases h0 : ss.length = 0
  · rw [if_pos h0]
    have hss : ss = [] := List.eq_nil_of_length_eq_zero h0
    have hv := hnil.2 hss
    subst hv
    exact ⟨_, j, rfl, rfl, Step.below hR hbelow (Nat.le_refl _)⟩
  · rw [if_neg h0]
    obtain ⟨hl, h5⟩ := hrow
    rcases h5 with ⟨rfl, hz⟩ | ⟨g, cap, cur, rfl, hg, hgw, hc1, hc2, hc3, hc4⟩
    · omega
    · refine ⟨_, _, rfl, ?_, step_row hR hbelow hg hgw (l := ss.map (.int .i64)) (by rw [List.length_map]; omega) ?_⟩
      · simp only [VR]
        exact ⟨_, _, cap, jput_same _ _ _, rfl, by omega, by simp, hc2, .inr ⟨rfl, by dsimp only; omega⟩⟩
      · have := ints_vr j ss
        rw [← hc4, Nat.mul_one] at this
        rw [List.length_map]
        exact this

set_option maxHeartbeats 2000000 in
/-- maps.Clone. -/
theorem mcloneI_w (b : Nat) (es : Array MapEntry) (clock : Nat) (w : World) (hb : w.heap[b]? = some (.map es clock)) :
    Calls Tryz.prog 42 #[.map (some b)] w fun e w' => e = .returned (.map (some w.heap.size)) ∧ w' = w.alloc (.map es clock) := by
  have hq := fun w => run_eql_map_nil_sl (P := Tryz.prog) w _ _ _ (some b) Tryz.underlying51
  go_enter Tryz.func42, Tryz.ntmps42
  go_wp2
  rw [run_callFunc_extern Tryz.func76 (by kernel_rfl) (by kernel_rfl) (by kernel_rfl) (e := Extern.MapsClone.clone) (by kernel_rfl), run_maps_clone_sl w _ hb]
  simp only [Result.andThen]
  rw [Oper.upon_value]
  go_wp2
  rw [run_typeAssert_map_sl _ _ _ _ _ _ Tryz.underlying51]
  simp only [Result.andThen]
  rw [Oper.upon_value]
  go_wp2
  go_ret
  exact ⟨rfl, rfl⟩

theorem mcloneI_sound : Sound Tryz.prog 42 mcloneS := by
  refine ⟨enter_of Tryz.func42 rfl (by decide), fun args H v H' W h => ?_, fun args H v H' W h => ?_⟩ <;> (unfold mcloneS at h; split at h; rotate_left; · cases h) <;> (split at h <;> cases h)
  · rename_i b _ es hb
    intro j w cargs hR hargs
    obtain ⟨a, cs, e, h1, h2⟩ := hargs
    simp only [VRs] at h2
    subst h2
    simp only [VR] at h1
    obtain ⟨p, hp, rfl⟩ := h1
    have ec : cargs = #[.map (some p.blk)] := by apply Array.ext'; rw [e]
    subst ec
    obtain ⟨ents, cl, g1, gs, g2⟩ := hR.blk b _ p hb hp
    refine (mcloneI_w p.blk ents cl w g1).mono ?_
    rintro e w' ⟨rfl, rfl⟩
    have st := step_newO hR (x := .map es) (.map ents cl) fun w' hw' => ⟨ents, cl, by rw [hw']; simp, gs, g2.mono (jput_le (hR.dom _ (Nat.le_refl _)))⟩
    exact ⟨_, _, rfl, ⟨_, jput_same _ _ _, rfl⟩, st⟩
  · exact ⟨by simp, fun b hb _ => by rw [List.getElem?_append_left hb]⟩

/-! A call that may answer in several ways -/

theorem aops_k {P : Program} {Γ : Gam} (hΓ : GOk P Γ) {ops : Array Oper} (r : Option Nat) (m : Nat) {Q : Exit → Act → World → Prop} (rest : List Oper) : ∀ (l : List Oper) (F F' : List AV) (H H' : AHeap) (j : Inj) (w : World) (a : Act),
    aops P Γ ops l F H = some (F', H') → R j H w → VRs j F a.tmps.toList → ∀ ds, a.defers = ds →
    (∀ j' w' a', VRs j' F' a'.tmps.toList → a'.defers = ds → Step H.length j H w j' H' w' → wpListIn (FW r) m P ops Q rest a' w') → wpListIn (FW r) m P ops Q (l ++ rest) a w
  | [], F, F', H, H', j, w, a, h, hR, hF, ds, hd, hq => by
    cases h
    exact hq j w a hF hd (Step.refl hR (Nat.le_refl _))
  | o :: l, F, F', H, H', j, w, a, h, hR, hF, ds, hd, hq => by
    unfold aops at h
    show wpListIn (FW r) m P ops Q (o :: (l ++ rest)) a w
    unfold wpListIn
    split at h
    · cases h
    · rename_i hw
      rw [wantA_ok hw hF]
      refine ⟨fun _ _ => trivial, ?_⟩
      exact aops_k hΓ r m rest l _ F' H H' j w _ h hR (putA_ok hF o.dst ⟨#[], rfl, rfl⟩) ds (by rw [put_defers]; exact hd) hq
    · rename_i hw
      rw [wantA_ok hw hF]
      simp only [if_true]
      split at h
      · cases h
      · rename_i v H1 ho
        refine opA_ok hΓ ho hF hR r m fun cv j' w' hv hst => ?_
        have hle := hst.jle hR (Nat.le_refl _)
        refine aops_k hΓ r m rest l _ F' H1 H' j' w' _ h hst.rel (putA_ok (VRs.mono hle _ _ hF) o.dst hv) ds (by rw [put_defers]; exact hd) fun j2 w2 a2 h1 h2 h3 => ?_
        exact hq j2 w2 a2 h1 h2 (hst.trans h3 hst.len)

theorem call_nd {P : Program} {o : Oper} {a : Act} {j : Inj} {F : List AV} {H : AHeap} {w : World} {g : Operand} {args : Array Operand} {ts : Array TypeId} {f : FuncId} {first cap : List AV} {S : List (AV × AHeap)}
    (ho : o.op = .call ⟨.value g, args, ts⟩) (hg : ev F g = .func f first cap) (he : ∀ cargs w, (callFunc f cargs).run P w = .ok (.enter f cargs) w)
    (hct : ∀ cargs, VRs j (first ++ args.toList.map (ev F) ++ cap) cargs.toList → Calls P f cargs w fun e w' => ∃ x ∈ S, ∃ cv j', e = .returned cv ∧ VR j' x.1 cv ∧ Step H.length j H w j' x.2 w')
    (hF : VRs j F a.tmps.toList) (r : Option Nat) (n : Nat) {K : Act → World → Prop} {Q : Exit → Act → World → Prop}
    (hk : ∀ x ∈ S, ∀ cv j' w', VR j' x.1 cv → Step H.length j H w j' x.2 w' → K (a.put o.dst cv) w') : o.wpIn (FW r) n P a w K Q := by
  have hgv := ev_ok hF g
  rw [hg] at hgv
  simp only [VR] at hgv
  obtain ⟨cx, cy, hv, h1, h2⟩ := hgv
  have hargs := evs_ok hF args
  refine ⟨fun _ _ => trivial, ?_⟩
  rw [Oper.semAt_eq _ _ _ (by rw [ho]; simp)]
  have e : (execOp a.eval o).run P w = .ok (.enter f (cx ++ args.map a.eval ++ cy)) w := by
    unfold execOp
    rw [ho]
    dsimp only
    have e1 : Sem.run P (resolve a.eval ⟨.value g, args, ts⟩ o.type) w = .ok { target := .fn (.func f) cy, args := cx ++ args.map a.eval } w := by
      unfold resolve
      dsimp only
      rw [hv]
      rfl
    rw [rb e1]
    exact he _ w
  rw [e]
  refine ⟨(fun hh => by simp [FW, Fence.wide] at hh), callsIn_FW ?_⟩
  refine (hct (cx ++ args.map a.eval ++ cy) (by
    rw [Array.toList_append, Array.toList_append]
    exact (h1.append hargs).append h2)).mono ?_
  rintro e w' ⟨x, hx, cv, j', rfl, h3, h4⟩
  exact hk x hx cv j' w' h3 h4

/-- What such a call may answer. -/
abbrev NDS := FuncId → List AV → AHeap → Option (List (AV × AHeap))

structure NDOk (P : Program) (S : NDS) : Prop where
  enter : ∀ f args H l, S f args H = some l → ∀ cargs w, (callFunc f cargs).run P w = .ok (.enter f cargs) w
  ct : ∀ f args H l, S f args H = some l → ∀ j w cargs, R j H w → VRs j args cargs.toList → Calls P f cargs w fun e w' => ∃ x ∈ l, ∃ cv j', e = .returned cv ∧ VR j' x.1 cv ∧ Step H.length j H w j' x.2 w'

/-- A region in the text's order, whose operation c is such a call: all its ends. -/
def ndRegion (P : Program) (Γ : Gam) (S : NDS) (ops : Array Oper) (c : Nat) (F : List AV) (H : AHeap) : Option (List (List AV × AHeap)) :=
  match aops P Γ ops (ops.toList.take c) F H with
  | none => none
  | some (F1, H1) =>
    match ops.toList.drop c with
    | [] => none
    | o :: rest =>
      match wantA ops o F1, o.op with
      | some true, .call ⟨.value g, args, _⟩ =>
        match ev F1 g with
        | .func f first cap =>
          match S f (first ++ args.toList.map (ev F1) ++ cap) H1 with
          | none => none
          | some l => l.mapM fun x => aops P Γ ops rest (putA F1 o.dst x.1) x.2
        | _ => none
      | _, _ => none

theorem mapM_mem {α β : Type} {f : α → Option β} : ∀ {l : List α} {ys : List β}, l.mapM f = some ys → ∀ x ∈ l, ∃ y ∈ ys, f x = some y
  | [], _, _, x, hx => by cases hx
  | a :: l, ys, h, x, hx => by
    rw [List.mapM_cons] at h
    cases ha : f a with
    | none => rw [ha] at h; cases h
    | some b =>
      rw [ha] at h
      cases hl : l.mapM f with
      | none => rw [hl] at h; cases h
      | some bs =>
        rw [hl] at h
        cases h
        rcases List.mem_cons.1 hx with rfl | hx
        · exact ⟨b, List.mem_cons_self .., ha⟩
        · obtain ⟨y, h1, h2⟩ := mapM_mem hl x hx
          exact ⟨y, List.mem_cons_of_mem _ h1, h2⟩

theorem ndRegion_sim {P : Program} {Γ : Gam} (hΓ : GOk P Γ) {S : NDS} (hS : NDOk P S) {r : Option Nat} {id : Nat} {ops : Array Oper} {c : Nat} {F : List AV} {H : AHeap} {l : List (List AV × AHeap)} (h : ndRegion P Γ S ops c F H = some l) :
    Sim P r H.length (.region id ops false) F H fun x F1 H1 => x = .normal ∧ (F1, H1) ∈ l := by
  intro B j w a m hB hR hF hd
  unfold ndRegion at h
  split at h
  · cases h
  rename_i F1 H1 h1
  split at h
  · cases h
  rename_i o rest hdrop
  split at h
  rotate_left
  · cases h
  rename_i g args ts hw ho
  split at h
  rotate_left
  · cases h
  rename_i f first cap hg
  split at h
  · cases h
  rename_i xs hxs
  refine wpIn_region_list ?_
  rw [show ops.toList = ops.toList.take c ++ (o :: rest) by rw [← hdrop, List.take_append_drop]]
  refine aops_k hΓ r m (o :: rest) _ F F1 H H1 j w a h1 hR hF _ rfl fun j1 w1 a1 g1 g2 s1 => ?_
  unfold wpListIn
  rw [wantA_ok hw g1]
  simp only [if_true]
  refine call_nd (S := xs) ho hg (hS.enter _ _ _ _ hxs) (fun cargs hc => hS.ct _ _ _ _ hxs j1 w1 cargs s1.rel hc) g1 r m fun x hx cv j2 w2 hv s2 => ?_
  obtain ⟨⟨F3, H3⟩, hy, h3⟩ := mapM_mem h x hx
  have hle := s2.jle s1.rel (Nat.le_refl _)
  refine aops_ok hΓ r m rest _ F3 x.2 H3 j2 w2 _ h3 s2.rel (putA_ok (VRs.mono hle _ _ g1) o.dst hv) a.defers (by rw [put_defers]; exact g2) fun j3 w3 a3 k1 k2 s3 => ?_
  have s12 := s1.trans s2 s1.len
  have s123 := s12.trans s3 s12.len
  exact ⟨.normal, F3, H3, j3, rfl, ⟨rfl, hy⟩, k1, by rw [k2]; exact hd.step hR s123, s123⟩

/-! A function with one such call: its ends brought to one -/

def reachA (v : AV) (H : AHeap) : List Nat := (findGo H H 20000 (pairV v v) []).map (·.1)

def killU (n : Nat) (rs : List Nat) : Nat → AHeap → AHeap
  | _, [] => []
  | i, x :: H => (if Nat.blt i n || rs.contains i then x else .dead) :: killU n rs (i + 1) H

def canonA (n : Nat) (v : AV) (H : AHeap) : AHeap := killU n (reachA v H) 0 H

def rnD (n : Nat) (v : AV) (Hc : AHeap) (vx : AV) (Hx : AHeap) : List Nat :=
  (List.range Hc.length).map fun i => if Nat.blt i n then i else match (findGo Hc Hx 20000 (pairV v vx) []).find? (fun x => x.1 == i) with | some x => x.2 | none => Hx.length + i

def endOf (P : Program) (rs : List ResultVar) (r : ARes) : Option (AV × AHeap) := match r with
  | some (.ret, F', H') => (resA P rs F' H').map (·, H')
  | some (.normal, F', H') => (resA P rs F' H').map (·, H')
  | _ => none

def sameEnd (n : Nat) (v : AV) (Hc : AHeap) (x : Option (AV × AHeap)) : Bool := match x with
  | some (vx, Hx) => weakB n (rnD n v Hc vx Hx) [vx] Hx [v] Hc
  | none => false

def run2 (P : Program) (Γ : Gam) (n : Nat) (mid rest : Code) (F : List AV) (H : AHeap) : ARes := match acodeK P Γ n true mid F H with
  | some (.normal, F', H') => acodeK P Γ n true rest F' H'
  | _ => none

/-- K pieces, then the region whose operation c is such a call, then the rest for each answer. -/
def ndRun (P : Program) (Γ : Gam) (S : NDS) (n : Nat) (fn : Func) (K c : Nat) (args : List AV) (H : AHeap) : Option (AV × AHeap) :=
  match fn.body with
  | none => none
  | some code =>
    match acodeN P Γ n true K code (args ++ List.replicate (fn.ntmps - args.length) undefA) H with
    | none => none
    | some (F1, H1) =>
      if Nat.ble H.length H1.length then
        match restC K code with
        | .seq (.seq (.region _ ops false) mid) rest =>
          match ndRegion P Γ S ops c F1 H1 with
          | some (y :: more) =>
            match endOf P fn.results.toList (run2 P Γ n mid rest y.1 y.2) with
            | some (v, H2) => if (y :: more).all (fun y => sameEnd H.length v (canonA H.length v H2) (endOf P fn.results.toList (run2 P Γ n mid rest y.1 y.2))) then some (v, canonA H.length v H2) else none
            | none => none
          | _ => none
        | _ => none
      else none

theorem endOf_sim {P : Program} (hm : P.follows .mixedOrders = true) {Γ : Gam} (hΓ : GOk P Γ) {n n0 : Nat} {rest : Code} {F : List AV} {H : AHeap} {rs : List ResultVar} {v : AV} {Hc : AHeap} (hn : n0 ≤ H.length) (h : sameEnd n0 v Hc (endOf P rs (acodeK P Γ n true rest F H)) = true) :
    Sim P none n0 rest F H fun x F1 H1 => (x = .normal ∨ x = .ret) ∧ ∃ v1, resA P rs F1 H1 = some v1 ∧ Weak n0 [v1] H1 [v] Hc := by
  have key : ∀ x F' H' v', acodeK P Γ n true rest F H = some (x, F', H') → (x = .normal ∨ x = .ret) → resA P rs F' H' = some v' → Weak n0 [v'] H' [v] Hc → Sim P none n0 rest F H fun x F1 H1 => (x = .normal ∨ x = .ret) ∧ ∃ v1, resA P rs F1 H1 = some v1 ∧ Weak n0 [v1] H1 [v] Hc := by
    intro x F' H' v' h1 h2 h3 h4
    refine ((acodeK_ok hm hΓ none n true (fun _ => rfl) rest F F' H H' x h1).len hn).mono ?_
    rintro x1 F1 H1 _ ⟨rfl, rfl, rfl⟩
    exact ⟨h2, _, h3, h4⟩
  unfold sameEnd at h
  split at h
  rotate_left
  · cases h
  rename_i vx Hx he
  have hw := weakB_ok h
  unfold endOf at he
  split at he
  · rename_i F' H' hr
    obtain ⟨v', h1, e⟩ := Option.map_eq_some_iff.1 he
    cases e
    exact key _ _ _ _ hr (.inr rfl) h1 hw
  · rename_i F' H' hr
    obtain ⟨v', h1, e⟩ := Option.map_eq_some_iff.1 he
    cases e
    exact key _ _ _ _ hr (.inl rfl) h1 hw
  · cases he

theorem ndRun_ct {P : Program} (hm : P.follows .mixedOrders = true) {Γ : Gam} (hΓ : GOk P Γ) {S : NDS} (hS : NDOk P S) {n : Nat} {f : FuncId} {fn : Func} (hf : P.funcs[f]? = some fn) {K c : Nat} {args : List AV} {H H' : AHeap} {v : AV} (h : ndRun P Γ S n fn K c args H = some (v, H')) : Ct P f args H v H' := by
  unfold ndRun at h
  split at h
  · cases h
  rename_i code hc
  split at h
  · cases h
  rename_i F1 H1 h1
  split at h
  rotate_left
  · cases h
  rename_i hle
  rw [Nat.ble_eq] at hle
  split at h
  rotate_left
  · cases h
  rename_i id ops mid rest hr
  split at h
  rotate_left
  · cases h
  rename_i y more hnd
  split at h
  rotate_left
  · cases h
  rename_i v2 H2 he
  split at h <;> cases h
  rename_i hall
  rw [List.all_eq_true] at hall
  refine ct_of_sim hf hc ?_
  refine acodeN_sim hm hΓ K code _ F1 H H1 h1 (Nat.le_refl _) fun _ => ?_
  rw [hr]
  refine Sim.seq (Sim.seq ?_)
  refine ((ndRegion_sim hΓ hS hnd).len hle).mono ?_
  rintro x F3 H3 hl ⟨rfl, hmem⟩
  have h5 := hall _ hmem
  unfold run2 at h5
  split at h5
  · rename_i F4 H4 h4
    refine ((acodeK_ok hm hΓ none n true (fun _ => rfl) mid F3 F4 H3 H4 .normal h4).len hl).mono ?_
    rintro x5 F5 H5 hl5 ⟨rfl, rfl, rfl⟩
    exact endOf_sim hm hΓ hl5 h5
  · cases h5

theorem keepZ {H H' : AHeap} (hl : H.length ≤ H'.length) (b : Nat) (hb : b < H.length) (hn : b ∉ changedZ false 0 H H') : H'[b]? = H[b]? := by
  rw [changedZ_false] at hn
  have h1 : blkEq (H.getD b .dead) (H'.getD b .dead) = true := by
    cases hx : blkEq (H.getD b .dead) (H'.getD b .dead) with
    | true => rfl
    | false => exact absurd (List.mem_filter.2 ⟨List.mem_range.2 hb, by rw [hx]; rfl⟩) hn
  have e := blkEq_eq h1
  rw [List.getD_eq_getElem?_getD, List.getD_eq_getElem?_getD, List.getElem?_eq_getElem hb, List.getElem?_eq_getElem (show b < H'.length by omega)] at e
  rw [List.getElem?_eq_getElem hb, List.getElem?_eq_getElem (show b < H'.length by omega)]
  simpa using e.symm

/-- Such a function, as a summary; where that run fails, as it stands. -/
def ndSF (P : Program) (Γ : Gam) (S : NDS) (n : Nat) (fn : Func) (K c : Nat) (args : List AV) (H : AHeap) : Option (AV × AHeap × List Nat) :=
  match ndRun P Γ S n fn K c args H with
  | some (v, H') => if Nat.ble H.length H'.length then some (v, H', changedZ false 0 H H') else none
  | none => match runFK P Γ n fn args H with
    | some (v, H') => if Nat.ble H.length H'.length then some (v, H', changedZ false 0 H H') else none
    | none => none

def ndS (P : Program) (Γ : Gam) (S : NDS) (n : Nat) (fn : Func) (K c : Nat) : Summ := fun args H =>
  fcVs args fun args => fcH H fun H => ndSF P Γ S n fn K c args H

theorem nd_sound {P : Program} (hm : P.follows .mixedOrders = true) {Γ : Gam} (hΓ : GOk P Γ) {S : NDS} (hS : NDOk P S) {n : Nat} {f : FuncId} {fn : Func} (hf : P.funcs[f]? = some fn) (hb : fn.body.isSome = true) (hn : (fn.name == "runtime.NumGoroutine") = false) (K c : Nat) : Sound P f (ndS P Γ S n fn K c) := by
  have e : ∀ args H, ndS P Γ S n fn K c args H = ndSF P Γ S n fn K c args H := fun args H => by unfold ndS; rw [fcVs_eq, fcH_eq]
  have key : ∀ args H v H' W, ndS P Γ S n fn K c args H = some (v, H', W) → Ct P f args H v H' ∧ H.length ≤ H'.length ∧ W = changedZ false 0 H H' := by
    intro args H v H' W h
    rw [e] at h
    unfold ndSF at h
    split at h
    · rename_i v1 H1 h1
      split at h <;> cases h
      rename_i hl
      rw [Nat.ble_eq] at hl
      exact ⟨ndRun_ct hm hΓ hS hf h1, hl, rfl⟩
    · split at h
      · rename_i v1 H1 h1
        split at h <;> cases h
        rename_i hl
        rw [Nat.ble_eq] at hl
        exact ⟨weak_reflK hm hΓ hf h1, hl, rfl⟩
      · cases h
  refine ⟨enter_of hf hb hn, fun args H v H' W h => (key _ _ _ _ _ h).1, fun args H v H' W h => ?_⟩
  obtain ⟨_, h2, rfl⟩ := key _ _ _ _ _ h
  exact ⟨h2, keepZ h2⟩

/-! The disk's -/

def collN : NDS := fun f args H =>
  if f = 43 then
    match args with
    | [.func g [] [.ptr b 0]] =>
      if g = 78 then
        match H[b]? with
        | some (.pin [.map m]) =>
          match H[m]? with
          | some (.map es) =>
            match intsA (es.map (·.1)) with
            | some ks => if ks.length ≤ 1000000 ∧ ks.all (fun k => (Lit.int .i64 k).wf) then some ((permsL ks).map (collA H)) else none
            | none => none
          | _ => none
        | _ => none
      else none
    | _ => none
  else none

theorem collN_ok : NDOk Tryz.prog collN := by
  have key : ∀ f args H l, collN f args H = some l → ∃ b m es ks, f = 43 ∧ args = [.func 78 [] [.ptr b 0]] ∧ H[b]? = some (.pin [.map m]) ∧ H[m]? = some (.map es) ∧ intsA (es.map (·.1)) = some ks ∧ (ks.length ≤ 1000000 ∧ ∀ k ∈ ks, (Lit.int .i64 k).wf = true) ∧ l = (permsL ks).map (collA H) := by
    intro f args H l h
    unfold collN at h
    split at h
    rotate_left
    · cases h
    rename_i hf
    split at h
    rotate_left
    · cases h
    rename_i g b
    split at h
    rotate_left
    · cases h
    rename_i hg
    subst hg
    split at h
    rotate_left
    · cases h
    rename_i m hb
    split at h
    rotate_left
    · cases h
    rename_i es hm
    split at h
    rotate_left
    · cases h
    rename_i ks hk
    split at h <;> cases h
    rename_i hc
    exact ⟨b, m, es, ks, hf, rfl, hb, hm, hk, ⟨hc.1, by simpa using hc.2⟩, rfl⟩
  refine ⟨fun f args H l h => ?_, fun f args H l h j w cargs hR hargs => ?_⟩
  · obtain ⟨_, _, _, _, rfl, _⟩ := key _ _ _ _ h
    exact enter_of Tryz.func43 rfl (by decide)
  · obtain ⟨b, m, es, ks, rfl, rfl, hb, hm, hk, hbd, rfl⟩ := key _ _ _ _ h
    exact collect_nd hb hm hk hbd hR hargs

def dcopyG : Gam := gams [(44, keysIS), (42, mcloneS), (74, mcloneS)]
theorem dcopyG_ok : GOk Tryz.prog dcopyG := goks_cons keysI_sound (goks_cons mcloneI_sound (goks_cons mclone_sound goks_nil))

def dcopyInl : List FuncId := [41, 45, 75, 79]

noncomputable def dcopyS : Summ := ndS Tryz.prog (runGK Tryz.prog dcopyG 100 dcopyInl 5) collN 100 Tryz.f10 4 3
theorem dcopy_sound : Sound Tryz.prog 10 dcopyS :=
  nd_sound hmix (gok_runK hmix dcopyG_ok 100 dcopyInl 5) collN_ok Tryz.func10 rfl (by decide) 4 3

end Go.Proofs.YtpimpapaddmjmaaGreat
