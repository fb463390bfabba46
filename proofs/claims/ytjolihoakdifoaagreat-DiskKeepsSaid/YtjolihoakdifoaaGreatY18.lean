/- Parts of the proof of DiskKeeps: lemmas, each with its own conditions. -/
import Derived.Shelf.SlIterI.Collect
import Derived.Maps.RangeRun
import Derived.Test.YtjolihoakdifoaaGreatY12
import Derived.Test.YtjolihoakdifoaaGreatY5
import Derived.Test.YtjolihoakdifoaaGreatY11
import Derived.Test.YtjolihoakdifoaaGreatY17
namespace Go.Proofs.YtjolihoakdifoaaGreat
open Go.RowKit Go.Maps Go.Sort Go.Shelf
set_option maxRecDepth 100000
def insAll (x : Int) : List Int → List (List Int)
  | [] => [[x]]
  | y :: l => (x :: y :: l) :: (insAll x l).map (y :: ·)
def permsL : List Int → List (List Int)
  | [] => [[]]
  | x :: l => (permsL l).flatMap (insAll x)
theorem insAll_mem (x : Int) : ∀ a b : List Int, a ++ x :: b ∈ insAll x (a ++ b)
  | [], [] => by simp [insAll]
  | [], y :: b => by simp [insAll]
  | y :: a, b => by
    simp only [List.cons_append, insAll, List.mem_cons, List.mem_map]
    exact .inr ⟨_, insAll_mem x a b, rfl⟩
theorem permsL_mem : ∀ (ks σ : List Int), σ.Perm ks → σ ∈ permsL ks
  | [], σ, h => by simp [permsL, h.eq_nil]
  | x :: l, σ, h => by
    obtain ⟨a, b, rfl⟩ := List.append_of_mem (h.symm.subset (List.mem_cons_self ..))
    have h2 : (a ++ b).Perm l := (List.perm_middle.symm.trans h).cons_inv
    exact List.mem_flatMap.2 ⟨_, permsL_mem l _ h2, insAll_mem x a b⟩
def intsA : List AV → Option (List Int)
  | [] => some []
  | .int .i64 n :: l => (intsA l).map (n :: ·)
  | _ => none
theorem intsA_eq : ∀ {l : List AV} {ks : List Int}, intsA l = some ks → l = ks.map (.int .i64)
  | [], ks, h => by cases h; rfl
  | x :: l, ks, h => by
    unfold intsA at h
    split at h
    · cases h; simp_all
    · rename_i n l' e
      cases e
      obtain ⟨ks', h1, rfl⟩ := Option.map_eq_some_iff.1 h
      rw [intsA_eq h1]; rfl
    · cases h
theorem ints_at {es : List (AV × AV)} {ks : List Int} (h : intsA (es.map (·.1)) = some ks) : ks.length = es.length ∧ ∀ (i : Nat) x, es[i]? = some x → ∃ k, ks[i]? = some k ∧ x.1 = .int .i64 k := by
  have e := intsA_eq h
  have hl : ks.length = es.length := by
    have := congrArg List.length e
    simpa using this.symm
  refine ⟨hl, fun i x hx => ?_⟩
  have hi : i < ks.length := by rw [hl]; exact (List.getElem?_eq_some_iff.1 hx).1
  refine ⟨ks[i], List.getElem?_eq_getElem hi, ?_⟩
  have := congrArg (fun l => l[i]?) e
  simp only [List.getElem?_map, hx, List.getElem?_eq_getElem hi, Option.map_some, Option.some.injEq] at this
  exact this
theorem map_fitI {P : Program} {K : TypeId} (hK : P.underlying K = some (.int .i64)) {j : Inj} {es : List (AV × AV)} {ents : Array MapEntry} {cl : Nat} (hs : MapKept.Stamped ents cl) (hm : MRel j es ents.toList) {ks : List Int} (hk : intsA (es.map (·.1)) = some ks)
    (hb : ks.length ≤ 1000000 ∧ ∀ k ∈ ks, (Lit.int .i64 k).wf = true) {w : World} {b : Nat} (hw : w.heap[b]? = some (.map ents cl)) :
    ∃ D : DataW Unit, w.ownsMap P K anyR b ents.size D ∧ (intKeys D).Perm ks ∧ Maps.size D = ks.length := by
  obtain ⟨hl, hat⟩ := ints_at hk
  have key : ∀ x ∈ ents.toList, ∃ k, k ∈ ks ∧ x.key = .int .i64 k ∧ WideElems.rd P K (anyR (H := Unit)) x = some (.int .i64 k, .nil) := by
    intro x hx
    obtain ⟨i, hi⟩ := List.getElem?_of_mem hx
    have hil : i < es.length := by rw [hm.1]; exact (List.getElem?_eq_some_iff.1 hi).1
    obtain ⟨k, h1, h2⟩ := hat i _ (List.getElem?_eq_getElem hil)
    have h3 := (hm.2 i _ x (List.getElem?_eq_getElem hil) hi).1
    rw [h2] at h3
    simp only [VR] at h3
    have hkm := List.mem_of_getElem? h1
    refine ⟨k, hkm, h3, ?_⟩
    have hkl := hb.2 k hkm
    have : keyOf P K x.key = some (.int .i64 k) := by
      rw [h3]
      simp [keyOf, hK, mapKey, hkl]
    simp [WideElems.rd, this, anyR]
  have hperm : ((ents.toList.map (WideElems.rg P K (anyR (H := Unit)))).foldr DataW.insert []).Perm (ents.toList.map (WideElems.rg P K (anyR (H := Unit)))) := WideShapes.sorted_perm _
  have hkeys : (ents.toList.map (WideElems.rg P K (anyR (H := Unit)))).map (fun p => Go.intOf p.1) = ks := by
    refine List.ext_getElem? fun i => ?_
    simp only [List.getElem?_map]
    cases hx : ents.toList[i]? with
    | none =>
      have : ks.length ≤ i := by rw [hl, hm.1]; exact List.getElem?_eq_none_iff.1 hx
      rw [List.getElem?_eq_none this]
      rfl
    | some x =>
      obtain ⟨k, h1, h2, h3⟩ := key x (List.mem_of_getElem? hx)
      have hil : i < es.length := by rw [hm.1]; exact (List.getElem?_eq_some_iff.1 hx).1
      obtain ⟨k', h4, h5⟩ := hat i _ (List.getElem?_eq_getElem hil)
      have h6 := (hm.2 i _ x (List.getElem?_eq_getElem hil) hx).1
      rw [h5] at h6
      simp only [VR] at h6
      rw [h4]
      have e : k = k' := by
        rw [h2] at h6
        simpa using h6
      simp only [Option.map_some, WideElems.rg_of h3, e]
      rfl
  refine ⟨_, ⟨ents, cl, hw, ⟨?_, hs, fun x hx => ?_⟩, Nat.le_refl _, rfl⟩, ?_, ?_⟩
  · have := hm.1
    simp at this
    unfold maxLen
    omega
  · obtain ⟨k, _, _, h3⟩ := key x hx
    exact ⟨_, h3⟩
  · have := hperm.map (fun p => Go.intOf p.1)
    rw [hkeys] at this
    exact this
  · have := hperm.length_eq
    show List.length _ = _
    rw [this]
    rw [← hkeys]
    simp
def keysIS : Summ := fun args H => match args with
  | [.map b] => some (.func 86 [] [.ptr H.length 0], H ++ [.pin [.map b]], [])
  | _ => none
theorem keysI_sound : Sound Tryz.prog 57 keysIS := by
  refine ⟨enter_of Tryz.func57 rfl (by decide), fun args H v H' W h => ?_, fun args H v H' W h => ?_⟩ <;> (unfold keysIS at h; split at h <;> cases h)
  · rename_i b
    intro j w cargs hR hargs
    obtain ⟨a, cs, e, h1, h2⟩ := hargs
    simp only [VRs] at h2
    subst h2
    simp only [VR] at h1
    obtain ⟨p, hp, rfl⟩ := h1
    have ec : cargs = #[.map (some p.blk)] := by apply Array.ext'; rw [e]
    subst ec
    refine (callsIn_wide (n := 5)).1 ?_
    refine (AnyZI.keys_in Tryz.keys57 Fence.wide 5 trivial rfl (some p.blk) w).mono ?_
    rintro e w' ⟨rfl, rfl⟩
    have st := step_newO hR (x := .pin [.map b]) (.cells #[.map (some p.blk)] (Tryz.keys57_ren.t 23)) fun w' hw' => ⟨rfl, #[.map (some p.blk)], Tryz.keys57_ren.t 23, (0, 0), by rw [hw']; simp, fun i x hx => by
      have hi : i = 0 := by
        have := (List.getElem?_eq_some_iff.1 hx).1
        simpa using this
      subst hi
      cases hx
      exact ⟨.map (some p.blk), rfl, p, jput_le (hR.dom _ (Nat.le_refl _)) b p hp, rfl⟩⟩
    refine ⟨_, _, rfl, ?_, st⟩
    simp only [VR]
    exact ⟨#[], #[.pointer (some ⟨w.heap.size, 0, none⟩)], rfl, rfl, _, [], rfl, ⟨_, jput_same _ _ _, rfl⟩, rfl⟩
  · exact ⟨by simp, fun b hb _ => by rw [List.getElem?_append_left hb]⟩
theorem ints_vr (j : Inj) : ∀ l : List Int, VRs j (l.map (.int .i64)) (l.map encZ)
  | [] => rfl
  | x :: l => ⟨_, _, rfl, rfl, ints_vr j l⟩
def collA (H : AHeap) (σ : List Int) : AV × AHeap :=
  if σ.length = 0 then (.nils, H) else (.slice H.length 0 σ.length 1 false, H ++ [.cells true (σ.map (.int .i64))])
theorem collect_nd {j : Inj} {H : AHeap} {w : World} {cargs : Array Value} {b m : Nat} {es : List (AV × AV)} {ks : List Int} (hb : H[b]? = some (.pin [.map m])) (hm : H[m]? = some (.map es)) (hk : intsA (es.map (·.1)) = some ks)
    (hbd : ks.length ≤ 1000000 ∧ ∀ k ∈ ks, (Lit.int .i64 k).wf = true) (hR : R j H w) (hargs : VRs j [.func 86 [] [.ptr b 0]] cargs.toList) :
    Calls Tryz.prog 56 cargs w fun e w' => ∃ x ∈ (permsL ks).map (collA H), ∃ cv j', e = .returned cv ∧ VR j' x.1 cv ∧ Step H.length j H w j' x.2 w' := by
  obtain ⟨a, cs, e, h1, h2⟩ := hargs
  simp only [VRs] at h2
  subst h2
  simp only [VR, VRs] at h1
  obtain ⟨cx, cy, rfl, h3, u, us, h4, ⟨p, hp, rfl⟩, rfl⟩ := h1
  have ex : cx = #[] := by apply Array.ext'; rw [h3]
  subst ex
  obtain ⟨p0, bcs, T, fz, hbw, hbc⟩ := hR.blk b _ p hb hp
  have ey : cy = #[.pointer (some ⟨p.blk, 0, none⟩)] := by apply Array.ext'; rw [h4, p0]
  subst ey
  have ec : cargs = #[.func (.func 86) #[] #[.pointer (some ⟨p.blk, 0, none⟩)]] := by apply Array.ext'; rw [e]
  subst ec
  obtain ⟨vm, hvm, hvr⟩ := hbc 0 _ rfl
  simp only [VR] at hvr
  obtain ⟨pm, hpm, rfl⟩ := hvr
  obtain ⟨ents, cl, g1, gs, g2⟩ := hR.blk m _ pm hm hpm
  have hK : Tryz.prog.underlying (Tryz.keys57_ren.t 26) = some (.int .i64) := Tryz.underlying3
  obtain ⟨D, hown, hperm, hsz⟩ := map_fitI hK gs g2 hk hbd g1
  have hcell : w.cell? ⟨p.blk, 0, none⟩ = some (.map (some pm.blk)) := by simp [World.cell?, hbw, hvm]
  have hlt : p.blk < w.heap.size := (Array.getElem?_eq_some_iff.1 hbw).1
  have hseq : SeqGives Fence.wide (5 - 1 - 1) Tryz.prog 86 #[.pointer (some ⟨p.blk, 0, none⟩)] encZ (fun ss => ss.Perm (intKeys D)) (Maps.size D) w :=
    AnyZI.keys_gives (ρ := Tryz.keys57_ren) { Tryz.keys57 with } Fence.wide _ trivial rfl (by omega) p.blk pm.blk _ D w hlt hcell hown
  refine (callsIn_wide (n := 5)).1 ?_
  refine (AnyZI.collect_in Tryz.collect56 Fence.wide 5 trivial trivial rfl (by omega) 86 #[.pointer (some ⟨p.blk, 0, none⟩)] trivial (enters_of Tryz.func86 (by kernel_rfl) rfl) _ _ (by rw [hsz]; unfold maxLen; omega) (by rw [hsz]; omega) w hseq).mono ?_
  rintro e w' ⟨v', ss, rfl, hS, hrow, hnil, hbelow⟩
  have hperm2 : ss.Perm ks := hS.trans hperm
  have hlen : ss.length = ks.length := hperm2.length_eq
  refine ⟨collA H ss, List.mem_map.2 ⟨ss, permsL_mem _ _ hperm2, rfl⟩, ?_⟩
  unfold collA
  by_cases h0 : ss.length = 0
  · rw [if_pos h0]
    have hss : ss = [] := List.eq_nil_of_length_eq_zero h0
    have hv := hnil.2 hss
    subst hv
    exact ⟨_, j, rfl, rfl, Step.below hR hbelow (Nat.le_refl _)⟩
  · rw [if_neg h0]
    obtain ⟨hl, h5⟩ := hrow
    rcases h5 with ⟨rfl, hz⟩ | ⟨g, cap, cur, rfl, hg, hgw, hc1, hc2, hc3, hc4⟩
    · omega
    · refine ⟨_, _, rfl, ?_, step_row hR hbelow hg hgw (l := ss.map (.int .i64)) (by rw [List.length_map]; omega) ?_⟩
      · simp only [VR]
        exact ⟨_, _, cap, jput_same _ _ _, rfl, by omega, by simp, hc2, .inr ⟨rfl, by dsimp only; omega⟩⟩
      · have := ints_vr j ss
        rw [← hc4, Nat.mul_one] at this
        rw [List.length_map]
        exact this
set_option maxHeartbeats 2000000 in
theorem mcloneI_w (b : Nat) (es : Array MapEntry) (clock : Nat) (w : World) (hb : w.heap[b]? = some (.map es clock)) :
    Calls Tryz.prog 55 #[.map (some b)] w fun e w' => e = .returned (.map (some w.heap.size)) ∧ w' = w.alloc (.map es clock) := by
  have hq := fun w => run_eql_map_nil_sl (P := Tryz.prog) w _ _ _ (some b) Tryz.underlying64
  go_enter Tryz.func55, Tryz.ntmps55
  go_wp2
  rw [run_callFunc_extern Tryz.func84 (by kernel_rfl) (by kernel_rfl) (by kernel_rfl) (e := Extern.MapsClone.clone) (by kernel_rfl), run_maps_clone_sl w _ hb]
  simp only [Result.andThen]
  rw [Oper.upon_value]
  go_wp2
  rw [run_typeAssert_map_sl _ _ _ _ _ _ Tryz.underlying64]
  simp only [Result.andThen]
  rw [Oper.upon_value]
  go_wp2
  go_ret
  exact ⟨rfl, rfl⟩
theorem mcloneI_sound : Sound Tryz.prog 55 mcloneS := by
  refine ⟨enter_of Tryz.func55 rfl (by decide), fun args H v H' W h => ?_, fun args H v H' W h => ?_⟩ <;> (unfold mcloneS at h; split at h; rotate_left; · cases h) <;> (split at h <;> cases h)
  · rename_i b _ es hb
    intro j w cargs hR hargs
    obtain ⟨a, cs, e, h1, h2⟩ := hargs
    simp only [VRs] at h2
    subst h2
    simp only [VR] at h1
    obtain ⟨p, hp, rfl⟩ := h1
    have ec : cargs = #[.map (some p.blk)] := by apply Array.ext'; rw [e]
    subst ec
    obtain ⟨ents, cl, g1, gs, g2⟩ := hR.blk b _ p hb hp
    refine (mcloneI_w p.blk ents cl w g1).mono ?_
    rintro e w' ⟨rfl, rfl⟩
    have st := step_newO hR (x := .map es) (.map ents cl) fun w' hw' => ⟨ents, cl, by rw [hw']; simp, gs, g2.mono (jput_le (hR.dom _ (Nat.le_refl _)))⟩
    exact ⟨_, _, rfl, ⟨_, jput_same _ _ _, rfl⟩, st⟩
  · exact ⟨by simp, fun b hb _ => by rw [List.getElem?_append_left hb]⟩
theorem aops_k {P : Program} {Γ : Gam} (hΓ : GOk P Γ) {ops : Array Oper} (r : Option Nat) (m : Nat) {Q : Exit → Act → World → Prop} (rest : List Oper) : ∀ (l : List Oper) (F F' : List AV) (H H' : AHeap) (j : Inj) (w : World) (a : Act),
    aops P Γ ops l F H = some (F', H') → R j H w → VRs j F a.tmps.toList → ∀ ds, a.defers = ds →
    (∀ j' w' a', VRs j' F' a'.tmps.toList → a'.defers = ds → Step H.length j H w j' H' w' → wpListIn (FW r) m P ops Q rest a' w') → wpListIn (FW r) m P ops Q (l ++ rest) a w
  | [], F, F', H, H', j, w, a, h, hR, hF, ds, hd, hq => by
    cases h
    exact hq j w a hF hd (Step.refl hR (Nat.le_refl _))
  | o :: l, F, F', H, H', j, w, a, h, hR, hF, ds, hd, hq => by
    unfold aops at h
    show wpListIn (FW r) m P ops Q (o :: (l ++ rest)) a w
    unfold wpListIn
    split at h
    · cases h
    · rename_i hw
      rw [wantA_ok hw hF]
      refine ⟨fun _ _ => trivial, ?_⟩
      exact aops_k hΓ r m rest l _ F' H H' j w _ h hR (putA_ok hF o.dst ⟨#[], rfl, rfl⟩) ds (by rw [put_defers]; exact hd) hq
    · rename_i hw
      rw [wantA_ok hw hF]
      simp only [if_true]
      split at h
      · cases h
      · rename_i v H1 ho
        refine opA_ok hΓ ho hF hR r m fun cv j' w' hv hst => ?_
        have hle := hst.jle hR (Nat.le_refl _)
        refine aops_k hΓ r m rest l _ F' H1 H' j' w' _ h hst.rel (putA_ok (VRs.mono hle _ _ hF) o.dst hv) ds (by rw [put_defers]; exact hd) fun j2 w2 a2 h1 h2 h3 => ?_
        exact hq j2 w2 a2 h1 h2 (hst.trans h3 hst.len)
theorem call_nd {P : Program} {o : Oper} {a : Act} {j : Inj} {F : List AV} {H : AHeap} {w : World} {g : Operand} {args : Array Operand} {ts : Array TypeId} {f : FuncId} {first cap : List AV} {S : List (AV × AHeap)}
    (ho : o.op = .call ⟨.value g, args, ts⟩) (hg : ev F g = .func f first cap) (he : ∀ cargs w, (callFunc f cargs).run P w = .ok (.enter f cargs) w)
    (hct : ∀ cargs, VRs j (first ++ args.toList.map (ev F) ++ cap) cargs.toList → Calls P f cargs w fun e w' => ∃ x ∈ S, ∃ cv j', e = .returned cv ∧ VR j' x.1 cv ∧ Step H.length j H w j' x.2 w')
    (hF : VRs j F a.tmps.toList) (r : Option Nat) (n : Nat) {K : Act → World → Prop} {Q : Exit → Act → World → Prop}
    (hk : ∀ x ∈ S, ∀ cv j' w', VR j' x.1 cv → Step H.length j H w j' x.2 w' → K (a.put o.dst cv) w') : o.wpIn (FW r) n P a w K Q := by
  have hgv := ev_ok hF g
  rw [hg] at hgv
  simp only [VR] at hgv
  obtain ⟨cx, cy, hv, h1, h2⟩ := hgv
  have hargs := evs_ok hF args
  refine ⟨fun _ _ => trivial, ?_⟩
  rw [Oper.semAt_eq _ _ _ (by rw [ho]; simp)]
  have e : (execOp a.eval o).run P w = .ok (.enter f (cx ++ args.map a.eval ++ cy)) w := by
    unfold execOp
    rw [ho]
    dsimp only
    have e1 : Sem.run P (resolve a.eval ⟨.value g, args, ts⟩ o.type) w = .ok { target := .fn (.func f) cy, args := cx ++ args.map a.eval } w := by
      unfold resolve
      dsimp only
      rw [hv]
      rfl
    rw [rb e1]
    exact he _ w
  rw [e]
  refine ⟨(fun hh => by simp [FW, Fence.wide] at hh), callsIn_FW ?_⟩
  refine (hct (cx ++ args.map a.eval ++ cy) (by
    rw [Array.toList_append, Array.toList_append]
    exact (h1.append hargs).append h2)).mono ?_
  rintro e w' ⟨x, hx, cv, j', rfl, h3, h4⟩
  exact hk x hx cv j' w' h3 h4
abbrev NDS := FuncId → List AV → AHeap → Option (List (AV × AHeap))
structure NDOk (P : Program) (S : NDS) : Prop where
  enter : ∀ f args H l, S f args H = some l → ∀ cargs w, (callFunc f cargs).run P w = .ok (.enter f cargs) w
  ct : ∀ f args H l, S f args H = some l → ∀ j w cargs, R j H w → VRs j args cargs.toList → Calls P f cargs w fun e w' => ∃ x ∈ l, ∃ cv j', e = .returned cv ∧ VR j' x.1 cv ∧ Step H.length j H w j' x.2 w'
def ndRegion (P : Program) (Γ : Gam) (S : NDS) (ops : Array Oper) (c : Nat) (F : List AV) (H : AHeap) : Option (List (List AV × AHeap)) :=
  match aops P Γ ops (ops.toList.take c) F H with
  | none => none
  | some (F1, H1) =>
    match ops.toList.drop c with
    | [] => none
    | o :: rest =>
      match wantA ops o F1, o.op with
      | some true, .call ⟨.value g, args, _⟩ =>
        match ev F1 g with
        | .func f first cap =>
          match S f (first ++ args.toList.map (ev F1) ++ cap) H1 with
          | none => none
          | some l => l.mapM fun x => aops P Γ ops rest (putA F1 o.dst x.1) x.2
        | _ => none
      | _, _ => none
theorem mapM_mem {α β : Type} {f : α → Option β} : ∀ {l : List α} {ys : List β}, l.mapM f = some ys → ∀ x ∈ l, ∃ y ∈ ys, f x = some y
  | [], _, _, x, hx => by cases hx
  | a :: l, ys, h, x, hx => by
    rw [List.mapM_cons] at h
    cases ha : f a with
    | none => rw [ha] at h; cases h
    | some b =>
      rw [ha] at h
      cases hl : l.mapM f with
      | none => rw [hl] at h; cases h
      | some bs =>
        rw [hl] at h
        cases h
        rcases List.mem_cons.1 hx with rfl | hx
        · exact ⟨b, List.mem_cons_self .., ha⟩
        · obtain ⟨y, h1, h2⟩ := mapM_mem hl x hx
          exact ⟨y, List.mem_cons_of_mem _ h1, h2⟩
theorem ndRegion_sim {P : Program} {Γ : Gam} (hΓ : GOk P Γ) {S : NDS} (hS : NDOk P S) {r : Option Nat} {id : Nat} {ops : Array Oper} {c : Nat} {F : List AV} {H : AHeap} {l : List (List AV × AHeap)} (h : ndRegion P Γ S ops c F H = some l) :
    Sim P r H.length (.region id ops false) F H fun x F1 H1 => x = .normal ∧ (F1, H1) ∈ l := by
  intro B j w a m hB hR hF hd
  unfold ndRegion at h
  split at h
  · cases h
  rename_i F1 H1 h1
  split at h
  · cases h
  rename_i o rest hdrop
  split at h
  rotate_left
  · cases h
  rename_i g args ts hw ho
  split at h
  rotate_left
  · cases h
  rename_i f first cap hg
  split at h
  · cases h
  rename_i xs hxs
  refine wpIn_region_list ?_
  rw [show ops.toList = ops.toList.take c ++ (o :: rest) by rw [← hdrop, List.take_append_drop]]
  refine aops_k hΓ r m (o :: rest) _ F F1 H H1 j w a h1 hR hF _ rfl fun j1 w1 a1 g1 g2 s1 => ?_
  unfold wpListIn
  rw [wantA_ok hw g1]
  simp only [if_true]
  refine call_nd (S := xs) ho hg (hS.enter _ _ _ _ hxs) (fun cargs hc => hS.ct _ _ _ _ hxs j1 w1 cargs s1.rel hc) g1 r m fun x hx cv j2 w2 hv s2 => ?_
  obtain ⟨⟨F3, H3⟩, hy, h3⟩ := mapM_mem h x hx
  have hle := s2.jle s1.rel (Nat.le_refl _)
  refine aops_ok hΓ r m rest _ F3 x.2 H3 j2 w2 _ h3 s2.rel (putA_ok (VRs.mono hle _ _ g1) o.dst hv) a.defers (by rw [put_defers]; exact g2) fun j3 w3 a3 k1 k2 s3 => ?_
  have s12 := s1.trans s2 s1.len
  have s123 := s12.trans s3 s12.len
  exact ⟨.normal, F3, H3, j3, rfl, ⟨rfl, hy⟩, k1, by rw [k2]; exact hd.step hR s123, s123⟩
def reachA (v : AV) (H : AHeap) : List Nat := (findGo H H 20000 (pairV v v) []).map (·.1)
def killU (n : Nat) (rs : List Nat) : Nat → AHeap → AHeap
  | _, [] => []
  | i, x :: H => (if Nat.blt i n || rs.contains i then x else .dead) :: killU n rs (i + 1) H
def canonA (n : Nat) (v : AV) (H : AHeap) : AHeap := killU n (reachA v H) 0 H
def rnD (n : Nat) (v : AV) (Hc : AHeap) (vx : AV) (Hx : AHeap) : List Nat :=
  (List.range Hc.length).map fun i => if Nat.blt i n then i else match (findGo Hc Hx 20000 (pairV v vx) []).find? (fun x => x.1 == i) with | some x => x.2 | none => Hx.length + i
def endOf (P : Program) (rs : List ResultVar) (r : ARes) : Option (AV × AHeap) := match r with
  | some (.ret, F', H') => (resA P rs F' H').map (·, H')
  | some (.normal, F', H') => (resA P rs F' H').map (·, H')
  | _ => none
def sameEnd (n : Nat) (v : AV) (Hc : AHeap) (x : Option (AV × AHeap)) : Bool := match x with
  | some (vx, Hx) => weakB n (rnD n v Hc vx Hx) [vx] Hx [v] Hc
  | none => false
def run2 (P : Program) (Γ : Gam) (n : Nat) (mid rest : Code) (F : List AV) (H : AHeap) : ARes := match acodeK P Γ n true mid F H with
  | some (.normal, F', H') => acodeK P Γ n true rest F' H'
  | _ => none
def ndRun (P : Program) (Γ : Gam) (S : NDS) (n : Nat) (fn : Func) (K c : Nat) (args : List AV) (H : AHeap) : Option (AV × AHeap) :=
  match fn.body with
  | none => none
  | some code =>
    match acodeN P Γ n true K code (args ++ List.replicate (fn.ntmps - args.length) undefA) H with
    | none => none
    | some (F1, H1) =>
      if Nat.ble H.length H1.length then
        match restC K code with
        | .seq (.seq (.region _ ops false) mid) rest =>
          match ndRegion P Γ S ops c F1 H1 with
          | some (y :: more) =>
            match endOf P fn.results.toList (run2 P Γ n mid rest y.1 y.2) with
            | some (v, H2) => if (y :: more).all (fun y => sameEnd H.length v (canonA H.length v H2) (endOf P fn.results.toList (run2 P Γ n mid rest y.1 y.2))) then some (v, canonA H.length v H2) else none
            | none => none
          | _ => none
        | _ => none
      else none
theorem endOf_sim {P : Program} (hm : P.follows .mixedOrders = true) {Γ : Gam} (hΓ : GOk P Γ) {n n0 : Nat} {rest : Code} {F : List AV} {H : AHeap} {rs : List ResultVar} {v : AV} {Hc : AHeap} (hn : n0 ≤ H.length) (h : sameEnd n0 v Hc (endOf P rs (acodeK P Γ n true rest F H)) = true) :
    Sim P none n0 rest F H fun x F1 H1 => (x = .normal ∨ x = .ret) ∧ ∃ v1, resA P rs F1 H1 = some v1 ∧ Weak n0 [v1] H1 [v] Hc := by
  have key : ∀ x F' H' v', acodeK P Γ n true rest F H = some (x, F', H') → (x = .normal ∨ x = .ret) → resA P rs F' H' = some v' → Weak n0 [v'] H' [v] Hc → Sim P none n0 rest F H fun x F1 H1 => (x = .normal ∨ x = .ret) ∧ ∃ v1, resA P rs F1 H1 = some v1 ∧ Weak n0 [v1] H1 [v] Hc := by
    intro x F' H' v' h1 h2 h3 h4
    refine ((acodeK_ok hm hΓ none n true (fun _ => rfl) rest F F' H H' x h1).len hn).mono ?_
    rintro x1 F1 H1 _ ⟨rfl, rfl, rfl⟩
    exact ⟨h2, _, h3, h4⟩
  unfold sameEnd at h
  split at h
  rotate_left
  · cases h
  rename_i vx Hx he
  have hw := weakB_ok h
  unfold endOf at he
  split at he
  · rename_i F' H' hr
    obtain ⟨v', h1, e⟩ := Option.map_eq_some_iff.1 he
    cases e
    exact key _ _ _ _ hr (.inr rfl) h1 hw
  · rename_i F' H' hr
    obtain ⟨v', h1, e⟩ := Option.map_eq_some_iff.1 he
    cases e
    exact key _ _ _ _ hr (.inl rfl) h1 hw
  · cases he
theorem ndRun_ct {P : Program} (hm : P.follows .mixedOrders = true) {Γ : Gam} (hΓ : GOk P Γ) {S : NDS} (hS : NDOk P S) {n : Nat} {f : FuncId} {fn : Func} (hf : P.funcs[f]? = some fn) {K c : Nat} {args : List AV} {H H' : AHeap} {v : AV} (h : ndRun P Γ S n fn K c args H = some (v, H')) : Ct P f args H v H' := by
  unfold ndRun at h
  split at h
  · cases h
  rename_i code hc
  split at h
  · cases h
  rename_i F1 H1 h1
  split at h
  rotate_left
  · cases h
  rename_i hle
  rw [Nat.ble_eq] at hle
  split at h
  rotate_left
  · cases h
  rename_i id ops mid rest hr
  split at h
  rotate_left
  · cases h
  rename_i y more hnd
  split at h
  rotate_left
  · cases h
  rename_i v2 H2 he
  split at h <;> cases h
  rename_i hall
  rw [List.all_eq_true] at hall
  refine ct_of_sim hf hc ?_
  refine acodeN_sim hm hΓ K code _ F1 H H1 h1 (Nat.le_refl _) fun _ => ?_
  rw [hr]
  refine Sim.seq (Sim.seq ?_)
  refine ((ndRegion_sim hΓ hS hnd).len hle).mono ?_
  rintro x F3 H3 hl ⟨rfl, hmem⟩
  have h5 := hall _ hmem
  unfold run2 at h5
  split at h5
  · rename_i F4 H4 h4
    refine ((acodeK_ok hm hΓ none n true (fun _ => rfl) mid F3 F4 H3 H4 .normal h4).len hl).mono ?_
    rintro x5 F5 H5 hl5 ⟨rfl, rfl, rfl⟩
    exact endOf_sim hm hΓ hl5 h5
  · cases h5
theorem keepZ {H H' : AHeap} (hl : H.length ≤ H'.length) (b : Nat) (hb : b < H.length) (hn : b ∉ changedZ false 0 H H') : H'[b]? = H[b]? := by
  rw [changedZ_false] at hn
  have h1 : blkEq (H.getD b .dead) (H'.getD b .dead) = true := by
    cases hx : blkEq (H.getD b .dead) (H'.getD b .dead) with
    | true => rfl
    | false => exact absurd (List.mem_filter.2 ⟨List.mem_range.2 hb, by rw [hx]; rfl⟩) hn
  have e := blkEq_eq h1
  rw [List.getD_eq_getElem?_getD, List.getD_eq_getElem?_getD, List.getElem?_eq_getElem hb, List.getElem?_eq_getElem (show b < H'.length by omega)] at e
  rw [List.getElem?_eq_getElem hb, List.getElem?_eq_getElem (show b < H'.length by omega)]
  simpa using e.symm
def ndSF (P : Program) (Γ : Gam) (S : NDS) (n : Nat) (fn : Func) (K c : Nat) (args : List AV) (H : AHeap) : Option (AV × AHeap × List Nat) :=
  match ndRun P Γ S n fn K c args H with
  | some (v, H') => if Nat.ble H.length H'.length then some (v, H', changedZ false 0 H H') else none
  | none => match runFK P Γ n fn args H with
    | some (v, H') => if Nat.ble H.length H'.length then some (v, H', changedZ false 0 H H') else none
    | none => none
def ndS (P : Program) (Γ : Gam) (S : NDS) (n : Nat) (fn : Func) (K c : Nat) : Summ := fun args H =>
  fcVs args fun args => fcH H fun H => ndSF P Γ S n fn K c args H
theorem nd_sound {P : Program} (hm : P.follows .mixedOrders = true) {Γ : Gam} (hΓ : GOk P Γ) {S : NDS} (hS : NDOk P S) {n : Nat} {f : FuncId} {fn : Func} (hf : P.funcs[f]? = some fn) (hb : fn.body.isSome = true) (hn : (fn.name == "runtime.NumGoroutine") = false) (K c : Nat) : Sound P f (ndS P Γ S n fn K c) := by
  have e : ∀ args H, ndS P Γ S n fn K c args H = ndSF P Γ S n fn K c args H := fun args H => by unfold ndS; rw [fcVs_eq, fcH_eq]
  have key : ∀ args H v H' W, ndS P Γ S n fn K c args H = some (v, H', W) → Ct P f args H v H' ∧ H.length ≤ H'.length ∧ W = changedZ false 0 H H' := by
    intro args H v H' W h
    rw [e] at h
    unfold ndSF at h
    split at h
    · rename_i v1 H1 h1
      split at h <;> cases h
      rename_i hl
      rw [Nat.ble_eq] at hl
      exact ⟨ndRun_ct hm hΓ hS hf h1, hl, rfl⟩
    · split at h
      · rename_i v1 H1 h1
        split at h <;> cases h
        rename_i hl
        rw [Nat.ble_eq] at hl
        exact ⟨weak_reflK hm hΓ hf h1, hl, rfl⟩
      · cases h
  refine ⟨enter_of hf hb hn, fun args H v H' W h => (key _ _ _ _ _ h).1, fun args H v H' W h => ?_⟩
  obtain ⟨_, h2, rfl⟩ := key _ _ _ _ _ h
  exact ⟨h2, keepZ h2⟩
def collN : NDS := fun f args H =>
  if f = 56 then
    match args with
    | [.func g [] [.ptr b 0]] =>
      if g = 86 then
        match H[b]? with
        | some (.pin [.map m]) =>
          match H[m]? with
          | some (.map es) =>
            match intsA (es.map (·.1)) with
            | some ks => if ks.length ≤ 1000000 ∧ ks.all (fun k => (Lit.int .i64 k).wf) then some ((permsL ks).map (collA H)) else none
            | none => none
          | _ => none
        | _ => none
      else none
    | _ => none
  else none
theorem collN_ok : NDOk Tryz.prog collN := by
  have key : ∀ f args H l, collN f args H = some l → ∃ b m es ks, f = 56 ∧ args = [.func 86 [] [.ptr b 0]] ∧ H[b]? = some (.pin [.map m]) ∧ H[m]? = some (.map es) ∧ intsA (es.map (·.1)) = some ks ∧ (ks.length ≤ 1000000 ∧ ∀ k ∈ ks, (Lit.int .i64 k).wf = true) ∧ l = (permsL ks).map (collA H) := by
    intro f args H l h
    unfold collN at h
    split at h
    rotate_left
    · cases h
    rename_i hf
    split at h
    rotate_left
    · cases h
    rename_i g b
    split at h
    rotate_left
    · cases h
    rename_i hg
    subst hg
    split at h
    rotate_left
    · cases h
    rename_i m hb
    split at h
    rotate_left
    · cases h
    rename_i es hm
    split at h
    rotate_left
    · cases h
    rename_i ks hk
    split at h <;> cases h
    rename_i hc
    exact ⟨b, m, es, ks, hf, rfl, hb, hm, hk, ⟨hc.1, by simpa using hc.2⟩, rfl⟩
  refine ⟨fun f args H l h => ?_, fun f args H l h j w cargs hR hargs => ?_⟩
  · obtain ⟨_, _, _, _, rfl, _⟩ := key _ _ _ _ h
    exact enter_of Tryz.func56 rfl (by decide)
  · obtain ⟨b, m, es, ks, rfl, rfl, hb, hm, hk, hbd, rfl⟩ := key _ _ _ _ h
    exact collect_nd hb hm hk hbd hR hargs
def dcopyG : Gam := gams [(57, keysIS), (55, mcloneS), (82, mcloneS)]
theorem dcopyG_ok : GOk Tryz.prog dcopyG := goks_cons keysI_sound (goks_cons mcloneI_sound (goks_cons mclone_sound goks_nil))
def dcopyInl : List FuncId := [54, 58, 83, 87]
noncomputable def dcopyS : Summ := ndS Tryz.prog (runGK Tryz.prog dcopyG 100 dcopyInl 5) collN 100 Tryz.f20 4 3
theorem dcopy_sound : Sound Tryz.prog 20 dcopyS :=
  nd_sound hmix (gok_runK hmix dcopyG_ok 100 dcopyInl 5) collN_ok Tryz.func20 rfl (by decide) 4 3
end Go.Proofs.YtjolihoakdifoaaGreat
namespace Go.Proofs.YtjolihoakdifoaaGreat
open Go Go.Lib Go.MapKept
open Go.ChangeMaps (setBlock)
set_option maxRecDepth 100000
structure Rng (j : Inj) (H : AHeap) (w : World) (c u pb since : Nat) (seen : Array Nat) (c0 : Nat) (ents : Array MapEntry) (clock : Nat) : Prop where
  at_c : j c = some ⟨u, 0, 0⟩
  nu : ¬ Sch j H u
  nb : ¬ Occ j H pb
  ne : u ≠ pb
  it : w.heap[u]? = some (.mapIter (some pb) since seen c0)
  le : since ≤ c0
  map : w.heap[pb]? = some (.map ents clock)
theorem lt_of_some' {α : Type} {a : List α} {i : Nat} {x : α} (h : a[i]? = some x) : i < a.length := (List.getElem?_eq_some_iff.1 h).1
theorem lt_of_some {α : Type} {a : Array α} {i : Nat} {x : α} (h : a[i]? = some x) : i < a.size := (Array.getElem?_eq_some_iff.1 h).1
theorem Occ.sch {j : Inj} {H : AHeap} {u : Nat} (h : Occ j H u) : Sch j H u := by
  obtain ⟨b, y, p, h1, h2, h3, h4⟩ := h
  exact ⟨b, y, p, h1, str_own h2, h3, h4.imp id own_hid⟩
theorem Rng.step {n : Nat} {j j' : Inj} {H H' : AHeap} {w w' : World} {c u pb since c0 clock : Nat} {seen : Array Nat} {ents : Array MapEntry} (h : Rng j H w c u pb since seen c0 ents clock) (hs : Step n j H w j' H' w') (hc : c < n) : Rng j' H' w' c u pb since seen c0 ents clock := by
  have h1 := h.it
  have h2 := h.le
  have hu := lt_of_some h1
  have hb := lt_of_some h.map
  refine ⟨(hs.ext c hc).trans h.at_c, fun ht => ?_, fun ht => ?_, h.ne, ?_, h2, ?_⟩
  · rcases hs.tch u ht with h3 | h3
    · omega
    · exact h.nu h3
  · rcases hs.fresh pb ht with h3 | h3
    · omega
    · exact h.nb h3
  · rw [hs.keeps.block u hu fun ho => h.nu ho.sch]; exact h1
  · rw [hs.keeps.block pb hb h.nb]; exact h.map
theorem Rng.no_tch {j : Inj} {H : AHeap} {w : World} {c u pb since c0 clock : Nat} {seen : Array Nat} {ents : Array MapEntry} (h : Rng j H w c u pb since seen c0 ents clock) (hR : R j H w) : ¬ Tch j H u := by
  rintro ⟨b, y, p, h1, h2, h3, h4⟩
  have hu := h.it
  cases ho : y.isObj with
  | true => exact h.nu ⟨b, y, p, h1, str_obj ho, h3, h4⟩
  | false =>
    rw [hid_nobj ho] at h4
    simp only [List.not_mem_nil, or_false] at h4
    subst h4
    have hb := hR.blk b y p h1 h3
    cases y with
    | dead => exact h2 rfl
    | obj o s => cases ho
    | cells o l => obtain ⟨cs, T, fz, k1, _⟩ := hb; rw [hu] at k1; cases k1
    | pin l => obtain ⟨_, cs, T, fz, k1, _⟩ := hb; rw [hu] at k1; cases k1
    | map es => obtain ⟨a1, a2, k1, _⟩ := hb; rw [hu] at k1; cases k1
    | loop ps asg body st pe F => obtain ⟨a1, a2, a3, k1, _⟩ := hb; rw [hu] at k1; unfold arec at k1; cases k1
theorem Rng.turn {n B : Nat} {jb j : Inj} {Hb H : AHeap} {wb w w1 : World} {c u pb since c0 clock c1 : Nat} {seen seen' : Array Nat} {ents : Array MapEntry} (h : Rng j H w c u pb since seen c0 ents clock) (hs : Step n jb Hb wb j H w) (hu : wb.heap.size ≤ u) (hg : gsz ≤ wb.heap.size)
    (hw : w1 = w ∨ w1 = w.drew) (hc1 : since ≤ c1) {ds : List Deferred} (hd : DefOk B w ds) :
    Step n jb Hb wb j H (setBlock w1 u (.mapIter (some pb) since seen' c1)) ∧ Rng j H (setBlock w1 u (.mapIter (some pb) since seen' c1)) c u pb since seen' c1 ents clock ∧ DefOk B (setBlock w1 u (.mapIter (some pb) since seen' c1)) ds := by
  have h1 := h.it
  have h2 := h.le
  have hul := lt_of_some h1
  have h1' : w1.heap[u]? = some (.mapIter (some pb) since seen c0) := by rcases hw with rfl | rfl <;> exact h1
  have hset := heap_set (o' := .mapIter (some pb) since seen' c1) h1'
  have hother : ∀ i, i ≠ u → (setBlock w1 u (.mapIter (some pb) since seen' c1)).heap[i]? = w.heap[i]? := fun i hi => (hset.2 i hi).trans (by rcases hw with rfl | rfl <;> rfl)
  have hsz : (setBlock w1 u (.mapIter (some pb) since seen' c1)).heap.size = w.heap.size := by rcases hw with rfl | rfl <;> simp [setBlock]
  have hnt := h.no_tch hs.rel
  refine ⟨⟨?_, hs.ext, hs.len, ⟨?_, ?_, ?_, ?_, ?_⟩, hs.fresh, hs.tch⟩, ⟨h.at_c, h.nu, h.nb, h.ne, hset.1, hc1, (hother pb (fun e => h.ne e.symm)).trans h.map⟩, ?_⟩
  · refine hs.rel.same_on (Nat.le_of_eq hsz.symm) (fun v hv => hother v fun e => ?_) fun v hv => hother v fun e => ?_
    · omega
    · subst e; exact hnt hv
  · rcases hw with rfl | rfl <;> exact hs.keeps.os
  · rcases hw with rfl | rfl <;> exact hs.keeps.tape
  · rcases hw with rfl | rfl <;> exact hs.keeps.output
  · rw [hsz]; exact hs.keeps.size
  · intro v hv ho
    rw [hother v (by omega)]
    exact hs.keeps.block v hv ho
  · obtain ⟨Ds, g1, g2, g3⟩ := hd
    refine ⟨Ds, g1, g2, fun D hD => ⟨(g3 D hD).1, ?_⟩⟩
    rw [hother D fun e => ?_]
    · exact (g3 D hD).2
    · have := (g3 D hD).2
      rw [e, h1] at this
      cases this
theorem opRaw {P : Program} {o : Oper} {a : Act} {w w' : World} {cv : Value} (hd : ∀ c, o.op ≠ .defer c) (h : (execOp a.eval o).run P w = .ok (.value cv) w') (r : Option Nat) (n : Nat) {K : Act → World → Prop} {Q : Exit → Act → World → Prop} (hk : K (a.put o.dst cv) w') : o.wpIn (FW r) n P a w K Q := by
  refine ⟨fun _ _ => trivial, ?_⟩
  rw [Oper.semAt_eq _ _ _ hd, h]
  exact hk
set_option maxHeartbeats 2000000 in
theorem Sim.rangeMap {P : Program} {Γ : Gam} (hΓ : GOk P Γ) {r : Option Nat} {n0 n1 id id2 k0 k1 k2 : Nat} {ops0 ops1 ops2 : Array Oper} {c : Operand} {body : Code} {F F1 Fe : List AV} {H H1 : AHeap} {Q : AX → List AV → AHeap → Prop} {l0 rest1 rest2 : List Oper} {o0 o1 o2 : Oper} {tt kt et : TypeId} {x it it2 : Operand} {b : Nat} {es : List (AV × AV)}
    (hn : n0 ≤ H.length) (h0 : ops0.toList = l0 ++ [o0]) (hrun : aopsO P Γ ops0 l0 F H = some (F1, H1)) (hl : H.length ≤ H1.length)
    (ho0 : o0.op = .range tt x) (hw0 : wantA ops0 o0 F1 = some true) (hx : ev F1 x = .map b) (hb : H1[b]? = some (.map es)) (ht : P.underlying tt = some (.map kt et)) (hfree : ∀ e ∈ es, free e.1 = true ∧ free e.2 = true)
    {Fs : List AV} {Hs : AHeap} (hFs : putA F1 o0.dst (.ptr H1.length 0) = Fs) (hHs : H1.set b .dead ++ [.dead] = Hs) (hn1 : H1.length + 1 = n1)
    (h1 : ops1.toList = o1 :: rest1) (ho1 : o1.op = .next it false) (hw1 : wantA ops1 o1 Fs = some true) (hit : ev Fs it = .ptr H1.length 0)
    (hend : aopsO P Γ ops1 rest1 (putA Fs o1.dst (.tuple [.bool false])) Hs = some (Fe, Hs)) (hce : ev Fe c = .bool false) (hQ : Q .normal Fe Hs)
    (h2 : ops2.toList = o2 :: rest2) (ho2 : o2.op = .entry it2)
    (round : ∀ e ∈ es, ∃ F2 F3 H3, aopsO P Γ ops1 rest1 (putA Fs o1.dst (.tuple [.bool true, e.1, e.2])) Hs = some (F2, Hs) ∧ ev F2 c = .bool true ∧ wantA ops2 o2 F2 = some true ∧ ev F2 it2 = .ptr H1.length 0 ∧
      aopsO P Γ ops2 rest2 (putA F2 o2.dst (.tuple [e.1, e.2])) Hs = some (F3, H3) ∧ n1 ≤ H3.length ∧ Sim P r n1 body F3 H3 (fun e' F' H' => e' = .normal ∧ Weak n1 F' H' Fs Hs)) :
    Sim P r n0 (.seq (.region k0 ops0 false) (.block id (.loop (.seq (.region k1 ops1 false) (.seq (.cond c .skip (.exit id)) (.block id2 (.seq (.region k2 ops2 false) body))))))) F H Q := by
  intro B j w a m hB hR hF hd
  refine wpIn_seq (wpIn_region_list ?_)
  rw [h0]
  rw [aopsO_eq] at hrun
  refine aops_k hΓ r m [o0] _ F F1 H H1 j w a hrun hR hF _ rfl fun j1 w1 a1 g1 g2 s1 => ?_
  unfold wpListIn
  rw [wantA_ok hw0 g1]
  simp only [if_true]
  have hbl : b < H1.length := lt_of_some' hb
  have hxv := ev_ok g1 x
  rw [hx] at hxv
  simp only [VR] at hxv
  obtain ⟨p, hp, hxe⟩ := hxv
  obtain ⟨ents, clock, hmb, hst, hml, hmr⟩ := s1.rel.blk b _ p hb hp
  have hpl := lt_of_some hmb
  have hr0 := run_range_map w1 tt kt et p.blk ents clock ht hmb
  refine opRaw (cv := .pointer (some ⟨w1.heap.size, 0, none⟩)) (w' := w1.alloc (.mapIter (some p.blk) clock #[] clock)) (by rw [ho0]; simp) ?_ r m ?_
  · unfold execOp
    rw [ho0]
    dsimp only
    rw [hxe, rb hr0]
    rfl
  have s2 := step_newO (x := .dead) s1.rel (.mapIter (some p.blk) clock #[] clock) (fun w' hw' => trivial)
  have s3 := step_kill s2.rel b
  rw [List.set_append_left _ _ hbl, hHs] at s3
  have s12 := s1.trans s2 hl
  have s13 := s12.trans s3 (by simp; omega)
  have hHl : Hs.length = H1.length + 1 := by rw [← hHs]; simp
  have hat : ∀ b' y, Hs[b']? = some y → y ≠ .dead → b' < H1.length ∧ b' ≠ b ∧ H1[b']? = some y := by
    intro b' y hy hd
    rw [← hHs] at hy
    have hb' : b' < H1.length := by
      rcases Nat.lt_or_ge b' H1.length with h | h
      · exact h
      · rw [List.getElem?_append_right (by simpa using h)] at hy
        have := List.mem_of_getElem? hy
        simp only [List.mem_singleton] at this
        exact absurd this hd
    rw [List.getElem?_append_left (by simpa using hb')] at hy
    by_cases hne : b = b'
    · subst hne
      rw [List.getElem?_set_self hb'] at hy
      cases hy; exact absurd rfl hd
    · rw [List.getElem?_set_ne hne] at hy
      exact ⟨hb', fun e => hne e.symm, hy⟩
  obtain ⟨j2, ej2⟩ : ∃ j2, jput j1 H1.length ⟨w1.heap.size, 0, 0⟩ = j2 := ⟨_, rfl⟩
  have hj2 : ∀ b', b' < H1.length → j2 b' = j1 b' := fun b' hb' => by rw [← ej2, jput_at, if_neg (by omega)]
  have hhid : ∀ y b', hidB j2 y b' = hidB j1 y b' := fun y b' => by rw [← ej2]; cases y <;> rfl
  have hown : ∀ y b', ownB j2 y b' = ownB j1 y b' := fun y b' => by rw [← ej2]; cases y <;> first | rfl | (rename_i o _; cases o <;> rfl)
  rw [ej2] at s13 s3 s2
  have hrng : Rng j2 Hs (w1.alloc (.mapIter (some p.blk) clock #[] clock)) H1.length w1.heap.size p.blk clock #[] clock ents clock := by
    refine ⟨by rw [← ej2, jput_same], ?_, ?_, by omega, Go.heap_alloc_new w1 _, Nat.le_refl _, ?_⟩
    · rintro ⟨b', y, q, k1, k2, k3, k4⟩
      obtain ⟨e1, e2, e3⟩ := hat b' y k1 (str_nd k2)
      rw [hj2 b' e1] at k3
      rw [hhid] at k4
      have := s1.rel.tlt (u := w1.heap.size) ⟨b', y, q, e3, str_nd k2, k3, k4⟩
      omega
    · rintro ⟨b', y, q, k1, k2, k3, k4⟩
      obtain ⟨e1, e2, e3⟩ := hat b' y k1 (own_nd k2)
      rw [hj2 b' e1] at k3
      rw [hown] at k4
      exact s1.rel.apart e3 k2 hb (by simp) e2 k3 hp k4 (.inl rfl)
    · exact (Go.heap_alloc_old w1 _ _ hpl).trans hmb
  have hu0 : w.heap.size ≤ w1.heap.size := s1.keeps.size
  have hg0 : gsz ≤ w.heap.size := hR.glo.1.2
  have hd2 : DefOk B (w1.alloc (.mapIter (some p.blk) clock #[] clock)) (a1.put o0.dst (.pointer (some ⟨w1.heap.size, 0, none⟩))).defers := by
    rw [put_defers, g2]
    exact hd.step hR s13
  have hF2 : VRs j2 Fs (a1.put o0.dst (.pointer (some ⟨w1.heap.size, 0, none⟩))).tmps.toList := by
    rw [← hFs]
    exact putA_ok (VRs.mono (by rw [← ej2]; exact jput_le (s1.rel.dom _ (Nat.le_refl _))) _ _ g1) o0.dst ⟨_, hrng.at_c, rfl⟩
  unfold wpListIn
  show (Code.block id _).wpIn _ _ _ _ _ _
  refine wpIn_block (wpIn_loop_rounds ((leftOf ents #[]).size + 1) ?_)
  have hold : ∀ x ∈ ents.toList, x.born < clock := hst.1
  have hfr : ∀ (i : Nat) y e, es[i]? = some y → ents.toList[i]? = some e → ∀ j', VR j' y.1 e.key ∧ VR j' y.2 e.val := fun i y e k1 k2 j' => by
    obtain ⟨f1, f2⟩ := hfree y (List.mem_of_getElem? k1)
    exact ⟨VR.free _ _ f1 (hmr i y e k1 k2).1, VR.free _ _ f2 (hmr i y e k1 k2).2⟩
  generalize hE : w1.alloc (.mapIter (some p.blk) clock #[] clock) = w2 at s13 hrng hd2
  obtain ⟨u, hu⟩ : ∃ u, w1.heap.size = u := ⟨_, rfl⟩
  rw [hu] at hrng hu0
  have key : ∀ k seen c0 j3 w3 a3, (leftOf ents seen).size < k → Step n0 j H w j3 Hs w3 → Rng j3 Hs w3 H1.length u p.blk clock seen c0 ents clock → VRs j3 Fs a3.tmps.toList → DefOk B w3 a3.defers →
      Code.roundsIn (FW r) m P (.seq (.region k1 ops1 false) (.seq (.cond c .skip (.exit id)) (.block id2 (.seq (.region k2 ops2 false) body))))
        (Exit.inBlock id (fun e a' w' => ∃ x F' H' j', e = AX.toExit x ∧ Q x F' H' ∧ VRs j' F' a'.tmps.toList ∧ DefOk B w' a'.defers ∧ Step n0 j H w j' H' w')) k a3 w3 := by
    intro k
    induction k with
    | zero => intro seen c0 j3 w3 a3 hk; omega
    | succ k ih =>
      intro seen c0 j3 w3 a3 hk st hrg hv3 hd3
      refine wpIn_seq (wpIn_region_list ?_)
      rw [h1]
      unfold wpListIn
      rw [wantA_ok hw1 hv3]
      simp only [if_true]
      have hi1 := hrg.it
      have hi2 := hrg.le
      have hiv := ev_ok hv3 it
      rw [hit] at hiv
      simp only [VR] at hiv
      obtain ⟨q, hq, hie⟩ := hiv
      rw [hrg.at_c] at hq
      cases hq
      have hnd : ∀ cc, o1.op ≠ .defer cc := by rw [ho1]; simp
      rcases run_next_at (P := P) w3 o1.type u p.blk clock c0 seen ents clock hi1 hrg.map hold hi2 with ⟨hz, hrun1⟩ | ⟨e, he, w4, hw4, hrun1⟩
      · refine opRaw (cv := .tuple #[.bool false]) (w' := w3) hnd ?_ r m ?_
        · unfold execOp
          rw [ho1]
          dsimp only
          rw [hie, rb hrun1]
          rfl
        rw [aopsO_eq] at hend
        refine aops_ok hΓ r m rest1 _ Fe Hs Hs j3 w3 _ hend st.rel (putA_ok hv3 o1.dst ⟨_, rfl, ⟨_, _, rfl, rfl, rfl⟩⟩) _ rfl fun j4 w4 a4 m1 m2 m3 => ?_
        have hcv := ev_ok m1 c
        rw [hce] at hcv
        have st4 := st.trans m3 st.len
        refine wpIn_seq (wpIn_cond_false hcv (wpIn_exit ?_))
        show (if id = id then _ else _)
        rw [if_pos rfl]
        exact ⟨.normal, Fe, Hs, j4, rfl, hQ, m1, by rw [m2, put_defers]; exact hd3.step st.rel m3, st4⟩
      · refine opRaw (cv := .tuple #[.bool true, e.key, e.val]) (w' := setBlock w4 u (.mapIter (some p.blk) clock (seen.push e.born) clock)) hnd ?_ r m ?_
        · unfold execOp
          rw [ho1]
          dsimp only
          rw [hie, rb hrun1]
          rfl
        obtain ⟨st4, hrg4, hd4⟩ := hrg.turn (seen' := seen.push e.born) (c1 := clock) st hu0 hg0 hw4 (Nat.le_refl _) hd3
        obtain ⟨hem, hes⟩ := mem_left he
        obtain ⟨i, hi⟩ := List.getElem?_of_mem hem
        have hil : i < es.length := by rw [hml]; exact (List.getElem?_eq_some_iff.1 hi).1
        have hiy := List.getElem?_eq_getElem hil
        have hee := hfr i es[i] e hiy hi j3
        obtain ⟨F2, F3, H3, r1, r2, r3, r4, r5, r6, r7⟩ := round es[i] (List.getElem_mem hil)
        rw [aopsO_eq] at r1 r5
        obtain ⟨w5, hw5⟩ : ∃ w5, setBlock w4 u (.mapIter (some p.blk) clock (seen.push e.born) clock) = w5 := ⟨_, rfl⟩
        rw [hw5] at st4 hrg4 hd4 ⊢
        refine aops_ok hΓ r m rest1 _ F2 Hs Hs j3 w5 _ r1 st4.rel (putA_ok hv3 o1.dst ⟨_, rfl, ⟨_, _, rfl, rfl, ⟨_, _, rfl, hee.1, ⟨_, _, rfl, hee.2, rfl⟩⟩⟩⟩) _ rfl fun j6 w6 a6 m1 m2 m3 => ?_
        have hcv := ev_ok m1 c
        rw [r2] at hcv
        have st6 := st4.trans m3 st4.len
        have hrg6 := hrg4.step m3 (by rw [hHl]; omega)
        have hd6 : DefOk B w6 a6.defers := by rw [m2, put_defers]; exact hd4.step st4.rel m3
        refine wpIn_seq (wpIn_cond_true hcv (wpIn_skip ?_))
        show (Code.block id2 _).wpIn _ _ _ _ _ _
        refine wpIn_block (wpIn_seq (wpIn_region_list ?_))
        rw [h2]
        unfold wpListIn
        rw [wantA_ok r3 m1]
        simp only [if_true]
        have hiv6 := ev_ok m1 it2
        rw [r4] at hiv6
        simp only [VR] at hiv6
        obtain ⟨q6, hq6, hie6⟩ := hiv6
        rw [hrg6.at_c] at hq6
        cases hq6
        have hee6 := hfr i es[i] e hiy hi j6
        have hrun6 := run_entry_at (P := P) w6 u p.blk clock seen ents clock e hrg6.it hrg6.map hem ((stamped_iff ents clock).1 hst).2.1
        refine opRaw (cv := .tuple #[e.key, e.val]) (w' := w6) (by rw [ho2]; simp) ?_ r m ?_
        · unfold execOp
          rw [ho2]
          dsimp only
          rw [hie6, rb hrun6]
          rfl
        refine aops_ok hΓ r m rest2 _ F3 Hs H3 j6 w6 _ r5 st6.rel (putA_ok m1 o2.dst ⟨_, rfl, ⟨_, _, rfl, hee6.1, ⟨_, _, rfl, hee6.2, rfl⟩⟩⟩) _ rfl fun j7 w7 a7 n1' n2' n3' => ?_
        have st7 := st6.trans n3' st6.len
        have hrg7 := hrg6.step n3' (by rw [hHl]; omega)
        have hd7 : DefOk B w7 a7.defers := by rw [n2', put_defers]; exact hd6.step st6.rel n3'
        refine wpIn_mono (r7 B j7 w7 a7 m (Nat.le_trans hB st7.keeps.size) st7.rel n1' hd7) ?_
        rintro e8 a8 w8 ⟨x8, F8, H8, j8, rfl, ⟨rfl, hwk⟩, v8, d8, s8⟩
        obtain ⟨j9, s9, v9⟩ := hwk.step (Nat.le_refl _) s8 v8
        have hrg9 := hrg7.step s9 (by omega)
        have st9 := st7.trans s9 (by omega)
        refine ih (seen.push e.born) clock j9 w8 a8 ?_ st9 hrg9 v9 d8
        have := left_shrinks ents seen e he
        omega
  exact key _ #[] clock j2 w2 _ (Nat.lt_succ_self _) (s13.weaken hn) hrng hF2 hd2
end Go.Proofs.YtjolihoakdifoaaGreat
namespace Go.Proofs.YtjolihoakdifoaaGreat
open Go Go.Lib
set_option maxRecDepth 100000
attribute [-simp] drawOk_eq adraw qrun acode aops
def kvA (v : List UInt8 × Bool) : AV := .agg [.str v.1, .bool v.2]
def kmA (l : KM) : List (AV × AV) := l.map fun e => (.str e.1, kvA e.2)
def KM.at (l : KM) (k : List UInt8) : Nat := (KM.keys l).idxOf k
@[simp] theorem frees_km1 (l : KM) : frees ((kmA l).map fun x => x.1) = true := by
  unfold kmA; rw [List.map_map]; exact frees_map _ _ fun _ => rfl
@[simp] theorem frees_km2 (l : KM) : frees ((kmA l).map fun x => x.2) = true := by
  unfold kmA; rw [List.map_map]; exact frees_map _ _ fun _ => rfl
theorem AWb_km (rn : List Nat) (l : KM) : AWb rn (.map (kmA l)) (.map (kmA l)) := ⟨AWs.refl rn _ (frees_km1 l), AWs.refl rn _ (frees_km2 l)⟩
theorem find_km (k : List UInt8) : ∀ (l : KM) (i : Nat), findA (kmA l) (.str k) i = some ((KM.get l k).map fun v => (i + KM.at l k, kvA v))
  | [], i => by simp [kmA, findA, KM.get]
  | e :: l, i => by
    have ih := find_km k l (i + 1)
    simp only [kmA] at ih
    by_cases h : e.1 = k
    · subst h
      simp [kmA, findA, primEq, KM.get, KM.at, KM.keys]
    · have h2 : (k == e.1) = false := by simpa using (fun q => h q.symm)
      have h3 : (e.1 == k) = false := by simpa using h
      simp only [kmA, List.map_cons, findA, primEq, h2, ih, KM.get, h, if_false, KM.at, KM.keys]
      rw [List.idxOf_cons, h3]
      cases KM.get l k <;> simp; omega
theorem km_set : ∀ {l : KM} {k : List UInt8} {n : List UInt8 × Bool} (v : List UInt8 × Bool), KM.get l k = some n → (kmA l).set (KM.at l k) (.str k, kvA v) = kmA (KM.put l k v)
  | e :: l, k, n, v, h => by
    unfold KM.get at h
    unfold KM.put
    split at h
    · rename_i hk; subst hk; simp [kmA, KM.at, KM.keys]
    · rename_i hk
      have ih := km_set v h
      have h3 : (e.1 == k) = false := by simpa using hk
      simp only [KM.at, KM.keys, kmA, List.map_cons] at ih ⊢
      rw [if_neg hk, List.idxOf_cons, h3]
      simp only [cond_false, List.set_cons_succ, List.map_cons, ih]
theorem km_new {l : KM} {k : List UInt8} (v : List UInt8 × Bool) (h : KM.get l k = none) : kmA l ++ [(.str k, kvA v)] = kmA (KM.put l k v) := by
  induction l with
  | nil => rfl
  | cons e l ih =>
    unfold KM.get at h
    unfold KM.put
    split at h
    · cases h
    · rename_i hk
      have := ih h
      simp only [kmA, List.map_cons, List.cons_append] at this ⊢
      rw [if_neg hk, List.map_cons, this]
theorem km_inj : ∀ {l m : KM}, kmA l = kmA m → l = m
  | [], [], _ => rfl
  | [], _ :: _, h => by simp [kmA] at h
  | _ :: _, [], h => by simp [kmA] at h
  | (a, b, c) :: l, (a', b', c') :: m, h => by
    simp only [kmA, kvA, List.map_cons, List.cons.injEq, Prod.mk.injEq, AV.str.injEq, AV.agg.injEq, AV.bool.injEq, and_true] at h
    obtain ⟨⟨rfl, rfl, rfl⟩, h2⟩ := h
    rw [km_inj (l := l) (m := m) (by simpa [kmA, kvA] using h2)]
theorem mapSet_km {H : AHeap} {b : Nat} {m : KM} (k : List UInt8) (v : List UInt8 × Bool) :
    (match (KM.get m k).map fun v => (0 + KM.at m k, kvA v) with
      | some (i, _) => some (H.set b (.map ((kmA m).set i (.str k, kvA v))))
      | none => some (H.set b (.map (kmA m ++ [(.str k, kvA v)])))) = some (H.set b (.map (kmA (KM.put m k v)))) := by
  cases h : KM.get m k with
  | none => simp only [Option.map_none]; rw [km_new v h]
  | some n => simp only [Option.map_some, Nat.zero_add]; rw [km_set v h]
theorem againM_snoc (was out : KM) (l : List (List UInt8)) (i : Nat) (k : List UInt8) (h : l[i]? = some k) : againM was out (l.take (i + 1)) = KM.put (againM was out (l.take i)) k (againV was k) := by
  unfold againM
  rw [List.take_add_one, h, List.foldl_append]; rfl
noncomputable def agΓ : Gam := gams [(30, dlistS)]
theorem agΓ_ok : GOk Tryz.prog agΓ := goks_cons dlist_sound goks_nil
set_option maxHeartbeats 16000000 in
theorem again_ct (d : DS) (hd : d.small) (was : KM) :
    Ct Tryz.prog 15 [.ptr 0 0, .map 1] [.obj true d.blks, .map (kmA was)] (.map 2) [.obj true d.blks, .map (kmA was), .map (kmA (againM was [] d.list))] := by
  have hΓ := agΓ_ok
  refine ct_of_sim Tryz.func15 rfl ?_
  simp only [Tryz.ntmps15, List.length_cons, List.length_nil, Nat.reduceAdd, Nat.reduceSub, List.replicate, List.cons_append, List.nil_append]
  obtain ⟨B, hB⟩ : ∃ B, ABlk.obj true d.blks = B := ⟨_, rfl⟩
  have hBw : ∀ rn : List Nat, AWb rn B B := fun rn => by rw [← hB]; exact ⟨rfl, rfl⟩
  obtain ⟨l, hl⟩ : ∃ l, d.list = l := ⟨_, rfl⟩
  obtain ⟨L, hL⟩ : ∃ L, l.length = L := ⟨_, rfl⟩
  have hll : L ≤ 1000000 := by
    have := DS.list_le (A := 900000) (B := 1000000000000) hd
    rw [hl, hL] at this
    omega
  rw [hl]
  refine Sim.step hmix hΓ (n := 0) (by simp; exact ⟨rfl, rfl⟩) (by simp) ?_
  refine Sim.step hmix hΓ (n := 0) (by simp; exact ⟨rfl, rfl⟩) (by simp) ?_
  refine Sim.step hmix hΓ (n := 0) (by simp (decide := true) [agΓ, dlistS, hd, hl, hL]; exact ⟨rfl, rfl⟩) (by simp) ?_
  refine Sim.seq (Sim.mono (Q := fun e F' H' => e = .normal ∧ Weak 2 F' H' ([.ptr 0 0, .map 1, .top, .top, .top, .map 2] ++ List.replicate 36 .top) [B, .map (kmA was), .map (kmA (againM was [] l))]) (Sim.step hmix hΓ (n := 0) (by simp; exact ⟨rfl, rfl⟩) (by simp) ?_) ?_)
  · refine Sim.block (Sim.loopW (fun i : Nat => i ≤ L) (fun i => [.ptr 0 0, .map 1, .top, .top, .top, .map 2, .sl 3 0 L 1 false, .int .i64 i] ++ List.replicate 34 .top) (fun i => [B, .map (kmA was), .map (kmA (againM was [] (l.take i))), .cells true (l.map .str)]) (fun i => L - i) 0 (by simp) (Nat.zero_le _) ?_ fun i hi => ?_)
    · rw [hB]
      exact Weak.mk' [0, 1, 2, 3] (by decide) (by decide) (by simp [AW]) (AWg.of _ _ (by simp) fun i B' b h1 h2 _ => by
        match i, h1, h2 with
        | 0, h1, h2 => cases h1; cases h2; exact hBw _
        | 1, h1, h2 => cases h1; cases h2; exact AWb_km _ _
        | 2, h1, h2 => cases h1; cases h2; exact AWb_km _ []
        | 3, h1, h2 => cases h1; cases h2; exact ⟨id, AWs.refl _ _ (frees_map _ _ fun _ => rfl)⟩)
    · by_cases hlt : i < L
      rotate_left
      · have hin : i = L := by omega
        subst hin
        refine Sim.exec hmix hΓ (n := 0) (by simp; exact ⟨rfl, rfl, rfl⟩) (by simp) ?_
        dsimp only
        rw [if_pos rfl]
        refine ⟨by trivial, ?_⟩
        rw [List.take_of_length_le (by omega)]
        exact Weak.mk' [0, 1, 2] (by decide) (by decide) (by simp [AW]) (AWg.of _ _ (by simp) fun i B' b h1 h2 _ => by
          match i, h1, h2 with
          | 0, h1, h2 => cases h1; cases h2; exact hBw _
          | 1, h1, h2 => cases h1; cases h2; exact AWb_km _ _
          | 2, h1, h2 => cases h1; cases h2; exact AWb_km _ _)
      have hltI : (i : Int) < L := by omega
      have hil : i < l.length := by omega
      obtain ⟨k, hk⟩ : ∃ k, l[i] = k := ⟨_, rfl⟩
      have hk0 : l[i]? = some k := by rw [List.getElem?_eq_getElem hil, hk]
      have y1 : IntKind.i64.wrap ((i : Int) + 1) = i + 1 := wr_i64 (by omega) (by omega)
      have hsn := againM_snoc was [] l i k hk0
      obtain ⟨out, hout⟩ : ∃ out, againM was [] (l.take i) = out := ⟨_, rfl⟩
      rw [hout] at hsn ⊢
      have hf1 := find_km k was 0
      have hf2 := find_km k out 0
      have fin : ∀ (F : List AV) (T : AHeap), AWs [0, 1, 2, 3] ([.ptr 0 0, .map 1, .top, .top, .top, .map 2, .sl 3 0 L 1 false, .int .i64 ((i + 1 : Nat) : Int)] ++ List.replicate 34 .top) F →
          Weak 2 F (B :: .map (kmA was) :: .map (kmA (againM was [] (l.take (i + 1)))) :: .cells true (l.map .str) :: T) ([.ptr 0 0, .map 1, .top, .top, .top, .map 2, .sl 3 0 L 1 false, .int .i64 ((i + 1 : Nat) : Int)] ++ List.replicate 34 .top) [B, .map (kmA was), .map (kmA (againM was [] (l.take (i + 1)))), .cells true (l.map .str)] := fun F T hF =>
        Weak.mk' [0, 1, 2, 3] (by decide) (by decide) hF (AWg.of _ _ (by simp) fun i B' b h1 h2 _ => by
          match i, h1, h2 with
          | 0, h1, h2 => cases h1; cases h2; exact hBw _
          | 1, h1, h2 => cases h1; cases h2; exact AWb_km _ _
          | 2, h1, h2 => cases h1; cases h2; exact AWb_km _ _
          | 3, h1, h2 => cases h1; cases h2; exact ⟨id, AWs.refl _ _ (frees_map _ _ fun _ => rfl)⟩)
      have hset : ∀ v, againV was k = v → ∀ T, (match (KM.get out k).map fun v => (0 + KM.at out k, kvA v) with
          | some (i, _) => some ((B :: ABlk.map (kmA was) :: .map (kmA out) :: T).set 2 (.map ((kmA out).set i (.str k, kvA v))))
          | none => some ((B :: ABlk.map (kmA was) :: .map (kmA out) :: T).set 2 (.map (kmA out ++ [(.str k, kvA v)])))) = some (B :: ABlk.map (kmA was) :: .map (kmA (againM was [] (l.take (i + 1)))) :: T) := fun v hv T => by
        rw [mapSet_km, hsn, hv]; rfl
      refine Sim.step hmix hΓ (n := 0) (by simp [hltI]; exact ⟨rfl, rfl⟩) (by simp) ?_
      refine Sim.seq (Sim.block ?_)
      cases hg : KM.get was k with
      | none =>
        rw [hg] at hf1
        have hv : againV was k = ([], false) := by unfold againV; rw [hg]
        simp only [Option.map_none] at hf1
        refine Sim.step hmix hΓ (n := 0) (by simp (decide := true) [hlt, hL, hk, hf1]; exact ⟨rfl, rfl⟩) (by simp) ?_
        refine Sim.step hmix hΓ (n := 0) (by simp (decide := true); exact ⟨rfl, rfl⟩) (by simp) ?_
        refine Sim.draw hmix (by simp) ?_
        refine SimR.many hΓ 6 (by simp [stageOps]; rfl) (by omega) (by kernel_rfl) (by simp (decide := true) [hlt, hL, hk]; first | exact ⟨rfl, rfl⟩ | exact ⟨by kernel_rfl, rfl, rfl⟩) ?_
        cases hgo : KM.get out k with
        | none =>
          rw [hgo] at hf2
          simp only [Option.map_none] at hf2
          have hnew := km_new ([], false) hgo
          unfold kvA at hnew
          refine SimR.one hΓ _ rfl (by kernel_rfl) (by simp (decide := true) [hf2, hnew]; exact ⟨rfl, rfl⟩) ?_
          refine SimR.done rfl ?_
          dsimp only
          refine Sim.exec hmix hΓ (n := 0) (by simp [y1]; exact ⟨rfl, rfl, rfl⟩) (by simp) ?_
          dsimp only
          refine ⟨i + 1, by omega, ?_, by omega⟩
          rw [hv] at hsn
          rw [← hsn]
          exact fin _ _ (by simp [AW])
        | some n =>
          rw [hgo] at hf2
          simp only [Option.map_some, Nat.zero_add] at hf2
          have hnew := km_set ([], false) hgo
          unfold kvA at hnew
          refine SimR.one hΓ _ rfl (by kernel_rfl) (by simp (decide := true) [hf2, hnew]; exact ⟨rfl, rfl⟩) ?_
          refine SimR.done rfl ?_
          dsimp only
          refine Sim.exec hmix hΓ (n := 0) (by simp [y1]; exact ⟨rfl, rfl, rfl⟩) (by simp) ?_
          dsimp only
          refine ⟨i + 1, by omega, ?_, by omega⟩
          rw [hv] at hsn
          rw [← hsn]
          exact fin _ _ (by simp [AW])
      | some v =>
        obtain ⟨vs, vl⟩ := v
        rw [hg] at hf1
        simp only [Option.map_some, kvA] at hf1
        cases vl with
        | true =>
          have hv : againV was k = ([], false) := by unfold againV; rw [hg]; rfl
          refine Sim.step hmix hΓ (n := 0) (by simp (decide := true) [hlt, hL, hk, hf1]; exact ⟨rfl, rfl⟩) (by simp) ?_
          refine Sim.step hmix hΓ (n := 0) (by simp (decide := true); exact ⟨rfl, rfl⟩) (by simp) ?_
          refine Sim.draw hmix (by simp) ?_
          refine SimR.many hΓ 6 (by simp [stageOps]; rfl) (by omega) (by kernel_rfl) (by simp (decide := true) [hlt, hL, hk]; first | exact ⟨rfl, rfl⟩ | exact ⟨by kernel_rfl, rfl, rfl⟩) ?_
          cases hgo : KM.get out k with
          | none =>
            rw [hgo] at hf2
            simp only [Option.map_none] at hf2
            have hnew := km_new ([], false) hgo
            unfold kvA at hnew
            refine SimR.one hΓ _ rfl (by kernel_rfl) (by simp (decide := true) [hf2, hnew]; exact ⟨rfl, rfl⟩) ?_
            refine SimR.done rfl ?_
            dsimp only
            refine Sim.exec hmix hΓ (n := 0) (by simp [y1]; exact ⟨rfl, rfl, rfl⟩) (by simp) ?_
            dsimp only
            refine ⟨i + 1, by omega, ?_, by omega⟩
            rw [hv] at hsn
            rw [← hsn]
            exact fin _ _ (by simp [AW])
          | some n =>
            rw [hgo] at hf2
            simp only [Option.map_some, Nat.zero_add] at hf2
            have hnew := km_set ([], false) hgo
            unfold kvA at hnew
            refine SimR.one hΓ _ rfl (by kernel_rfl) (by simp (decide := true) [hf2, hnew]; exact ⟨rfl, rfl⟩) ?_
            refine SimR.done rfl ?_
            dsimp only
            refine Sim.exec hmix hΓ (n := 0) (by simp [y1]; exact ⟨rfl, rfl, rfl⟩) (by simp) ?_
            dsimp only
            refine ⟨i + 1, by omega, ?_, by omega⟩
            rw [hv] at hsn
            rw [← hsn]
            exact fin _ _ (by simp [AW])
        | false =>
          have hv : againV was k = (vs, false) := by unfold againV; rw [hg]; rfl
          refine Sim.step hmix hΓ (n := 0) (by simp (decide := true) [hlt, hL, hk, hf1]; exact ⟨rfl, rfl⟩) (by simp) ?_
          refine Sim.step hmix hΓ (n := 0) (by simp (decide := true); exact ⟨rfl, rfl⟩) (by simp) ?_
          refine Sim.draw hmix (by simp) ?_
          refine SimR.many hΓ 6 (by simp [stageOps]; rfl) (by omega) (by kernel_rfl) (by simp (decide := true) [hlt, hL, hk]; first | exact ⟨rfl, rfl⟩ | exact ⟨by kernel_rfl, rfl, rfl⟩) ?_
          cases hgo : KM.get out k with
          | none =>
            rw [hgo] at hf2
            simp only [Option.map_none] at hf2
            have hnew := km_new (vs, false) hgo
            unfold kvA at hnew
            refine SimR.one hΓ _ rfl (by kernel_rfl) (by simp (decide := true) [hf2, hnew]; exact ⟨rfl, rfl⟩) ?_
            refine SimR.done rfl ?_
            dsimp only
            refine Sim.exec hmix hΓ (n := 0) (by simp [y1]; exact ⟨rfl, rfl, rfl⟩) (by simp) ?_
            dsimp only
            refine ⟨i + 1, by omega, ?_, by omega⟩
            rw [hv] at hsn
            rw [← hsn]
            exact fin _ _ (by simp [AW])
          | some n =>
            rw [hgo] at hf2
            simp only [Option.map_some, Nat.zero_add] at hf2
            have hnew := km_set (vs, false) hgo
            unfold kvA at hnew
            refine SimR.one hΓ _ rfl (by kernel_rfl) (by simp (decide := true) [hf2, hnew]; exact ⟨rfl, rfl⟩) ?_
            refine SimR.done rfl ?_
            dsimp only
            refine Sim.exec hmix hΓ (n := 0) (by simp [y1]; exact ⟨rfl, rfl, rfl⟩) (by simp) ?_
            dsimp only
            refine ⟨i + 1, by omega, ?_, by omega⟩
            rw [hv] at hsn
            rw [← hsn]
            exact fin _ _ (by simp [AW])
  · rintro e F' H' hlen1 ⟨rfl, hwk⟩
    dsimp only
    refine Sim.weak hwk hlen1 ?_
    simp only [List.cons_append, List.nil_append, List.replicate]
    refine Sim.exec hmix hΓ (n := 0) (by simp; exact ⟨rfl, rfl, rfl⟩) (by simp) ?_
    refine ⟨.inr rfl, _, by simp [Tryz.f15] <;> rfl, ?_⟩
    rw [hB]
    exact Weak.mk' [0, 1, 2] (by decide) (by decide) (by simp [AW]) (AWg.of _ _ (by simp) fun i B' b h1 h2 _ => by
      match i, h1, h2 with
      | 0, h1, h2 => cases h1; cases h2; exact hBw _
      | 1, h1, h2 => cases h1; cases h2; exact AWb_km _ _
      | 2, h1, h2 => cases h1; cases h2; exact AWb_km _ _)
noncomputable def kmD (es : List (AV × AV)) : Option KM := open Classical in if h : ∃ m, kmA m = es then some h.choose else none
@[simp] theorem kmD_km (m : KM) : kmD (kmA m) = some m := by
  unfold kmD
  have h : ∃ m', kmA m' = kmA m := ⟨m, rfl⟩
  rw [dif_pos h]
  exact congrArg some (km_inj h.choose_spec)
theorem kmD_eq {es : List (AV × AV)} {m : KM} (h : kmD es = some m) : es = kmA m := by
  unfold kmD at h
  split at h
  · rename_i hx
    rw [← Option.some.inj h]
    exact hx.choose_spec.symm
  · cases h
theorem re_km (g : Nat → Nat) (m : KM) : (kmA m).map (fun e => (reA g e.1, reA g e.2)) = kmA m := by
  simp [kmA, kvA, reA, reAs]
noncomputable def againS : Summ := open Classical in fun args H => match args with
  | [.ptr b 0, .map m] => match H[b]? with
    | some (.obj true sub) => match dsD sub with
      | some d => match H[m]? with
        | some (.map es) => match kmD es with
          | some was => if d.small then some (.map H.length, H ++ [.map (kmA (againM was [] d.list))], []) else none
          | none => none
        | _ => none
      | none => none
    | _ => none
  | _ => none
theorem again_sound : Sound Tryz.prog 15 againS := by
  refine ⟨enter_of Tryz.func15 rfl (by decide), fun args H v H' W hs => ?_, fun args H v H' W hs => ?_⟩ <;> (unfold againS at hs; split at hs <;> try cases hs) <;> (split at hs <;> try cases hs) <;> (rename_i b m _ sub hb; split at hs <;> try cases hs) <;> (rename_i d hd; split at hs <;> try cases hs) <;> (rename_i _ es hm; split at hs <;> try cases hs) <;> (rename_i was hw; split at hs <;> cases hs; rename_i hk)
  · have e := dsD_eq hd
    subst e
    have e2 := kmD_eq hw
    subst e2
    have hbl : b < H.length := (List.getElem?_eq_some_iff.1 hb).1
    have hml : m < H.length := (List.getElem?_eq_some_iff.1 hm).1
    have hne : b ≠ m := by rintro rfl; rw [hb] at hm; cases hm
    have := ct_frame (H := H) (args := [.ptr b 0, .map m]) (again_ct d hk was) [b, m] (by simp [hne]) ⟨⟨rfl, rfl⟩, rfl, trivial⟩ ⟨by rw [List.getD_eq_getElem?_getD, hb]; exact ⟨rfl, rfl⟩, hbl, by rw [List.getD_eq_getElem?_getD, hm]; exact AWb_km _ _, hml, trivial⟩ rfl
    obtain ⟨h1, h2⟩ := List.getElem?_eq_some_iff.1 hb
    obtain ⟨h3, h4⟩ := List.getElem?_eq_some_iff.1 hm
    have hset : H.set b (.obj true d.blks) = H := by rw [← h2, List.set_getElem_self]
    have hset2 : H.set m (.map (kmA was)) = H := by rw [← h4, List.set_getElem_self]
    simpa [setOwn, ABlk.own, re_km, reA, nameG, hset, hset2, reB] using this
  · exact ⟨by simp, fun c hc _ => by rw [List.getElem?_append_left hc]⟩
end Go.Proofs.YtjolihoakdifoaaGreat
