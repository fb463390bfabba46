/- 'cedillalaw26.SweepTells' answers true for every input; its arguments read behind the call as they read before. The package-level variables that the row lists hold what the program's text lays: the card's tie. -/
import Derived.SevenTiedAt
import Derived.Lay
import Derived.LaidLaws
import Derived.LaidHandle
import Derived.LaidSub
import Derived.Lib.LaidTab
import Derived.Stop.LaidErr
import Derived.ChangeSame
import Derived.ChangeVars
import Derived.JoinedOf
import Derived.RowKitTokens
import Derived.Stop.Joined
import Derived.Test.YtfhidaoiofeooaaGreatDoorY28
import Derived.Test.YtfhidaoiofeooaaGreatDoorCards
import Derived.Test.YtfhidaoiofeooaaGreatDoorTie
namespace Go.Proofs.YtfhidaoiofeooaaGreatDoor.sweepTells
open Go.ChangeShapes Go.WideShapes Go.ChangeAt Go.RowKit

set_option maxRecDepth 100000

/-- The row's list holds no handle. -/
theorem met {W : World} (h : laidMetH Tryz.prog Rows.sweepTellsRow.laid W) : laidMet Tryz.prog Rows.sweepTellsRow.laid W := by
  have e : (Rows.sweepTellsRow.laid.filter fun x => x.2.handleName?.isSome) = [] := by kernel_rfl
  unfold laidMetH at h
  rw [e] at h
  exact h

theorem pow_laid {W : World} (h : laidMet Tryz.prog Rows.sweepTellsRow.laid W) : zUU (zCb W) /\ 3 < W.heap.size := by
  have e : (Rows.sweepTellsRow.laid.filter fun x => x.1 == "internal/strconv.uint64pow10") = [("internal/strconv.uint64pow10", Lib.tabData .u64 Lib.pow10Tab)] := by kernel_rfl
  have h1 := h.filter fun x => x.1 == "internal/strconv.uint64pow10"
  rw [e] at h1
  have hg : Tryz.prog.globalNamed "internal/strconv.uint64pow10" = some 3 := by kernel_rfl
  have h2 : Lib.TabIs Tryz.prog W "internal/strconv.uint64pow10" .u64 Lib.pow10Tab :=
    Lib.tabIs_of_head (n := 20) hg (by kernel_rfl) Tryz.underlying406 Tryz.underlying250 (by kernel_rfl) (by kernel_rfl) h1
  unfold Lib.TabIs World.var? at h2
  rw [hg] at h2
  dsimp only [Option.bind] at h2
  split at h2
  rotate_left
  · cases h2
  rename_i cs T fz hb
  cases h2
  refine ⟨⟨T, fz, ?_⟩, (Array.getElem?_eq_some_iff.1 hb).1⟩
  unfold zCb
  rw [if_pos (by decide)]
  exact hb

theorem err_laid {W : World} (h : laidMet Tryz.prog Rows.sweepTellsRow.laid W) : zJc (zCb W) 1 /\ zJc (zCb W) 2 /\ 1 < W.heap.size /\ 2 < W.heap.size := by
  have star : "*" ++ "errors.errorString" = "*errors.errorString" := by decide
  have row : ∀ u, Tryz.prog.typeName? 3 u = some "*errors.errorString" → u = 401 := fun u hu =>
    typeName_ptr_named (nm := "errors.errorString") (by rw [star]; kernel_rfl) (by kernel_rfl) (by decide) u (by rw [star]; exact hu)
  have key : ∀ (n : String) (g : Nat) (text : List UInt8), (Rows.sweepTellsRow.laid.filter fun x => x.1 == n) = [(n, .iface "*errors.errorString" (.ptr (.agg [.lit (.string text)])))] → Tryz.prog.globalNamed n = some g → (Tryz.prog.globals[g]?).map (·.type) = some 259 → g < gsz → zJc (zCb W) g ∧ g < W.heap.size := by
    intro n g text e hg ht hlt
    have h1 := h.filter fun x => x.1 == n
    rw [e] at h1
    obtain ⟨a0, s0, hv0, -, -, -⟩ := laid_sentinel h1 hg ht Tryz.underlying259 row Tryz.underlying401 Tryz.underlying403 rfl rfl Tryz.underlying9 (by kernel_rfl) (by kernel_rfl)
    unfold World.var? at hv0
    rw [hg] at hv0
    dsimp only [Option.bind] at hv0
    split at hv0
    rotate_left
    · cases hv0
    rename_i cs T fz hb
    cases hv0
    refine ⟨⟨T, fz, .iface 401 (.pointer (some a0)), ?_, .inr ⟨_, _, rfl⟩⟩, (Array.getElem?_eq_some_iff.1 hb).1⟩
    unfold zCb
    rw [if_pos hlt]
    exact hb
  obtain ⟨k1, k2⟩ := key "strconv.ErrSyntax" 1 [105, 110, 118, 97, 108, 105, 100, 32, 115, 121, 110, 116, 97, 120] (by kernel_rfl) (by kernel_rfl) (by kernel_rfl) (by decide)
  obtain ⟨k3, k4⟩ := key "strconv.ErrRange" 2 [118, 97, 108, 117, 101, 32, 111, 117, 116, 32, 111, 102, 32, 114, 97, 110, 103, 101] (by kernel_rfl) (by kernel_rfl) (by kernel_rfl) (by decide)
  exact ⟨k1, k3, k2, k4⟩

theorem glo_laid {W : World} (h0 : laidMetH Tryz.prog Rows.sweepTellsRow.laid W) : GloW W := by
  have h := met h0
  obtain ⟨h1, h2⟩ := pow_laid h
  obtain ⟨k1, k2, k3, k4⟩ := err_laid h
  exact ⟨⟨h1, k1, k2⟩, by unfold gsz; omega⟩

noncomputable def laidW (os : Os) : World := World.laidAll Tryz.prog os (Rows.sweepTellsRow.laid.filter fun x => x.2.handleName?.isNone)
theorem laidW_met (os : Os) : laidMetH Tryz.prog Rows.sweepTellsRow.laid ((laidW os).forCall (fun _ _ => 0) ⟨#[], #[.agg #[.int .u8 0, .slice none 0 0, .slice none 0 0], .int .u8 0, .string ⟨#[]⟩], []⟩).memory :=
  laidMetH_of_parts (laidMet_laidAll #[.agg #[.int .u8 0, .slice none 0 0, .slice none 0 0], .int .u8 0, .string ⟨#[]⟩] (by kernel_rfl) (by kernel_rfl)) (by kernel_rfl)

theorem txt : Tryz.f4.params.toList[2]? = some 9 /\ Tryz.prog.underlying 9 = some .string := ⟨by kernel_rfl, by kernel_rfl⟩

theorem lifted (os : Os) (started : os.Started) (H : Type) (enc : TypeId × Value -> H) :
    ReturnsInHanded {} Tryz.checked os 4 .any (fun w args => (Rows.sweepTellsSpec.pre enc Tryz.prog Tryz.f4 [] false w args /\ laidMetH Tryz.prog Rows.sweepTellsRow.laid w) /\ sizedMet enc Tryz.prog Tryz.f4 (OpenSpec.ofChange Rows.sweepTellsSpec) false w args)
      (Rows.sweepTellsSpec.post enc Tryz.prog Tryz.f4 false true false false) := by
  refine returnsInHanded_of_change_and (C := Tryz.checked) (X := fun w _ => laidMetH Tryz.prog Rows.sweepTellsRow.laid w) (fun _ _ _ hh h => h.of_heap hh) own started (by kernel_rfl) Tryz.func4
    (ChangeSpec.witness_at (enc := enc) (C := Tryz.checked) (os := os) (X := fun w _ => laidMetH Tryz.prog Rows.sweepTellsRow.laid w) false (laidW os) #[.agg #[.int .u8 0, .slice none 0 0, .slice none 0 0], .int .u8 0, .string ⟨#[]⟩] 8 (World.laidAll_os _ _ _) (by kernel_rfl) (by kernel_rfl) (by kernel_rfl) (by kernel_rfl) (by kernel_rfl) (laidW_met os)) ?_
  intro W base args ds gs before hval0 hW _ hz hL _
  have hW' := hW
  obtain ⟨p, q, hA0, hV, rfl, hfz, hnd⟩ := hW
  obtain ⟨rfl, rfl⟩ := trodVars_none hV
  have hA : DataW.TrodAll enc Tryz.prog W 0 (fun _ => true) true Tryz.f4.params.toList args.toList ds p := hA0
  have hl : ds.length = 3 := zGT hA
  obtain ⟨d0, d1, d2, rfl⟩ : ∃ y0 y1 y2, ds = [y0, y1, y2] := by
    match ds, hl with
    | [x0, x1, x2], _ => exact ⟨x0, x1, x2, rfl⟩
  have hs : zDi Tryz.prog 6 Tryz.f4.params.toList = some zCg := by kernel_rfl
  refine (zOd (base := base) 2 hs hA (fun j t v ht hv => hval0 j t v (by rw [<- Array.getElem?_toList]; exact ht) hv) hz txt.1 txt.2 zHG (glo_laid hL)).mono fun e W' ⟨he, bel⟩ => ?_
  subst he
  have hB := zEB zTE Tryz.f4.params.toList (by kernel_rfl) hA bel
  exact ⟨_, rfl, _, _, _, [], _, [], hW', trodAll_mk1 (shut_bool Tryz.underlying4 _), hB, rfl, bel.frame _, fun h => by cases h⟩

theorem j0 : (Rows.sweepTellsRow.wf (OpenSpec.ofChange Rows.sweepTellsSpec)) = true := by kernel_rfl
theorem j1 : (laidOutB Tryz.pinned.checked.prog) = true := by kernel_rfl
theorem j2 : (mapsRowed Tryz.pinned.checked.prog) = true := by kernel_rfl
theorem j3 : (Tryz.f4.params.all (Tryz.pinned.checked.prog.readableRec ·)) = true := by kernel_rfl
theorem j4 : (namedTie Tryz.pinned.checked.prog Rows.sweepTellsRow.named Rows.sweepTellsSpec.vars) = true := by kernel_rfl
theorem j5 : ((Rows.sweepTellsRow.stops == [])) = true := by kernel_rfl
theorem j6 : ((Tryz.pinned.checked.prog.stops == [])) = true := by kernel_rfl
theorem j7 : ((Rows.sweepTellsRow.knobs == [])) = true := by kernel_rfl
theorem j8 : ((Tryz.pinned.checked.prog.stopKnobs == [])) = true := by kernel_rfl
theorem j9 : ((Rows.sweepTellsRow.inPlace == Tryz.pinned.checked.prog.inPlace (4 : FuncId))) = true := by kernel_rfl
theorem j10 : ((Rows.sweepTellsRow.unfollowed == Tryz.pinned.checked.prog.unfollowed (4 : FuncId))) = true := by kernel_rfl
theorem j11 : ((Rows.sweepTellsRow.recurses == Tryz.pinned.checked.prog.recurses (4 : FuncId))) = true := by kernel_rfl
theorem j12 : ((Rows.sweepTellsRow.named == Tryz.pinned.checked.prog.varsNamed (4 : FuncId))) = true := by kernel_rfl
theorem j13 : ((Rows.sweepTellsRow.maps == (Tryz.f4.params.toList ++ Rows.sweepTellsSpec.plain.varTypes Tryz.pinned.checked.prog).any (Tryz.pinned.checked.prog.mapsRec ·))) = true := by kernel_rfl
theorem j14 : ((Rows.sweepTellsRow.ifaces == (Tryz.f4.params.toList ++ Rows.sweepTellsSpec.plain.varTypes Tryz.pinned.checked.prog).any (Tryz.pinned.checked.prog.ifacesRec ·))) = true := by kernel_rfl
theorem j15 : ((Rows.sweepTellsRow.mapsOut == Tryz.pinned.checked.prog.mapsAmong Tryz.f4.resultTypes.toList)) = true := by kernel_rfl
theorem j16 : ((Rows.sweepTellsRow.loops == (Tryz.f4.params.toList ++ Rows.sweepTellsSpec.plain.varTypes Tryz.pinned.checked.prog).any (Tryz.pinned.checked.prog.loopsFrom ·))) = true := by kernel_rfl
theorem j17 : ((Rows.sweepTellsRow.wideKeys == (Tryz.f4.params.toList ++ Rows.sweepTellsSpec.plain.varTypes Tryz.pinned.checked.prog ++ Tryz.f4.resultTypes.toList).any (Tryz.pinned.checked.prog.wideKeysFrom ·))) = true := by kernel_rfl
theorem j18 : (Rows.sweepTellsSpec.vars.all (Tryz.pinned.checked.prog.varReadable ·)) = true := by kernel_rfl
theorem j19 : (Tryz.f4.resultTypes.all (fun t => Tryz.pinned.checked.prog.readableRec t && decide (t < Tryz.pinned.checked.prog.types.size))) = true := by kernel_rfl
theorem j20 : ((Rows.sweepTellsRow.ifacesOut == Tryz.f4.resultTypes.toList.any (Tryz.pinned.checked.prog.ifacesRec ·))) = true := by kernel_rfl
theorem j21 : ((Rows.sweepTellsRow.loopsOut == Tryz.f4.resultTypes.toList.any (Tryz.pinned.checked.prog.loopsFrom ·))) = true := by kernel_rfl
theorem j22 : ((Rows.sweepTellsRow.plainKeys == Tryz.pinned.checked.prog.plainKeys)) = true := by kernel_rfl
theorem j23 : (Rows.sweepTellsRow.shortTexts.isNone) = true := by kernel_rfl
theorem j24 : (Tryz.pinned.checked.prog.stopsHeard) = true := by kernel_rfl
theorem j25 : (Tryz.pinned.checked.prog.mayEnter) = true := by kernel_rfl
theorem j26 : ((Rows.sweepTellsRow.lifted == Tryz.pinned.checked.prog.liftsFinal)) = true := by kernel_rfl
theorem j27 : ((Tryz.pinned.checked.prog.make == some Rows.sweepTellsRow.make)) = true := by kernel_rfl
theorem j29 : ((Rows.sweepTellsRow.pinned == Rows.sweepTellsRow.pinnedBy)) = true := by kernel_rfl
theorem j30 : ((Rows.sweepTellsRow.veiled == (Tryz.f4.params.toList ++ Rows.sweepTellsSpec.plain.varTypes Tryz.pinned.checked.prog ++ Tryz.f4.resultTypes.toList).any (Tryz.pinned.checked.prog.veiledRec ·))) = true := by kernel_rfl
theorem j31 : (Rows.sweepTellsRow.veiledFits Tryz.pinned.checked.prog Tryz.f4.params.toList (Tryz.f4.params.toList ++ Rows.sweepTellsSpec.plain.varTypes Tryz.pinned.checked.prog ++ Tryz.f4.resultTypes.toList)) = true := by kernel_rfl
theorem joined : joinedFacts Tryz.pinned.checked.prog 4 Tryz.f4 Rows.sweepTellsSpec Rows.sweepTellsRow = true := by
  simp only [joinedFacts, j0, j1, j2, j3, j4, j5, j6, j7, j8, j9, j10, j11, j12, j13, j14, j15, j16, j17, j18, j19, j20, j21, j22, j23, j24, j25, j26, j27, j29, j30, j31, Bool.and_true, Bool.true_and]
  kernel_rfl
theorem named : Tryz.pinned.checked.prog.funcNamed Rows.sweepTellsRow.func = some 4 := by kernel_rfl
theorem inst : Func.isInstance Tryz.pinned.checked.prog Tryz.f4 Rows.sweepTellsRow.origin Rows.sweepTellsRow.targs := of_decide_eq_true (by kernel_rfl)
theorem wrap : Func.isWrapper Tryz.pinned.checked.prog Tryz.f4 Rows.sweepTellsRow.wrapper Rows.sweepTellsRow.mainSum := by unfold Func.isWrapper; rw [if_neg (of_decide_eq_false (by kernel_rfl))]; exact ⟨rfl, rfl⟩

theorem bare : Rows.SweepTellsSaid :=
  OpenClaim.holds_of_wide 4 Tryz.f4 rfl rfl rfl rfl rfl rfl rfl ⟨rfl, rfl, rfl, rfl, rfl⟩ rfl rfl rfl rfl rfl named Tryz.func4 joined inst wrap
    (fun os started H enc _ => lifted os started H enc)

theorem p1 : OpenClaim.wfByText (OpenSpec.ofChange Rows.sweepTellsSpec) Rows.sweepTellsRow = true := by kernel_rfl
theorem p2 : Tryz.pinned.checked.prog.mainIs = some ((true, "9805036ddfb4fd4c8312feb512b8bd8a70fd51d2a156d5a1b65c9d625a18b9ab").fst, (true, "9805036ddfb4fd4c8312feb512b8bd8a70fd51d2a156d5a1b65c9d625a18b9ab").snd.toList) := by kernel_rfl
theorem p3 : false = Rows.sweepTellsRow.goesBy Tryz.pinned.checked.prog := by kernel_rfl
theorem p4 : true = Tryz.pinned.checked.prog.looks [] := by kernel_rfl
theorem p5 : (Tryz.f4.params.toList.all fun t => !(Tryz.prog.wantsStandIn t)) = true := by kernel_rfl
theorem p6 : Tryz.prog.funcNamed "cedilla/cedillalaw26.SweepTells" = some 4 := by kernel_rfl

theorem proved : Rows.SweepTellsCardSaid :=
  Claim7.holds_tied_plain_at .later [] [.data, .data, .data, .sentinel, .sentinel] true (true, "9805036ddfb4fd4c8312feb512b8bd8a70fd51d2a156d5a1b65c9d625a18b9ab") true
    bare (fun _ h => by cases h) p1 (fun _ h => by cases h) sweepTells_row_tie rfl ⟨rfl, rfl⟩ p2 rfl
    (fun f fn hf hfn => by
      obtain rfl : f = 4 := Option.some.inj (p6.symm.trans hf) |>.symm
      obtain rfl : fn = Tryz.f4 := (Option.some.inj (Tryz.func4.symm.trans hfn)).symm
      exact ⟨p4, fun j t ht => by
        have h1 : (Tryz.f4.params.toList.all fun t => !(Tryz.prog.wantsStandIn t)) = true := p5
        have h2 : Tryz.f4.params.toList[j]? = some t := by rw [Array.getElem?_toList]; exact ht
        have h3 := List.all_eq_true.1 h1 t (List.mem_of_getElem? h2)
        show Tryz.prog.wantsStandIn t = false
        simpa using h3⟩)
    p3

#print axioms proved
end Go.Proofs.YtfhidaoiofeooaaGreatDoor.sweepTells

