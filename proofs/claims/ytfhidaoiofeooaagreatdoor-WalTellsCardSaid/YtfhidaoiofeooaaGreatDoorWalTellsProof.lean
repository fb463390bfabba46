/- 'cedillalaw10.WalTells' answers true for every input; its arguments read behind the call as they read before. The package-level variables that the row lists hold what the program's text lays: the card's tie. -/
import Derived.SevenTiedAt
import Derived.Lay
import Derived.LaidLaws
import Derived.LaidHandle
import Derived.LaidSub
import Derived.Lib.LaidTab
import Derived.ChangeSame
import Derived.ChangeVars
import Derived.JoinedOf
import Derived.RowKitTokens
import Derived.Stop.Joined
import Derived.Test.YtfhidaoiofeooaaGreatDoorY35
import Derived.Test.YtfhidaoiofeooaaGreatDoorCards
import Derived.Test.YtfhidaoiofeooaaGreatDoorTie
namespace Go.Proofs.YtfhidaoiofeooaaGreatDoor.walTells
open Go.ChangeShapes Go.WideShapes Go.ChangeAt Go.RowKit

set_option maxRecDepth 100000

/-- The row's list holds no handle. -/
theorem met {W : World} (h : laidMetH Tryz.prog Rows.walTellsRow.laid W) : laidMet Tryz.prog Rows.walTellsRow.laid W := by
  have e : (Rows.walTellsRow.laid.filter fun x => x.2.handleName?.isSome) = [] := by kernel_rfl
  unfold laidMetH at h
  rw [e] at h
  exact h

theorem pow_laid {W : World} (h : laidMet Tryz.prog Rows.walTellsRow.laid W) : zYP (zJn W) /\ 3 < W.heap.size := by
  have e : (Rows.walTellsRow.laid.filter fun x => x.1 == "internal/strconv.uint64pow10") = [("internal/strconv.uint64pow10", Lib.tabData .u64 Lib.pow10Tab)] := by kernel_rfl
  have h1 := h.filter fun x => x.1 == "internal/strconv.uint64pow10"
  rw [e] at h1
  have hg : Tryz.prog.globalNamed "internal/strconv.uint64pow10" = some 3 := by kernel_rfl
  have h2 : Lib.TabIs Tryz.prog W "internal/strconv.uint64pow10" .u64 Lib.pow10Tab :=
    Lib.tabIs_of_head (n := 20) hg (by kernel_rfl) Tryz.underlying406 Tryz.underlying250 (by kernel_rfl) (by kernel_rfl) h1
  unfold Lib.TabIs World.var? at h2
  rw [hg] at h2
  dsimp only [Option.bind] at h2
  split at h2
  rotate_left
  · cases h2
  rename_i cs T fz hb
  cases h2
  refine ⟨⟨T, fz, ?_⟩, (Array.getElem?_eq_some_iff.1 hb).1⟩
  unfold zJn
  rw [if_pos (by decide)]
  exact hb

theorem glo_laid {W : World} (h0 : laidMetH Tryz.prog Rows.walTellsRow.laid W) : GloW W := by
  have h := met h0
  obtain ⟨h1, h2⟩ := pow_laid h
  exact ⟨⟨h1, trivial⟩, by unfold gsz; omega⟩

noncomputable def laidW (os : Os) : World := World.laidAll Tryz.prog os (Rows.walTellsRow.laid.filter fun x => x.2.handleName?.isNone)
theorem laidW_met (os : Os) : laidMetH Tryz.prog Rows.walTellsRow.laid ((laidW os).forCall (fun _ _ => 0) ⟨#[], #[.int .u16 0, .agg #[.int .i16 0, .int .i16 0, .int .i16 0], .slice none 0 0], []⟩).memory :=
  laidMetH_of_parts (laidMet_laidAll #[.int .u16 0, .agg #[.int .i16 0, .int .i16 0, .int .i16 0], .slice none 0 0] (by kernel_rfl) (by kernel_rfl)) (by kernel_rfl)

theorem lifted (os : Os) (started : os.Started) (H : Type) (enc : TypeId × Value -> H) :
    ReturnsInHanded {} Tryz.checked os 3 .any (fun w args => (Rows.walTellsSpec.pre enc Tryz.prog Tryz.f3 [] false w args /\ laidMetH Tryz.prog Rows.walTellsRow.laid w) /\ sizedMet enc Tryz.prog Tryz.f3 (OpenSpec.ofChange Rows.walTellsSpec) false w args)
      (Rows.walTellsSpec.post enc Tryz.prog Tryz.f3 false true false false) := by
  refine returnsInHanded_of_change_and (C := Tryz.checked) (X := fun w _ => laidMetH Tryz.prog Rows.walTellsRow.laid w) (fun _ _ _ hh h => h.of_heap hh) own started (by kernel_rfl) Tryz.func3
    (ChangeSpec.witness_at (enc := enc) (C := Tryz.checked) (os := os) (X := fun w _ => laidMetH Tryz.prog Rows.walTellsRow.laid w) false (laidW os) #[.int .u16 0, .agg #[.int .i16 0, .int .i16 0, .int .i16 0], .slice none 0 0] 8 (World.laidAll_os _ _ _) (by kernel_rfl) (by kernel_rfl) (by kernel_rfl) (by kernel_rfl) (by kernel_rfl) (laidW_met os)) ?_
  intro W base args ds gs before hval0 hW _ _ hL _
  have hW' := hW
  obtain ⟨p, q, hA0, hV, rfl, hfz, hnd⟩ := hW
  obtain ⟨rfl, rfl⟩ := trodVars_none hV
  have hA : DataW.TrodAll enc Tryz.prog W 0 (fun _ => true) true Tryz.f3.params.toList args.toList ds p := hA0
  have hl : ds.length = 3 := zHh hA
  obtain ⟨d0, d1, d2, rfl⟩ : ∃ y0 y1 y2, ds = [y0, y1, y2] := by
    match ds, hl with
    | [x0, x1, x2], _ => exact ⟨x0, x1, x2, rfl⟩
  have hs : zFt Tryz.prog 12 Tryz.f3.params.toList = some zEJ := by kernel_rfl
  refine (zTt (base := base) hs hA (fun j t v ht hv => hval0 j t v (by rw [<- Array.getElem?_toList]; exact ht) hv) zM4 (glo_laid hL)).mono fun e W' ⟨he, bel⟩ => ?_
  subst he
  have hB := zFA zXV Tryz.f3.params.toList (by kernel_rfl) hA bel
  exact ⟨_, rfl, _, _, _, [], _, [], hW', trodAll_mk1 (shut_bool Tryz.underlying4 _), hB, rfl, bel.frame _, fun h => by cases h⟩

theorem j0 : (Rows.walTellsRow.wf (OpenSpec.ofChange Rows.walTellsSpec)) = true := by kernel_rfl
theorem j1 : (laidOutB Tryz.pinned.checked.prog) = true := by kernel_rfl
theorem j2 : (mapsRowed Tryz.pinned.checked.prog) = true := by kernel_rfl
theorem j3 : (Tryz.f3.params.all (Tryz.pinned.checked.prog.readableRec ·)) = true := by kernel_rfl
theorem j4 : (namedTie Tryz.pinned.checked.prog Rows.walTellsRow.named Rows.walTellsSpec.vars) = true := by kernel_rfl
theorem j5 : ((Rows.walTellsRow.stops == [])) = true := by kernel_rfl
theorem j6 : ((Tryz.pinned.checked.prog.stops == [])) = true := by kernel_rfl
theorem j7 : ((Rows.walTellsRow.knobs == [])) = true := by kernel_rfl
theorem j8 : ((Tryz.pinned.checked.prog.stopKnobs == [])) = true := by kernel_rfl
theorem j9 : ((Rows.walTellsRow.inPlace == Tryz.pinned.checked.prog.inPlace (3 : FuncId))) = true := by kernel_rfl
theorem j10 : ((Rows.walTellsRow.unfollowed == Tryz.pinned.checked.prog.unfollowed (3 : FuncId))) = true := by kernel_rfl
theorem j11 : ((Rows.walTellsRow.recurses == Tryz.pinned.checked.prog.recurses (3 : FuncId))) = true := by kernel_rfl
theorem j12 : ((Rows.walTellsRow.named == Tryz.pinned.checked.prog.varsNamed (3 : FuncId))) = true := by kernel_rfl
theorem j13 : ((Rows.walTellsRow.maps == (Tryz.f3.params.toList ++ Rows.walTellsSpec.plain.varTypes Tryz.pinned.checked.prog).any (Tryz.pinned.checked.prog.mapsRec ·))) = true := by kernel_rfl
theorem j14 : ((Rows.walTellsRow.ifaces == (Tryz.f3.params.toList ++ Rows.walTellsSpec.plain.varTypes Tryz.pinned.checked.prog).any (Tryz.pinned.checked.prog.ifacesRec ·))) = true := by kernel_rfl
theorem j15 : ((Rows.walTellsRow.mapsOut == Tryz.pinned.checked.prog.mapsAmong Tryz.f3.resultTypes.toList)) = true := by kernel_rfl
theorem j16 : ((Rows.walTellsRow.loops == (Tryz.f3.params.toList ++ Rows.walTellsSpec.plain.varTypes Tryz.pinned.checked.prog).any (Tryz.pinned.checked.prog.loopsFrom ·))) = true := by kernel_rfl
theorem j17 : ((Rows.walTellsRow.wideKeys == (Tryz.f3.params.toList ++ Rows.walTellsSpec.plain.varTypes Tryz.pinned.checked.prog ++ Tryz.f3.resultTypes.toList).any (Tryz.pinned.checked.prog.wideKeysFrom ·))) = true := by kernel_rfl
theorem j18 : (Rows.walTellsSpec.vars.all (Tryz.pinned.checked.prog.varReadable ·)) = true := by kernel_rfl
theorem j19 : (Tryz.f3.resultTypes.all (fun t => Tryz.pinned.checked.prog.readableRec t && decide (t < Tryz.pinned.checked.prog.types.size))) = true := by kernel_rfl
theorem j20 : ((Rows.walTellsRow.ifacesOut == Tryz.f3.resultTypes.toList.any (Tryz.pinned.checked.prog.ifacesRec ·))) = true := by kernel_rfl
theorem j21 : ((Rows.walTellsRow.loopsOut == Tryz.f3.resultTypes.toList.any (Tryz.pinned.checked.prog.loopsFrom ·))) = true := by kernel_rfl
theorem j22 : ((Rows.walTellsRow.plainKeys == Tryz.pinned.checked.prog.plainKeys)) = true := by kernel_rfl
theorem j23 : (Rows.walTellsRow.shortTexts.isNone) = true := by kernel_rfl
theorem j24 : (Tryz.pinned.checked.prog.stopsHeard) = true := by kernel_rfl
theorem j25 : (Tryz.pinned.checked.prog.mayEnter) = true := by kernel_rfl
theorem j26 : ((Rows.walTellsRow.lifted == Tryz.pinned.checked.prog.liftsFinal)) = true := by kernel_rfl
theorem j27 : ((Tryz.pinned.checked.prog.make == some Rows.walTellsRow.make)) = true := by kernel_rfl
theorem j29 : ((Rows.walTellsRow.pinned == Rows.walTellsRow.pinnedBy)) = true := by kernel_rfl
theorem j30 : ((Rows.walTellsRow.veiled == (Tryz.f3.params.toList ++ Rows.walTellsSpec.plain.varTypes Tryz.pinned.checked.prog ++ Tryz.f3.resultTypes.toList).any (Tryz.pinned.checked.prog.veiledRec ·))) = true := by kernel_rfl
theorem j31 : (Rows.walTellsRow.veiledFits Tryz.pinned.checked.prog Tryz.f3.params.toList (Tryz.f3.params.toList ++ Rows.walTellsSpec.plain.varTypes Tryz.pinned.checked.prog ++ Tryz.f3.resultTypes.toList)) = true := by kernel_rfl
theorem joined : joinedFacts Tryz.pinned.checked.prog 3 Tryz.f3 Rows.walTellsSpec Rows.walTellsRow = true := by
  simp only [joinedFacts, j0, j1, j2, j3, j4, j5, j6, j7, j8, j9, j10, j11, j12, j13, j14, j15, j16, j17, j18, j19, j20, j21, j22, j23, j24, j25, j26, j27, j29, j30, j31, Bool.and_true, Bool.true_and]
  kernel_rfl
theorem named : Tryz.pinned.checked.prog.funcNamed Rows.walTellsRow.func = some 3 := by kernel_rfl
theorem inst : Func.isInstance Tryz.pinned.checked.prog Tryz.f3 Rows.walTellsRow.origin Rows.walTellsRow.targs := of_decide_eq_true (by kernel_rfl)
theorem wrap : Func.isWrapper Tryz.pinned.checked.prog Tryz.f3 Rows.walTellsRow.wrapper Rows.walTellsRow.mainSum := by unfold Func.isWrapper; rw [if_neg (of_decide_eq_false (by kernel_rfl))]; exact ⟨rfl, rfl⟩

theorem bare : Rows.WalTellsSaid :=
  OpenClaim.holds_of_wide 3 Tryz.f3 rfl rfl rfl rfl rfl rfl rfl ⟨rfl, rfl, rfl, rfl, rfl⟩ rfl rfl rfl rfl rfl named Tryz.func3 joined inst wrap
    (fun os started H enc _ => lifted os started H enc)

theorem p1 : OpenClaim.wfByText (OpenSpec.ofChange Rows.walTellsSpec) Rows.walTellsRow = true := by kernel_rfl
theorem p2 : Tryz.pinned.checked.prog.mainIs = some ((true, "9805036ddfb4fd4c8312feb512b8bd8a70fd51d2a156d5a1b65c9d625a18b9ab").fst, (true, "9805036ddfb4fd4c8312feb512b8bd8a70fd51d2a156d5a1b65c9d625a18b9ab").snd.toList) := by kernel_rfl
theorem p3 : false = Rows.walTellsRow.goesBy Tryz.pinned.checked.prog := by kernel_rfl
theorem p4 : true = Tryz.pinned.checked.prog.looks [] := by kernel_rfl
theorem p5 : (Tryz.f3.params.toList.all fun t => !(Tryz.prog.wantsStandIn t)) = true := by kernel_rfl
theorem p6 : Tryz.prog.funcNamed "cedilla/cedillalaw10.WalTells" = some 3 := by kernel_rfl

theorem proved : Rows.WalTellsCardSaid :=
  Claim7.holds_tied_plain_at .later [] [.data, .data, .data] true (true, "9805036ddfb4fd4c8312feb512b8bd8a70fd51d2a156d5a1b65c9d625a18b9ab") true
    bare (fun _ h => by cases h) p1 (fun _ h => by cases h) walTells_row_tie rfl ⟨rfl, rfl⟩ p2 rfl
    (fun f fn hf hfn => by
      obtain rfl : f = 3 := Option.some.inj (p6.symm.trans hf) |>.symm
      obtain rfl : fn = Tryz.f3 := (Option.some.inj (Tryz.func3.symm.trans hfn)).symm
      exact ⟨p4, fun j t ht => by
        have h1 : (Tryz.f3.params.toList.all fun t => !(Tryz.prog.wantsStandIn t)) = true := p5
        have h2 : Tryz.f3.params.toList[j]? = some t := by rw [Array.getElem?_toList]; exact ht
        have h3 := List.all_eq_true.1 h1 t (List.mem_of_getElem? h2)
        show Tryz.prog.wantsStandIn t = false
        simpa using h3⟩)
    p3

#print axioms proved
end Go.Proofs.YtfhidaoiofeooaaGreatDoor.walTells


