/- 'cedillalaw09.NameNumbers' answers true for every input; its arguments read behind the call as they read before. The package-level variables that the row lists hold what the program's text lays: the card's tie. -/
import Derived.Test.YtkeffhaldeedpaaDoorQu
import Derived.Test.YtkeffhaldeedpaaDoorGe
import Derived.Test.YtkeffhaldeedpaaDoorCards
import Derived.Test.YtkeffhaldeedpaaDoorTie
import Derived.SevenTiedAt
import Derived.Lay
import Derived.LaidLaws
import Derived.LaidHandle
import Derived.LaidSub
import Derived.Lib.LaidTab
import Derived.Stop.LaidErr
import Derived.ChangeSame
import Derived.ChangeVars
import Derived.JoinedOf
import Derived.RowKitTokens
import Derived.Stop.Joined
namespace Go.Proofs.YtkeffhaldeedpaaDoor.nameNumbers
open Go.ChangeShapes Go.WideShapes Go.ChangeAt Go.RowKit

set_option maxRecDepth 100000

/-- The row's list holds no handle. -/
theorem met {W : World} (h : laidMetH Tryd.prog Rows.nameNumbersRow.laid W) : laidMet Tryd.prog Rows.nameNumbersRow.laid W := by
  have e : (Rows.nameNumbersRow.laid.filter fun x => x.2.handleName?.isSome) = [] := by kernel_rfl
  unfold laidMetH at h
  rw [e] at h
  exact h

theorem pow_laid {W : World} (h : laidMet Tryd.prog Rows.nameNumbersRow.laid W) : PowAt (gview W) ∧ 2 < W.heap.size := by
  have e : (Rows.nameNumbersRow.laid.filter fun x => x.1 == "internal/strconv.uint64pow10") = [("internal/strconv.uint64pow10", Lib.tabData .u64 Lib.pow10Tab)] := by kernel_rfl
  have h1 := h.filter fun x => x.1 == "internal/strconv.uint64pow10"
  rw [e] at h1
  have hg : Tryd.prog.globalNamed "internal/strconv.uint64pow10" = some 2 := by kernel_rfl
  have h2 : Lib.TabIs Tryd.prog W "internal/strconv.uint64pow10" .u64 Lib.pow10Tab :=
    Lib.tabIs_of_head (n := 20) hg (by kernel_rfl) Tryd.underlying100 Tryd.underlying70 (by kernel_rfl) (by kernel_rfl) h1
  unfold Lib.TabIs World.var? at h2
  rw [hg] at h2
  dsimp only [Option.bind] at h2
  split at h2
  rotate_left
  · cases h2
  rename_i cs T fz hb
  cases h2
  refine ⟨⟨T, fz, ?_⟩, (Array.getElem?_eq_some_iff.1 hb).1⟩
  unfold gview
  rw [if_pos (by decide)]
  exact hb

theorem err_laid {W : World} (h : laidMet Tryd.prog Rows.nameNumbersRow.laid W) : ErrAt (gview W) 0 ∧ ErrAt (gview W) 1 ∧ 0 < W.heap.size ∧ 1 < W.heap.size := by
  have star : "*" ++ "errors.errorString" = "*errors.errorString" := by decide
  have row : ∀ u, Tryd.prog.typeName? 3 u = some "*errors.errorString" → u = 95 := fun u hu =>
    typeName_ptr_named (nm := "errors.errorString") (by rw [star]; kernel_rfl) (by kernel_rfl) (by decide) u (by rw [star]; exact hu)
  have key : ∀ (n : String) (g : Nat) (text : List UInt8), (Rows.nameNumbersRow.laid.filter fun x => x.1 == n) = [(n, .iface "*errors.errorString" (.ptr (.agg [.lit (.string text)])))] → Tryd.prog.globalNamed n = some g → (Tryd.prog.globals[g]?).map (·.type) = some 51 → g < gsz → ErrAt (gview W) g ∧ g < W.heap.size := by
    intro n g text e hg ht hlt
    have h1 := h.filter fun x => x.1 == n
    rw [e] at h1
    obtain ⟨a0, s0, hv0, -, -, -⟩ := laid_sentinel h1 hg ht Tryd.underlying51 row Tryd.underlying95 Tryd.underlying97 rfl rfl Tryd.underlying9 (by kernel_rfl) (by kernel_rfl)
    unfold World.var? at hv0
    rw [hg] at hv0
    dsimp only [Option.bind] at hv0
    split at hv0
    rotate_left
    · cases hv0
    rename_i cs T fz hb
    cases hv0
    refine ⟨⟨T, fz, .iface 95 (.pointer (some a0)), ?_, .inr ⟨_, _, rfl⟩⟩, (Array.getElem?_eq_some_iff.1 hb).1⟩
    unfold gview
    rw [if_pos hlt]
    exact hb
  obtain ⟨k1, k2⟩ := key "strconv.ErrSyntax" 0 [105, 110, 118, 97, 108, 105, 100, 32, 115, 121, 110, 116, 97, 120] (by kernel_rfl) (by kernel_rfl) (by kernel_rfl) (by decide)
  obtain ⟨k3, k4⟩ := key "strconv.ErrRange" 1 [118, 97, 108, 117, 101, 32, 111, 117, 116, 32, 111, 102, 32, 114, 97, 110, 103, 101] (by kernel_rfl) (by kernel_rfl) (by kernel_rfl) (by decide)
  exact ⟨k1, k3, k2, k4⟩

theorem glo_laid {W : World} (h0 : laidMetH Tryd.prog Rows.nameNumbersRow.laid W) : GloW W := by
  have h := met h0
  obtain ⟨h1, h2⟩ := pow_laid h
  obtain ⟨k1, k2, k3, k4⟩ := err_laid h
  exact ⟨⟨h1, k1, k2⟩, by unfold gsz; omega⟩

noncomputable def laidW (os : Os) : World := World.laidAll Tryd.prog os (Rows.nameNumbersRow.laid.filter fun x => x.2.handleName?.isNone)
theorem laidW_met (os : Os) : laidMetH Tryd.prog Rows.nameNumbersRow.laid ((laidW os).forCall (fun _ _ => 0) ⟨#[], #[Value.slice none 0 0, Value.slice none 0 0, Value.string ⟨#[]⟩], []⟩).memory :=
  laidMetH_of_parts (laidMet_laidAll #[Value.slice none 0 0, Value.slice none 0 0, Value.string ⟨#[]⟩] (by kernel_rfl) (by kernel_rfl)) (by kernel_rfl)

theorem lifted (os : Os) (started : os.Started) (H : Type) (enc : TypeId × Value → H) :
    ReturnsInHanded {} Tryd.checked os 5 .any (fun w args => (Rows.nameNumbersSpec.pre enc Tryd.prog Tryd.f5 [] false w args ∧ laidMetH Tryd.prog Rows.nameNumbersRow.laid w) ∧ sizedMet enc Tryd.prog Tryd.f5 (OpenSpec.ofChange Rows.nameNumbersSpec) false w args)
      (Rows.nameNumbersSpec.post enc Tryd.prog Tryd.f5 false true false false) := by
  refine returnsInHanded_of_change_and (C := Tryd.checked) (X := fun w _ => laidMetH Tryd.prog Rows.nameNumbersRow.laid w) (fun _ _ _ hh h => h.of_heap hh) own started (by kernel_rfl) Tryd.func5
    (ChangeSpec.witness_at (enc := enc) (C := Tryd.checked) (os := os) (X := fun w _ => laidMetH Tryd.prog Rows.nameNumbersRow.laid w) false (laidW os) #[Value.slice none 0 0, Value.slice none 0 0, Value.string ⟨#[]⟩] 8 (World.laidAll_os _ _ _) (by kernel_rfl) (by kernel_rfl) (by kernel_rfl) (by kernel_rfl) (by kernel_rfl) (laidW_met os)) ?_
  intro W base args ds gs before hval0 hW _ _ hL _
  have hW' := hW
  obtain ⟨p, q, hA0, hV, rfl, hfz, hnd⟩ := hW
  obtain ⟨rfl, rfl⟩ := trodVars_none hV
  have hA : DataW.TrodAll enc Tryd.prog W 0 (fun _ => true) true Tryd.f5.params.toList args.toList ds p := hA0
  have hl : ds.length = 3 := trodAll_len hA
  obtain ⟨d0, d1, d2, rfl⟩ : ∃ y0 y1 y2, ds = [y0, y1, y2] := by
    match ds, hl with
    | [x0, x1, x2], _ => exact ⟨x0, x1, x2, rfl⟩
  have hs : shapesOf Tryd.prog 6 Tryd.f5.params.toList = some nameNumbers_shape := by kernel_rfl
  refine (law_call (base := base) hs hA (fun j t v ht hv => hval0 j t v (by rw [← Array.getElem?_toList]; exact ht) hv) nameNumbers_law (glo_laid hL)).mono fun e W' ⟨he, bel⟩ => ?_
  subst he
  have hB := trodAll_below laidOut Tryd.f5.params.toList (by kernel_rfl) hA bel
  exact ⟨_, rfl, _, _, _, [], _, [], hW', trodAll_mk1 (shut_bool Tryd.underlying4 _), hB, rfl, bel.frame _, fun h => by cases h⟩

theorem bare : Rows.NameNumbersSaid :=
  OpenClaim.holds_of_wide 5 Tryd.f5 rfl rfl rfl rfl rfl rfl rfl ⟨rfl, rfl, rfl, rfl, rfl⟩ rfl rfl rfl rfl rfl (by kernel_rfl) Tryd.func5 (by kernel_rfl)
    (of_decide_eq_true (by kernel_rfl)) (by unfold Func.isWrapper; rw [if_neg (of_decide_eq_false (by kernel_rfl))]; exact ⟨rfl, rfl⟩)
    (fun os started H enc _ => lifted os started H enc)

theorem proved : Rows.NameNumbersCardSaid :=
  Claim7.holds_tied_plain_at .later [] [.data, .data, .data, .sentinel, .sentinel] true (true, "c5ab7a8eb712bec42efc866ad9bf91fa0be7ac5a800dea4da12d038b144f00b4") true
    bare (fun _ h => by cases h) (by kernel_rfl) (fun _ h => by cases h) nameNumbers_row_tie rfl ⟨rfl, rfl⟩ (by kernel_rfl) rfl
    (fun f fn hf hfn => by
      obtain rfl : f = 5 := Option.some.inj ((show Tryd.prog.funcNamed "cedilla/cedillalaw09.NameNumbers" = some 5 by kernel_rfl).symm.trans hf) |>.symm
      obtain rfl : fn = Tryd.f5 := (Option.some.inj (Tryd.func5.symm.trans hfn)).symm
      exact ⟨by kernel_rfl, fun j t ht => by
        have h1 : (Tryd.f5.params.toList.all fun t => !(Tryd.prog.wantsStandIn t)) = true := by kernel_rfl
        have h2 : Tryd.f5.params.toList[j]? = some t := by rw [Array.getElem?_toList]; exact ht
        have h3 := List.all_eq_true.1 h1 t (List.mem_of_getElem? h2)
        show Tryd.prog.wantsStandIn t = false
        simpa using h3⟩)
    (by kernel_rfl)

#print axioms proved
end Go.Proofs.YtkeffhaldeedpaaDoor.nameNumbers
