/- The law cedillalaw09.NameTells: the names are made. -/
import Derived.Test.YtkeffhaldeedpaaDoorQk
import Derived.Test.YtkeffhaldeedpaaDoorQw
namespace Go.Proofs.YtkeffhaldeedpaaDoor
open Go Go.Lib
set_option maxRecDepth 100000
attribute [-simp] drawOk_eq adraw qrun acode aops

/-- What is drawn of a piece. -/
structure Pc where
  h : Int
  n : Int
  t : List UInt8

def Pc.ok (a : Pc) : Prop := (0 ≤ a.h ∧ a.h ≤ 255) ∧ (0 ≤ a.n ∧ a.n < 4294967296) ∧ a.t.length ≤ 9223372036854775807
def pcA (a : Pc) : List AV := [.int .u8 a.h, .int .u32 a.n, .str a.t]
def pcsA : List Pc → List AV
  | [] => []
  | a :: l => pcA a ++ pcsA l

@[simp] theorem pcsA_length : ∀ l : List Pc, (pcsA l).length = l.length * 3
  | [] => rfl
  | a :: l => by simp [pcsA, pcA, pcsA_length l]; omega

theorem pcs_get : ∀ (l : List Pc) (k : Nat) (h : k < l.length), ((pcsA l).drop (k * 3)).take 3 = pcA l[k]
  | a :: l, 0, _ => by simp [pcsA, pcA]
  | a :: l, k + 1, h => by
    have := pcs_get l k (by simpa using h)
    rw [show (k + 1) * 3 = 3 + k * 3 by omega]
    simp only [pcsA, List.getElem_cons_succ]
    rw [← List.drop_drop]
    simpa [pcA] using this

theorem pcs_cell {l : List Pc} {k : Nat} {e : Pc} (h : l[k]? = some e) (i : Nat) (hi : i < 3) : (pcsA l)[k * 3 + i]? = (pcA e)[i]? := by
  obtain ⟨hk, he⟩ := List.getElem?_eq_some_iff.1 h
  have h1 := pcs_get l k hk
  rw [he] at h1
  rw [← h1, List.getElem?_take_of_lt hi, List.getElem?_drop]

@[simp] theorem frees_pcs : ∀ l : List Pc, frees (pcsA l) = true
  | [] => rfl
  | a :: l => by simp [pcsA, pcA, frees_pcs l]

theorem row_pcs : ∀ {n : Nat} {l : List AV}, All2 PrimA (List.replicate n [Prim.int .u8, Prim.int .u32, Prim.str]).flatten l → ∃ ss : List Pc, l = pcsA ss ∧ ss.length = n ∧ ∀ x ∈ ss, x.ok
  | 0, [], _ => ⟨[], rfl, rfl, by simp⟩
  | n + 1, x :: l, h => by
    rw [List.replicate_succ, List.flatten_cons] at h
    obtain ⟨a, rfl, ha⟩ := h.1
    have h2 := h.2
    cases l with
    | nil => exact h2.elim
    | cons y l =>
      obtain ⟨b, rfl, hb⟩ := h2.1
      have h3 := h2.2
      cases l with
      | nil => exact h3.elim
      | cons z l =>
        obtain ⟨c, rfl, hc⟩ := h3.1
        obtain ⟨ss, rfl, hl, hq⟩ := row_pcs (n := n) (l := l) h3.2
        have ba := bounds_u8 ha
        have bb := bounds_u32 hb
        refine ⟨⟨a, b, c⟩ :: ss, rfl, by simp [hl], fun x hx => ?_⟩
        rcases List.mem_cons.1 hx with rfl | hx
        · exact ⟨ba, ⟨bb.1, by dsimp only; omega⟩, by unfold maxLen at hc; dsimp only; omega⟩
        · exact hq x hx
  | 0, _ :: _, h => h.elim
  | n + 1, [], h => by
    rw [List.replicate_succ, List.flatten_cons] at h
    exact h.elim

noncomputable def ntΓ : Gam := gams [(14, trueK), (6, textS), (7, mkS), (10, mkS), (8, nparseS), (9, rparseS), (12, numbersS), (13, rnumbersS), (11, intsS)]
theorem ntΓ_ok : GOk Tryd.prog ntΓ := goks_cons nwS0_sound (goks_cons text_sound (goks_cons rmake_sound (goks_cons make_sound (goks_cons nparse_sound (goks_cons rparse_sound (goks_cons numbers_sound (goks_cons rnumbers_sound (goks_cons ints_sound goks_nil))))))))

end Go.Proofs.YtkeffhaldeedpaaDoor
