/- Folders: rows of drawn acts. -/
import Derived.Test.YtjiilgpagpfdnaaHb
import Derived.Test.YtjiilgpagpfdnaaGe
import Derived.Test.YtjiilgpagpfdnaaBz
namespace Go.Proofs.Ytjiilgpagpfdnaa
open Go Go.Lib
set_option maxRecDepth 100000

def faA (x : FA) : List AV := [.int .u8 x.w, .int .u8 x.a, .int .u8 x.b, .int .i8 x.n, .str x.r]
structure FA.ok (x : FA) : Prop where
  w : x.w ≤ 255
  a : x.a ≤ 255
  b : x.b ≤ 255
  n : -128 ≤ x.n ∧ x.n ≤ 127
def fasA : List FA → List AV
  | [] => []
  | a :: l => faA a ++ fasA l
@[simp] theorem fasA_length : ∀ l : List FA, (fasA l).length = l.length * 5
  | [] => rfl
  | a :: l => by simp [fasA, faA, fasA_length l]; omega
theorem fas_get : ∀ (l : List FA) (k : Nat) (h : k < l.length), ((fasA l).drop (k * 5)).take 5 = faA l[k]
  | a :: l, 0, _ => by simp [fasA, faA]
  | a :: l, k + 1, h => by
    have := fas_get l k (by simpa using h)
    rw [show (k + 1) * 5 = 5 + k * 5 by omega]
    simp only [fasA, List.getElem_cons_succ]
    rw [← List.drop_drop]
    simpa [faA] using this
theorem fas_cell {l : List FA} {k : Nat} {e : FA} (h : l[k]? = some e) (i : Nat) (hi : i < 5) : (fasA l)[k * 5 + i]? = (faA e)[i]? := by
  obtain ⟨hk, he⟩ := List.getElem?_eq_some_iff.1 h
  have h1 := fas_get l k hk
  rw [he] at h1
  rw [← h1, List.getElem?_take_of_lt hi, List.getElem?_drop]
@[simp] theorem frees_fas : ∀ l : List FA, frees (fasA l) = true
  | [] => rfl
  | a :: l => by simp [fasA, faA, frees_fas l]

theorem row_fas : ∀ {n : Nat} {l : List AV}, All2 PrimA (List.replicate n [Prim.int .u8, Prim.int .u8, Prim.int .u8, Prim.int .i8, Prim.str]).flatten l → ∃ ss : List FA, l = fasA ss ∧ ss.length = n ∧ ∀ x ∈ ss, x.ok
  | 0, [], _ => ⟨[], rfl, rfl, by simp⟩
  | n + 1, x :: l, h => by
    rw [List.replicate_succ, List.flatten_cons] at h
    obtain ⟨a, rfl, ha⟩ := h.1
    have h2 := h.2
    cases l with
    | nil => exact h2.elim
    | cons y l =>
      obtain ⟨b, rfl, hb⟩ := h2.1
      have h3 := h2.2
      cases l with
      | nil => exact h3.elim
      | cons z l =>
        obtain ⟨c, rfl, hc⟩ := h3.1
        have h4 := h3.2
        cases l with
        | nil => exact h4.elim
        | cons u l =>
          obtain ⟨d, rfl, hd⟩ := h4.1
          have h5 := h4.2
          cases l with
          | nil => exact h5.elim
          | cons t l =>
            obtain ⟨r, rfl, hr⟩ := h5.1
            obtain ⟨ss, rfl, hl, hq⟩ := row_fas (n := n) (l := l) h5.2
            have ba := bounds_u8 ha
            have bb := bounds_u8 hb
            have bc := bounds_u8 hc
            have bd := bounds_i8 hd
            obtain ⟨a, rfl⟩ : ∃ m : Nat, a = m := ⟨a.toNat, by omega⟩
            obtain ⟨b, rfl⟩ : ∃ m : Nat, b = m := ⟨b.toNat, by omega⟩
            obtain ⟨c, rfl⟩ : ∃ m : Nat, c = m := ⟨c.toNat, by omega⟩
            refine ⟨⟨a, b, c, d, r⟩ :: ss, rfl, by simp [hl], fun x hx => ?_⟩
            rcases List.mem_cons.1 hx with rfl | hx
            · exact ⟨by dsimp only; omega, by dsimp only; omega, by dsimp only; omega, bd⟩
            · exact hq x hx
  | 0, _ :: _, h => h.elim
  | n + 1, [], h => by
    rw [List.replicate_succ, List.flatten_cons] at h
    exact h.elim

end Go.Proofs.Ytjiilgpagpfdnaa
