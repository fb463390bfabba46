/- FileTells: rows of acts, summaries of does, alike, Copy. -/
import Derived.Test.YtaociohomeepmaaGy
import Derived.Test.YtaociohomeepmaaCd
import Derived.Test.YtaociohomeepmaaGe
namespace Go.Proofs.Ytaociohomeepmaa
open Go
set_option maxRecDepth 100000
attribute [-simp] drawOk_eq adraw qrun acode aops

/-- What is drawn of an act. -/
structure Ac where
  w : Int
  s : List UInt8
  n : Int
  m : Int

def Ac.ok (a : Ac) : Prop := (0 ≤ a.w ∧ a.w ≤ 255) ∧ (-32768 ≤ a.n ∧ a.n ≤ 32767) ∧ (-32768 ≤ a.m ∧ a.m ≤ 32767) ∧ a.s.length ≤ 9223372036854775807

def acA (a : Ac) : List AV := [.int .u8 a.w, .str a.s, .int .i16 a.n, .int .i16 a.m]
def acsA : List Ac → List AV
  | [] => []
  | a :: l => acA a ++ acsA l

@[simp] theorem acsA_length : ∀ l : List Ac, (acsA l).length = l.length * 4
  | [] => rfl
  | a :: l => by simp [acsA, acA, acsA_length l]; omega

theorem acs_get : ∀ (l : List Ac) (k : Nat) (h : k < l.length), ((acsA l).drop (k * 4)).take 4 = acA l[k]
  | a :: l, 0, _ => by simp [acsA, acA]
  | a :: l, k + 1, h => by
    have := acs_get l k (by simpa using h)
    rw [show (k + 1) * 4 = 4 + k * 4 by omega]
    simp only [acsA, List.getElem_cons_succ]
    rw [← List.drop_drop]
    simpa [acA] using this

theorem acs_cell {l : List Ac} {k : Nat} {e : Ac} (h : l[k]? = some e) (i : Nat) (hi : i < 4) : (acsA l)[k * 4 + i]? = (acA e)[i]? := by
  obtain ⟨hk, he⟩ := List.getElem?_eq_some_iff.1 h
  have h1 := acs_get l k hk
  rw [he] at h1
  rw [← h1, List.getElem?_take_of_lt hi, List.getElem?_drop]
theorem acs_what {l : List Ac} {k : Nat} {e : Ac} (h : l[k]? = some e) : ∀ q, (acsA l)[k * 4]'q = .int .u8 e.w := fun _ => by
  have := acs_cell h 0 (by omega)
  rw [Nat.add_zero] at this
  exact (List.getElem?_eq_some_iff.1 this).2

@[simp] theorem frees_acs : ∀ l : List Ac, frees (acsA l) = true
  | [] => rfl
  | a :: l => by simp [acsA, acA, frees_acs l]

theorem row_acs : ∀ {n : Nat} {l : List AV}, All2 PrimA (List.replicate n [Prim.int .u8, Prim.str, Prim.int .i16, Prim.int .i16]).flatten l → ∃ ss : List Ac, l = acsA ss ∧ ss.length = n ∧ ∀ x ∈ ss, x.ok
  | 0, [], _ => ⟨[], rfl, rfl, by simp⟩
  | n + 1, x :: l, h => by
    rw [List.replicate_succ, List.flatten_cons] at h
    obtain ⟨a, rfl, ha⟩ := h.1
    have h2 := h.2
    cases l with
    | nil => exact h2.elim
    | cons y l =>
      obtain ⟨b, rfl, hb⟩ := h2.1
      have h3 := h2.2
      cases l with
      | nil => exact h3.elim
      | cons z l =>
        obtain ⟨c, rfl, hc⟩ := h3.1
        have h4 := h3.2
        cases l with
        | nil => exact h4.elim
        | cons u l =>
          obtain ⟨d, rfl, hd⟩ := h4.1
          obtain ⟨ss, rfl, hl, hq⟩ := row_acs (n := n) (l := l) h4.2
          have ba := bounds_u8 ha
          have bc := bounds_i16 hc
          have bd := bounds_i16 hd
          refine ⟨⟨a, b, c, d⟩ :: ss, rfl, by simp [hl], fun x hx => ?_⟩
          rcases List.mem_cons.1 hx with rfl | hx
          · exact ⟨ba, bc, bd, by unfold maxLen at hb; dsimp only; omega⟩
          · exact hq x hx
  | 0, _ :: _, h => h.elim
  | n + 1, [], h => by
    rw [List.replicate_succ, List.flatten_cons] at h
    exact h.elim

noncomputable def fcopyS : Summ := fun args H => match args with
  | [.ptr b 0] => match H[b]? with
    | some (.obj true sub) => match fileD sub with
      | some f => if f.acts.length ≤ 1000000000 then some (.ptr H.length 0, H ++ [.obj true f.blks], []) else none
      | none => none
    | _ => none
  | _ => none

theorem fcopy_sound : Sound Try.prog 6 fcopyS := by
  refine ⟨enter_of Try.func6 rfl (by decide), fun args H v H' W hs => ?_, fun args H v H' W hs => ?_⟩ <;> (unfold fcopyS at hs; split at hs <;> try cases hs) <;> (split at hs <;> try cases hs) <;> (rename_i b _ sub hb; split at hs <;> try cases hs) <;> (rename_i f hf; split at hs <;> cases hs; rename_i hk)
  · have e := fileD_eq hf
    subst e
    have hbl : b < H.length := (List.getElem?_eq_some_iff.1 hb).1
    have := ct_frame (H := H) (args := [.ptr b 0]) (fcopy_ct f hk) [b] (by simp) ⟨⟨rfl, rfl⟩, trivial⟩ ⟨by rw [List.getD_eq_getElem?_getD, hb]; exact ⟨rfl, rfl⟩, hbl, trivial⟩ rfl
    obtain ⟨h1, h2⟩ := List.getElem?_eq_some_iff.1 hb
    have hset : H.set b (.obj true f.blks) = H := by rw [← h2, List.set_getElem_self]
    simpa [setOwn, ABlk.own, reB, reA, nameG, hset] using this
  · exact ⟨by simp, fun c hc _ => by rw [List.getElem?_append_left hc]⟩

open Classical in
noncomputable def alikeS : Summ := fun args H => match args with
  | [.ptr b 0, .ptr c 0] => match H[b]? with
    | some (.obj true sub) => match fileD sub with
      | some f => if H[c]? = some (.obj true f.rblks) ∧ f.small ∧ b ≠ c then some (.bool true, H, []) else none
      | none => none
    | _ => none
  | _ => none

theorem two_frame {P : Program} {g : FuncId} {xs : List AV} {r f r' f' : AHeap} {v : AV} {H : AHeap} {b c : Nat} {args : List AV} (h : Ct P g xs [.obj true r, .obj true f] v [.obj true r', .obj true f']) (hv : flatT v = true) (hb : H[b]? = some (.obj true f)) (hc : H[c]? = some (.obj true r)) (hne : b ≠ c)
    (ha : AWs [c, b] xs args) : Ct P g args H v ((H.set c (.obj true r')).set b (.obj true f')) := by
  have hbl : b < H.length := (List.getElem?_eq_some_iff.1 hb).1
  have hcl : c < H.length := (List.getElem?_eq_some_iff.1 hc).1
  have := ct_frame (H := H) (args := args) h [c, b] (by simp [Ne.symm hne]) ha ⟨by rw [List.getD_eq_getElem?_getD, hc]; exact ⟨rfl, rfl⟩, hcl, by rw [List.getD_eq_getElem?_getD, hb]; exact ⟨rfl, rfl⟩, hbl, trivial⟩ rfl
  rw [reA_flatT _ hv] at this
  simpa [setOwn, ABlk.own, reB] using this

theorem set_same {H : AHeap} {b : Nat} {B : ABlk} (h : H[b]? = some B) : H.set b B = H := by
  obtain ⟨h1, h2⟩ := List.getElem?_eq_some_iff.1 h
  rw [← h2, List.set_getElem_self]

theorem alike_sound : Sound Try.prog 10 alikeS := by
  refine ⟨enter_of Try.func10 rfl (by decide), fun args H v H' W hs => ?_, fun args H v H' W hs => ?_⟩ <;> (unfold alikeS at hs; split at hs <;> try cases hs) <;> (split at hs <;> try cases hs) <;> (rename_i b c _ sub hb; split at hs <;> try cases hs) <;> (rename_i f hf; split at hs <;> cases hs; rename_i hk)
  · have e := fileD_eq hf
    subst e
    have := two_frame (lalike_ct f hk.2.1) rfl hb hk.1 hk.2.2 (args := [.ptr b 0, .ptr c 0]) ⟨⟨rfl, rfl⟩, ⟨rfl, rfl⟩, trivial⟩
    rw [set_same hk.1, set_same hb] at this
    exact this
  · exact ⟨Nat.le_refl _, fun _ _ _ => rfl⟩

open Classical in
noncomputable def doesS : Summ := fun args H => match args with
  | [.agg [.int .u8 W, .str S, .int .i16 N, .int .i16 M], .ptr b 0, .ptr c 0] => match H[b]? with
    | some (.obj true sub) => match fileD sub with
      | some f => if H[c]? = some (.obj true f.rblks) ∧ f.ok 100000000000 ∧ b ≠ c ∧ (0 ≤ W ∧ W ≤ 255) ∧ (-32768 ≤ N ∧ N ≤ 32767) ∧ (-32768 ≤ M ∧ M ≤ 32767) ∧ S.length ≤ 9223372036854775807 then some (.bool true, (H.set c (.obj true (f.does W S N M).rblks)).set b (.obj true (f.does W S N M).blks), [b, c]) else none
      | none => none
    | _ => none
  | _ => none

theorem does_sound : Sound Try.prog 9 doesS := by
  refine ⟨enter_of Try.func9 rfl (by decide), fun args H v H' W hs => ?_, fun args H v H' W hs => ?_⟩ <;> (unfold doesS at hs; split at hs <;> try cases hs) <;> (split at hs <;> try cases hs) <;> (rename_i w S N M b c _ sub hb; split at hs <;> try cases hs) <;> (rename_i f hf; split at hs <;> cases hs; rename_i hk)
  · have e := fileD_eq hf
    subst e
    obtain ⟨h1, h2, h3, h4, h5, h6, h7⟩ := hk
    exact two_frame (ldoes_ct f w S N M h2 h4 h5 h6 h7) rfl hb h1 h3 (args := [.agg [.int .u8 w, .str S, .int .i16 N, .int .i16 M], .ptr b 0, .ptr c 0]) ⟨by simp [AW, AWs], ⟨rfl, rfl⟩, ⟨rfl, rfl⟩, trivial⟩
  · refine ⟨by simp, fun d hd hn => ?_⟩
    simp only [List.mem_cons, List.not_mem_nil, or_false, not_or] at hn
    rw [List.getElem?_set_ne (Ne.symm hn.1), List.getElem?_set_ne (Ne.symm hn.2)]

theorem PF.ok_does {f : PF} {B : Nat} (h : f.ok B) (W : Int) (S : List UInt8) (N M : Int) : (f.does W S N M).ok (B + 20) := by
  unfold PF.does
  split
  · exact PF.ok_mono (PF.ok_cut h _) (by omega)
  split
  · exact PF.ok_new _ _ (by have := PF.ok_now h; omega)
  split
  · exact PF.ok_mono h (by omega)
  split
  · exact PF.ok_new _ _ (by have := PF.ok_stays h (sizeF M f.acts.length) N; omega)
  · exact PF.ok_add h _ (by rw [List.length_take]; omega) (by omega)

end Go.Proofs.Ytaociohomeepmaa
