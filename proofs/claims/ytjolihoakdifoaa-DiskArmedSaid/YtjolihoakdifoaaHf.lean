/- A folder's contracts: do as a summary; Create. -/
import Derived.Test.YtjolihoakdifoaaHe
import Derived.Test.YtjolihoakdifoaaCb
namespace Go.Proofs.Ytjolihoakdifoaa
open Go Go.Lib
set_option maxRecDepth 100000
attribute [-simp] drawOk_eq adraw qrun acode aops

/-- A folder is closed as it was opened. -/
theorem Aft.closeFS {n0 : Nat} {F : List AV} {H : AHeap} {K : List AV → AHeap → Prop} (f : FD) (b L : Nat)
    (hb : H[b]? = some (.cells true [.map L, .map (L + 1), .sl (L + 2) 0 f.acts.length 2 false, .int .i64 f.last]))
    (h1 : H[L]? = some (.map (entsA f.d))) (h2 : H[L + 1]? = some (.map (entsA f.now))) (hr : H[L + 2]? = some (.cells true (rowD (fun i => L + 3 + i) 0 f.acts)))
    (hX : ∀ (i : Nat) (B : ABlk), (boxesD f.acts)[i]? = some B → H[L + 3 + i]? = some B) (hbL : b < L) (hn : n0 ≤ H.length) (h : Aft n0 F (closeH H b [L, L + 1, L + 2] true f.blks) K) : Aft n0 F H K := by
  refine Aft.closeFD f b L (L + 1) (L + 2) (List.range' (L + 3) (nbD f.acts)) (fun i => L + 3 + i) (x := .sl (L + 2) 0 f.acts.length 2 false) (o := true) hb ?_ h1 h2 (fun _ => hr) (by simp) ?_ ?_ ?_ hn h
  · simp [AW]
  · intro i hi
    rw [List.getElem?_range' hi]; simp
  · intro i k B e1 e2
    have hi : i < nbD f.acts := by rw [← boxesD_length]; exact (List.getElem?_eq_some_iff.1 e2).1
    rw [List.getElem?_range' hi] at e1
    simp only [Nat.one_mul, Option.some.injEq] at e1
    subst e1
    exact hX i B e2
  · simp only [List.nodup_cons, List.mem_cons, List.mem_range'_1, not_or]
    exact ⟨by omega, by omega, by omega, by omega, List.nodup_range'⟩

def creW : List UInt8 := [99, 114, 101, 97, 116, 101]
def renW : List UInt8 := [114, 101, 110, 97, 109, 101]
def remW : List UInt8 := [114, 101, 109, 111, 118, 101]

def capOf (H : AHeap) (c : Nat) : Option AV := match H[c]? with
  | some (.obj false [.cells true [x]]) => some x
  | _ => none
theorem capOf_eq {H : AHeap} {c : Nat} {x : AV} (h : capOf H c = some x) : H[c]? = some (boxA x) := by
  unfold capOf at h
  split at h
  · rename_i hc
    cases h
    exact hc
  · cases h

noncomputable section
open Classical

/-- do, wherever the folder and the boxes lie. -/
def doS : Summ := fun args H => match args with
  | [.ptr b 0, .str w, .func F [] [.ptr c1 0]] => match H[b]?, capOf H c1 with
    | some (.obj true sub), some (.str k) => match fdOf sub with
      | some f => if F = 91 ∧ w = remW ∧ (∃ n, NM.get f.now k = some n) ∧ f.acts.length ≤ 1000000 ∧ b ≠ c1 then some (.int .i64 0, H.set b (.obj true (⟨f.d, f.acts ++ [.rem k], f.last⟩ : FD).blks), [b]) else none
      | none => none
    | _, _ => none
  | [.ptr b 0, .str w, .func F [] [.ptr c1 0, .ptr c2 0]] => match H[b]?, capOf H c1, capOf H c2 with
    | some (.obj true sub), some (.int .i64 n), some (.str k) => match fdOf sub with
      | some f => if F = 89 ∧ w = creW ∧ NM.get f.now k = none ∧ f.acts.length ≤ 1000000 ∧ b ≠ c1 ∧ b ≠ c2 ∧ c1 ≠ c2 then some (.int .i64 0, H.set b (.obj true (⟨f.d, f.acts ++ [.cre k n], f.last⟩ : FD).blks), [b]) else none
      | none => none
    | _, _, _ => none
  | [.ptr b 0, .str w, .func F [] [.ptr c1 0, .ptr c2 0, .ptr c3 0]] => match H[b]?, capOf H c1, capOf H c2, capOf H c3 with
    | some (.obj true sub), some (.str x), some (.int .i64 n), some (.str y) => match fdOf sub with
      | some f => if F = 90 ∧ w = renW ∧ NM.get f.now x = some n ∧ f.acts.length ≤ 1000000 ∧ b ≠ c1 ∧ b ≠ c2 ∧ b ≠ c3 ∧ c1 ≠ c2 ∧ c1 ≠ c3 ∧ c2 ≠ c3 then some (.int .i64 0, H.set b (.obj true (⟨f.d, f.acts ++ [.ren x y n], f.last⟩ : FD).blks), [b]) else none
      | none => none
    | _, _, _, _ => none
  | _ => none

theorem do_sound : Sound Try.prog 88 doS := by
  have key : ∀ args H v H' W, doS args H = some (v, H', W) → ∃ b B, W = [b] ∧ H' = H.set b B ∧ Ct Try.prog 88 args H v H' := by
    intro args H v H' W hs
    unfold doS at hs
    split at hs
    · rename_i b w F c1
      split at hs <;> try cases hs
      rename_i sub k hb hc1
      split at hs <;> try cases hs
      rename_i f hf
      split at hs <;> cases hs
      rename_i hc
      obtain ⟨rfl, rfl, ⟨n, hg⟩, hk, hn1⟩ := hc
      have e := fdOf_eq hf
      subst e
      have q1 := capOf_eq hc1
      have hbl : b < H.length := (List.getElem?_eq_some_iff.1 hb).1
      have l1 : c1 < H.length := (List.getElem?_eq_some_iff.1 q1).1
      refine ⟨b, _, rfl, rfl, ?_⟩
      have := ct_frame (H := H) (args := [.ptr b 0, .str remW, .func 91 [] [.ptr c1 0]]) (do_rem_ct f k n hg hk) [b, c1] (by simp [hn1]) ⟨⟨rfl, rfl⟩, rfl, ⟨rfl, trivial, ⟨rfl, rfl⟩, trivial⟩, trivial⟩
        ⟨by rw [List.getD_eq_getElem?_getD, hb]; exact ⟨rfl, rfl⟩, hbl, by rw [List.getD_eq_getElem?_getD, q1]; exact ⟨rfl, rfl⟩, l1, trivial⟩ rfl
      simpa [setOwn, ABlk.own, reB, reA, boxA] using this
    · rename_i b w F c1 c2
      split at hs <;> try cases hs
      rename_i sub n k hb hc1 hc2
      split at hs <;> try cases hs
      rename_i f hf
      split at hs <;> cases hs
      rename_i hc
      obtain ⟨rfl, rfl, hg, hk, hn1, hn2, hn3⟩ := hc
      have e := fdOf_eq hf
      subst e
      have q1 := capOf_eq hc1
      have q2 := capOf_eq hc2
      have hbl : b < H.length := (List.getElem?_eq_some_iff.1 hb).1
      have l1 : c1 < H.length := (List.getElem?_eq_some_iff.1 q1).1
      have l2 : c2 < H.length := (List.getElem?_eq_some_iff.1 q2).1
      refine ⟨b, _, rfl, rfl, ?_⟩
      have := ct_frame (H := H) (args := [.ptr b 0, .str creW, .func 89 [] [.ptr c1 0, .ptr c2 0]]) (do_cre_ct f k n hg hk) [b, c1, c2] (by simp [hn1, hn2, hn3]) ⟨⟨rfl, rfl⟩, rfl, ⟨rfl, trivial, ⟨rfl, rfl⟩, ⟨rfl, rfl⟩, trivial⟩, trivial⟩
        ⟨by rw [List.getD_eq_getElem?_getD, hb]; exact ⟨rfl, rfl⟩, hbl, by rw [List.getD_eq_getElem?_getD, q1]; exact ⟨rfl, rfl⟩, l1, by rw [List.getD_eq_getElem?_getD, q2]; exact ⟨rfl, rfl⟩, l2, trivial⟩ rfl
      simpa [setOwn, ABlk.own, reB, reA, boxA] using this
    · rename_i b w F c1 c2 c3
      split at hs <;> try cases hs
      rename_i sub x n y hb hc1 hc2 hc3
      split at hs <;> try cases hs
      rename_i f hf
      split at hs <;> cases hs
      rename_i hc
      obtain ⟨rfl, rfl, hg, hk, hn1, hn2, hn3, hn4, hn5, hn6⟩ := hc
      have e := fdOf_eq hf
      subst e
      have q1 := capOf_eq hc1
      have q2 := capOf_eq hc2
      have q3 := capOf_eq hc3
      have hbl : b < H.length := (List.getElem?_eq_some_iff.1 hb).1
      have l1 : c1 < H.length := (List.getElem?_eq_some_iff.1 q1).1
      have l2 : c2 < H.length := (List.getElem?_eq_some_iff.1 q2).1
      have l3 : c3 < H.length := (List.getElem?_eq_some_iff.1 q3).1
      refine ⟨b, _, rfl, rfl, ?_⟩
      have := ct_frame (H := H) (args := [.ptr b 0, .str renW, .func 90 [] [.ptr c1 0, .ptr c2 0, .ptr c3 0]]) (do_ren_ct f x y n hg hk) [b, c1, c2, c3] (by simp [hn1, hn2, hn3, hn4, hn5, hn6]) ⟨⟨rfl, rfl⟩, rfl, ⟨rfl, trivial, ⟨rfl, rfl⟩, ⟨rfl, rfl⟩, ⟨rfl, rfl⟩, trivial⟩, trivial⟩
        ⟨by rw [List.getD_eq_getElem?_getD, hb]; exact ⟨rfl, rfl⟩, hbl, by rw [List.getD_eq_getElem?_getD, q1]; exact ⟨rfl, rfl⟩, l1, by rw [List.getD_eq_getElem?_getD, q2]; exact ⟨rfl, rfl⟩, l2, by rw [List.getD_eq_getElem?_getD, q3]; exact ⟨rfl, rfl⟩, l3, trivial⟩ rfl
      simpa [setOwn, ABlk.own, reB, reA, boxA] using this
    · cases hs
  refine ⟨enter_of Try.func88 rfl (by decide), fun args H v H' W hs => ?_, fun args H v H' W hs => ?_⟩
  · obtain ⟨b, B, rfl, rfl, h⟩ := key args H v H' W hs
    exact h
  · obtain ⟨b, B, rfl, rfl, h⟩ := key args H v H' W hs
    refine ⟨by simp, fun c hc hn => ?_⟩
    rw [List.getElem?_set_ne (fun e => hn (by simp [e]))]

end

def fmInl : List FuncId := [87]
noncomputable def fmΓ0 : Gam := gams [(88, doS)]
theorem fmΓ_ok : GOk Try.prog (runG Try.prog fmΓ0 0 fmInl 2) := gok_run hmix (goks_cons do_sound goks_nil) 0 fmInl 2

end Go.Proofs.Ytjolihoakdifoaa
