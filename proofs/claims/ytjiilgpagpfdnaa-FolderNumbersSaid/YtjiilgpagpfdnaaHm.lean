/- Folders: the law's functions name, names, does. -/
import Derived.Test.YtjiilgpagpfdnaaHl
import Derived.Test.YtjiilgpagpfdnaaHd
import Derived.Test.YtjiilgpagpfdnaaLaj
namespace Go.Proofs.Ytjiilgpagpfdnaa
open Go Go.Lib
set_option maxRecDepth 100000
attribute [-simp] drawOk_eq adraw qrun acode aops

theorem name_ct (n : Nat) (hn : n ≤ 255) : Ct Try.prog 16 [.int .u8 n] [] (.str (nameF n)) [] := by
  have hw : IntKind.i64.wrap (n : Int) = n := wr_i64 (by omega) (by omega)
  obtain ⟨r, hr⟩ : ∃ r, n % 7 = r := ⟨_, rfl⟩
  have ht : (n : Int).tmod 7 = r := by rw [Int.tmod_eq_emod_of_nonneg (by omega)]; omega
  have hw2 : IntKind.i64.wrap (r : Int) = r := wr_i64 (by omega) (by omega)
  have hN : nameF n = nameL.getD r [] := by unfold nameF; rw [hr]
  rw [hN]
  have h7 : r < 7 := by omega
  clear hN hr
  rcases (show r = 0 ∨ r = 1 ∨ r = 2 ∨ r = 3 ∨ r = 4 ∨ r = 5 ∨ r = 6 by omega) with rfl | rfl | rfl | rfl | rfl | rfl | rfl <;>
  · refine ct_val hmix goks_nil (n := 0) Try.func16 ?_ (by simp)
    unfold Try.f16
    simp (decide := true) [hw, ht, nameL]

def nameS : Summ := pureS fun
  | [.int .u8 n] => if 0 ≤ n ∧ n ≤ 255 then some (.str (nameF n.toNat)) else none
  | _ => none
theorem name_sound : Sound Try.prog 16 nameS := by
  refine sound_pure (enter_of Try.func16 rfl (by decide)) fun args v h => ?_
  split at h <;> try cases h
  rename_i n
  split at h <;> cases h
  rename_i hn
  have := name_ct n.toNat (by omega)
  rw [show ((n.toNat : Nat) : Int) = n by omega] at this
  exact ⟨this, rfl, rfl⟩

noncomputable def dsΓ : Gam := gams [(16, nameS), (17, fcreS), (18, frenS), (19, fremS)]
theorem dsΓ_ok : GOk Try.prog dsΓ := goks_cons name_sound (goks_cons fcre_sound (goks_cons fren_sound (goks_cons frem_sound goks_nil)))

set_option maxHeartbeats 8000000 in
theorem does_ct (x : FA) (hx : x.ok) (f : FD) (hf : f.small) : Ct Try.prog 8 [.agg (faA x), .ptr 0 0] [.obj true f.blks] (.tuple []) [.obj true (f.does x).blks] := by
  have hΓ := dsΓ_ok
  obtain ⟨w, a, b, n, r⟩ := x
  obtain ⟨hw, ha, hb, hn⟩ := hx
  dsimp only at hw ha hb hn
  refine ct_of_sim Try.func8 rfl ?_
  simp only [Try.ntmps8, List.length_cons, List.length_nil, Nat.reduceAdd, Nat.reduceSub, List.replicate, List.cons_append, List.nil_append, faA]
  obtain ⟨q, hq⟩ : ∃ q, w % 3 = q := ⟨_, rfl⟩
  have ht : (w : Int).tmod 3 = q := by rw [Int.tmod_eq_emod_of_nonneg (by omega)]; omega
  have hwr : IntKind.u8.wrap (q : Int) = q := wr_u8 (by omega) (by omega)
  have ia : (0 : Int) ≤ a ∧ (a : Int) ≤ 255 := by omega
  have ib : (0 : Int) ≤ b ∧ (b : Int) ≤ 255 := by omega
  have ia2 : (a : Int) ≤ 255 := by omega
  have ib2 : (b : Int) ≤ 255 := by omega
  have la := nameF_len a
  have lb := nameF_len b
  have la2 : (nameF a).length ≤ 9223372036854775807 := by omega
  have lb2 : (nameF b).length ≤ 9223372036854775807 := by omega
  refine Sim.step hmix hΓ (n := 0) (by simp; exact ⟨rfl, rfl⟩) (by simp) ?_
  refine Sim.step hmix hΓ (n := 0) (by simp [ht]; exact ⟨rfl, rfl⟩) (by simp) ?_
  have h3 : q = 0 ∨ q = 1 ∨ q = 2 := by omega
  rcases h3 with rfl | rfl | rfl
  · have hd : f.does ⟨w, a, b, n, r⟩ = (f.create (nameF a)).1 := by unfold FD.does; rw [if_pos hq]
    rw [hd]
    refine Sim.exec hmix hΓ (n := 0) (by simp (decide := true) [dsΓ, nameS, fcreS, ia2, la2, hf]; exact ⟨rfl, rfl, rfl⟩) (by simp) ?_
    exact ⟨.inl rfl, _, by simp [Try.f8] <;> rfl, Weak.mk' [0] (by decide) (by decide) (by simp) (by simp [AWb])⟩
  · have hd : f.does ⟨w, a, b, n, r⟩ = (f.rename (nameF a) (nameF b)).1 := by unfold FD.does; rw [if_neg (by dsimp only; omega), if_pos hq]
    rw [hd]
    refine Sim.block (Sim.step hmix hΓ (n := 0) (by simp; exact ⟨rfl, rfl⟩) (by simp) ?_)
    refine Sim.cond (t := false) (by simp) ?_
    simp only [Bool.false_eq_true, if_false]
    refine Sim.step hmix hΓ (n := 0) (by simp; exact ⟨rfl, rfl⟩) (by simp) ?_
    refine Sim.cond (t := true) (by simp) ?_
    simp only [if_true]
    refine Sim.draw hmix (by simp) ?_
    refine SimR.many hΓ 7 (by simp [stageOps]; rfl) (by omega) (by kernel_rfl) (by simp (decide := true) [dsΓ, nameS, ia2, ib2]; first | exact ⟨rfl, rfl⟩ | exact ⟨by kernel_rfl, rfl, rfl⟩) ?_
    refine SimR.one hΓ _ rfl (by kernel_rfl) (by simp (decide := true) [dsΓ, frenS, lb2, hf]; exact ⟨rfl, rfl⟩) ?_
    refine SimR.done rfl ?_
    dsimp only
    exact ⟨.inl rfl, _, by simp [Try.f8] <;> rfl, Weak.mk' [0] (by decide) (by decide) (by simp) (by simp [AWb])⟩
  · have hd : f.does ⟨w, a, b, n, r⟩ = (f.remove (nameF a)).1 := by unfold FD.does; rw [if_neg (by dsimp only; omega), if_neg (by dsimp only; omega)]
    rw [hd]
    refine Sim.exec hmix hΓ (n := 0) (by simp (decide := true) [dsΓ, nameS, fremS, ia2, hf]; exact ⟨rfl, rfl, rfl⟩) (by simp) ?_
    exact ⟨.inl rfl, _, by simp [Try.f8] <;> rfl, Weak.mk' [0] (by decide) (by decide) (by simp) (by simp [AWb])⟩

noncomputable section
open Classical

/-- does, wherever the folder lies. -/
def doesFS : Summ := fun args H => match args with
  | [.agg [.int .u8 w, .int .u8 a, .int .u8 b, .int .i8 n, .str r], .ptr c 0] => match H[c]? with
    | some (.obj true sub) => match fdOf sub with
      | some f => if (0 ≤ w ∧ w ≤ 255) ∧ (0 ≤ a ∧ a ≤ 255) ∧ (0 ≤ b ∧ b ≤ 255) ∧ (-128 ≤ n ∧ n ≤ 127) ∧ f.small then some (.tuple [], H.set c (.obj true (f.does ⟨w.toNat, a.toNat, b.toNat, n, r⟩).blks), [c]) else none
      | none => none
    | _ => none
  | _ => none
theorem doesF_sound : Sound Try.prog 8 doesFS := by
  have key : ∀ args H v H' W, doesFS args H = some (v, H', W) → ∃ b B, W = [b] ∧ H' = H.set b B ∧ Ct Try.prog 8 args H v H' := by
    intro args H v H' W hs
    unfold doesFS at hs
    split at hs <;> try cases hs
    rename_i w a b n r c
    split at hs <;> try cases hs
    rename_i sub hb
    split at hs <;> try cases hs
    rename_i f hf
    split at hs <;> cases hs
    rename_i hc
    obtain ⟨hw, ha, hb', hn, hk⟩ := hc
    have e := fdOf_eq hf
    subst e
    have hbl : c < H.length := (List.getElem?_eq_some_iff.1 hb).1
    refine ⟨c, _, rfl, rfl, ?_⟩
    have h := does_ct ⟨w.toNat, a.toNat, b.toNat, n, r⟩ ⟨by dsimp only; omega, by dsimp only; omega, by dsimp only; omega, hn⟩ f hk
    simp only [faA, show ((w.toNat : Nat) : Int) = w by omega, show ((a.toNat : Nat) : Int) = a by omega, show ((b.toNat : Nat) : Int) = b by omega] at h
    have := ct_frame (H := H) (args := [.agg [.int .u8 w, .int .u8 a, .int .u8 b, .int .i8 n, .str r], .ptr c 0]) h [c] (by simp) ⟨⟨⟨rfl, rfl⟩, ⟨rfl, rfl⟩, ⟨rfl, rfl⟩, ⟨rfl, rfl⟩, rfl, trivial⟩, ⟨rfl, rfl⟩, trivial⟩ ⟨by rw [List.getD_eq_getElem?_getD, hb]; exact ⟨rfl, rfl⟩, hbl, trivial⟩ rfl
    simpa [setOwn, ABlk.own, reB, reA, reAs] using this
  refine ⟨enter_of Try.func8 rfl (by decide), fun args H v H' W hs => ?_, fun args H v H' W hs => ?_⟩
  · obtain ⟨b, B, rfl, rfl, h⟩ := key args H v H' W hs
    exact h
  · obtain ⟨b, B, rfl, rfl, h⟩ := key args H v H' W hs
    refine ⟨by simp, fun c hc hn => ?_⟩
    rw [List.getElem?_set_ne (fun e => hn (by simp [e]))]

end

end Go.Proofs.Ytjiilgpagpfdnaa
