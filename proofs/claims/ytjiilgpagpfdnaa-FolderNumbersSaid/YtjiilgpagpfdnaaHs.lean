/- The law cedillalaw07.FolderNumbers: the walk. -/
import Derived.Test.YtjiilgpagpfdnaaHr
import Derived.Test.YtjiilgpagpfdnaaHn
namespace Go.Proofs.Ytjiilgpagpfdnaa
open Go Go.Lib
set_option maxRecDepth 100000
attribute [-simp] drawOk_eq adraw qrun acode aops

def fstD : Code → Code
  | .seq x _ => x
  | c => c
def inD : Code → Code
  | .block _ x => x
  | .loop x => x
  | .scope x => x
  | c => c

theorem does_last (f : FD) (x : FA) (hx : x.w % 3 ≠ 0) : (f.does x).last = f.last := by
  unfold FD.does
  rw [if_neg hx]
  split
  · unfold FD.rename
    split
    · split <;> rfl
    · rfl
  · unfold FD.remove
    split <;> rfl

abbrev nuF (L : Nat) (last : Int) (i : Nat) : List AV := [.sl 0 0 L 5 false, .top, .bool false, .ptr 1 0, .int .i64 last, .int .i64 i]

structure SeenInv (f : FD) (j : Nat) (u : List Int) : Prop where
  of : ∀ v ∈ u, ∃ t ∈ f.names.take j, (f.find t).1 = v
  len : u.length = j

set_option maxHeartbeats 16000000 in
/-- The names are looked at, one by one. -/
theorem nu_names (l : List FA) (i : Nat) (f : FD) (hok : f.numOk) (hsm : f.small) :
    Sim Try.prog none 1 (restC 4 (inD (fstD (restC 1 (inD (inD (restC 1 (fstD (restC 4 (bodyOf Try.f4)))))))))) 
      (nuF l.length f.last i ++ [.top, .top, .sl 2 0 f.names.length 1 false, .map 3] ++ List.replicate 125 .top) [.cells false (fasA l), .obj true f.blks, .cells true (f.names.map .str), .map []]
      fun e F' H' => e = .normal ∧ Weak 1 F' H' (nuF l.length f.last i ++ List.replicate 129 .top) [.cells false (fasA l), .obj true f.blks] := by
  have hΓ := fuΓ_ok
  have ffas := frees_fas l
  obtain ⟨hnb, hnl⟩ := names_bounds hsm
  have fks : ∀ rn : List Nat, AWs rn (f.names.map AV.str) (f.names.map AV.str) := fun rn => (AWs_free (frees_map f.names AV.str fun _ => rfl)).2 trivial
  simp only [bodyOf, Try.f4, Option.getD_some, restC, fstD, inD, nuF]
  refine Sim.step hmix hΓ (n := 0) (by simp; exact ⟨rfl, rfl⟩) (by simp) ?_
  refine Sim.block (Sim.loopW (fun r : Nat × List Int => r.1 ≤ f.names.length ∧ SeenInv f r.1 r.2)
    (fun r => nuF l.length f.last i ++ [.top, .top, .sl 2 0 f.names.length 1 false, .map 3, .int .i64 r.1] ++ List.replicate 124 .top)
    (fun r => [.cells false (fasA l), .obj true f.blks, .cells true (f.names.map .str), .map (seenA r.2)]) (fun r => f.names.length - r.1) (0, []) (by simp) ⟨by simp, ⟨by simp, rfl⟩⟩ (Weak.mk' [0, 1, 2, 3] (by decide) (by decide) (by simp) (by simp [AWb, ffas, seenA])) fun r hr => ?_)
  obtain ⟨j, u⟩ := r
  obtain ⟨hj, hI⟩ := hr
  dsimp only at hj hI ⊢
  simp only [nuF]
  by_cases hlt : j < f.names.length
  rotate_left
  · have hltI : ¬ (j : Int) < f.names.length := by omega
    refine Sim.exec hmix hΓ (n := 0) (by simp [hltI]; exact ⟨rfl, rfl, rfl⟩) (by simp) ?_
    dsimp only
    rw [if_pos rfl]
    exact ⟨by trivial, Weak.mk' [0, 1] (by decide) (by decide) (by simp) (by simp [AWb, ffas])⟩
  have hltI : (j : Int) < f.names.length := by omega
  obtain ⟨s, hs1⟩ : ∃ s, f.names[j] = s := ⟨_, rfl⟩
  have hs' : f.names[j]? = some s := by rw [List.getElem?_eq_getElem hlt, hs1]
  have hg : ∀ h, f.names[j]'h = s := fun h => hs1
  obtain ⟨v, hv, hv1, hv2, hv3, hv4⟩ := names_law hok hs'
  have hvu : v ∉ u := fun h => by
    obtain ⟨t, ht, e⟩ := hI.of v h
    exact hv3 t ht e
  have hf := find_seen v u 0 hvu
  have hsn := seenA_snoc u v
  have hw : IntKind.i64.wrap ((j : Int) + 1) = j + 1 := wr_i64 (by omega) (by omega)
  have c1 : ¬ v < 1 := by omega
  have c2 : ¬ f.last < v := by omega
  have hI' : SeenInv f (j + 1) (u ++ [v]) := ⟨fun z hz => by
    rcases List.mem_append.1 hz with hz | hz
    · obtain ⟨t, ht, e⟩ := hI.of z hz
      refine ⟨t, ?_, e⟩
      rw [List.take_add_one]
      exact List.mem_append.2 (.inl ht)
    · simp at hz
      subst hz
      refine ⟨s, ?_, by rw [hv]⟩
      rw [List.take_add_one, hs']
      simp, by rw [List.length_append, hI.len]; rfl⟩
  refine Sim.step hmix hΓ (n := 0) (by simp [hltI]; exact ⟨rfl, rfl⟩) (by simp) ?_
  refine Sim.seq (Sim.block ?_)
  refine Sim.step hmix hΓ (n := 0) (by simp [hlt, hg, fuΓ, ffindS, hv]; exact ⟨rfl, rfl⟩) (by simp) ?_
  by_cases h0 : j = 0
  · subst h0
    refine Sim.step hmix hΓ (n := 0) (by simp (decide := true) [hf, c1, c2]; first | exact ⟨rfl, rfl⟩ | exact ⟨by kernel_rfl, rfl, rfl⟩) (by simp) ?_
    refine Sim.exec hmix hΓ (n := 0) (by simp [hf, hsn]; exact ⟨rfl, rfl, rfl⟩) (by simp) ?_
    dsimp only
    refine Sim.exec hmix hΓ (n := 0) (by simp; exact ⟨rfl, rfl, rfl⟩) (by simp) ?_
    dsimp only
    exact ⟨(1, u ++ [v]), ⟨by dsimp only; omega, hI'⟩, Weak.mk' [0, 1, 2, 3] (by decide) (by decide) (by simp) (by simp [AWb, ffas]), by dsimp only; omega⟩
  · obtain ⟨k, rfl⟩ : ∃ k, j = k + 1 := ⟨j - 1, by omega⟩
    have hkl : k < f.names.length := by omega
    obtain ⟨p, hp1⟩ : ∃ p, f.names[k] = p := ⟨_, rfl⟩
    have hgp : ∀ h, f.names[k]'h = p := fun h => hp1
    have hps := hv4 p (by omega) (by rw [Nat.add_sub_cancel, List.getElem?_eq_getElem hkl, hp1])
    have hpl : p < s := by rw [Go.Proofs.bytesLess_eq] at hps; simpa using hps
    have hsp : Op.bytesLess s p = false := by rw [Go.Proofs.bytesLess_eq]; simp; exact Std.le_of_lt hpl
    have hne : ¬ s = p := fun e => by subst e; exact absurd hpl (List.lt_irrefl _)
    have hneb : (s == p) = false := by simpa using hne
    have hk0 : (0 : Int) < (k : Int) + 1 := by omega
    have hkp : (0 : Int) ≤ (k : Int) + 1 := by omega
    have hkq : (k : Int) + 1 < f.names.length := by omega
    have hkt : ((k : Int) + 1).toNat = k + 1 := by omega
    have hw1 : IntKind.i64.wrap ((k : Int) + 1 - 1) = k := by rw [wr_i64 (by omega) (by omega)]; omega
    have hw2 : IntKind.i64.wrap (k : Int) = k := wr_i64 (by omega) (by omega)
    have hw3 : IntKind.i64.wrap ((k : Int) + 1 + 1) = k + 2 := by rw [wr_i64 (by omega) (by omega)]; omega
    refine Sim.step hmix hΓ (n := 0) (by simp (decide := true) [hf, c1, c2, hlt, hkl, hg, hgp, hsp, hneb, hk0, hkp, hkq, hkt, hw2]; first | exact ⟨rfl, rfl⟩ | exact ⟨by kernel_rfl, rfl, rfl⟩) (by simp) ?_
    refine Sim.exec hmix hΓ (n := 0) (by simp [hf, hsn]; exact ⟨rfl, rfl, rfl⟩) (by simp) ?_
    dsimp only
    refine Sim.exec hmix hΓ (n := 0) (by simp [hw3]; exact ⟨rfl, rfl, rfl⟩) (by simp) ?_
    dsimp only
    exact ⟨(k + 2, u ++ [v]), ⟨by dsimp only; omega, hI'⟩, Weak.mk' [0, 1, 2, 3] (by decide) (by decide) (by simp) (by simp [AWb, ffas]), by dsimp only; omega⟩

end Go.Proofs.Ytjiilgpagpfdnaa
