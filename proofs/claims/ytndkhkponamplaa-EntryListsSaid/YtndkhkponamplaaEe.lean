/- Rows of drafts, and cedillaref05.Entries. -/
import Derived.Test.YtndkhkponamplaaEd
import Derived.Test.YtndkhkponamplaaEl
import Derived.Test.YtndkhkponamplaaGh
namespace Go.Proofs.Ytndkhkponamplaa
open Go
set_option maxRecDepth 100000
attribute [-simp] drawOk_eq adraw qrun acode aops

abbrev Dr := List Nat × Int × Bool

/-- Drafts as cells; k: the first inner row's name. -/
def dcells : Nat → List Dr → List AV
  | _, [] => []
  | k, d :: ds => .sl k 0 d.1.length 1 false :: .int .u32 d.2.1 :: .bool d.2.2 :: dcells (k + 1) ds
def dblks (ds : List Dr) : AHeap := ds.map fun d => .cells false (d.1.map aB)
def drH (ds : List Dr) : AHeap := .cells false (dcells 1 ds) :: dblks ds

theorem dcells_length : ∀ (k : Nat) (ds : List Dr), (dcells k ds).length = ds.length * 3
  | _, [] => rfl
  | k, d :: ds => by simp [dcells, dcells_length (k + 1) ds]; omega

theorem dcells_get : ∀ (ds : List Dr) (k i : Nat) (h : i < ds.length), ((dcells k ds).drop (i * 3)).take 3 = [.sl (k + i) 0 ds[i].1.length 1 false, .int .u32 ds[i].2.1, .bool ds[i].2.2]
  | d :: ds, k, 0, _ => by simp [dcells]
  | d :: ds, k, i + 1, h => by
    have := dcells_get ds (k + 1) i (by simpa using h)
    rw [show (i + 1) * 3 = i * 3 + 3 by omega, show k + (i + 1) = k + 1 + i by omega]
    simpa [dcells] using this

theorem belows_dcells : ∀ (ds : List Dr) (k N : Nat), k + ds.length ≤ N → belows N (dcells k ds) = true
  | [], _, _, _ => rfl
  | d :: ds, k, N, h => by
    simp only [List.length_cons] at h
    simp only [dcells, belows, below, Bool.and_eq_true, decide_eq_true_eq, Bool.true_and]
    exact ⟨by omega, belows_dcells ds (k + 1) N (by omega)⟩

theorem drH_length (ds : List Dr) : (drH ds).length = ds.length + 1 := by simp [drH, dblks]
theorem drH_at (ds : List Dr) (i : Nat) (h : i < ds.length) : (drH ds)[i + 1]? = some (.cells false (ds[i].1.map aB)) := by
  simp [drH, dblks, List.getElem?_eq_getElem h]
theorem drH_flat (ds : List Dr) : ∀ x ∈ drH ds, ∃ o l, x = ABlk.cells o l ∧ belows (ds.length + 1) l = true := by
  intro x hx
  rcases List.mem_cons.1 hx with rfl | hx
  · exact ⟨false, _, rfl, belows_dcells ds 1 _ (by omega)⟩
  · obtain ⟨d, _, rfl⟩ := List.mem_map.1 hx
    exact ⟨false, _, rfl, belows_free _ _ (frees_aB _)⟩

def dEs (ds : List Dr) : List En := ds.map fun d => dE d.1 d.2.1 d.2.2

def DrOk (ds : List Dr) : Prop := ∀ d ∈ ds, (∀ c ∈ d.1, c < 256) ∧ d.1.length ≤ 9223372036854775807

def enΓ : Gam := gams [(17, draftS)]
theorem enΓ_ok : GOk Try.prog enΓ := goks_cons draft_sound goks_nil

theorem draftOf_at (H : AHeap) (b : Nat) (ls : List Nat) (n : Int) (g : Bool) (o : Bool) (hb : H[b]? = some (.cells o (ls.map aB))) (h1 : ∀ c ∈ ls, c < 256) (h2 : ls.length ≤ 9223372036854775807) :
    draftS [.agg [.sl b 0 ls.length 1 false, .int .u32 n, .bool g]] H = some (.agg (enA (dE ls n g)), H, []) := by
  have h0 : (ls.map aB).take ls.length = ls.map aB := List.take_of_length_le (by simp)
  have h3 : ls.all (fun x => decide (x < 256)) = true := by simpa using h1
  have h4 : draftOf H (.agg [.sl b 0 ls.length 1 false, .int .u32 n, .bool g]) = some (ls, n, g) := by
    simp only [draftOf, hb, List.drop_zero, h0, natsOf_aB]
    rw [if_pos ⟨by simp, h3, h2⟩]
  simp [draftS, readS, h4]

set_option maxHeartbeats 8000000 in
theorem entries_ct (ds : List Dr) (most : Nat) (hm : most ≤ 100) (hd : DrOk ds) (hl : ds.length ≤ 9223372036854775807) :
    Ct Try.prog 20 [.sl 0 0 ds.length 3 false, .int .i64 most] (drH ds) (.sl (ds.length + 1) 0 (dEs (ds.take most)).length 3 false) (drH ds ++ [.cells true (ensA (dEs (ds.take most)))]) := by
  obtain ⟨N, hN⟩ : ∃ N, ds.length + 1 = N := ⟨_, rfl⟩
  have hXl := drH_length ds
  have hXf := drH_flat ds
  rw [hN] at hXl hXf
  refine ct_of_sim Try.func20 rfl ?_
  rw [hXl, hN]
  simp only [Try.ntmps20, List.length_cons, List.length_nil, Nat.reduceAdd, Nat.reduceSub, List.replicate, List.cons_append, List.nil_append]
  refine Sim.step hmix enΓ_ok (n := 0) (by simp; exact ⟨rfl, rfl⟩) (by omega) ?_
  refine Sim.step hmix enΓ_ok (n := 0) (by simp; exact ⟨rfl, rfl⟩) (by omega) ?_
  refine Sim.seq (Sim.step hmix enΓ_ok (n := 0) (by simp; exact ⟨rfl, rfl⟩) (by omega) ?_)
  refine Sim.block (Sim.loopW (fun k : Nat => k ≤ ds.length ∧ k ≤ most)
    (fun k => [.sl 0 0 ds.length 3 false, .int .i64 most, .top, .top, .top, .sl N 0 (dEs (ds.take k)).length 3 false, .int .i64 k] ++ List.replicate 20 .top)
    (fun k => drH ds ++ [.cells true (ensA (dEs (ds.take k)))]) (fun k => most - k) 0 (by omega) ⟨by omega, by omega⟩ ?_ fun k hk => ?_)
  · have := Weak.tail (A := drH ds) (T := []) (Tn := [.cells true (ensA (dEs (ds.take 0)))]) (F := [.sl 0 0 ds.length 3 false, .int .i64 most, .tuple [], .tuple [], .nils, .nils, .int .i64 0] ++ List.replicate 20 (.tuple [])) (Fn := [.sl 0 0 ds.length 3 false, .int .i64 most, .top, .top, .top, .sl N 0 (dEs (ds.take 0)).length 3 false, .int .i64 (0 : Nat)] ++ List.replicate 20 .top) hXl hXf [0] (by decide) (by
        have h0 : (List.range N ++ [0].map (N + ·))[0]? = some 0 := by rw [List.getElem?_append_left (by simp; omega), List.getElem?_range (by omega)]
        have h0' : ∀ h, (List.range N ++ [N])[0]'h = 0 := fun h => by rw [List.getElem_append_left (by rw [List.length_range]; omega), List.getElem_range]
        simp [AWs, AW, dEs, h0']) (by simp [AWg, hXl])
    simpa using this
  · obtain ⟨hk1, hk2⟩ := hk
    obtain ⟨out, ho⟩ : ∃ out, dEs (ds.take k) = out := ⟨_, rfl⟩
    have hol : out.length = k := by rw [← ho]; simp [dEs]; omega
    obtain ⟨X, hX⟩ : ∃ X, drH ds = X := ⟨_, rfl⟩
    have hX0 : X[0]? = some (.cells false (dcells 1 ds)) := by rw [← hX]; rfl
    rw [hX] at hXl hXf
    rw [ho, hX]
    have b1 : (out.length + 1) * 24 ≤ 140737488355328 := by omega
    have b2 : out.length + 1 ≤ 9223372036854775807 := by omega
    by_cases hlt : k < ds.length ∧ k < most
    · obtain ⟨h1, h2⟩ := hlt
      have h1i : (k : Int) < ds.length := by omega
      have h2i : (k : Int) < most := by omega
      obtain ⟨d, hdd⟩ : ∃ d, ds[k] = d := ⟨_, rfl⟩
      have hd' : ds[k]? = some d := by rw [List.getElem?_eq_getElem h1, hdd]
      have g1 := dcells_get ds 1 k h1
      rw [hdd] at g1
      have gl := dcells_length 1 ds
      have k1 : k * 3 + 3 ≤ ds.length * 3 := by omega
      obtain ⟨ls, n, g⟩ := d
      have hok := hd _ (List.mem_of_getElem? hd')
      have hXk : X[1 + k]? = some (.cells false (ls.map aB)) := by rw [← hX, Nat.add_comm, drH_at ds k h1, hdd]
      have hw : IntKind.i64.wrap ((k : Int) + 1) = k + 1 := wr_i64 (by omega) (by omega)
      have hN0 : 0 < N := by omega
      have hkN : 1 + k < N := by omega
      obtain ⟨ew, en', eg, hE⟩ : ∃ ew en' eg, dE ls n g = (ew, en', eg) := ⟨_, _, _, rfl⟩
      have hds : ∀ T : AHeap, draftS [.agg [.sl (1 + k) 0 ls.length 1 false, .int .u32 n, .bool g]] (X ++ T) = some (.agg [.str ew, .int .u32 en', .bool eg], X ++ T, []) := fun T => by
        have := draftOf_at (X ++ T) (1 + k) ls n g false (by rw [List.getElem?_append_left (by omega)]; exact hXk) hok.1 hok.2
        rw [hE] at this
        exact this
      have hX0' : ∀ T : AHeap, (X ++ T)[0]? = some (.cells false (dcells 1 ds)) := fun T => by rw [List.getElem?_append_left (by omega)]; exact hX0
      have hX0g : ∀ (T : AHeap) h, (X ++ T)[0]'h = .cells false (dcells 1 ds) := fun T h => by
        have := hX0' T
        rw [List.getElem?_eq_getElem h] at this
        exact Option.some.inj this
      have hnext : dEs (ds.take (k + 1)) = out ++ [(ew, en', eg)] := by rw [← ho, ← hE]; simp [dEs, List.take_add_one, hd']
      refine Sim.step hmix enΓ_ok (n := 0) (by simp [h1i, h2i]; exact ⟨rfl, rfl⟩) (by simp; omega) ?_
      refine Sim.seq (Sim.block ?_)
      refine Sim.exec hmix enΓ_ok (n := 0) (by simp (decide := true) [h1, hX0g, g1, gl, k1, enΓ, hds, hXl, b1, b2]; exact ⟨rfl, rfl, rfl⟩) (by simp; omega) ?_
      dsimp only
      refine Sim.exec hmix enΓ_ok (n := 0) (by simp [hw]; exact ⟨rfl, rfl, rfl⟩) (by simp; omega) ?_
      dsimp only
      have r0 : ∀ h, (List.range N ++ [N + 2])[0]'h = 0 := fun h => by rw [List.getElem_append_left (by rw [List.length_range]; omega), List.getElem_range]
      have rN : ∀ h, (List.range N ++ [N + 2])[N]'h = N + 2 := fun h => by rw [List.getElem_append_right (by simp)]; simp
      refine ⟨k + 1, ⟨by omega, by omega⟩, ?_, by omega⟩
      refine Weak.tail hXl hXf [2] (by decide) ?_ ?_
      · simp [AWs, AW, r0, rN, hnext]
      · have hfr := frees_ens (out ++ [(ew, en', eg)])
        simp [AWg, AWb, hXl, hnext]
        exact AWs.refl _ _ (by simpa [ensA, enA] using hfr)
    · have hkd : dEs (ds.take most) = out := by
        rw [← ho]
        rcases Nat.lt_or_ge k most with h9 | h9
        · have : k = ds.length := by omega
          rw [this, List.take_length, List.take_of_length_le (by omega)]
        · rw [show k = most by omega]
      rw [hkd]
      have r0 : ∀ h, (List.range N ++ [N])[0]'h = 0 := fun h => by rw [List.getElem_append_left (by rw [List.length_range]; omega), List.getElem_range]
      have rN : ∀ h, (List.range N ++ [N])[N]'h = N := fun h => by rw [List.getElem_append_right (by simp)]; simp
      by_cases h1 : k < ds.length
      · have h2 : ¬ k < most := fun h => hlt ⟨h1, h⟩
        have h1i : (k : Int) < ds.length := by omega
        have h2i : ¬ (k : Int) < most := by omega
        refine Sim.exec hmix enΓ_ok (n := 0) (by simp [h1i, h2i]; exact ⟨rfl, rfl, rfl⟩) (by simp; omega) ?_
        dsimp only
        rw [if_pos rfl]
        refine Sim.exec hmix enΓ_ok (n := 0) (by simp; exact ⟨rfl, rfl, rfl⟩) (by simp; omega) ?_
        refine ⟨.inr rfl, _, by simp; rfl, Weak.tail hXl hXf [0] (by decide) ?_ ?_⟩
        · simp [AWs, AW, rN]
        · simp [AWg, AWb, hXl]
      · have h1i : ¬ (k : Int) < ds.length := by omega
        refine Sim.exec hmix enΓ_ok (n := 0) (by simp [h1i]; exact ⟨rfl, rfl, rfl⟩) (by simp; omega) ?_
        dsimp only
        rw [if_pos rfl]
        refine Sim.exec hmix enΓ_ok (n := 0) (by simp; exact ⟨rfl, rfl, rfl⟩) (by simp; omega) ?_
        refine ⟨.inr rfl, _, by simp; rfl, Weak.tail hXl hXf [0] (by decide) ?_ ?_⟩
        · simp [AWs, AW, rN]
        · simp [AWg, AWb, hXl]

end Go.Proofs.Ytndkhkponamplaa
