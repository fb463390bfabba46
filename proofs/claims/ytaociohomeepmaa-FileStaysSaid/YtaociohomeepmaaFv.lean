/- The reference file: a row of what was done. -/
import Derived.Test.YtaociohomeepmaaFu
namespace Go.Proofs.Ytaociohomeepmaa
open Go
set_option maxRecDepth 100000
attribute [-simp] drawOk_eq adraw qrun acode aops

def FAct.cells : FAct → List AV
  | .add s => [.bool false, .int .i64 0, .str s]
  | .cut n => [.bool true, .int .i64 n, .str []]
def actA : List FAct → List AV
  | [] => []
  | a :: l => a.cells ++ actA l
@[simp] theorem cells_length (a : FAct) : a.cells.length = 3 := by cases a <;> rfl
@[simp] theorem actA_length : ∀ (l : List FAct), (actA l).length = l.length * 3
  | [] => rfl
  | a :: l => by simp [actA, actA_length l]; omega
theorem actA_append : ∀ (l m : List FAct), actA (l ++ m) = actA l ++ actA m
  | [], m => rfl
  | a :: l, m => by simp [actA, actA_append l m]

@[simp] theorem flats_actA : ∀ (l : List FAct), flatsA (actA l) = true
  | [] => rfl
  | a :: l => by
    have := flats_actA l
    simp only [flatsA] at this ⊢
    cases a <;> simp [actA, FAct.cells, this, flatA]
@[simp] theorem AWs_actA {rn : List Nat} (l : List FAct) : AWs rn (actA l) (actA l) := AWs_flat _ (flats_actA l)

/-- The blocks of a reference file. -/
def PF.rblks (f : PF) : AHeap := [.cells true [.str f.d, .sl 1 0 f.acts.length 3 false], .cells true (actA f.acts)]

set_option maxHeartbeats 2000000 in
theorem rdone_ct (s : List UInt8) (a : FAct) (hl : (a.run s).length ≤ 1000000000000) (hf : match a with | .add _ => True | .cut n => n ≤ s.length) : Ct Try.prog 41 [.str s, .agg a.cells] [] (.str (a.run s)) [] := by
  refine ct_runE hmix fiΓ_ok (n := 0) Try.func41 ?_
  unfold Try.f41
  cases a with
  | add m =>
    have h1 : s.length + m.length ≤ 9223372036854775807 := by simp [FAct.run] at hl; omega
    exact ⟨_, _, (by simp (decide := true) [FAct.cells, h1]; exact ⟨rfl, rfl⟩), Weak.mk' [] (by decide) rfl (by simp [FAct.run]) (by simp)⟩
  | cut n =>
    have h1 : min (n : Int) (s.length : Int) = (n : Int) := by have : n ≤ s.length := hf; omega
    have h2 : n ≤ s.length := hf
    exact ⟨_, _, (by simp (decide := true) [-minA, minA_min, FAct.cells, h1, h2]; exact ⟨rfl, rfl⟩), Weak.mk' [] (by decide) rfl (by simp [FAct.run]) (by simp)⟩

theorem actA_get : ∀ (l : List FAct) (k : Nat) (h : k < l.length), ((actA l).drop (k * 3)).take 3 = l[k].cells
  | a :: l, 0, _ => by cases a <;> simp [actA, FAct.cells]
  | a :: l, k + 1, h => by
    have := actA_get l k (by simpa using h)
    rw [show (k + 1) * 3 = k * 3 + 3 by omega]
    cases a <;> simpa [actA, FAct.cells] using this

def rdoneS : Summ := pureS fun
  | [.str s, .agg [.bool false, .int .i64 0, .str m]] => if s.length + m.length ≤ 1000000000000 then some (.str (s ++ m)) else none
  | [.str s, .agg [.bool true, .int .i64 n, .str []]] => if (0 ≤ n ∧ n ≤ s.length) ∧ s.length ≤ 1000000000000 then some (.str (s.take n.toNat)) else none
  | _ => none
theorem rdone_sound : Sound Try.prog 41 rdoneS := by
  refine sound_pure (enter_of Try.func41 rfl (by decide)) fun args v h => ?_
  split at h
  · split at h <;> cases h
    rename_i s m hl
    exact ⟨rdone_ct s (.add m) (by simpa [FAct.run] using hl) trivial, rfl, rfl⟩
  · split at h <;> cases h
    rename_i s n hl
    have := rdone_ct s (.cut n.toNat) (by simp [FAct.run]; omega) (by show n.toNat ≤ _; omega)
    simp only [FAct.cells, FAct.run, Int.toNat_of_nonneg hl.1.1] at this
    exact ⟨this, rfl, rfl⟩
  · cases h

theorem rfdΓ_ok : GOk Try.prog (runG Try.prog (gams [(41, rdoneS)]) 0 [] 4) := gok_run hmix (goks_cons rdone_sound goks_nil) 0 [] 4

set_option maxHeartbeats 4000000 in
theorem rbytes_ct (f : PF) (hok : f.ok 1000000000000) :
    Ct Try.prog 26 [.ptr 0 0] [.cells false [.str f.d, .sl 1 0 f.acts.length 3 false], .cells false (actA f.acts)] (.str f.now) [.cells false [.str f.d, .sl 1 0 f.acts.length 3 false], .cells false (actA f.acts)] := by
  have hΓ := rfdΓ_ok
  obtain ⟨hfit, hk, hlen⟩ := hok
  refine ct_of_sim Try.func26 rfl ?_
  simp only [Try.ntmps26, List.length_cons, List.length_nil, Nat.reduceAdd, Nat.reduceSub, List.replicate, List.cons_append, List.nil_append]
  obtain ⟨HH, eH⟩ : ∃ HH, [ABlk.cells false [.str f.d, .sl 1 0 f.acts.length 3 false], .cells false (actA f.acts)] = HH := ⟨_, rfl⟩
  refine Sim.step hmix hΓ (n := 0) (by simp; exact ⟨rfl, rfl⟩) (by simp) ?_
  refine Sim.step hmix hΓ (n := 0) (by simp; exact ⟨rfl, rfl⟩) (by simp) ?_
  refine Sim.seq (Sim.step hmix hΓ (n := 0) (by simp; exact ⟨rfl, rfl⟩) (by simp) ?_)
  refine Sim.block (Sim.loopS (fun i : Nat => i ≤ f.acts.length)
    (fun i => [.ptr 0 0, .top, .top, .str (runs f.d (f.acts.take i)), .int .i64 i] ++ List.replicate 23 .top)
    (fun _ => HH) (fun i => f.acts.length - i) 0 (by simp) (by simp) ⟨by simp [runs], eH⟩ fun i hi => ?_)
  rw [← eH]
  by_cases hlt : i < f.acts.length
  · obtain ⟨a, ha⟩ : ∃ a, f.acts[i] = a := ⟨_, rfl⟩
    have g1 := actA_get f.acts i hlt
    have k1 : i * 3 + 3 ≤ f.acts.length * 3 := by omega
    have e1 := runs_take f.d f.acts i hlt
    have l1 := hlen (i + 1)
    have l2 := hlen i
    rw [e1] at l1
    rw [ha] at g1 e1 l1
    have y1 : IntKind.i64.wrap ((i : Int) + 1) = i + 1 := wr_i64 (by omega) (by omega)
    have hfc := fun n h => fits_at hfit (i := i) (n := n) h
    rw [List.getElem?_eq_getElem hlt, ha] at hfc
    obtain ⟨u, hu⟩ : ∃ u, runs f.d (f.acts.take i) = u := ⟨_, rfl⟩
    rw [hu] at e1 l1 l2 hfc ⊢
    cases a with
    | add m =>
      simp only [FAct.run, List.length_append] at l1
      simp only [FAct.cells] at g1
      refine Sim.exec hmix hΓ (n := 0) (by simp (decide := true) [rdoneS, hlt, g1, k1, y1, l1]; exact ⟨rfl, rfl, rfl⟩) (by simp) ?_
      exact ⟨i + 1, by omega, ⟨by simp [e1, FAct.run], by first | exact eH | rfl⟩, by omega⟩
    | cut z =>
      simp only [FAct.cells] at g1
      have hz := hfc z rfl
      refine Sim.exec hmix hΓ (n := 0) (by simp (decide := true) [rdoneS, hlt, g1, k1, y1, hz, l2]; exact ⟨rfl, rfl, rfl⟩) (by simp) ?_
      exact ⟨i + 1, by omega, ⟨by simp [e1, FAct.run], by first | exact eH | rfl⟩, by omega⟩
  have : i = f.acts.length := by omega
  subst this
  refine Sim.exec hmix hΓ (n := 0) (by simp; exact ⟨rfl, rfl, rfl⟩) (by simp) ?_
  dsimp only
  rw [if_pos rfl]
  refine Sim.exec hmix hΓ (n := 0) (by simp; exact ⟨rfl, rfl, rfl⟩) (by simp) ?_
  exact ⟨.inr rfl, _, by simp [Try.f26] <;> rfl, Weak.mk' [0, 1] (by decide) (by decide) (by simp [PF.now]) (by simp)⟩

end Go.Proofs.Ytaociohomeepmaa
