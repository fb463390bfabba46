/- The document's Check, Live, Find of rows of entries. -/
import Derived.Test.YtndkhkponamplaaEs
import Derived.Test.YtndkhkponamplaaE0
namespace Go.Proofs.Ytndkhkponamplaa
open Go
set_option maxRecDepth 100000
attribute [-simp] drawOk_eq adraw qrun acode aops

def rckΓ : Gam := gams [(33, rcheckS)]
theorem rckΓ_ok : GOk Try.prog rckΓ := goks_cons rcheck_sound goks_nil

set_option maxHeartbeats 16000000 in
theorem rchk_ct (l : List En) (hl : l.length ≤ 1000000) :
    Ct Try.prog 22 [.sl 0 0 l.length 3 false] [.cells false (ensA l)] (.tuple [.int .i64 (chkE l).1, .int .i64 (chkE l).2]) [.cells false (ensA l)] := by
  refine ct_of_sim Try.func22 rfl ?_
  simp only [Try.ntmps22, List.length_cons, List.length_nil, Nat.reduceAdd, Nat.reduceSub, List.replicate, List.cons_append, List.nil_append]
  obtain ⟨c, hc⟩ : ∃ c, chkE l = c := ⟨_, rfl⟩
  rw [hc]
  refine Sim.step hmix rckΓ_ok (n := 0) (by simp; exact ⟨rfl, rfl⟩) (by simp) ?_
  refine Sim.seq (Sim.step hmix rckΓ_ok (n := 0) (by simp; exact ⟨rfl, rfl⟩) (by simp) ?_)
  refine Sim.block (Sim.loopW (fun k : Nat => k ≤ l.length ∧ firstBad (codeAt l) (l.length - k) k = c)
    (fun k => [.sl 0 0 l.length 3 false, .top, .int .i64 0, .int .i64 0, .int .i64 k] ++ List.replicate 31 .top)
    (fun _ => [.cells false (ensA l)]) (fun k => l.length - k) 0 (by simp) ⟨by simp, hc⟩ (Weak.mk' [0] (by decide) (by decide) (by simp) (by simp)) fun k hk => ?_)
  obtain ⟨hk, hch⟩ := hk
  by_cases hlt : k < l.length
  · have hlti : (k : Int) < l.length := by omega
    obtain ⟨e, he⟩ : ∃ e, l[k] = e := ⟨_, rfl⟩
    have he' : l[k]? = some e := by rw [List.getElem?_eq_getElem hlt, he]
    have c0 := ens_word he'
    have k1 : k * 3 + 3 ≤ l.length * 3 := by omega
    have hw : IntKind.i64.wrap ((k : Int) + 1) = k + 1 := wr_i64 (by omega) (by omega)
    obtain ⟨wd, wt, gn⟩ := e
    dsimp only at c0
    rw [show l.length - k = (l.length - (k + 1)) + 1 by omega] at hch
    unfold firstBad at hch
    refine Sim.step hmix rckΓ_ok (n := 0) (by simp [hlti]; exact ⟨rfl, rfl⟩) (by simp) ?_
    refine Sim.seq (Sim.block ?_)
    by_cases hok : okW wd = true
    · have hcd : cdW wd = 0 := by unfold cdW; rw [if_pos hok]
      refine Sim.step hmix rckΓ_ok (n := 0) (by simp (decide := true) [rckΓ, rcheckS, hlt, c0, hcd]; exact ⟨rfl, rfl⟩) (by simp) ?_
      by_cases hk0 : k = 0
      · have hki : (k : Int) = 0 := by omega
        have hkn : ¬ (0 : Int) < k := by omega
        have hkN : ¬ 0 < k := by omega
        have hc0 : codeAt l k = 0 := by unfold codeAt; rw [he']; dsimp only; rw [if_pos hok, hk0]
        rw [if_pos hc0] at hch
        refine Sim.step hmix rckΓ_ok (n := 0) (by simp (decide := true) [hk0]; exact ⟨rfl, rfl⟩) (by simp) ?_
        refine Sim.exec hmix rckΓ_ok (n := 0) (by simp; exact ⟨rfl, rfl, rfl⟩) (by simp) ?_
        dsimp only
        refine Sim.exec hmix rckΓ_ok (n := 0) (by simp; exact ⟨rfl, rfl, rfl⟩) (by simp) ?_
        dsimp only
        exact ⟨k + 1, ⟨by omega, hch⟩, Weak.mk' [0] (by decide) (by decide) (by simp [hk0]) (by simp), by omega⟩
      · obtain ⟨j, hj⟩ : ∃ j, k = j + 1 := ⟨k - 1, by omega⟩
        have hk0i : (0 : Int) < k := by omega
        have hkN : 0 < k := by omega
        have hjl : j < l.length := by omega
        have w5 : IntKind.i64.wrap ((k : Int) - 1) = (j : Int) := by rw [show (k : Int) - 1 = j by omega]; exact wr_i64 (by omega) (by omega)
        have k2 : j * 3 + 3 ≤ l.length * 3 := by omega
        obtain ⟨d, hd⟩ : ∃ d, l[j] = d := ⟨_, rfl⟩
        have hd' : l[j]? = some d := by rw [List.getElem?_eq_getElem hjl, hd]
        have d0 := ens_word hd'
        obtain ⟨dw, dn, dg⟩ := d
        dsimp only at d0
        by_cases hb : Op.bytesLess dw wd = true
        · have hc0 : codeAt l k = 0 := by unfold codeAt; rw [he']; dsimp only; rw [if_pos hok, hj]; dsimp only; rw [hd']; dsimp only; rw [if_pos hb]
          rw [if_pos hc0] at hch
          refine Sim.step hmix rckΓ_ok (n := 0) (by simp (decide := true) [hkN, w5, hjl, hlt, c0, d0, hb]; exact ⟨rfl, rfl⟩) (by simp) ?_
          refine Sim.exec hmix rckΓ_ok (n := 0) (by simp; exact ⟨rfl, rfl, rfl⟩) (by simp) ?_
          dsimp only
          refine Sim.exec hmix rckΓ_ok (n := 0) (by simp [hw]; exact ⟨rfl, rfl, rfl⟩) (by simp) ?_
          dsimp only
          exact ⟨k + 1, ⟨by omega, hch⟩, Weak.mk' [0] (by decide) (by decide) (by simp) (by simp), by omega⟩
        · have hc1 : codeAt l k = 15 := by unfold codeAt; rw [he']; dsimp only; rw [if_pos hok, hj]; dsimp only; rw [hd']; dsimp only; rw [if_neg hb]
          have hb' : Op.bytesLess dw wd = false := by simpa using hb
          rw [if_neg (by rw [hc1]; decide)] at hch
          refine Sim.step hmix rckΓ_ok (n := 0) (by simp (decide := true) [hkN, w5, hjl, hlt, c0, d0, hb']; exact ⟨rfl, rfl⟩) (by simp) ?_
          refine Sim.exec hmix rckΓ_ok (n := 0) (by simp; exact ⟨rfl, rfl, rfl⟩) (by simp) ?_
          dsimp only
          rw [← hch]
          exact ⟨.inr rfl, _, by simp; rfl, Weak.mk' [0] (by decide) (by decide) (by simp [hc1]) (by simp)⟩
    · have hcd : cdW wd = 7 := by unfold cdW; rw [if_neg hok]
      have hc1 : codeAt l k = 7 := by unfold codeAt; rw [he']; dsimp only; rw [if_neg hok]
      rw [if_neg (by rw [hc1]; decide)] at hch
      refine Sim.exec hmix rckΓ_ok (n := 0) (by simp (decide := true) [rckΓ, rcheckS, hlt, c0, hcd]; exact ⟨rfl, rfl, rfl⟩) (by simp) ?_
      dsimp only
      rw [← hch]
      exact ⟨.inr rfl, _, by simp; rfl, Weak.mk' [0] (by decide) (by decide) (by simp [hc1]) (by simp)⟩
  · have hlti : ¬ (k : Int) < l.length := by omega
    rw [show l.length - k = 0 by omega] at hch
    unfold firstBad at hch
    refine Sim.exec hmix rckΓ_ok (n := 0) (by simp [hlti]; exact ⟨rfl, rfl, rfl⟩) (by simp) ?_
    dsimp only
    rw [if_pos rfl]
    refine Sim.exec hmix rckΓ_ok (n := 0) (by simp; exact ⟨rfl, rfl, rfl⟩) (by simp) ?_
    rw [← hch]
    exact ⟨.inr rfl, _, by simp; rfl, Weak.mk' [0] (by decide) (by decide) (by simp) (by simp)⟩

theorem rchk_sound : Sound Try.prog 22 chkS := by
  refine sound_read (enter_of Try.func22 rfl (by decide)) fun args H v h => ?_
  split at h <;> try cases h
  rename_i x
  split at h <;> try cases h
  rename_i l hx
  split at h <;> cases h
  rename_i hc
  obtain ⟨b1, o1, w1, g1⟩ := rowEns_win hx
  refine ct_win (rchk_ct l hc) rfl [(b1, o1)] ?_ ?_
  · exact ⟨w1 0 _ rfl, trivial⟩
  · exact ⟨g1, frees_ens _, trivial⟩

set_option maxHeartbeats 8000000 in
theorem rlive_ct (l : List En) (hl : l.length ≤ 1000000) :
    Ct Try.prog 25 [.sl 0 0 l.length 3 false] [.cells false (ensA l)] (.sl 1 0 (liveE l).length 3 false) [.cells false (ensA l), .cells true (ensA (liveE l))] := by
  refine ct_of_sim Try.func25 rfl ?_
  simp only [Try.ntmps25, List.length_cons, List.length_nil, Nat.reduceAdd, Nat.reduceSub, List.replicate, List.cons_append, List.nil_append]
  refine Sim.step hmix goks_nil (n := 0) (by simp; exact ⟨rfl, rfl⟩) (by simp) ?_
  refine Sim.step hmix goks_nil (n := 0) (by simp; exact ⟨rfl, rfl⟩) (by simp) ?_
  refine Sim.seq (Sim.step hmix goks_nil (n := 0) (by simp; exact ⟨rfl, rfl⟩) (by simp) ?_)
  refine Sim.block (Sim.loopW (fun k : Nat => k ≤ l.length)
    (fun k => [.sl 0 0 l.length 3 false, .top, .top, .sl 1 0 (liveE (l.take k)).length 3 false, .int .i64 k] ++ List.replicate 20 .top)
    (fun k => [.cells false (ensA l), .cells true (ensA (liveE (l.take k)))]) (fun k => l.length - k) 0 (by simp) (by simp) (Weak.mk' [0, 100] (by decide) (by decide) (by simp [liveE]) (by simp)) fun k hk => ?_)
  obtain ⟨out, ho⟩ : ∃ out, liveE (l.take k) = out := ⟨_, rfl⟩
  have hol : out.length ≤ 1000000 := by
    have := liveE_length (l.take k)
    rw [ho, List.length_take] at this
    omega
  have b1 : (out.length + 1) * 24 ≤ 140737488355328 := by omega
  have b2 : out.length + 1 ≤ 9223372036854775807 := by omega
  rw [ho]
  by_cases hlt : k < l.length
  · have hlti : (k : Int) < l.length := by omega
    obtain ⟨e, he⟩ : ∃ e, l[k] = e := ⟨_, rfl⟩
    have he' : l[k]? = some e := by rw [List.getElem?_eq_getElem hlt, he]
    have hnext := liveE_snoc l k e he'
    rw [ho] at hnext
    have g1 := ens_get l k hlt
    rw [he] at g1
    have c2 := ens_cell he' 2 (by omega)
    have k1 : k * 3 + 3 ≤ l.length * 3 := by omega
    have hw : IntKind.i64.wrap ((k : Int) + 1) = k + 1 := wr_i64 (by omega) (by omega)
    obtain ⟨wd, wt, gn⟩ := e
    simp only [enA, List.getElem?_cons_succ, List.getElem?_cons_zero] at c2
    refine Sim.step hmix goks_nil (n := 0) (by simp [hlti]; exact ⟨rfl, rfl⟩) (by simp) ?_
    refine Sim.seq (Sim.block ?_)
    cases gn with
    | true =>
      simp only [if_true, List.append_nil] at hnext
      refine Sim.exec hmix goks_nil (n := 0) (by simp (decide := true) [hlt, c2]; exact ⟨rfl, rfl, rfl⟩) (by simp) ?_
      dsimp only
      refine Sim.exec hmix goks_nil (n := 0) (by simp [hw]; exact ⟨rfl, rfl, rfl⟩) (by simp) ?_
      dsimp only
      exact ⟨k + 1, by omega, Weak.mk' [0, 1] (by decide) (by decide) (by simp [hnext]) (by simp [hnext]), by omega⟩
    | false =>
      simp only [Bool.false_eq_true, if_false] at hnext
      refine Sim.exec hmix goks_nil (n := 0) (by simp (decide := true) [hlt, c2, g1, k1, b1, b2, enA]; exact ⟨rfl, rfl, rfl⟩) (by simp) ?_
      dsimp only
      refine Sim.exec hmix goks_nil (n := 0) (by simp [hw]; exact ⟨rfl, rfl, rfl⟩) (by simp) ?_
      dsimp only
      exact ⟨k + 1, by omega, Weak.mk' [0, 3] (by decide) (by decide) (by simp [hnext]) (by simp [hnext, ensA, enA]; exact AWs.refl _ _ (by have := frees_ens (out ++ [(wd, wt, false)]); simpa [ensA, enA] using this)), by omega⟩
  · have hlti : ¬ (k : Int) < l.length := by omega
    have hkn : k = l.length := by omega
    rw [hkn, List.take_length] at ho
    rw [ho]
    refine Sim.exec hmix goks_nil (n := 0) (by simp [hlti]; exact ⟨rfl, rfl, rfl⟩) (by simp) ?_
    dsimp only
    rw [if_pos rfl]
    refine Sim.exec hmix goks_nil (n := 0) (by simp; exact ⟨rfl, rfl, rfl⟩) (by simp) ?_
    exact ⟨.inr rfl, _, by simp; rfl, Weak.mk' [0, 1] (by decide) (by decide) (by simp) (by simp)⟩

theorem rlive_sound : Sound Try.prog 25 liveS := by
  refine sound_readNew (enter_of Try.func25 rfl (by decide)) fun args H v N h => ?_
  split at h <;> try cases h
  rename_i x
  split at h <;> try cases h
  rename_i l hx
  split at h <;> cases h
  rename_i hc
  obtain ⟨b1, o1, w1, g1⟩ := rowEns_win hx
  refine ct_winN (H0 := [.cells false (ensA l)]) (args0 := [.sl 0 0 l.length 3 false]) ?_ rfl [(b1, o1)] ⟨w1 0 _ rfl, trivial⟩ ⟨g1, frees_ens _, trivial⟩
  have := rlive_ct l hc
  simpa using this

/-- What the document's Find finds. -/
def rfindE (l : List En) (w : List UInt8) : En × Bool := match l.find? (fun e => e.1 == w) with
  | some e => (e, true)
  | none => (([], 0, false), false)

theorem rfind_eq {l : List En} (h : asc l) (w : List UInt8) : rfindE l w = findE l w := by
  unfold rfindE
  cases hq : l.find? (fun e => e.1 == w) with
  | some e =>
    have h1 := List.find?_some hq
    have h2 := List.mem_of_find?_eq_some hq
    have h3 : e.1 = w := by simpa using h1
    dsimp only
    rw [← h3, find_of_mem h h2]
  | none =>
    dsimp only
    rw [List.find?_eq_none] at hq
    unfold findE
    cases hp : l[posE l w]? with
    | none => rfl
    | some x =>
      dsimp only
      rw [if_neg]
      intro hx
      exact hq x (List.mem_of_getElem? hp) (by simpa using hx)

set_option maxHeartbeats 8000000 in
theorem rfind_ct (l : List En) (w : List UInt8) (hl : l.length ≤ 1000000) :
    Ct Try.prog 29 [.sl 0 0 l.length 3 false, .str w] [.cells false (ensA l)] (.tuple [.agg (enA (rfindE l w).1), .bool (rfindE l w).2]) [.cells false (ensA l)] := by
  refine ct_of_sim Try.func29 rfl ?_
  simp only [Try.ntmps29, List.length_cons, List.length_nil, Nat.reduceAdd, Nat.reduceSub, List.replicate, List.cons_append, List.nil_append]
  obtain ⟨r, hr⟩ : ∃ r, rfindE l w = r := ⟨_, rfl⟩
  rw [hr]
  refine Sim.step hmix goks_nil (n := 0) (by simp; exact ⟨rfl, rfl⟩) (by simp) ?_
  refine Sim.seq (Sim.step hmix goks_nil (n := 0) (by simp; exact ⟨rfl, rfl⟩) (by simp) ?_)
  refine Sim.block (Sim.loopW (fun k : Nat => k ≤ l.length ∧ rfindE (l.drop k) w = r)
    (fun k => [.sl 0 0 l.length 3 false, .str w, .top, .top, .ptr 1 0, .bool false, .int .i64 k] ++ List.replicate 18 .top)
    (fun _ => [.cells false (ensA l), .cells true [.str [], .int .u32 0, .bool false]]) (fun k => l.length - k) 0 (by simp) ⟨by simp, by simpa using hr⟩ (Weak.mk' [0, 1] (by decide) (by decide) (by simp) (by simp)) fun k hk => ?_)
  obtain ⟨hk, hch⟩ := hk
  by_cases hlt : k < l.length
  · have hlti : (k : Int) < l.length := by omega
    obtain ⟨e, he⟩ : ∃ e, l[k] = e := ⟨_, rfl⟩
    have he' : l[k]? = some e := by rw [List.getElem?_eq_getElem hlt, he]
    have g1 := ens_get l k hlt
    rw [he] at g1
    have c0 := ens_word he'
    have k1 : k * 3 + 3 ≤ l.length * 3 := by omega
    have hw : IntKind.i64.wrap ((k : Int) + 1) = k + 1 := wr_i64 (by omega) (by omega)
    rw [← List.getElem_cons_drop hlt, he] at hch
    unfold rfindE at hch
    rw [List.find?_cons] at hch
    obtain ⟨wd, wt, gn⟩ := e
    dsimp only at c0
    refine Sim.step hmix goks_nil (n := 0) (by simp [hlti]; exact ⟨rfl, rfl⟩) (by simp) ?_
    refine Sim.seq (Sim.block ?_)
    by_cases hx : wd = w
    · have hxb : (wd == w) = true := by simpa using hx
      simp only [hxb] at hch
      refine Sim.exec hmix goks_nil (n := 0) (by simp (decide := true) [hlt, c0, g1, k1, enA, hx]; exact ⟨rfl, rfl, rfl⟩) (by simp) ?_
      dsimp only
      rw [← hch]
      exact ⟨.inr rfl, _, by simp; rfl, Weak.mk' [0] (by decide) (by decide) (by simp [enA, hx]) (by simp)⟩
    · have hxb : (wd == w) = false := by simpa using hx
      simp only [hxb] at hch
      refine Sim.exec hmix goks_nil (n := 0) (by simp (decide := true) [hlt, c0, hxb]; exact ⟨rfl, rfl, rfl⟩) (by simp) ?_
      dsimp only
      refine Sim.exec hmix goks_nil (n := 0) (by simp [hw]; exact ⟨rfl, rfl, rfl⟩) (by simp) ?_
      dsimp only
      exact ⟨k + 1, ⟨by omega, hch⟩, Weak.mk' [0, 1] (by decide) (by decide) (by simp) (by simp), by omega⟩
  · have hlti : ¬ (k : Int) < l.length := by omega
    rw [List.drop_eq_nil_of_le (by omega)] at hch
    refine Sim.exec hmix goks_nil (n := 0) (by simp [hlti]; exact ⟨rfl, rfl, rfl⟩) (by simp) ?_
    dsimp only
    rw [if_pos rfl]
    refine Sim.exec hmix goks_nil (n := 0) (by simp; exact ⟨rfl, rfl, rfl⟩) (by simp) ?_
    rw [← hch]
    exact ⟨.inr rfl, _, by simp; rfl, Weak.mk' [0] (by decide) (by decide) (by simp [enA, rfindE]) (by simp)⟩

theorem rfind_sound : Sound Try.prog 29 findS := by
  refine sound_read (enter_of Try.func29 rfl (by decide)) fun args H v h => ?_
  split at h <;> try cases h
  rename_i x w
  split at h <;> try cases h
  rename_i l hx
  split at h <;> cases h
  rename_i hc
  obtain ⟨b1, o1, w1, g1⟩ := rowEns_win hx
  have h := rfind_ct l w hc.1
  rw [rfind_eq (ascB_ok hc.2)] at h
  refine ct_win h rfl [(b1, o1)] ?_ ?_
  · exact ⟨w1 0 _ rfl, by simp [winA], trivial⟩
  · exact ⟨g1, frees_ens _, trivial⟩

end Go.Proofs.Ytndkhkponamplaa
