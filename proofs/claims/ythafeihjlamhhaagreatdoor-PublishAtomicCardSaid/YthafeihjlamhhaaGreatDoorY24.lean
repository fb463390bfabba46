/- Parts of the proof of PublishAtomic: lemmas, each with its own conditions. -/
import Derived.Test.YthafeihjlamhhaaGreatDoorY20
import Derived.Test.YthafeihjlamhhaaGreatDoorY21
import Derived.Test.YthafeihjlamhhaaGreatDoorY23
set_option maxHeartbeats 64000000
open List renaming length_cons → q7Z, length_nil → q8Z, cons_append → q9Z, nil_append → qaZ, replicate → qbZ, length_append → qdZ
open Nat renaming le_refl → qnZ
namespace Go.Proofs.YthafeihjlamhhaaGreatDoor
open _root_.Go.Proofs.Tryz renaming prog → Pz
set_option maxRecDepth 100000
section
open Go Go.RowKit Go.Lib Go.Sort
def decF : Nat → Nat → List UInt8
 | 0, _ => []
 | k + 1, u => if u < 10 then [UInt8.ofNat (48 + u)] else decF k (u / 10) ++ [UInt8.ofNat (48 + u % 10)]
theorem decF_eq : ∀ (k u : Nat), u < 10 ^ k → 0 < k → decF k u = decDigits u
 | 0, _, _, h => by omega
 | k + 1, u, h, _ => by
   unfold decF; rw [decDigits]; by_cases hu : u < 10
   · rw [if_pos hu, dif_pos hu]
   · rw [if_neg hu, dif_neg hu]
     rcases Nat.eq_zero_or_pos k with rfl | hk
     · simp at h; omega
     · rw [decF_eq k (u / 10) (by rw [Nat.pow_succ] at h; omega) hk]
theorem pow_var {j : Inj} {H : AHeap} {w : World} (hR : R j H w) : TabIs Pz w "internal/strconv.uint64pow10" .u64 pow10Tab := by
 obtain ⟨⟨T, fz, h⟩, _⟩ := hR.glo.1.1
 have hg : w.heap[2]? = some (.cells (pow10Tab.map fun z => Value.int .u64 z).toArray T fz) := by
   unfold gview at h; split at h
   · exact h
   · cases h
 unfold TabIs World.var?
 have : Tryz.prog.globalNamed "internal/strconv.uint64pow10" = some 2 := by kernel_rfl
 rw [this]; dsimp only [Option.bind]; rw [hg]
def itoaS : Summ := pureS fun
 | [.int .i64 (.ofNat m)] => if m ≤ 9223372036854775807 then some (.str (decF 20 m)) else none
 | _ => none
theorem itoa_sound : Sound Pz 126 itoaS := by
 refine sound_pure (enter_of Tryz.func126 rfl (by decide)) fun args v hv => ?_
 split at hv; rotate_left
 · cases hv
 rename_i m
 split at hv <;> cases hv
 rename_i hm
 refine ⟨ct_of_world rfl fun j w cargs hR hargs => ?_, rfl, rfl⟩
 obtain ⟨a, cs, e, h1, h2⟩ := hargs; simp only [VRs] at h2; subst h2; simp only [VR] at h1; subst h1
 have ec : cargs = #[.int .i64 (Int.ofNat m)] := by apply Array.ext'; rw [e]
 subst ec
 refine (Tryz.strconv_Itoa (Int.ofNat m) (by have : (0 : Int) ≤ Int.ofNat m := Int.natCast_nonneg m; omega) (by have : (Int.ofNat m) = (m : Int) := rfl; omega) w (pow_var hR)).mono ?_
 rintro e w' ⟨rfl, k, os, rfl⟩
 refine ⟨_, rfl, ?_, ⟨rfl, rfl, rfl, by simp [grow, World.drewN], fun c hc => by simp [grow, World.drewN, Array.getElem?_append_left hc]⟩⟩
 have : Lib.itoa (Int.ofNat m) = decF 20 m := by
   unfold Lib.itoa
   rw [if_neg (by have : (0 : Int) ≤ Int.ofNat m := Int.natCast_nonneg m; omega), decF_eq 20 m (by omega) (by omega)]
   rfl
 rw [this]; rfl
end
section
open Go Go.Lib
attribute [-simp] drawOk_eq adraw qrun acode aops
def dg (m : Nat) : List UInt8 := decDigits m
theorem dg_small {m : Nat} (h : m < 10) : dg m = [UInt8.ofNat (48 + m)] := decDigits_one h
theorem dg_big {m : Nat} (h : ¬ m < 10) : dg m = dg (m / 10) ++ [UInt8.ofNat (48 + m % 10)] := by
 unfold dg; rw [decDigits, dif_neg h]
theorem dg_length : ∀ (k m : Nat), m < 10 ^ (k + 1) → (dg m).length ≤ k + 1
 | 0, m, h => by rw [dg_small (by omega)]; simp
 | k + 1, m, h => by
   by_cases hm : m < 10
   · rw [dg_small hm]; simp
   · rw [dg_big hm, qdZ]
     have := dg_length k (m / 10) (by rw [Nat.pow_succ] at h; omega)
     simp only [q7Z, q8Z]; omega
def manifW : List UInt8 := [109, 97, 110, 105, 102, 101, 115, 116]
def tempW : List UInt8 := [109, 97, 110, 105, 102, 101, 115, 116, 46, 116, 109, 112]
def walW : List UInt8 := [119, 97, 108, 45]
def segW : List UInt8 := [115, 101, 103, 45]
def mk (k n : Int) : List UInt8 :=
 if k = 1 then manifW else if k = 2 then tempW else if n < 1 ∨ 1000000000 < n then [] else if k = 3 then walW ++ dg n.toNat else if k = 4 then segW ++ dg n.toNat else []
theorem mk_none {k n : Int} (h1 : k ≠ 1) (h2 : k ≠ 2) (h3 : k ≠ 3) (h4 : k ≠ 4) : mk k n = [] := by
 unfold mk; simp [h1, h2, h3, h4]
def mkS : Summ := pureS fun
 | [.int .i64 k, .int .i64 n] => some (.str (mk k n))
 | _ => none
def mkInl : List FuncId := [124, 125]
theorem mkΓ_ok : GOk Pz (runG Pz (gams [(126, itoaS)]) 0 mkInl 2) := gok_run hmix (goks_cons itoa_sound goks_nil) 0 mkInl 2
theorem itoa_dg {m : Nat} (h : m < 10 ^ 20) : decF 20 m = dg m := decF_eq 20 m h (by decide)
theorem make_ct (k n : Int) : Ct Pz 58 [.int .i64 k, .int .i64 n] [] (.str (mk k n)) [] := by
 have key : ∀ j : Nat, 1 ≤ n → n ≤ 1000000000 → ∃ m : Nat, n = m ∧ itoaS [.int .i64 n] = fun H => some (.str (dg m), H, []) := fun _ h1 h2 => by
   obtain ⟨m, rfl⟩ : ∃ m : Nat, n = m := ⟨n.toNat, by omega⟩
   refine ⟨m, rfl, ?_⟩
   funext H
   have e : m ≤ 9223372036854775807 := by omega
   simp [itoaS, pureS, e, itoa_dg (show m < 10 ^ 20 by omega)]
 by_cases h0 : k < 0
 · have hm : mk k n = [] := mk_none (by omega) (by omega) (by omega) (by omega)
   rw [hm]
   exact ct_val hmix mkΓ_ok (n := 0) Tryz.func58 (by unfold Tryz.f58; simp +decide [h0]) (by simp)
 by_cases h4 : 4 < k
 · have hm : mk k n = [] := mk_none (by omega) (by omega) (by omega) (by omega)
   rw [hm]
   exact ct_val hmix mkΓ_ok (n := 0) Tryz.func58 (by unfold Tryz.f58; simp +decide [h0, h4]) (by simp)
 have hk : k = 0 ∨ k = 1 ∨ k = 2 ∨ k = 3 ∨ k = 4 := by omega
 rcases hk with rfl | rfl | rfl | rfl | rfl
 · have hm : mk 0 n = [] := mk_none (by omega) (by omega) (by omega) (by omega)
   rw [hm]
   exact ct_val hmix mkΓ_ok (n := 0) Tryz.func58 (by unfold Tryz.f58; simp +decide [mkInl, Tryz.f124, Tryz.f125]) (by simp)
 · simp only [show mk 1 n = manifW from rfl]
   exact ct_val hmix mkΓ_ok (n := 0) Tryz.func58 (by unfold Tryz.f58; simp +decide [mkInl, Tryz.f124, Tryz.f125, manifW]) (by simp)
 · simp only [show mk 2 n = tempW from rfl]
   exact ct_val hmix mkΓ_ok (n := 0) Tryz.func58 (by unfold Tryz.f58; simp +decide [mkInl, Tryz.f124, Tryz.f125, tempW]) (by simp)
 · by_cases h1 : n < 1
   · have hm : mk 3 n = [] := by unfold mk; rw [if_neg (by omega), if_neg (by omega), if_pos (.inl h1)]
     rw [hm]
     exact ct_val hmix mkΓ_ok (n := 0) Tryz.func58 (by unfold Tryz.f58; simp +decide [mkInl, Tryz.f124, Tryz.f125, h1]) (by simp)
   by_cases h2 : 1000000000 < n
   · have hm : mk 3 n = [] := by unfold mk; rw [if_neg (by omega), if_neg (by omega), if_pos (.inr h2)]
     rw [hm]
     exact ct_val hmix mkΓ_ok (n := 0) Tryz.func58 (by unfold Tryz.f58; simp +decide [mkInl, Tryz.f124, Tryz.f125, h1, h2]) (by simp)
   obtain ⟨m, hm, hi⟩ := key 0 (by omega) (by omega)
   have hml : (dg m).length ≤ 15 := dg_length 14 m (by omega)
   have hml2 : 4 + (dg m).length ≤ 9223372036854775807 := by omega
   have hml3 : (dg m).length + 1 + 1 + 1 + 1 ≤ 9223372036854775807 := by omega
   have hmk : mk 3 n = walW ++ dg m := by unfold mk; rw [if_neg (by omega), if_neg (by omega), if_neg (by omega), if_pos rfl]; rw [hm]; rfl
   rw [hmk]
   exact ct_val hmix mkΓ_ok (n := 0) Tryz.func58 (by unfold Tryz.f58; simp +decide [mkInl, Tryz.f124, Tryz.f125, h1, h2, hi, hml2, walW]) (by simp)
 · by_cases h1 : n < 1
   · have hm : mk 4 n = [] := by unfold mk; rw [if_neg (by omega), if_neg (by omega), if_pos (.inl h1)]
     rw [hm]
     exact ct_val hmix mkΓ_ok (n := 0) Tryz.func58 (by unfold Tryz.f58; simp +decide [mkInl, Tryz.f124, Tryz.f125, h1]) (by simp)
   by_cases h2 : 1000000000 < n
   · have hm : mk 4 n = [] := by unfold mk; rw [if_neg (by omega), if_neg (by omega), if_pos (.inr h2)]
     rw [hm]
     exact ct_val hmix mkΓ_ok (n := 0) Tryz.func58 (by unfold Tryz.f58; simp +decide [mkInl, Tryz.f124, Tryz.f125, h1, h2]) (by simp)
   obtain ⟨m, hm, hi⟩ := key 0 (by omega) (by omega)
   have hml : (dg m).length ≤ 15 := dg_length 14 m (by omega)
   have hml2 : 4 + (dg m).length ≤ 9223372036854775807 := by omega
   have hml3 : (dg m).length + 1 + 1 + 1 + 1 ≤ 9223372036854775807 := by omega
   have hmk : mk 4 n = segW ++ dg m := by unfold mk; rw [if_neg (by omega), if_neg (by omega), if_neg (by omega), if_neg (by omega), if_pos rfl]; rw [hm]; rfl
   rw [hmk]
   exact ct_val hmix mkΓ_ok (n := 0) Tryz.func58 (by unfold Tryz.f58; simp +decide [mkInl, Tryz.f124, Tryz.f125, h1, h2, hi, hml2, segW]) (by simp)
theorem make_sound : Sound Pz 58 mkS := by
 refine sound_pure (enter_of Tryz.func58 rfl (by decide)) fun args v h => ?_
 split at h <;> cases h
 exact ⟨make_ct _ _, rfl, rfl⟩
noncomputable def ptΓ0 : Gam := gams [(50, mputS), (58, mkS), (36, dlistS), (106, contTS), (114, pofS)]
theorem ptΓ_ok : GOk Pz (runG Pz ptΓ0 0 pbInl 4) := gok_run hmix (goks_cons mput_sound (goks_cons make_sound (goks_cons dlist_sound (goks_cons contT_sound (goks_cons pof_sound goks_nil))))) 0 pbInl 4
theorem pt_small {d : DS} {A B : Nat} (hok : d.ok A B) (K : Nat) (hK : 1 ≤ K) (hq : d.quota ≤ K) (hA : A + 12 ≤ 900000) (hB : B + K ≤ 1000000000000) (s : List UInt8) : (∀ i, i ≤ 5 → (stD d (pt5 s) i).small) ∧ (∀ i, i ≤ 6 → (stD d (pt6 s) i).small) := by
 refine ⟨fun i hi => ?_, fun i hi => ?_⟩
 · have h1 := DS.ok_create hok nTmp
   have h2 := DS.ok_append h1 nTmp s K hK (by rw [create_quota]; exact hq)
   have h3 := DS.ok_sync h2 nTmp; have h4 := DS.ok_rename h3 nTmp nMan; have h5 := DS.ok_syncDir h4
   match i, hi with
   | 0, _ => exact DS.ok_mono hok (by omega) (by omega)
   | 1, _ => exact DS.ok_mono h1 (by omega) (by omega)
   | 2, _ => exact DS.ok_mono h2 (by omega) (by omega)
   | 3, _ => exact DS.ok_mono h3 (by omega) (by omega)
   | 4, _ => exact DS.ok_mono h4 (by omega) (by omega)
   | 5, _ => exact DS.ok_mono h5 (by omega) (by omega)
 · have h0 := DS.ok_remove hok nTmp
   have q0 : (d.remove nTmp).1.quota = d.quota := by
     unfold DS.remove DS.step
     split <;> simp
   have h1 := DS.ok_create h0 nTmp
   have h2 := DS.ok_append h1 nTmp s K hK (by rw [create_quota, q0]; exact hq)
   have h3 := DS.ok_sync h2 nTmp; have h4 := DS.ok_rename h3 nTmp nMan; have h5 := DS.ok_syncDir h4
   match i, hi with
   | 0, _ => exact DS.ok_mono hok (by omega) (by omega)
   | 1, _ => exact DS.ok_mono h0 (by omega) (by omega)
   | 2, _ => exact DS.ok_mono h1 (by omega) (by omega)
   | 3, _ => exact DS.ok_mono h2 (by omega) (by omega)
   | 4, _ => exact DS.ok_mono h3 (by omega) (by omega)
   | 5, _ => exact DS.ok_mono h4 (by omega) (by omega)
   | 6, _ => exact DS.ok_mono h5 (by omega) (by omega)
theorem pput_ct (d : DS) {A B : Nat} (hok : d.ok A B) (K : Nat) (hK : 1 ≤ K) (hq : d.quota ≤ K) (hA : A + 12 ≤ 900000) (hB : B + K ≤ 1000000000000) (hKm : K ≤ 1000000000) (m : Mf) (hr : m.right = true) (hml : m.bytes.length ≤ 100000) :
   Ct Pz 51 [.ptr 0 0, mfA 1 m] [.obj true d.blks, .cells true (sgsA m.segs)] (.int .i64 (d.put m.bytes).2) [.obj true (d.put m.bytes).1.blks, .cells true (sgsA m.segs)] := by
 have hd : d.small := DS.ok_mono hok (by omega) (by omega)
 obtain ⟨sm5, sm6⟩ := pt_small hok K hK hq hA hB m.bytes
 have q0 : (d.remove nTmp).1.quota = d.quota := by
   unfold DS.remove DS.step
   split <;> simp
 have fsg : flatsA (sgsA m.segs) = true := by
   have : ∀ l : List Sg, flatsA (sgsA l) = true := fun l => by
     induction l with
     | nil => rfl
     | cons x l ih => simp only [sgsA, sgA, q9Z, qaZ, flatsA, List.all_cons, flatA, Bool.true_and] at ih ⊢; exact ih
   exact this _
 have fns : flatsA (d.list.map AV.str) = true := by simp [flatsA, flatA]
 have hΓ := ptΓ_ok
 have hput : m.put = (m.bytes, 0) := by unfold Mf.put; rw [if_pos hr]
 have hsl : m.segs.length ≤ 1000 := (Mf.right_parts hr).2.1; refine ct_of_sim Tryz.func51 rfl ?_; simp only [Tryz.ntmps51, q7Z, q8Z, Nat.reduceAdd, Nat.reduceSub, qbZ, q9Z, qaZ]
 have hsl2 : m.segs.length ≤ 1000000000000 := by omega
 simp only [mfA]
 refine Sim.step hmix hΓ (n := 0) (by simp; exact ⟨rfl, rfl⟩) (by simp) ?_
 refine Sim.step hmix hΓ (n := 0) (by simp +decide [pbInl, ptΓ0, mputS, rowSgs, hsl2, hput]; exact ⟨rfl, rfl⟩) (by simp) ?_
 refine Sim.seq (Sim.block ?_)
 refine Sim.step hmix hΓ (n := 0) (by simp; exact ⟨rfl, rfl⟩) (by simp) ?_
 refine Sim.exec hmix hΓ (n := 0) (by simp +decide; exact ⟨rfl, rfl, rfl⟩) (by simp) ?_
 dsimp only
 refine Sim.step hmix hΓ (n := 0) (by simp +decide [pbInl, ptΓ0, mkS, mk, manifW, tempW]; exact ⟨rfl, rfl⟩) (by simp) ?_
 refine Sim.step hmix hΓ (n := 0) (by simp; exact ⟨rfl, rfl⟩) (by simp) ?_
 have hdl := DS.list_le (A := 900000) (B := 1000000000000) hd
 have hdl2 : d.list.length ≤ 9223372036854775807 := by omega
 have hb1 : ∀ q, belows q (sgsA m.segs) = true := fun q => belows_free _ _ (frees_sgs _)
 have hb2 : ∀ q, belows q (d.list.map AV.str) = true := fun q => belows_free _ _ (frees_map _ _ fun _ => rfl)
 by_cases hm : nTmp ∈ d.list
 · refine Sim.step hmix hΓ (n := 0) (by simp +decide [pbInl, ptΓ0, dlistS, contTS, readS, hd, hdl2, hm, pofS]; exact ⟨rfl, rfl⟩) (by simp) ?_
   refine Sim.step hmix hΓ (n := 0) (by simp +decide [pbInl, ptΓ0, pofS, Tryz.f116]; exact ⟨rfl, rfl⟩) (by simp) ?_
   refine Sim.step hmix hΓ (n := 0) (by simp; exact ⟨rfl, rfl⟩) (by simp) ?_
   refine Sim.seq (Sim.plain (by simp) ?_)
   refine SimP.many hΓ 6 rfl rfl (by simp +decide; exact ⟨rfl, rfl⟩) ?_
   have hrow := row_put6 d (sgsA m.segs) (d.list.map .str) fsg fns m.v m.f m.n m.segs.length m.bytes (by omega) sm6 (by rw [create_quota, q0]; omega)
   obtain ⟨d', hd'⟩ : ∃ d', (d.put m.bytes).1 = d' := ⟨_, rfl⟩; obtain ⟨e', he'⟩ : ∃ e', (d.put m.bytes).2 = e' := ⟨_, rfl⟩; rw [← put6 d m.bytes hm, hd', he'] at hrow; rw [hd', he']; simp only [rp6H, rp6C, nTmp, nMan] at hrow
   have hΓ5 : GOk Pz (gams [(119, oneAt _ _ _ _)]) := goks_cons (oneAt_sound (enter_of Tryz.func119 rfl (by decide)) hrow (qnZ _)) goks_nil
   refine SimP.many hΓ5 2 rfl rfl (by simp +decide; exact ⟨rfl, rfl⟩) ?_
   refine SimP.done ?_; dsimp only
   refine Sim.exec hmix hΓ (n := 0) (by simp; exact ⟨rfl, rfl, rfl⟩) (by simp) ?_
   exact ⟨.inr rfl, _, by simp [Tryz.f51] <;> rfl, Weak.mk' [0, 1] (by decide) (by decide) (by simp) (by simp [AWb])⟩
 · refine Sim.step hmix hΓ (n := 0) (by simp +decide [pbInl, ptΓ0, dlistS, contTS, readS, hd, hdl2, hm]; exact ⟨rfl, rfl⟩) (by simp) ?_
   refine Sim.step hmix hΓ (n := 0) (by simp +decide [pbInl, ptΓ0, pofS, Tryz.f116]; exact ⟨rfl, rfl⟩) (by simp) ?_
   refine Sim.step hmix hΓ (n := 0) (by simp; exact ⟨rfl, rfl⟩) (by simp) ?_
   refine Sim.seq (Sim.plain (by simp) ?_)
   refine SimP.many hΓ 6 rfl rfl (by simp +decide; exact ⟨rfl, rfl⟩) ?_
   have hrow := row_put5 d (sgsA m.segs) (d.list.map .str) fsg fns m.v m.f m.n m.segs.length m.bytes (by omega) sm5 (by rw [create_quota]; omega)
   obtain ⟨d', hd'⟩ : ∃ d', (d.put m.bytes).1 = d' := ⟨_, rfl⟩; obtain ⟨e', he'⟩ : ∃ e', (d.put m.bytes).2 = e' := ⟨_, rfl⟩; rw [← put5 d m.bytes hm, hd', he'] at hrow; rw [hd', he']; simp only [rp5H, rp5C, nTmp, nMan] at hrow
   have hΓ5 : GOk Pz (gams [(119, oneAt _ _ _ _)]) := goks_cons (oneAt_sound (enter_of Tryz.func119 rfl (by decide)) hrow (qnZ _)) goks_nil
   refine SimP.many hΓ5 2 rfl rfl (by simp +decide; exact ⟨rfl, rfl⟩) ?_
   refine SimP.done ?_; dsimp only
   refine Sim.exec hmix hΓ (n := 0) (by simp; exact ⟨rfl, rfl, rfl⟩) (by simp) ?_
   exact ⟨.inr rfl, _, by simp [Tryz.f51] <;> rfl, Weak.mk' [0, 1] (by decide) (by decide) (by simp) (by simp [AWb])⟩
end
end Go.Proofs.YthafeihjlamhhaaGreatDoor
