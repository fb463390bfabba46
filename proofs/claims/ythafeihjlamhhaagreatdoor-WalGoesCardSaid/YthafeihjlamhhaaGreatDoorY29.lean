/- Parts of the proof of WalGoes: lemmas, each with its own conditions. -/
import Derived.Test.YthafeihjlamhhaaGreatDoorY27
import Derived.Test.YthafeihjlamhhaaGreatDoorY28
set_option maxHeartbeats 64000000
open List renaming getElem?_eq_some_iff → q1Z, getD_eq_getElem?_getD → q2Z, take_of_length_le → q6Z, length_cons → q7Z, length_nil → q8Z, cons_append → q9Z, nil_append → qaZ, replicate → qbZ, mem_of_getElem? → qcZ, length_append → qdZ, length_take → qjZ, length_drop → qkZ, mem_append → qxZ, append_nil → r2Z, getElem?_cons_succ → r9Z, getElem?_cons_zero → raZ, mem_map → reZ, getElem?_range → rfZ
open Nat renaming zero_le → qqZ
open Option renaming getD_some → rgZ
open Int renaming tmod_eq_emod_of_nonneg → rrZ
namespace Go.Proofs.YthafeihjlamhhaaGreatDoor
open _root_.Go.Proofs.Tryz renaming prog → Pz
set_option maxRecDepth 100000
section
open Go
def walWInl : List FuncId := [148, 75, 122, 54, 34, 24, 36, 35, 37, 209, 144, 165, 99, 53, 211, 147, 81, 121, 216, 150, 82, 105, 104, 210, 215, 172, 163, 95, 103, 102, 164, 101, 97, 162, 74, 19, 44, 43, 22, 25, 23, 20, 78, 218, 152, 77, 72, 76, 79, 80, 70, 47, 244, 112, 179, 285, 284, 17, 31, 166, 100, 146, 96, 171, 94, 161, 128, 192, 58, 124, 125, 113, 180, 18, 21, 73, 217, 151, 238, 175, 239, 233, 268, 236, 170]
def trueK_U0 : Summ := pureS fun | [] => some (.bool true) | _ => none
theorem trueK_sound_U0 {f : FuncId} {fn : Func} (hf : Tryz.prog.funcs[f]? = some fn) (hb : fn.body.isSome = true) (hn : (fn.name == "runtime.NumGoroutine") = false) (h : Ct Pz f [] [] (.bool true) []) : Sound Pz f trueK_U0 := by
 refine sound_pure (enter_of hf hb hn) fun args v hv => ?_
 split at hv <;> cases hv
 exact ⟨h, rfl, rfl⟩
def walWS0G : Gam := gams [(169, keysS), (168, sortedS), (167, mcloneS), (149, joinS2), (126, itoaS)]
theorem walWS0G_ok : GOk Pz walWS0G := goks_cons keys_sound (goks_cons sorted_sound (goks_cons mclone_sound (goks_cons join_sound2 (goks_cons itoa_sound goks_nil))))
noncomputable abbrev walWS0C0 : Code := bodyOf Tryz.f15
noncomputable abbrev walWS0F0 : List AV := [] ++ qbZ (Tryz.f15.ntmps - 0) undefA
abbrev walWS0H0 : AHeap := []
noncomputable abbrev walWS0C1 : Code := restC 2 walWS0C0
def walWS0F1 : List AV := [.bool false, .ptr 3 0, .ptr 4 0] ++ qbZ 7 (.tuple []) ++ [.top, .top, .top, .top] ++ qbZ 55 (.tuple []) ++ [.top] ++ qbZ 46 (.tuple [])
def walWS0H1 : AHeap := [.map [(.str [119, 97, 108, 45, 53], .int .i64 (1))], .cells true [.map 0, .map 6, .nils, .int .i64 (1)], .map [(.int .i64 (1), .ptr 5 0)], .cells true [.ptr 1 0, .map 2, .int .i64 (100), .int .i64 (4), .int .i64 (0), .bool false], .cells true [.ptr 3 0, .int .i64 (12), .int .i64 (5), .int .i64 (6), .int .i64 (2), .bool false], .cells true [.str [], .slice 9 0 2 1 false, .str [3, 1, 1, 97, 74, 122, 157, 17, 3, 1, 2, 98, 51, 120, 185, 163]], .map [(.str [119, 97, 108, 45, 53], .int .i64 (1))], .cells true [.str [3, 1, 1, 97, 74, 122, 157, 17]], .cells true [.str [3, 1, 2, 98, 51, 120, 185, 163]], .cells true [.func 216 [] [.ptr 7 0], .func 216 [] [.ptr 8 0]]]
theorem walWS0_k1 : kendM 0 (acodeN Pz (runGK Pz walWS0G 400 walWInl 30) 400 true 2 walWS0C0 walWS0F0 walWS0H0) walWS0F1 walWS0H1 = true := by kernel_rfl
noncomputable abbrev walWS0C2 : Code := restC 4 walWS0C1
def walWS0F2 : List AV := [.bool false, .ptr 3 0, .top, .top, .int .i64 (0)] ++ qbZ 5 (.tuple []) ++ qbZ 58 .top ++ [.tuple [], .top] ++ qbZ 46 (.tuple [])
def walWS0H2 : AHeap := [.map [(.str [119, 97, 108, 45, 53], .int .i64 (1)), (.str [119, 97, 108, 45, 54], .int .i64 (2))], .cells true [.map 0, .map 6, .nils, .int .i64 (2)], .map [(.int .i64 (1), .ptr 4 0), (.int .i64 (2), .ptr 5 0)], .cells true [.ptr 1 0, .map 2, .int .i64 (100), .int .i64 (9), .int .i64 (0), .bool false], .cells true [.str [3, 1, 1, 97, 74, 122, 157, 17, 3, 1, 2, 98, 51, 120, 185, 163], .nils, .str [3, 1, 1, 97, 74, 122, 157, 17, 3, 1, 2, 98, 51, 120, 185, 163]], .cells true [.str [3, 1, 3, 99, 228, 121, 165, 205], .nils, .str [3, 1, 3, 99, 228, 121, 165, 205]], .map [(.str [119, 97, 108, 45, 53], .int .i64 (1)), (.str [119, 97, 108, 45, 54], .int .i64 (2))]]
theorem walWS0_k2 : kendM 0 (acodeN Pz (runGK Pz walWS0G 400 walWInl 30) 400 true 4 walWS0C1 walWS0F1 walWS0H1) walWS0F2 walWS0H2 = true := by kernel_rfl
noncomputable abbrev walWS0C3 : Code := restC 6 walWS0C2
def walWS0F3 : List AV := [.bool true] ++ qbZ 115 .top
def walWS0H3 : AHeap := []
theorem walWS0_k3 : kendM 0 (acodeN Pz (runGK Pz walWS0G 400 walWInl 30) 400 true 6 walWS0C2 walWS0F2 walWS0H2) walWS0F3 walWS0H3 = true := by kernel_rfl
theorem walWS0_end : kretB Pz Tryz.f15.results.toList (acodeK Pz (runGK Pz walWS0G 400 walWInl 30) 400 true walWS0C3 walWS0F3 walWS0H3) = true := by kernel_rfl
theorem walWS0_ct : Ct Pz 15 [] [] (.bool true) [] := by
 have hΓ := gok_runK hmix walWS0G_ok 400 walWInl 30
 refine ct_of_sim (c := walWS0C0) Tryz.func15 (by kernel_rfl) ?_
 refine Sim.kmanyM (n := 400) hmix hΓ 2 walWS0_k1 (qqZ _) ?_; refine Sim.kmanyM (n := 400) hmix hΓ 4 walWS0_k2 (qqZ _) ?_; refine Sim.kmanyM (n := 400) hmix hΓ 6 walWS0_k3 (qqZ _) ?_; exact Sim.kret (n := 400) hmix hΓ walWS0_end
theorem walWS0_sound : Sound Pz 15 trueK_U0 := trueK_sound_U0 Tryz.func15 rfl (by decide) walWS0_ct
end
section
open Go Go.Lib
attribute [-simp] drawOk_eq adraw qrun acode aops
theorem dEs_ok {ds : List Dr} (h : ∀ d ∈ ds, 0 ≤ d.2.1 ∧ d.2.1 < 4294967296) (m : Nat) : ∀ e ∈ dEs (ds.take m), okE e := fun e he => by
 obtain ⟨d, hd, rfl⟩ := reZ.1 he; have := h d (List.mem_of_mem_take hd)
 exact dE_ok d.1 d.2.1 d.2.2 (by simp [okN]; omega)
theorem appends_ok {w : WL} (h : w.bad = false) (es : List En) : w.appends es = w.adds (es.map frE) := by
 unfold WL.appends; rw [h]; rfl
theorem syncs_ok {w : WL} (h : w.bad = false) : w.syncs = w.sync := by
 unfold WL.syncs; rw [h]; rfl
theorem drafts_weakG {ds : List Dr} {ys : List AV} {T : AHeap} {F Fn : List AV}
   (hy : ∀ rn : List Nat, (∀ i, i < ds.length → rn[1 + i]? = some (1 + i)) → AWs rn (dcells 1 ds) ys) (hT : ∀ B ∈ T, ∃ o l, B = ABlk.cells o l ∧ frees l = true)
   (hF : ∀ rn : List Nat, (∀ i, i < ds.length + 1 + T.length → rn[i]? = some i) → AWs rn Fn F) :
   Weak (ABlk.cells false ys :: dblks ds ++ T).length F (ABlk.cells false ys :: dblks ds ++ T) Fn (drH ds ++ T) := by
 have hM : (ABlk.cells false ys :: dblks ds ++ T).length = ds.length + 1 + T.length := by simp [dblks]; omega
 rw [hM]; obtain ⟨M, hm⟩ : ∃ M, ds.length + 1 + T.length = M := ⟨_, rfl⟩; rw [hm] at hM hF ⊢
 have hrn : ∀ i, i < M → (List.range M)[i]? = some i := fun i hi => rfZ hi
 refine Weak.mk' (List.range M) List.nodup_range (by rw [q6Z (by simp)]) (hF _ hrn) (AWg.of _ _ (by simp [drH_length]; omega) fun i B b hB hb hlt => ?_)
 have hi : i < M := by
   have := (q1Z.1 hB).1; rw [qdZ, drH_length] at this; omega
 have hbi : b = i := by rw [rfZ hi] at hb; cases hb; rfl
 subst hbi
 cases b with
 | zero =>
   simp only [drH, q9Z, raZ, Option.some.injEq] at hB; subst hB
   exact ⟨id, hy _ fun i hi => hrn _ (by omega)⟩
 | succ b =>
   simp only [drH, q9Z, r9Z] at hB; rw [q2Z]; simp only [q9Z, r9Z, hB, rgZ]; rcases qxZ.1 (qcZ hB) with h | h
   · obtain ⟨d, _, rfl⟩ := reZ.1 h
     exact ⟨id, AWs.refl _ _ (frees_aB _)⟩
   · obtain ⟨o, l, rfl, hl⟩ := hT _ h
     exact ⟨id, AWs.refl _ _ hl⟩
theorem drafts_arg {n : Nat} {x : AV} (hx : n = 0 ∧ x = .nils ∨ x = .slice 0 0 n 3 false) {rn : List Nat} (h0 : rn[0]? = some 0) : AW rn (.sl 0 0 n 3 false) x := by
 rcases hx with ⟨h1, rfl⟩ | rfl
 · simp [AW, h1]
 · simp only [AW, true_and]
   exact ⟨h0, id⟩
noncomputable def wgΓ : Gam := gams [(15, trueK_U0), (16, entriesS), (17, dnewS), (18, wnewS), (19, wappendS), (20, wsyncsS), (22, wfileR), (25, wnextR), (23, wsizeR), (21, wofS), (24, dfilesS)]
theorem wgΓ_ok : GOk Pz wgΓ := goks_cons walWS0_sound (goks_cons entries_sound (goks_cons dnew_sound (goks_cons wnew_sound (goks_cons wappend_sound (goks_cons wsyncs_sound (goks_cons wfile_sound (goks_cons wnext_sound (goks_cons wsize_sound (goks_cons wof_sound (goks_cons dfiles_sound goks_nil))))))))))
theorem goes_ct (ds : List Dr) (hds : DrOk ds) (hdn : ∀ d ∈ ds, 0 ≤ d.2.1 ∧ d.2.1 < 4294967296) (hdl : ds.length ≤ 9223372036854775807) (a b : Int) (ha : 0 ≤ a ∧ a ≤ 255) (hb : 0 ≤ b ∧ b ≤ 255) :
   ∃ H', Ct Pz 3 [.int .u8 a, .sl 0 0 ds.length 3 false, .int .u8 b] (drH ds) (.bool true) H' := by
 have hΓ := wgΓ_ok; refine ⟨drH ds, ct_of_sim Tryz.func3 rfl ?_⟩; have hXl := drH_length ds; have hXf := drH_flat ds; obtain ⟨all, hall⟩ : ∃ all, dEs (ds.take 40) = all := ⟨_, rfl⟩
 have hent : ∀ T, entriesS [.sl 0 0 ds.length 3 false, .int .i64 40] (drH ds ++ T) = some (.sl (drH ds ++ T).length 0 all.length 3 false, drH ds ++ T ++ [.cells true (ensA all)], []) := fun T => by
   have := entriesS_at (args := [.sl 0 0 ds.length 3 false, .int .i64 40]) (H := drH ds ++ T) (ds := ds) (m := 40) ⟨rfl, ⟨T, rfl⟩, by decide, hds, hdl⟩
   rw [hall] at this; exact this
 have hokE : okEs all := by rw [← hall]; exact dEs_ok hdn 40
 have hL40 : all.length ≤ 40 := by rw [← hall]; simp [dEs]; omega
 obtain ⟨N, hN⟩ : ∃ N, ds.length + 1 = N := ⟨_, rfl⟩
 have hN0 : 0 < N := by omega
 rw [hN] at hXl hXf; obtain ⟨X, hX⟩ : ∃ X, drH ds = X := ⟨_, rfl⟩; rw [hX] at hXl hXf hent ⊢; have hBX := behindX X hXl; have hXg := hBX.get; have hXg0 := hBX.get0; have hXs := hBX.set; have hXs0 := hBX.set0; obtain ⟨L, hL⟩ : ∃ L, all.length = L := ⟨_, rfl⟩; rw [hXl]; simp only [Tryz.ntmps3, q7Z, q8Z, Nat.reduceAdd, Nat.reduceSub, qbZ, q9Z, qaZ]
 obtain ⟨B, rfl⟩ : ∃ B : Nat, b = B := ⟨b.toNat, by omega⟩
 obtain ⟨k, hk⟩ : ∃ k : Nat, B % (L + 1) = k := ⟨_, rfl⟩
 have hkL : k ≤ L := by have := Nat.mod_lt B (show 0 < L + 1 by omega); omega
 have hkt : (B : Int).tmod ((L : Int) + 1) = k := by
   rw [← hk, rrZ (by omega)]
   push_cast
   rfl
 have y0 : IntKind.i64.wrap (B : Int) = B := wr_i64 (by omega) (by omega)
 have y1 : IntKind.i64.wrap ((L : Int) + 1) = (L : Int) + 1 := wr_i64 (by omega) (by omega)
 have y2 : IntKind.i64.wrap (k : Int) = k := wr_i64 (by omega) (by omega)
 have y3 : IntKind.i64.wrap a = a := wr_i64 (by omega) (by omega)
 have y4 : IntKind.i64.wrap (1 + a) = 1 + a := wr_i64 (by omega) (by omega)
 have z1 : ¬ ((L : Int) + 1 = 0) := by omega
 have m1 : (1 : Int) ≤ 1 + a := by omega
 obtain ⟨x, u, y, z, e1, e2, e3, p1, p2, p3, p4, ⟨p5, p5q, p5n, p5d0, p5d1⟩, p6, p7, p8, p9, p10, p11, p12, p13, p14, p15, p16, p17⟩ := goes_lawW (1 + a) (by omega) (all := all) hokE hL40 k (by omega)
 have hok0 : (DS.new 1048576).ok 700000 300000000000 := DS.ok_mono (DS.ok_new 1048576 (by decide) (by decide)) (by omega) (by omega)
 have hx1 : (⟨DS.new 1048576, 1 + a, 0, 7, 0, false⟩ : WL).appends all = (x, 0) := by rw [appends_ok rfl]; exact e1
 have hu1 : (⟨DS.new 1048576, 1 + a, 0, 7, 0, false⟩ : WL).appends (all.take k) = (u, 0) := by rw [appends_ok rfl]; exact e2
 have hy1 : u.syncs = (y, 0) := by rw [syncs_ok p7]; exact e3
 have hW0 : ∀ j : Nat, j ≤ 40 → WOk ⟨DS.new 1048576, 1 + a, 0, 7, 0, false⟩ j := fun j hj => ⟨hok0, Int.le_refl _, by dsimp only; omega, by dsimp only; omega⟩
 have hWL := hW0 L (by omega)
 have hWk := hW0 k (by omega)
 obtain ⟨D0, hD0⟩ : ∃ D0, DS.new 1048576 = D0 := ⟨_, rfl⟩; rw [hD0] at hx1 hu1 hWL hWk
 have hokT : okEs (all.take k) := fun e he => hokE e (List.mem_of_mem_take he)
 have hokD : okEs (all.drop k) := fun e he => hokE e (List.mem_of_mem_drop he)
 have hfe : frees (ensA all) = true := frees_ens all
 have hel : (ensA all).length = L * 3 := by rw [ensA_length, hL]
 have q1 : ensOf ((ensA all).take (L * 3)) = some all := by rw [← hel, List.take_length]; exact ensOf_ensA all
 have q2 : ensOf ((ensA all).take (k * 3)) = some (all.take k) := by rw [ens_take]; exact ensOf_ensA _
 have q3 : ensOf (((ensA all).drop (k * 3)).take ((L - k) * 3)) = some (all.drop k) := by
   rw [ens_drop, ens_take, q6Z (by rw [qkZ]; omega)]
   exact ensOf_ensA _
 have l1 : (all.take k).length = k := by rw [qjZ]; omega
 have l2 : (all.drop k).length = L - k := by rw [qkZ]; omega
 have c1 : k * 3 ≤ L * 3 := by omega
 have c2 : k * 3 + (L - k) * 3 ≤ L * 3 := by omega
 have c3 : L ≤ 1000 := by omega
 have c4 : k ≤ 1000 := by omega
 have c5 : L - k ≤ 1000 := by omega
 have hkLI : (k : Int) ≤ (L : Int) := by omega
 have hk0I : (0 : Int) ≤ (k : Int) := by omega
 have hsub : (L : Int) - (k : Int) = ((L - k : Nat) : Int) := by omega
 obtain ⟨dx, mx, fx, nx, dnx, bx⟩ := x; obtain ⟨du, mu, fu, nu, dnu, bu⟩ := u; obtain ⟨dy, my, fy, ny, dny, bY⟩ := y; obtain ⟨dz, mz, fz, nz, dnz, bz⟩ := z; dsimp only at p1 p2 p3 p4 p5 p5q p5n p5d0 p5d1 p6 p7 p8 p9 p10 p11 p12 p13 p14 p15 p16 p17
 refine Sim.step hmix hΓ (n := 0) (by simp; exact ⟨rfl, rfl⟩) (by simp [hXl]) ?_
 refine Sim.step hmix hΓ (n := 0) (by simp [wgΓ, trueK_U0]; exact ⟨rfl, rfl⟩) (by simp [hXl]) ?_
 have hent0 := hent []; rw [r2Z, hXl, hL] at hent0
 refine Sim.step hmix hΓ (n := 0) (by simp +decide [wgΓ, hent0]; exact ⟨rfl, rfl⟩) (by simp [hXl]) ?_
 refine Sim.step hmix hΓ (n := 0) (by simp +decide [y0, y1, hkt, z1]; exact ⟨rfl, rfl⟩) (by simp [hXl]) ?_
 refine Sim.step hmix hΓ (n := 0) (by simp +decide [wgΓ, dnewS, newS, hXl, hD0]; exact ⟨rfl, rfl⟩) (by simp [hXl]) ?_
 refine Sim.step hmix hΓ (n := 0) (by simp +decide [wgΓ, wnewS, hXl, y3, y4, m1]; exact ⟨rfl, rfl⟩) (by simp [hXl]) ?_
 refine Sim.step hmix hΓ (n := 0) (by simp +decide [wgΓ, wappendS, wsyncsS, wlS, wlC, hXl, hXs, hel, hfe, q1, q2, hokE, hokT, hL, l1, c1, c3, c4, hkLI, hk0I, hWL, hWk, hx1, hu1, hy1, p3]; exact ⟨rfl, rfl⟩) (by simp [hXl]) ?_
 have hA1 : ∀ rn : List Nat, AWs rn (ensA all) (ensA all) := fun rn => AWs.refl _ _ hfe
 have hXid : ∀ rn : List Nat, (∀ i, i < N → rn[i]? = some i) → ∀ B ∈ X, AWb rn B B := fun rn hr B hB => by
   obtain ⟨o, l, rfl, hl⟩ := hXf B hB; exact ⟨id, AWs.pre hr _ hl⟩
 refine Sim.step hmix hΓ (n := 0) (by simp; exact ⟨rfl, rfl⟩) (by simp [hXl]) ?_
 have hr0 : ∀ ts : List Nat, (List.range N ++ ts)[0]? = some 0 := fun ts => range_at _ _ hN0
 have rb : ∀ (ts : List Nat) (i : Nat), (List.range N ++ ts)[N + i]? = ts[i]? := fun ts i => range_beh N ts i
 have rb0 : ∀ ts : List Nat, (List.range N ++ ts)[N]? = ts[0]? := fun ts => range_beh0 N ts
 refine Sim.seq (Sim.mono (Q := fun e' F' H' => e' = .normal ∧ Weak N F' H' ([.int .u8 a, .top, .top, .top, .top, .top, .bool false, .sl N 0 L 3 false, .int .i64 k, .ptr (N + 1) 0, .ptr (N + 2) 0, .ptr (N + 3) 0, .ptr (N + 4) 0, (if k = 0 then .ptr (N + 4) 0 else .ptr (N + 5) 0)] ++ qbZ 115 .top)
     (X ++ ([.cells true (ensA all), .obj true dx.blks, .obj true dy.blks, .cells true (wlC (N + 1) mx fx nx dnx bx), .cells true (wlC (N + 2) my fy ny dny bY)] ++ (if k = 0 then [] else [.cells true (wlC (N + 2) (1 + a) fy (fy + 1) 0 false)])))) ?_ ?_)
 · by_cases hk0 : k = 0
   · have hkI : (k : Int) = 0 := by omega
     rw [if_pos hk0, if_pos hk0]
     refine Sim.exec hmix hΓ (n := 0) (by simp +decide [hk0]; exact ⟨rfl, rfl, rfl⟩) (by simp [hXl]) ?_
     exact ⟨rfl, Weak.tailG hXl hXid [0, 1, 2, 3, 4] (by decide) (by simp [AWs, AW, hk0]) (by simp [AWg, AWb, AW, wlC, hXg, hXg0])⟩
   · obtain ⟨g1, g2, g3, sz, g4⟩ := p11 (by omega)
     have hkI : ¬ (k : Int) = 0 := by omega
     have hkb : ((k : Int) != 0) = true := by simpa using hkI
     have g5 : (1 : Int) ≤ (fy : Int) := by omega
     have g6 : (fy : Int) ≤ 1000000000 := by omega
     have g7 : fy ≤ 1000000000 := by omega
     have hk1 : 0 < k := by omega
     have s5 : dy.small := DS.ok_mono p5 (by omega) (by omega)
     rw [if_neg hk0, if_neg hk0]
     refine Sim.exec hmix hΓ (n := 0) (by simp +decide [hk1, wgΓ, wfileR, wlR, wlC, wofS, hXl, y3, y4, m1, g4, g5, g6, s5]; exact ⟨rfl, rfl, rfl⟩) (by simp [hXl]) ?_
     exact ⟨rfl, Weak.tailG hXl hXid [0, 1, 2, 3, 4, 5] (by decide) (by simp [AWs, AW]) (by simp [AWg, AWb, AW, wlC, hXg, hXg0])⟩
 rintro _ F6 H6 hl6 ⟨rfl, hw6⟩; refine Sim.weak hw6 hl6 ?_; clear hw6 hl6 F6 H6
 have hok1 : ∀ (m : Int) (f n : Nat) (dn : Int) (bd : Bool), n ≤ 1001 → 0 ≤ dn ∧ dn ≤ 1000 → WOk ⟨dy, m, f, n, dn, bd⟩ (L - k) := fun m f n dn bd h1 h2 => ⟨p5, by show dy.quota ≤ _; omega, by dsimp only; omega, by dsimp only; omega⟩
 have s5 : dy.small := DS.ok_mono p5 (by omega) (by omega)
 have szs : ∀ (m : Int) (n : Nat) (dn : Int) (bd : Bool), (⟨dy, m, fy, n, dn, bd⟩ : WL).size = (⟨dy, 0, fy, 0, 0, false⟩ : WL).size := fun _ _ _ _ => rfl
 obtain ⟨SZ, hSZ⟩ : ∃ SZ, (⟨dy, 0, fy, 0, 0, false⟩ : WL).size = SZ := ⟨_, rfl⟩; simp only [hSZ] at szs
 refine Sim.seq (Sim.mono (Q := fun e' F' H' => e' = .normal ∧ Weak N F' H' ([.int .u8 a, .top, .top, .top, .top, .top, .bool false, .sl N 0 L 3 false, .int .i64 k, .ptr (N + 1) 0, .ptr (N + 2) 0, .ptr (N + 3) 0, .top, .ptr (N + 4) 0] ++ qbZ 115 .top)
     (X ++ [.cells true (ensA all), .obj true dx.blks, .obj true dz.blks, .cells true (wlC (N + 1) mx fx nx dnx bx), .cells true (wlC (N + 2) mz fz nz dnz bz)])) ?_ ?_)
 · by_cases hk0 : k = 0
   · rw [if_pos hk0, if_pos hk0]
     rw [if_pos hk0] at p12
     have hz1 : (⟨dy, my, fy, ny, dny, bY⟩ : WL).appends (all.drop k) = (⟨dz, mz, fz, nz, dnz, bz⟩, 0) := by rw [appends_ok p8]; exact p12
     have hw := hok1 my fy ny dny bY (by omega) ⟨p5d0, p5d1⟩
     refine Sim.exec hmix hΓ (n := 0) (by simp +decide [wgΓ, wsizeR, wlR, wappendS, hXl, hXs, hel, hfe, q3, hokD, l2, c2, c5, hkLI, hk0I, s5, szs, hw, hz1]; exact ⟨rfl, rfl, rfl⟩) (by simp [hXl]) ?_
     exact ⟨rfl, Weak.tailG hXl hXid [0, 1, 2, 3, 4] (by decide) (by simp [AWs, AW]) (by simp [AWg, AWb, AW, wlC, hXg, hXg0])⟩
   · rw [if_neg hk0, if_neg hk0]
     rw [if_neg hk0] at p12
     have hz1 : (⟨dy, 1 + a, fy, fy + 1, 0, false⟩ : WL).appends (all.drop k) = (⟨dz, mz, fz, nz, dnz, bz⟩, 0) := by rw [appends_ok rfl]; exact p12
     obtain ⟨g1, g2, g3, sz, g4⟩ := p11 (by omega)
     have hw := hok1 (1 + a) fy (fy + 1) 0 false (by omega) (by omega)
     refine Sim.exec hmix hΓ (n := 0) (by simp +decide [wgΓ, wsizeR, wlR, wappendS, hXl, hXs, hel, hfe, q3, hokD, l2, c2, c5, hkLI, hk0I, s5, szs, hw, hz1]; exact ⟨rfl, rfl, rfl⟩) (by simp [hXl]) ?_
     exact ⟨rfl, Weak.tailG hXl hXid [0, 1, 2, 3, 5] (by decide) (by simp [AWs, AW]) (by simp [AWg, AWb, AW, wlC, hXg, hXg0])⟩
 rintro _ F6 H6 hl6 ⟨rfl, hw6⟩; refine Sim.weak hw6 hl6 ?_; clear hw6 hl6 F6 H6; dsimp only [qbZ, q9Z, qaZ]; subst p15; subst p16; obtain ⟨F, hF⟩ : ∃ F, dx.files = F := ⟨_, rfl⟩
 have hF2 : dz.files = F := by rw [← p17, hF]
 obtain ⟨M, hM⟩ : ∃ M, F.length = M := ⟨_, rfl⟩
 have hMl : M ≤ 1000000 := by
   have h1 := DS.list_le (A := 900000) (B := 1000000000000) p1
   have h2 : F.length = dx.list.length := by rw [← hF]; simp [DS.files]
   omega
 refine Sim.step hmix hΓ (n := 0) (by simp +decide [wgΓ, dfilesS, hXl, p1, p13, hF, hF2, hM]; exact ⟨rfl, rfl⟩) (by simp [hXl]) ?_
 refine Sim.step hmix hΓ (n := 0) (by simp +decide [wgΓ, wfileR, wnextR, wlR, hXl]; exact ⟨rfl, rfl⟩) (by simp [hXl]) ?_
 refine Sim.seq (Sim.step hmix hΓ (n := 0) (by simp +decide; exact ⟨rfl, rfl⟩) (by simp [hXl]) ?_)
 have hFf : ∀ rn : List Nat, AWs rn (flA F) (flA F) := fun rn => AWs_flat _ (flatsA_flA F)
 have hFl : (flA F).length = M * 2 := by rw [flA_length, hM]
 have fin : ∀ (T : AHeap), Weak N [.bool true] (X ++ T) [.bool true] X := fun T => by
   have := Weak.tail3 hXl hXid (T := T) (Tn := []) (F := [.bool true]) (Fn := [.bool true]) [] (by decide) (by simp [AWs, AW]) rfl (fun j t x y h => by simp at h)
   rwa [r2Z] at this
 refine Sim.block (Sim.loopW (fun i : Nat => i ≤ M)
   (fun i => qbZ 14 .top ++ [.sl N 0 M 2 false, .sl (N + 1) 0 M 2 false, .int .i64 i] ++ qbZ 112 .top)
   (fun _ => X ++ [.cells true (flA F), .cells true (flA F)]) (fun i => M - i) 0 (by simp [hXl]) (qqZ _) (Weak.tailG hXl hXid [5, 6] (by decide) (by simp [AWs, AW]) (by simp [AWg, AWb, hXg])) fun i hi => ?_)
 have y9 : IntKind.i64.wrap ((i : Int) + 1) = i + 1 := wr_i64 (by omega) (by omega)
 by_cases hlt : i < M
 · have hltI : (i : Int) < M := by omega
   have g := flA_get F i (by omega)
   obtain ⟨⟨fn, fb⟩, he⟩ : ∃ e, F[i]'(by omega) = e := ⟨_, rfl⟩
   rw [he] at g; dsimp only at g
   have k2 : i * 2 + 2 ≤ M * 2 := by omega
   refine Sim.step hmix hΓ (n := 0) (by simp +decide [hltI]; exact ⟨rfl, rfl⟩) (by simp [hXl]) ?_
   refine Sim.seq (Sim.block ?_)
   refine Sim.step hmix hΓ (n := 0) (by simp +decide [hlt, hFl, hXl, g, k2]; first | exact ⟨rfl, rfl⟩ | exact ⟨by kernel_rfl, rfl, rfl⟩) (by simp [hXl]) ?_
   refine Sim.exec hmix hΓ (n := 0) (by simp +decide; exact ⟨rfl, rfl, rfl⟩) (by simp [hXl]) ?_
   dsimp only
   refine Sim.exec hmix hΓ (n := 0) (by simp [y9]; exact ⟨rfl, rfl, rfl⟩) (by simp [hXl]) ?_
   exact ⟨i + 1, by omega, Weak.tailG hXl hXid [0, 1] (by decide) (by simp [AWs, AW]) (by simp [AWg, AWb, hXg, hXg0]), by omega⟩
 · have hie : i = M := by omega
   subst hie
   refine Sim.exec hmix hΓ (n := 0) (by simp +decide; exact ⟨rfl, rfl, rfl⟩) (by simp [hXl]) ?_
   dsimp only; rw [if_pos rfl]
   refine Sim.exec hmix hΓ (n := 0) (by simp; exact ⟨rfl, rfl, rfl⟩) (by simp [hXl]) ?_
   exact ⟨.inr rfl, _, by simp [Tryz.f3] <;> rfl, fin _⟩
abbrev wdr_ct : List CT := [.row [.int .u8], .one (.int .u32), .one .bool]
def walGoes_shape : List AS := [.flat false [.one (.int .u8)], .rows wdr_ct, .flat false [.one (.int .u8)]]
theorem walGoes_law : ∀ xs H, AbsArgs2 walGoes_shape 0 xs H → ∃ H', Ct Pz 3 xs H (.bool true) H' := by
 intro xs H h0; obtain ⟨x, ys0, rfl, ⟨a, rfl, ha⟩, h1⟩ := absArgs2_one h0; obtain ⟨x0, y0, n0, ys, H1, H2, rfl, hx0, hm0, hd0, rfl, h2⟩ := absArgs2_rows h1; obtain ⟨ds, rfl, e2, e3, rfl, e5⟩ := row_drafts _ _ _ _ hd0; obtain ⟨x', ys', rfl, ⟨b, rfl, hb⟩, h3⟩ := absArgs2_one h2; obtain ⟨rfl, rfl⟩ := absArgs2_nil h3; have ba := bounds_u8 ha; have bb := bounds_u8 hb; unfold maxLen at hm0
 obtain ⟨H', h⟩ := goes_ct ds e2 e3 (by omega) a b (by omega) (by omega)
 refine ⟨H', ct_weak ?_ h⟩
 have := drafts_weakG (ds := ds) (T := []) (F := [.int .u8 a, x0, .int .u8 b]) (Fn := [.int .u8 a, .sl 0 0 ds.length 3 false, .int .u8 b]) e5 (by simp) fun rn hr => ⟨⟨rfl, rfl⟩, drafts_arg hx0 (hr 0 (by omega)), ⟨rfl, rfl⟩, trivial⟩
 simpa using this
end
end Go.Proofs.YthafeihjlamhhaaGreatDoor
