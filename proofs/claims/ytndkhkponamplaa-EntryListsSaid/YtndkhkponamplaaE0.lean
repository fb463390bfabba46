/- Summaries of rows of entries, as rewriting rules. -/
import Derived.Test.YtndkhkponamplaaEt
namespace Go.Proofs.Ytndkhkponamplaa
open Go
set_option maxRecDepth 100000
attribute [-simp] drawOk_eq adraw qrun acode aops

theorem rowEns_at {H : AHeap} {b : Nat} {o : Bool} {es : List En} (h : H[b]? = some (.cells o (ensA es))) : rowEns H (.sl b 0 es.length 3 false) = some es := by
  simp [rowEns, h, ensA_length]

theorem withS_at {H : AHeap} {x y : AV} {l m : List En} (hx : rowEns H x = some l) (hy : rowEns H y = some m) (hl : l.length ≤ 100000) (hm : m.length ≤ 100000) (ha : asc l) :
    withS [x, y] H = some (.sl H.length 0 (withE l m).length 3 false, H ++ [.cells true (ensA (withE l m))], []) := by
  simp [withS, readNewS, hx, hy, hl, hm, ascB_of ha, shA, shB, shAs_ens]

theorem at_tail (X T : AHeap) (k : Nat) : (X ++ T)[X.length + k]? = T[k]? := by
  rw [List.getElem?_append_right (by omega)]; simp

theorem rowEns_tail {A T : AHeap} {N : Nat} (hA : A.length = N) (k : Nat) {o : Bool} {es : List En} (h : T[k]? = some (.cells o (ensA es))) : rowEns (A ++ T) (.sl (N + k) 0 es.length 3 false) = some es :=
  rowEns_at (o := o) (by rw [← hA, at_tail, h])

theorem rowEns_slice {A T : AHeap} {N : Nat} (hA : A.length = N) (k : Nat) {o : Bool} {es : List En} (h : T[k]? = some (.cells o (ensA es))) : rowEns (A ++ T) (.slice (N + k) 0 es.length 3 true) = some es := by
  have h' : (A ++ T)[N + k]? = some (.cells o (ensA es)) := by rw [← hA, at_tail, h]
  simp [rowEns, h', ensA_length]

theorem live_at {l : List En} {k : Nat} {e : En} (h : l[k]? = some e) (hg : e.2.2 = false) : (liveE l)[(liveE (l.take k)).length]? = some e := by
  obtain ⟨hk, he⟩ := List.getElem?_eq_some_iff.1 h
  have h1 : l = l.take k ++ e :: l.drop (k + 1) := by
    rw [← he, List.getElem_cons_drop, List.take_append_drop]
  have h2 : liveE l = liveE (l.take k) ++ e :: liveE (l.drop (k + 1)) := by
    conv => lhs; rw [h1]
    unfold liveE
    rw [List.filter_append, List.filter_cons]
    simp [hg]
  rw [h2, List.getElem?_append_right (Nat.le_refl _)]
  simp

theorem sameS_at {H : AHeap} {x y : AV} {a b : List En} (hx : rowEns H x = some a) (hy : rowEns H y = some b) (hl : a.length ≤ 1000000000000) : sameS [x, y] H = some (.bool (decide (a = b)), H, []) := by
  simp [sameS, readS, hx, hy, hl]

theorem liveS_at {H : AHeap} {x : AV} {l : List En} (hx : rowEns H x = some l) (hl : l.length ≤ 1000000) : liveS [x] H = some (.sl H.length 0 (liveE l).length 3 false, H ++ [.cells true (ensA (liveE l))], []) := by
  simp [liveS, readNewS, hx, hl, shA, shB, shAs_ens]

theorem ens_cell {l : List En} {k : Nat} {e : En} (h : l[k]? = some e) (i : Nat) (hi : i < 3) : (ensA l)[k * 3 + i]? = (enA e)[i]? := by
  obtain ⟨hk, he⟩ := List.getElem?_eq_some_iff.1 h
  have h1 := ens_get l k hk
  rw [he] at h1
  rw [← h1, List.getElem?_take_of_lt hi, List.getElem?_drop]

theorem findS_at {H : AHeap} {x : AV} {l : List En} (w : List UInt8) (hx : rowEns H x = some l) (hl : l.length ≤ 1000000) (ha : asc l) : findS [x, .str w] H = some (.tuple [.agg (enA (findE l w).1), .bool (findE l w).2], H, []) := by
  simp [findS, readS, hx, hl, ascB_of ha]

theorem ens_word {l : List En} {k : Nat} {e : En} (h : l[k]? = some e) : ∀ q, (ensA l)[k * 3]'q = .str e.1 := fun _ => by
  have := ens_cell h 0 (by omega)
  rw [Nat.add_zero] at this
  exact (List.getElem?_eq_some_iff.1 this).2

theorem chkS_at {H : AHeap} {x : AV} {l : List En} (hx : rowEns H x = some l) (hl : l.length ≤ 1000000) : chkS [x] H = some (.tuple [.int .i64 (chkE l).1, .int .i64 (chkE l).2], H, []) := by
  simp [chkS, readS, hx, hl]

theorem rowEns_row2 (es : List En) (H : AHeap) {b : Nat} {o : Bool} (h : H[b]? = some (.cells o (ensA es))) : rowEns H (.sl b 0 es.length 3 false) = some es := by
  simp [rowEns, h, ensA_length]

end Go.Proofs.Ytndkhkponamplaa
