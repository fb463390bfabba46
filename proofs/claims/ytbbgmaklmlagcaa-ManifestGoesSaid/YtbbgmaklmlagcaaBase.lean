/- Small facts on worlds, blocks and numbers, over any program. -/
import Derived.WalkKit
import Derived.WalkSpells
import Derived.WalkLawsBesides
import Derived.Lib.Hide
import Derived.Laws.BytesArg
import Derived.ControlIn
import Derived.Lib.Strings
namespace Go.Proofs.Ytbbgmaklmlagcaa
open Go.RowKit

/-- Block b is just these cells, nothing frozen. -/
def Blk (w : World) (b : Nat) (cs : Array Value) (T : Nat) : Prop := w.heap[b]? = some (.cells cs T (0, 0))

theorem Blk.cell {w : World} {b : Nat} {cs : Array Value} {T : Nat} (h : Blk w b cs T) {i : Nat} {v : Value} (hi : cs[i]? = some v) : w.cell? ⟨b, i, none⟩ = some v := by
  unfold Blk at h
  simp [World.cell?, h, hi]

theorem Blk.free {w : World} {b : Nat} {cs : Array Value} {T : Nat} (h : Blk w b cs T) (i : Nat) : w.frozen? ⟨b, i, none⟩ = false := by
  unfold Blk at h
  simp [World.frozen?, h]

theorem Blk.lt {w : World} {b : Nat} {cs : Array Value} {T : Nat} (h : Blk w b cs T) : b < w.heap.size := by
  unfold Blk at h
  rcases Nat.lt_or_ge b w.heap.size with h1 | h1
  · exact h1
  · rw [Array.getElem?_eq_none h1] at h; cases h

theorem Blk.set {w : World} {b : Nat} {cs : Array Value} {T : Nat} (h : Blk w b cs T) (i : Nat) (v : Value) : Blk (w.setCell ⟨b, i, none⟩ v) b (cs.setIfInBounds i v) T := by
  unfold Blk at *
  simp [World.setCell, Array.getElem?_modify, h]

theorem Blk.set_other {w : World} {b : Nat} {cs : Array Value} {T : Nat} (h : Blk w b cs T) {a : Addr} (ha : a.block ≠ b) (v : Value) : Blk (w.setCell a v) b cs T := by
  unfold Blk at *
  rw [Below.heap_setCell _ _ _ _ (Ne.symm ha)]; exact h

theorem Blk.alloc {w : World} {b : Nat} {cs : Array Value} {T : Nat} (h : Blk w b cs T) (o : Obj) : Blk (w.alloc o) b cs T := by
  have := h.lt
  unfold Blk at *
  rw [Below.heap_alloc _ _ _ this]; exact h

theorem Blk.new (w : World) (cs : Array Value) (T : Nat) : Blk (w.alloc (.cells cs T)) w.heap.size cs T := by
  show (w.heap.push _)[_]? = _
  simp

theorem Blk.drew {w : World} {b : Nat} {cs : Array Value} {T : Nat} (h : Blk w b cs T) : Blk w.drew b cs T := h

theorem Blk.below {w w' : World} {B b : Nat} {cs : Array Value} {T : Nat} (h : Blk w b cs T) (hb : Below B w w') (hlt : b < B) : Blk w' b cs T := by
  unfold Blk at *
  rw [hb.block _ hlt]; exact h

theorem below_set {B : Nat} {a w : World} (h : Below B a w) {b : Nat} (hb : B ≤ b) (o : Nat) (u : Value) : Below B a (w.setCell ⟨b, o, none⟩ u) := h.setCell hb u

/-- A byte, an unsigned number of 64 bits, an int, as values. -/
def vB (b : UInt8) : Value := .int .u8 b.toNat
def vU (n : Nat) : Value := .int .u64 n
def vI (n : Int) : Value := .int .i64 n

/-- A slice that can be read: n elements of so many cells each. -/
def Rd (w : World) (size : Nat) (a : Option Addr) (n : Nat) (xs : List Value) : Prop :=
  xs.length = n * size ∧ (0 < xs.length → ∃ b off, a = some ⟨b, off, none⟩ ∧ b < w.heap.size ∧ ∀ j u, xs[j]? = some u → w.cell? ⟨b, off + j, none⟩ = some u)

theorem Rd.form {w : World} {size n : Nat} {a : Option Addr} {xs : List Value} (h : Rd w size a n xs) (hn : 0 < xs.length) :
    ∃ b off, a = some ⟨b, off, none⟩ ∧ b < w.heap.size ∧ ∀ j u, xs[j]? = some u → w.cell? ⟨b, off + j, none⟩ = some u := h.2 hn

theorem Rd.below {w w' : World} {size n : Nat} {a : Option Addr} {xs : List Value} (h : Rd w size a n xs) {B : Nat} (hb : Below B w w') (hB : w.heap.size ≤ B) : Rd w' size a n xs := by
  refine ⟨h.1, fun hn => ?_⟩
  obtain ⟨b, off, rfl, hlt, hc⟩ := h.2 hn
  refine ⟨b, off, rfl, Nat.lt_of_lt_of_le hlt hb.size, fun j u hj => ?_⟩
  rw [hb.cell (p := ⟨b, off + j, none⟩) (show b < B by omega)]
  exact hc j u hj

theorem Rd.nil (w : World) (size : Nat) (a : Option Addr) : Rd w size a 0 [] := ⟨by simp, fun h => by simp at h⟩

theorem ownsRow_below {w w' : World} {base e size n : Nat} {v : Value} {xs : List Value} (h : w.ownsRow base e size v n xs) {B : Nat} (hb : Below B w w') (hB : w.heap.size ≤ B) : w'.ownsRow base e size v n xs := by
  refine ⟨h.1, ?_⟩
  rcases h.2 with hn | ⟨g, cap, cur, hv, hg, hh, r⟩
  · exact .inl hn
  · refine .inr ⟨g, cap, cur, hv, hg, ?_, r⟩
    rw [hb.block g (by have := (Array.getElem?_eq_some_iff.1 hh).1; omega)]
    exact hh

theorem ownsRow_mono {w : World} {base base' e size n : Nat} {v : Value} {xs : List Value} (h : w.ownsRow base e size v n xs) (hB : base' ≤ base) : w.ownsRow base' e size v n xs := by
  refine ⟨h.1, ?_⟩
  rcases h.2 with hn | ⟨g, cap, cur, hv, hg, r⟩
  · exact .inl hn
  · exact .inr ⟨g, cap, cur, hv, by omega, r⟩

/-- An owned row is a slice that can be read. -/
theorem ownsRow_rd {w : World} {base e size n : Nat} {v : Value} {xs : List Value} (h : w.ownsRow base e size v n xs) : ∃ a cap, v = .slice a n cap ∧ n ≤ cap ∧ cap ≤ maxLen ∧ Rd w size a n xs := by
  obtain ⟨hl, h2⟩ := h
  rcases h2 with ⟨rfl, rfl⟩ | ⟨g, cap, cur, rfl, hg, hh, h3, h4, h5, h6⟩
  · have : xs = [] := List.eq_nil_of_length_eq_zero (by simpa using hl)
    subst this
    exact ⟨none, 0, rfl, Nat.le_refl _, by simp, Rd.nil _ _ _⟩
  · refine ⟨_, cap, rfl, h3, h4, hl, fun _ => ⟨g, 0, rfl, (Array.getElem?_eq_some_iff.1 hh).1, fun j u hj => ?_⟩⟩
    rw [← h6, List.getElem?_take] at hj
    split at hj
    · have hj' : cur[j]? = some u := by simpa using hj
      rw [Nat.zero_add]
      exact Blk.cell (T := e) hh hj'
    · cases hj

theorem strOfNums_bytes (bs : List UInt8) : strOfNums (bs.map fun b => (b.toNat : Int)) = ⟨bs.toArray⟩ := by
  unfold strOfNums
  congr 2
  rw [List.map_map]
  conv => rhs; rw [← List.map_id bs]
  apply List.map_congr_left
  intro b _
  simp

/-- string(b) of bytes that can be read. -/
theorem run_string_rd {P : Program} {w : World} {n cap : Nat} {a : Option Addr} (bs : List UInt8) (h : Rd w 1 a n (bs.map vB)) (src e dst : TypeId)
    (hs : P.underlying src = some (.slice e)) (he : P.underlying e = some (.int .u8)) (hd : P.underlying dst = some .string) :
    Sem.run P (convert src dst (.slice a n cap)) w = .ok (.string ⟨bs.toArray⟩) w := by
  have hn : bs.length = n := by have := h.1; simpa using this
  by_cases h0 : bs = []
  · subst h0
    have hn0 : n = 0 := by simpa using hn.symm
    subst hn0
    cases a with
    | none => rw [run_convert_bytes_nil w src e hs he 0 cap dst hd]; rfl
    | some a =>
      rw [run_convert_bytes_string w src dst e _ 0 cap hs he hd]
      simp [Conv.bytesToString, loadCells, loadCellsFrom]
      rfl
  · obtain ⟨b, off, rfl, hb, hc⟩ := h.2 (by simpa using List.length_pos_iff.2 h0)
    rw [run_convert_bytes_arg w src e hs he b off n cap (bs.map fun b => (b.toNat : Int)) (by simpa using hn) ?_ dst hd, strOfNums_bytes]
    intro i hi
    refine hc i _ ?_
    simp [vB, List.getD_eq_getElem?_getD, List.getElem?_eq_getElem (show i < bs.length by omega)]

theorem run_string_own {P : Program} {w : World} {base n : Nat} {v : Value} (bs : List UInt8) {e : TypeId} (h : w.ownsRow base e 1 v n (bs.map vB)) (src dst : TypeId)
    (hs : P.underlying src = some (.slice e)) (he : P.underlying e = some (.int .u8)) (hd : P.underlying dst = some .string) :
    Sem.run P (convert src dst v) w = .ok (.string ⟨bs.toArray⟩) w := by
  obtain ⟨a, cap, rfl, _, _, hr⟩ := ownsRow_rd h
  exact run_string_rd bs hr src e dst hs he hd

theorem vB_ofNat (x : Nat) (h : x < 256) : vB (UInt8.ofNat x) = .int .u8 x := by
  have e : (UInt8.ofNat x).toNat = x := by simp; omega
  unfold vB
  rw [e]

/-- Bytes of a block's first cells, for an append. -/
theorem news_blk {w : World} {b : Nat} {cs : Array Value} {T : Nat} (h : Blk w b cs T) (news : List Value) (hn : ∀ (j : Nat) u, news[j]? = some u → cs[j]? = some u) :
    ∀ (j : Nat) u, news[j]? = some u → w.cell? ((⟨b, 0, none⟩ : Addr).add j) = some u := by
  intro j u hj
  have : (⟨b, 0, none⟩ : Addr).add j = ⟨b, j, none⟩ := by unfold Addr.add; split <;> simp_all
  rw [this]
  exact h.cell (hn j u hj)

theorem vB_one (bs : List UInt8) : ∀ u ∈ bs.map vB, u.oneCell' = true := by
  intro u hu
  obtain ⟨b, _, rfl⟩ := List.mem_map.1 hu
  rfl

/-- Behind an append to a row of the call's own. -/
theorem below_append {B e size n : Nat} {w wr w' : World} {v : Value} {xs : List Value} (hb : Below B w wr) (hown : wr.ownsRow B e size v n xs) (hB : B ≤ wr.heap.size) (hg : wr.grownBy w' v.ownBlock) : Below B w w' :=
  hb.grown hg hB fun k hk => (hown.lt k hk).1

theorem below_of_drew {w w1 : World} (h : Below w.drew.heap.size w.drew w1) : Below w.heap.size w w1 := (Below.refl w.heap.size w).drew.trans h

theorem below_trans' {B B' : Nat} {a b c : World} (h : Below B a b) (k : Below B' b c) (hB : B ≤ B') : Below B a c := h.trans (k.mono hB)

/-- v | b << 8j, where v lies below: a sum. -/
theorem or_shl (v b j : Nat) (hv : v < 256 ^ j) (hb : b < 256) (hj : j < 8) :
    bits .or .u64 (v : Int) (IntKind.u64.wrap (IntKind.u64.wrap (b : Int) * 2 ^ (8 * j))) = ((v + 256 ^ j * b : Nat) : Int) := by
  have e : (256 : Nat) ^ j = 2 ^ (8 * j) := by rw [Nat.pow_mul]
  have hp : (256 : Nat) ^ j * 256 ≤ 18446744073709551616 := by
    have : (256 : Nat) ^ j * 256 = 256 ^ (j + 1) := by rw [Nat.pow_succ]
    rw [this, show (18446744073709551616 : Nat) = 256 ^ 8 from rfl]
    exact Nat.pow_le_pow_right (by omega) (by omega)
  have hbl : 256 ^ j * b < 256 ^ j * 256 := by
    have : 0 < 256 ^ j := Nat.pow_pos (by omega)
    exact (Nat.mul_lt_mul_left this).2 hb
  have hsum : v + 256 ^ j * b < 18446744073709551616 := by
    have : 256 ^ j * b + 256 ^ j ≤ 256 ^ j * 256 := by
      rw [← Nat.mul_succ]
      exact Nat.mul_le_mul_left _ hb
    omega
  have e1 : IntKind.u64.wrap (b : Int) = (b : Int) := by rw [IntKind.wrap_u64]; omega
  have e2 : IntKind.u64.wrap ((b : Int) * 2 ^ (8 * j)) = ((256 ^ j * b : Nat) : Int) := by
    have : (b : Int) * 2 ^ (8 * j) = ((256 ^ j * b : Nat) : Int) := by rw [e]; push_cast; rw [Int.mul_comm]
    rw [this, IntKind.wrap_u64]
    omega
  rw [e1, e2]
  have h1 : (BitVec.ofInt 64 (v : Int)).toNat = v := by
    rw [BitVec.ofInt_natCast, BitVec.toNat_ofNat]; exact Nat.mod_eq_of_lt (by omega)
  have h2 : (BitVec.ofInt 64 ((256 ^ j * b : Nat) : Int)).toNat = 256 ^ j * b := by
    rw [BitVec.ofInt_natCast, BitVec.toNat_ofNat]; exact Nat.mod_eq_of_lt (by omega)
  show IntKind.u64.wrap ((BitVec.ofInt 64 (v : Int) ||| BitVec.ofInt 64 ((256 ^ j * b : Nat) : Int)).toNat : Int) = _
  rw [BitVec.toNat_or, h1, h2, IntKind.wrap_u64]
  have e3 : v ||| 256 ^ j * b = v + 256 ^ j * b := by
    rw [e] at hv ⊢
    rw [Nat.or_comm, Nat.add_comm, Nat.two_pow_add_eq_or_of_lt hv]
  rw [e3]
  omega

theorem rd_blk {w : World} {b T size n : Nat} {cs : Array Value} (h : Blk w b cs T) (hl : cs.size = n * size) : Rd w size (some ⟨b, 0, none⟩) n cs.toList :=
  ⟨by simpa using hl, fun _ => ⟨b, 0, rfl, h.lt, fun j u hj => by rw [Nat.zero_add]; exact h.cell (by simpa using hj)⟩⟩

theorem rd_new (w : World) (cs : List Value) (T : Nat) : Rd (w.alloc (.cells cs.toArray T)) 1 (some ⟨w.heap.size, 0, none⟩) cs.length cs := by
  have := rd_blk (n := cs.length) (size := 1) (Blk.new w cs.toArray T) (by simp)
  simpa using this

theorem heap_alloc (w : World) (o : Obj) : (w.alloc o).heap = w.heap.push o := rfl

theorem below_alloc {w W : World} (h : Below w.heap.size w W) (o : Obj) : Below w.heap.size w (W.alloc o) := h.alloc h.size o

theorem blk_grown {w w' : World} {b T : Nat} {cs : Array Value} {row : Option Nat} (h : Blk w b cs T) (hg : w.grownBy w' row) (hne : some b ≠ row) : Blk w' b cs T := by
  have := h.lt
  unfold Blk at *
  rw [hg.block b this hne]; exact h

theorem own_ne {w : World} {base e size n b : Nat} {v : Value} {xs : List Value} (h : w.ownsRow base e size v n xs) (hb : b < base) : some b ≠ v.ownBlock := by
  intro e1
  have := (h.lt b e1.symm).1
  omega

theorem ownsRow_set {w : World} {base e size n b o : Nat} {v u : Value} {xs : List Value} (h : w.ownsRow base e size v n xs) (hb : b < base) : (w.setCell ⟨b, o, none⟩ u).ownsRow base e size v n xs :=
  ownsRow_setCell_below h hb u

/-- A piece of code that comes to one end, whatever the order: the end is found by the first way, and held against the others. -/
theorem wpIn_point {F : Fence} {n : Nat} {P : Program} {c : Code} {Q : Exit → Act → World → Prop} {a : Act} {w : World} (a1 : Act) (w1 : World)
    (h : c.wpIn F n P (fun e a' w' => e = .normal ∧ a' = a1 ∧ w' = w1) a w) (hc : Q .normal a1 w1) : c.wpIn F n P Q a w :=
  wpIn_mono h fun e a' w' ⟨he, ha, hw⟩ => by subst he; subst ha; subst hw; exact hc

theorem wp_point {P : Program} {c : Code} {Q : Exit → Act → World → Prop} {a : Act} {w : World} (a1 : Act) (w1 : World)
    (h : c.wp P (fun e a' w' => e = .normal ∧ a' = a1 ∧ w' = w1) a w) (hc : Q .normal a1 w1) : c.wp P Q a w :=
  wp_mono h fun e a' w' ⟨he, ha, hw⟩ => by subst he; subst ha; subst hw; exact hc

/-- The same, the world told by what it keeps. -/
theorem wp_post {P : Program} {c : Code} {Q : Exit → Act → World → Prop} {a : Act} {w : World} (R : World → Prop) (a1 : Act)
    (h : c.wp P (fun e a' w' => e = .normal ∧ a' = a1 ∧ R w') a w) (hc : ∀ w1, R w1 → Q .normal a1 w1) : c.wp P Q a w :=
  wp_mono h fun e a' w' ⟨he, ha, hw⟩ => by subst he; subst ha; exact hc _ hw

theorem wpIn_post {F : Fence} {n : Nat} {P : Program} {c : Code} {Q : Exit → Act → World → Prop} {a : Act} {w : World} (R : World → Prop) (a1 : Act)
    (h : c.wpIn F n P (fun e a' w' => e = .normal ∧ a' = a1 ∧ R w') a w) (hc : ∀ w1, R w1 → Q .normal a1 w1) : c.wpIn F n P Q a w :=
  wpIn_mono h fun e a' w' ⟨he, ha, hw⟩ => by subst he; subst ha; exact hc _ hw

theorem str_append (a b : List UInt8) : (ByteArray.mk a.toArray) ++ (ByteArray.mk b.toArray) = ByteArray.mk (a ++ b).toArray := by
  apply ByteArray.ext
  simp

theorem extract_toList (s : ByteArray) (a b : Nat) : (s.extract a b).toList = (s.data.toList.drop a).take (b - a) := by
  rw [ByteArray.toList_eq, Lib.extract_data]

theorem str_size (a : List UInt8) : (ByteArray.mk a.toArray).size = a.length := by simp [ByteArray.size]

theorem str_toList (a : List UInt8) : (ByteArray.mk a.toArray).data.toList = a := by simp

theorem str_eta (s : ByteArray) : ByteArray.mk s.data.toList.toArray = s := by
  apply ByteArray.ext
  simp

end Go.Proofs.Ytbbgmaklmlagcaa
