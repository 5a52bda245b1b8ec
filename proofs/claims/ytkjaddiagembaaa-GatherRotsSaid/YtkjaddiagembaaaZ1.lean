/- Texts that belong together: Base, Mem, Bits. -/
import Derived.WalkKit
import Derived.WalkSpells
import Derived.WalkLawsBesides
import Derived.Handy
import Derived.Lib.Hide
import Derived.Deep.QuietTactic
import Derived.Deep.LoopGhost
import Derived.BigQuiet
import Derived.Deep.DeepCutAuto
import Derived.Deep.RegionHeld3
import Derived.RegionTactic
import Derived.StillTailTactics
import Derived.ChangeAlike
import Derived.Deep.RegionWith
import Derived.Deep.RegionLaw
import Derived.Test.YtkjaddiagembaaaRows
/- Small facts that all walks of this seat share, and the walk of 'Picked'. -/
namespace Go.Proofs.Ytkjaddiagembaaa
open Go.RowKit

theorem ret_int {k : IntKind} {a b : Int} (h : a = b) : Ending.returned (.int k a) = .returned (.int k b) := by rw [h]
theorem ret_bool {a b : Bool} (h : a = b) : Ending.returned (.bool a) = .returned (.bool b) := by rw [h]
theorem below_drewN {B : Nat} {a w : World} (h : Below B a w) (k : Nat) : Below B a (w.drewN k) := ⟨h.os, h.tape, h.output, h.size, h.block⟩

theorem Below_next {w w1 w2 : World} (h : Below w.heap.size w w1) (k : Below w1.heap.size w1 w2) : Below w.heap.size w w2 := h.trans (k.mono h.size)

/-- What is owned stays owned where only new blocks came. -/
theorem ownsRow_below {wr wx : World} {base : Nat} {e : TypeId} {size : Nat} {v : Value} {n : Nat} {xs : List Value} (h : wr.ownsRow base e size v n xs) (hx : Below wr.heap.size wr wx) : wx.ownsRow base e size v n xs := by
  refine ⟨h.1, ?_⟩
  rcases h.2 with hn | ⟨g, cap, cur, rfl, hb, hgg, rest⟩
  · exact .inl hn
  · refine .inr ⟨g, cap, cur, rfl, hb, ?_, rest⟩
    rw [hx.block g (Array.getElem?_eq_some_iff.1 hgg).1]
    exact hgg
theorem below_append {w wr wx w1 : World} {e : TypeId} {size : Nat} {v : Value} {n : Nat} {xs : List Value} (hb : Below w.heap.size w wr) (hx : Below wr.heap.size wr wx)
    (hown : wr.ownsRow w.heap.size e size v n xs) (hg : wx.grownBy w1 v.ownBlock) : Below w.heap.size w w1 :=
  (hb.trans (hx.mono hb.size)).grown hg (Nat.le_trans hb.size hx.size) (fun k hk => (hown.lt k hk).1)
theorem Below_alloc2 {wr : World} (a b : Obj) : Below wr.heap.size wr ((wr.alloc a).alloc b) := ((Below.refl _ _).alloc (Nat.le_refl _) _).alloc (by simp) _
theorem Below_alloc1 {wr : World} (a : Obj) : Below wr.heap.size wr (wr.alloc a) := (Below.refl _ _).alloc (Nat.le_refl _) _
/-- The cells of a new block. -/
theorem new_cells (w : World) (cs : Array Value) (e : TypeId) (g : Nat) (hg : g = w.heap.size) (xs : List Value) (hx : cs.toList = xs) :
    ∀ j u, xs[j]? = some u → (w.alloc (.cells cs e)).cell? ((⟨g, 0, none⟩ : Addr).add j) = some u := by
  intro j u hu
  subst hg hx
  have hadd : (⟨w.heap.size, 0, none⟩ : Addr).add j = ⟨w.heap.size, j, none⟩ := by unfold Addr.add; split <;> simp_all
  rw [hadd, cell_of_row _ _ j cs e (0, 0) (heap_alloc_new w _)]
  simpa using hu

theorem tmod_bound (a n : Int) (h : 0 < n) : -n < a.tmod n ∧ a.tmod n < n := by
  have h1 := Int.lt_tmod_of_pos a h
  have h2 := Int.tmod_lt_of_pos a h
  omega
theorem tmod_neg (a n : Int) (h : 0 < n) (h0 : a.tmod n < 0) : a.tmod n + n = a % n := by
  have h2 := tmod_bound a n h
  have h3 : (a.tmod n + n) % n = a % n := by
    rw [Int.add_emod_right]
    have := Int.mul_tdiv_add_tmod a n
    conv => rhs; rw [← this]
    rw [Int.add_comm, Int.add_mul_emod_self_left]
  rw [← h3, Int.emod_eq_of_lt] <;> omega
theorem tmod_pos (a n : Int) (h : 0 < n) (h0 : ¬ a.tmod n < 0) : a.tmod n = a % n := by
  have h2 := tmod_bound a n h
  have h3 : (a.tmod n) % n = a % n := by
    have := Int.mul_tdiv_add_tmod a n
    conv => rhs; rw [← this]
    rw [Int.add_comm, Int.add_mul_emod_self_left]
  rw [← h3, Int.emod_eq_of_lt] <;> omega

/-- 'Picked' returns the remainder, from 0 on, below n. -/
def Picks (a n : Int) (w : World) (e : Ending) (w' : World) : Prop := ∃ r : Int, Hid (r = a % n) ∧ 0 ≤ r ∧ r < n ∧ e = .returned (.int .i64 r) ∧ w = w'

set_option maxHeartbeats 400000 in
theorem picked (a n : Int) (w : World) (h : 0 < n) (h' : n ≤ 4294967296) : Calls Try.prog 8 #[.int .i64 a, .int .i64 n] w (Picks a n w) := by
  have hb := tmod_bound a n h
  have hn0 : (n == 0) = false := by simp; omega
  have hh := Int.emod_nonneg a (b := n) (by omega)
  have hg := Int.emod_lt_of_pos a h
  by_cases h0 : a.tmod n < 0
  · have HM := Lib.hid (tmod_neg a n h h0)
    go_enter Try.func8, Try.ntmps8
    go_wp2
    go_ret
    exact ⟨a % n, rfl, hh, hg, ret_int HM.out, rfl⟩
  · have HM := Lib.hid (tmod_pos a n h h0)
    go_enter Try.func8, Try.ntmps8
    go_wp2
    go_ret
    exact ⟨a % n, rfl, hh, hg, ret_int HM.out, rfl⟩
end Go.Proofs.Ytkjaddiagembaaa
/- Slices of integers as lists. -/
namespace Go.Proofs.Ytkjaddiagembaaa
open Go.RowKit
set_option linter.unusedVariables false

/-- A slice value that reads as the numbers xs. -/
structure Row (k : IntKind) (w : World) (a : Option Addr) (len cap : Nat) (xs : List Int) : Prop where
  hlen : xs.length = len
  hle : len ≤ cap
  hmax : cap ≤ maxLen
  hnil : a = none → cap = 0
  hwf : ∀ x ∈ xs, (Lit.int k x).wf = true
  hat : len = 0 ∨ ∃ b off, a = some ⟨b, off, none⟩ ∧ ∀ i, i < len → w.cell? ⟨b, off + i, none⟩ = some (.int k (xs.getD i 0))

theorem Row.below {k : IntKind} {w w' : World} {a : Option Addr} {len cap : Nat} {xs : List Int} (h : Row k w a len cap xs) (hb : Below w.heap.size w w') : Row k w' a len cap xs := by
  refine ⟨h.hlen, h.hle, h.hmax, h.hnil, h.hwf, ?_⟩
  rcases h.hat with h0 | ⟨b, off, ha, hc⟩
  · exact .inl h0
  · exact .inr ⟨b, off, ha, fun i hi => (hb.cell (World.block_lt_of_cell? _ _ (hc i hi))).trans (hc i hi)⟩
theorem Row.drewN {k : IntKind} {w : World} {a : Option Addr} {len cap : Nat} {xs : List Int} (h : Row k w a len cap xs) (n : Nat) : Row k (w.drewN n) a len cap xs := ⟨h.hlen, h.hle, h.hmax, h.hnil, h.hwf, h.hat⟩
theorem byte_range {x : Int} (h : (Lit.int .u8 x).wf = true) : 0 ≤ x ∧ x ≤ 255 := by
  simp [Lit.wf, IntKind.min, IntKind.max, IntKind.signed, IntKind.bits] at h; omega
theorem Row.byte {w : World} {a : Option Addr} {len cap : Nat} {xs : List Int} (h : Row .u8 w a len cap xs) (i : Nat) : 0 ≤ xs.getD i 0 ∧ xs.getD i 0 ≤ 255 := by
  by_cases hi : i < xs.length
  · have : xs.getD i 0 = xs[i] := by simp [List.getD, hi]
    rw [this]
    exact byte_range (h.hwf _ (List.getElem_mem hi))
  · have : xs.getD i 0 = 0 := by simp [List.getD, List.getElem?_eq_none (by omega : xs.length ≤ i)]
    rw [this]; omega


/-- A block of cells of the call's own. -/
def Box (w : World) (g : Nat) (vs : Array Value) (t : TypeId) : Prop := w.heap[g]? = some (.cells vs t (0, 0))
theorem Box.cell {w : World} {g : Nat} {vs : Array Value} {t : TypeId} (h : Box w g vs t) (j : Nat) : w.cell? ⟨g, j, none⟩ = vs[j]? := cell_of_row w g j vs t (0, 0) h
theorem Box.free {w : World} {g : Nat} {vs : Array Value} {t : TypeId} (h : Box w g vs t) (j : Nat) : w.frozen? ⟨g, j, none⟩ = false := by
  simp [World.frozen?, show w.heap[g]? = _ from h]
theorem Box.below {w w' : World} {g B : Nat} {vs : Array Value} {t : TypeId} (h : Box w g vs t) (hb : Below B w w') (hg : g < B) : Box w' g vs t := (hb.block g hg).trans h
theorem Box.lt {w : World} {g : Nat} {vs : Array Value} {t : TypeId} (h : Box w g vs t) : g < w.heap.size := (Array.getElem?_eq_some_iff.1 h).1
theorem Box.drewN {w : World} {g : Nat} {vs : Array Value} {t : TypeId} (h : Box w g vs t) (n : Nat) : Box (w.drewN n) g vs t := h
theorem Box.drew {w : World} {g : Nat} {vs : Array Value} {t : TypeId} (h : Box w g vs t) : Box w.drew g vs t := h
theorem Box.alloc {w : World} {g : Nat} {vs : Array Value} {t : TypeId} (h : Box w g vs t) (o : Obj) : Box (w.alloc o) g vs t := (heap_alloc_old w o h.lt).trans h
theorem Box.new {w : World} {vs : Array Value} {t : TypeId} {g : Nat} (hg : g = w.heap.size) : Box (w.alloc (.cells vs t)) g vs t := by subst hg; exact heap_alloc_new w _
theorem Box.set {w : World} {g : Nat} {vs : Array Value} {t : TypeId} (h : Box w g vs t) (j : Nat) (v : Value) : Box (w.setCell ⟨g, j, none⟩ v) g (vs.setIfInBounds j v) t := by
  unfold Box at *
  have hlt := Box.lt h
  simp [World.setCell, Array.getElem?_modify, h]
theorem Box.other {w : World} {g : Nat} {vs : Array Value} {t : TypeId} (h : Box w g vs t) (a : Addr) (ha : a.block ≠ g) (v : Value) : Box (w.setCell a v) g vs t := by
  unfold Box at *
  rw [Below.heap_setCell _ _ _ _ (by omega)]; exact h
end Go.Proofs.Ytkjaddiagembaaa
/- Bit operations on int, of numbers that are not negative. No program here. -/
namespace Go.Proofs.Ytkjaddiagembaaa
open Go.RowKit
set_option linter.unusedVariables false

theorem ofInt_i64 (a : Nat) (ha : a < 9223372036854775808) : (BitVec.ofInt 64 (a : Int)).toNat = a := by
  rw [BitVec.toNat_ofInt]; omega
theorem i64_or (a b : Nat) (ha : a < 9223372036854775808) (hb : b < 9223372036854775808) : bits .or .i64 (a : Int) (b : Int) = ((a ||| b : Nat) : Int) := by
  have hx : a ||| b < 2 ^ 63 := Nat.or_lt_two_pow (by omega) (by omega)
  show IntKind.i64.wrap ((BitVec.ofInt 64 (a : Int) ||| BitVec.ofInt 64 (b : Int)).toNat : Int) = _
  rw [BitVec.toNat_or, ofInt_i64 a ha, ofInt_i64 b hb, IntKind.wrap_i64]
  omega
theorem i64_xor (a b : Nat) (ha : a < 9223372036854775808) (hb : b < 9223372036854775808) : bits .xor .i64 (a : Int) (b : Int) = ((a ^^^ b : Nat) : Int) := by
  have hx : a ^^^ b < 2 ^ 63 := Nat.xor_lt_two_pow (by omega) (by omega)
  show IntKind.i64.wrap ((BitVec.ofInt 64 (a : Int) ^^^ BitVec.ofInt 64 (b : Int)).toNat : Int) = _
  rw [BitVec.toNat_xor, ofInt_i64 a ha, ofInt_i64 b hb, IntKind.wrap_i64]
  omega
theorem i64_and (a b : Nat) (ha : a < 9223372036854775808) (hb : b < 9223372036854775808) : bits .and .i64 (a : Int) (b : Int) = ((a &&& b : Nat) : Int) := by
  have hx : a &&& b ≤ a := Nat.and_le_left
  show IntKind.i64.wrap ((BitVec.ofInt 64 (a : Int) &&& BitVec.ofInt 64 (b : Int)).toNat : Int) = _
  rw [BitVec.toNat_and, ofInt_i64 a ha, ofInt_i64 b hb, IntKind.wrap_i64]
  omega
theorem or_add (a b k : Nat) (h : a < 2 ^ k) : a ||| (b * 2 ^ k) = a + b * 2 ^ k := by
  rw [Nat.or_comm, ← Nat.shiftLeft_eq, ← Nat.shiftLeft_add_eq_or_of_lt h, Nat.add_comm]

/-- four bytes, the least first, joined by shifts and or -/
theorem word_bits (a b c d : Int) (ha : 0 ≤ a ∧ a ≤ 255) (hb : 0 ≤ b ∧ b ≤ 255) (hc : 0 ≤ c ∧ c ≤ 255) (hd : 0 ≤ d ∧ d ≤ 255) :
    bits BinOp.or IntKind.i64 (bits BinOp.or IntKind.i64 (bits BinOp.or IntKind.i64 (IntKind.i64.wrap a) (IntKind.i64.wrap (IntKind.i64.wrap b * 256))) (IntKind.i64.wrap (IntKind.i64.wrap c * 65536)))
      (IntKind.i64.wrap (IntKind.i64.wrap d * 16777216)) = a + 256 * b + 65536 * c + 16777216 * d := by
  rw [IntWalk.i64_in a (by omega), IntWalk.i64_in b (by omega), IntWalk.i64_in c (by omega), IntWalk.i64_in d (by omega), IntWalk.i64_in (b * 256) (by omega), IntWalk.i64_in (c * 65536) (by omega), IntWalk.i64_in (d * 16777216) (by omega)]
  obtain ⟨a, rfl⟩ := Int.eq_ofNat_of_zero_le ha.1
  obtain ⟨b, rfl⟩ := Int.eq_ofNat_of_zero_le hb.1
  obtain ⟨c, rfl⟩ := Int.eq_ofNat_of_zero_le hc.1
  obtain ⟨d, rfl⟩ := Int.eq_ofNat_of_zero_le hd.1
  have h1 : a ||| (b * 2 ^ 8) = a + b * 2 ^ 8 := or_add a b 8 (by omega)
  have h2 : (a + b * 2 ^ 8) ||| (c * 2 ^ 16) = a + b * 2 ^ 8 + c * 2 ^ 16 := or_add _ c 16 (by omega)
  have h3 : (a + b * 2 ^ 8 + c * 2 ^ 16) ||| (d * 2 ^ 24) = a + b * 2 ^ 8 + c * 2 ^ 16 + d * 2 ^ 24 := or_add _ d 24 (by omega)
  rw [show (b : Int) * 256 = ((b * 2 ^ 8 : Nat) : Int) from by omega, i64_or a _ (by omega) (by omega), h1,
    show (c : Int) * 65536 = ((c * 2 ^ 16 : Nat) : Int) from by omega, i64_or _ _ (by omega) (by omega), h2,
    show (d : Int) * 16777216 = ((d * 2 ^ 24 : Nat) : Int) from by omega, i64_or _ _ (by omega) (by omega), h3]
  omega
end Go.Proofs.Ytkjaddiagembaaa
