/- Small facts that all walks of this seat share, and the walk of 'Picked'. -/
import Derived.Test.YtdonmdiebibabaaDoorRows
import Derived.WalkKit
import Derived.WalkSpells
import Derived.WalkLawsBesides
import Derived.Handy
import Derived.Lib.Hide
import Derived.Deep.QuietTactic
import Derived.Deep.LoopGhost
import Derived.BigQuiet
import Derived.Deep.DeepCutAuto
import Derived.Deep.RegionHeld3
import Derived.RegionTactic
import Derived.StillTailTactics
import Derived.ChangeAlike
import Derived.Deep.RegionWith
import Derived.Deep.RegionLaw
namespace Go.Proofs.YtdonmdiebibabaaDoor
open Go.RowKit

theorem ret_int {k : IntKind} {a b : Int} (h : a = b) : Ending.returned (.int k a) = .returned (.int k b) := by rw [h]
theorem ret_bool {a b : Bool} (h : a = b) : Ending.returned (.bool a) = .returned (.bool b) := by rw [h]
theorem below_drewN {B : Nat} {a w : World} (h : Below B a w) (k : Nat) : Below B a (w.drewN k) := ⟨h.os, h.tape, h.output, h.size, h.block⟩

theorem Below_next {w w1 w2 : World} (h : Below w.heap.size w w1) (k : Below w1.heap.size w1 w2) : Below w.heap.size w w2 := h.trans (k.mono h.size)

/-- What is owned stays owned where only new blocks came. -/
theorem ownsRow_below {wr wx : World} {base : Nat} {e : TypeId} {size : Nat} {v : Value} {n : Nat} {xs : List Value} (h : wr.ownsRow base e size v n xs) (hx : Below wr.heap.size wr wx) : wx.ownsRow base e size v n xs := by
  refine ⟨h.1, ?_⟩
  rcases h.2 with hn | ⟨g, cap, cur, rfl, hb, hgg, rest⟩
  · exact .inl hn
  · refine .inr ⟨g, cap, cur, rfl, hb, ?_, rest⟩
    rw [hx.block g (Array.getElem?_eq_some_iff.1 hgg).1]
    exact hgg
theorem below_append {w wr wx w1 : World} {e : TypeId} {size : Nat} {v : Value} {n : Nat} {xs : List Value} (hb : Below w.heap.size w wr) (hx : Below wr.heap.size wr wx)
    (hown : wr.ownsRow w.heap.size e size v n xs) (hg : wx.grownBy w1 v.ownBlock) : Below w.heap.size w w1 :=
  (hb.trans (hx.mono hb.size)).grown hg (Nat.le_trans hb.size hx.size) (fun k hk => (hown.lt k hk).1)
theorem Below_alloc2 {wr : World} (a b : Obj) : Below wr.heap.size wr ((wr.alloc a).alloc b) := ((Below.refl _ _).alloc (Nat.le_refl _) _).alloc (by simp) _
theorem Below_alloc1 {wr : World} (a : Obj) : Below wr.heap.size wr (wr.alloc a) := (Below.refl _ _).alloc (Nat.le_refl _) _
/-- The cells of a new block. -/
theorem new_cells (w : World) (cs : Array Value) (e : TypeId) (g : Nat) (hg : g = w.heap.size) (xs : List Value) (hx : cs.toList = xs) :
    ∀ j u, xs[j]? = some u → (w.alloc (.cells cs e)).cell? ((⟨g, 0, none⟩ : Addr).add j) = some u := by
  intro j u hu
  subst hg hx
  have hadd : (⟨w.heap.size, 0, none⟩ : Addr).add j = ⟨w.heap.size, j, none⟩ := by unfold Addr.add; split <;> simp_all
  rw [hadd, cell_of_row _ _ j cs e (0, 0) (heap_alloc_new w _)]
  simpa using hu

theorem tmod_bound (a n : Int) (h : 0 < n) : -n < a.tmod n ∧ a.tmod n < n := by
  have h1 := Int.lt_tmod_of_pos a h
  have h2 := Int.tmod_lt_of_pos a h
  omega
theorem tmod_neg (a n : Int) (h : 0 < n) (h0 : a.tmod n < 0) : a.tmod n + n = a % n := by
  have h2 := tmod_bound a n h
  have h3 : (a.tmod n + n) % n = a % n := by
    rw [Int.add_emod_right]
    have := Int.mul_tdiv_add_tmod a n
    conv => rhs; rw [← this]
    rw [Int.add_comm, Int.add_mul_emod_self_left]
  rw [← h3, Int.emod_eq_of_lt] <;> omega
theorem tmod_pos (a n : Int) (h : 0 < n) (h0 : ¬ a.tmod n < 0) : a.tmod n = a % n := by
  have h2 := tmod_bound a n h
  have h3 : (a.tmod n) % n = a % n := by
    have := Int.mul_tdiv_add_tmod a n
    conv => rhs; rw [← this]
    rw [Int.add_comm, Int.add_mul_emod_self_left]
  rw [← h3, Int.emod_eq_of_lt] <;> omega

/-- 'Picked' returns the remainder, from 0 on, below n. -/
def Picks (a n : Int) (w : World) (e : Ending) (w' : World) : Prop := ∃ r : Int, Hid (r = a % n) ∧ 0 ≤ r ∧ r < n ∧ e = .returned (.int .i64 r) ∧ w = w'

set_option maxHeartbeats 400000 in
theorem picked (a n : Int) (w : World) (h : 0 < n) (h' : n ≤ 4294967296) : Calls Tryd.prog 6 #[.int .i64 a, .int .i64 n] w (Picks a n w) := by
  have hb := tmod_bound a n h
  have hn0 : (n == 0) = false := by simp; omega
  have hh := Int.emod_nonneg a (b := n) (by omega)
  have hg := Int.emod_lt_of_pos a h
  by_cases h0 : a.tmod n < 0
  · have HM := Lib.hid (tmod_neg a n h h0)
    go_enter Tryd.func6, Tryd.ntmps6
    go_wp2
    go_ret
    exact ⟨a % n, rfl, hh, hg, ret_int HM.out, rfl⟩
  · have HM := Lib.hid (tmod_pos a n h h0)
    go_enter Tryd.func6, Tryd.ntmps6
    go_wp2
    go_ret
    exact ⟨a % n, rfl, hh, hg, ret_int HM.out, rfl⟩
end Go.Proofs.YtdonmdiebibabaaDoor
