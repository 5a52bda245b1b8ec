/- The walks of the geometry's functions: what each returns, as plain integer functions. -/
import Derived.Test.YtjnheahhlopbfaaBase
namespace Go.Proofs.Ytjnheahhlopbfaa
open Go.RowKit

def Shapes (w : World) (e : Ending) (w' : World) : Prop := ∃ D P : Int, 2 ≤ D ∧ D ≤ 8 ∧ 1 ≤ P ∧ P ≤ 3 ∧ P < D ∧ e = .returned (.tuple #[.int .i64 D, .int .i64 P]) ∧ w = w'

set_option maxHeartbeats 400000 in
theorem shape (d p : Int) (w : World) : Calls Try.prog 14 #[.int .i64 d, .int .i64 p] w (Shapes w) := by
  go_enter Try.func14, Try.ntmps14
  go_wp2_with (go_at_call 15; refine (picked _ _ _ (by omega) (by omega)).mono ?_; rintro e w' ⟨r, hr, hr0, hr1, rfl, rfl⟩)
  all_goals go_ret2
  all_goals exact ⟨_, _, by omega, by omega, by omega, by omega, by omega, rfl, rfl⟩

def Spots (d a : Int) (w : World) (e : Ending) (w' : World) : Prop := ∃ x y : Int, Hid (x = a % d ∧ y = a / d) ∧ 0 ≤ x ∧ x < d ∧ 0 ≤ y ∧ y ≤ 65536 ∧ e = .returned (.tuple #[.int .i64 x, .int .i64 y, .int .i64 0]) ∧ ∃ k, w' = w.drewN k

set_option maxHeartbeats 400000 in
theorem spot (d a : Int) (w : World) (h1 : 2 ≤ d) (h2 : d ≤ 8) (h3 : 0 ≤ a) (h4 : a ≤ 65536) : Calls Try.prog 16 #[.int .i64 d, .int .i64 a] w (Spots d a w) := by
  have hh := Int.emod_nonneg a (b := d) (by omega)
  have hg := Int.emod_lt_of_pos a (b := d) (by omega)
  have hi := Int.ediv_nonneg h3 (b := d) (by omega)
  have hj := Int.ediv_le_self d h3
  have hd0 : (d == 0) = false := by simp; omega
  go_enter Try.func16, Try.ntmps16
  go_wp2
  go_quiet (fail)
  go_wp2
  go_ret3
  exact ⟨_, _, ⟨rfl, rfl⟩, hh, hg, hi, by omega, rfl, _, rfl⟩

theorem spot_inj {d a b : Int} : (a = b) ↔ (a % d = b % d ∧ a / d = b / d) := by
  constructor
  · rintro rfl; exact ⟨rfl, rfl⟩
  · rintro ⟨h1, h2⟩
    rw [← Int.mul_ediv_add_emod a d, ← Int.mul_ediv_add_emod b d, h1, h2]
theorem spot_next {d a : Int} (hd : 2 ≤ d) : (a + 1) % d ≠ a % d := by
  intro h
  have := Int.emod_emod_of_dvd
  have h2 := Int.emod_eq_emod_iff_emod_sub_eq_zero.1 h
  rw [show a + 1 - a = 1 by omega, Int.emod_eq_of_lt (by omega) (by omega)] at h2
  omega

set_option maxHeartbeats 400000 in
theorem spotApart (d p a b : Int) (w : World) :
    Calls Try.prog 3 #[.int .i64 d, .int .i64 p, .int .i64 a, .int .i64 b] w fun e w' => e = .returned (.bool true) ∧ ∃ k, w' = w.drewN k := by
  go_enter Try.func3, Try.ntmps3
  go_wp2_with fail
  refine (shape _ _ _).mono ?_
  rintro e w' ⟨D, P, hD0, hD1, hP0, hP1, hPD, rfl, rfl⟩
  go_wp2_with fail
  refine (picked _ _ _ (by omega) (by omega)).mono ?_; rintro e w' ⟨x, hx, hx0, hx1, rfl, rfl⟩
  go_wp2_with fail
  refine (picked _ _ _ (by omega) (by omega)).mono ?_; rintro e w' ⟨y, hy, hy0, hy1, rfl, rfl⟩
  go_wp2_with fail
  refine (spot _ _ _ (by omega) (by omega) (by omega) (by omega)).mono ?_; rintro e w' ⟨i, m, h1, hi0, hi1, hm0, hm1, rfl, k1, rfl⟩
  go_wp2_with fail
  refine (spot _ _ _ (by omega) (by omega) (by omega) (by omega)).mono ?_; rintro e w' ⟨j, n, h2, hj0, hj1, hn0, hn1, rfl, k2, rfl⟩
  go_wp2_with fail
  refine (spot _ _ _ (by omega) (by omega) (by omega) (by omega)).mono ?_; rintro e w' ⟨o, q, h3, ho0, ho1, hq0, hq1, rfl, k3, rfl⟩
  have g1 : (o != i) = true := by
    have := h1.out; have := h3.out
    simp; rw [(h1.out).1, (h3.out).1]; exact spot_next (by omega)
  have g2 : (x == y) = (i == j && m == n) := by
    rw [Bool.eq_iff_iff]
    simp
    rw [(h1.out).1, (h2.out).1, (h1.out).2, (h2.out).2]
    exact spot_inj
  go_wp2
  all_goals (go_ret; exact ⟨by simp [*], _, rfl⟩)

/-! ### what may be -/
set_option maxHeartbeats 400000 in
theorem may_yes (D P : Int) (w : World) (h1 : 2 ≤ D) (h2 : D ≤ 8) (h3 : 1 ≤ P) (h4 : P ≤ 3) (h5 : P < D) :
    Calls Try.prog 33 #[.agg #[.int .i64 D, .int .i64 P]] w fun e w' => e = .returned (.bool true) ∧ w.alloc (.cells #[.int .i64 D, .int .i64 P] 63) = w' := by
  go_enter Try.func33, Try.ntmps33
  go_wp2
  go_ret
  exact ⟨rfl, rfl⟩
set_option maxHeartbeats 400000 in
theorem counted_yes (c : Int) (w : World) (h1 : 1 ≤ c) (h2 : c ≤ 32) : Calls Try.prog 34 #[.int .i64 c] w fun e w' => e = .returned (.bool true) ∧ w = w' := by
  go_enter Try.func34, Try.ntmps34
  go_wp2
  go_ret
  exact ⟨rfl, rfl⟩
set_option maxHeartbeats 400000 in
theorem addressed_yes (c : Int) (w : World) (h1 : 0 ≤ c) (h2 : c ≤ 65536) : Calls Try.prog 32 #[.int .i64 c] w fun e w' => e = .returned (.bool true) ∧ w = w' := by
  go_enter Try.func32, Try.ntmps32
  go_wp2
  go_ret
  exact ⟨rfl, rfl⟩

/-! ### what a block costs -/
def upTo (n b : Int) : Int := (n + b - 1) / b * b
theorem upTo_bd (n b : Int) (hb : 1 ≤ b) : n ≤ upTo n b ∧ upTo n b ≤ n + b - 1 := by
  unfold upTo
  have h1 := Int.mul_ediv_add_emod (n + b - 1) b
  have h2 := Int.emod_nonneg (n + b - 1) (b := b) (by omega)
  have h3 := Int.emod_lt_of_pos (n + b - 1) (b := b) (by omega)
  rw [Int.mul_comm] at h1
  omega
def Ups (n b : Int) (w : World) (e : Ending) (w' : World) : Prop := ∃ r : Int, Hid (r = upTo n b) ∧ n ≤ r ∧ r ≤ n + b - 1 ∧ e = .returned (.int .i64 r) ∧ w = w'
set_option maxHeartbeats 400000 in
theorem up (n b : Int) (w : World) (h1 : 0 ≤ n) (h2 : n ≤ 1000000) (h3 : 1 ≤ b) (h4 : b ≤ 8) : Calls Try.prog 35 #[.int .i64 n, .int .i64 b] w (Ups n b w) := by
  have hb := upTo_bd n b h3
  unfold upTo at hb
  obtain ⟨hx, hy⟩ := hb
  have hz : 0 ≤ (n + b - 1) / b := Int.ediv_nonneg (by omega) (by omega)
  have hu : (n + b - 1) / b ≤ n + b - 1 := Int.ediv_le_self _ (by omega)
  have hb0 : (b == 0) = false := by simp; omega
  go_enter Try.func35, Try.ntmps35
  go_wp2
  go_ret
  exact ⟨_, rfl, hx, hy, rfl, rfl⟩

def costOf (D P c : Int) : Int := upTo (c + P * (upTo c (D - P) / (D - P))) (P + 1)
def Costs (D P c : Int) (w : World) (e : Ending) (w' : World) : Prop := ∃ r : Int, Hid (r = costOf D P c) ∧ 0 ≤ r ∧ r ≤ 1000000 ∧ e = .returned (.tuple #[.int .i64 r, .int .i64 0]) ∧ Below w.heap.size w w'
set_option maxHeartbeats 1000000 in
theorem cost (D P c : Int) (w : World) (h1 : 2 ≤ D) (h2 : D ≤ 8) (h3 : 1 ≤ P) (h4 : P ≤ 3) (h5 : P < D) (h6 : 1 ≤ c) (h7 : c ≤ 32) :
    Calls Try.prog 17 #[.int .i64 D, .int .i64 P, .int .i64 c] w (Costs D P c w) := by
  have hw0 : (D - P == 0) = false := by simp; omega
  go_enter Try.func17, Try.ntmps17
  go_wp2_with (first | (go_at_call 33; refine (may_yes _ _ _ (by omega) (by omega) (by omega) (by omega) (by omega)).mono ?_; rintro e w' ⟨rfl, rfl⟩) | (go_at_call 34; refine (counted_yes _ _ (by omega) (by omega)).mono ?_; rintro e w' ⟨rfl, rfl⟩))
  refine (up _ _ _ (by omega) (by omega) (by omega) (by omega)).mono ?_
  rintro e w' ⟨r, hr, hr0, hr1, rfl, rfl⟩
  have g1 : 0 ≤ r / (D - P) := Int.ediv_nonneg (by omega) (by omega)
  have g2 : r / (D - P) ≤ r := Int.ediv_le_self _ (by omega)
  have g3 : 0 ≤ P * (r / (D - P)) := Int.mul_nonneg (by omega) (by omega)
  have g4 : P * (r / (D - P)) ≤ 3 * (r / (D - P)) := Int.mul_le_mul_of_nonneg_right (by omega) (by omega)
  go_wp2_with fail
  refine (up _ _ _ (by omega) (by omega) (by omega) (by omega)).mono ?_
  rintro e w' ⟨q, hq, hq0, hq1, rfl, rfl⟩
  go_wp2_with fail
  go_ret2
  exact ⟨q, by rw [Hid, hq.out, hr.out]; rfl, by omega, by omega, rfl, by go_grown⟩
end Go.Proofs.Ytjnheahhlopbfaa
