/- The geometry's laws, walked: CostRight, ColumnsApart, ColumnsFill. -/
import Derived.Test.YtjnheahhlopbfaaGeomC
namespace Go.Proofs.Ytjnheahhlopbfaa
open Go.RowKit

theorem flat_get {f : Nat → List Value} {m : Nat} (hf : ∀ i, (f i).length = m) (n k j : Nat) (hk : k < n) (hj : j < m) : ((List.range n).flatMap f)[m * k + j]? = (f k)[j]? := by
  have hlen : ∀ n, ((List.range n).flatMap f).length = m * n := by
    intro n
    induction n with
    | zero => simp
    | succ n ih => rw [List.range_succ, List.flatMap_append, List.length_append, ih]; simp [hf]; rw [Nat.mul_succ]
  induction n with
  | zero => omega
  | succ n ih =>
    rw [List.range_succ, List.flatMap_append]
    by_cases h : k < n
    · rw [List.getElem?_append_left (by rw [hlen]; have : m * (k + 1) ≤ m * n := Nat.mul_le_mul_left _ (by omega); rw [Nat.mul_succ] at this; omega)]
      exact ih h
    · obtain rfl : k = n := by omega
      rw [List.getElem?_append_right (by rw [hlen]; omega), hlen]
      simp

/-- what the columns' call leaves, by cells -/
def ColRow (D P a q L N : Int) (g : Nat) (w : World) : Prop := ∀ k : Nat, (k : Int) < N →
  w.cell? ⟨g, k * 4, none⟩ = some (.int .i64 ((a + k) % D)) ∧ w.cell? ⟨g, k * 4 + 1, none⟩ = some (.int .i64 ((a + k) / D)) ∧
  w.cell? ⟨g, k * 4 + 2, none⟩ = some (.int .i64 (if (k : Int) < L then q + 1 else q)) ∧ w.cell? ⟨g, k * 4 + 3, none⟩ = some (.bool (decide ((k : Int) < P)))
def Cols2 (D P a c : Int) (w : World) (e : Ending) (w' : World) : Prop :=
  ∃ q r L : Int, ∃ N g cap : Nat, Hid ((D - P) * q + r = c ∧ L = longOf r P ∧ (N : Int) = manyOf q D L) ∧ 0 ≤ q ∧ q ≤ 32 ∧ 0 ≤ r ∧ r < D - P ∧ 0 ≤ L ∧ L ≤ 11 ∧ P < N ∧ N ≤ D ∧ w.heap.size ≤ g ∧
    e = .returned (.tuple #[.slice (some ⟨g, 0, none⟩) N cap, .int .i64 0]) ∧ Hid (ColRow D P a q L N g w') ∧ Below w.heap.size w w'

theorem columns2 (D P a c : Int) (w : World) (h1 : 2 ≤ D) (h2 : D ≤ 8) (h3 : 1 ≤ P) (h4 : P ≤ 3) (h5 : P < D) (h6 : 1 ≤ c) (h7 : c ≤ 32) (h8 : 0 ≤ a) (h9 : a ≤ 65536) :
    Calls Try.prog 18 #[.int .i64 D, .int .i64 P, .int .i64 a, .int .i64 c] w (Cols2 D P a c w) := by
  refine (columns D P a c w h1 h2 h3 h4 h5 h6 h7 h8 h9).mono ?_
  rintro e w' ⟨q, r, L, N, v, ⟨hq, hr, hL, hN⟩, hN0, hN1, rfl, hown, hb⟩
  have hcq : (D - P) * q + r = c := by rw [hq, hr]; exact Int.mul_ediv_add_emod c (D - P)
  have hq0 : 0 ≤ q := by rw [hq]; exact Int.ediv_nonneg (by omega) (by omega)
  have hq1 : q ≤ c := by rw [hq]; exact Int.ediv_le_self _ (by omega)
  have hr0 : 0 ≤ r := by rw [hr]; exact Int.emod_nonneg _ (by omega)
  have hr1 : r < D - P := by rw [hr]; exact Int.emod_lt_of_pos _ (by omega)
  have hL0 : 0 ≤ L ∧ L ≤ 11 := by rw [hL]; unfold longOf; split <;> omega
  have hNP : P < N ∧ N ≤ D := by
    rw [hN]; unfold manyOf
    split
    · rename_i h0
      rw [h0, Int.mul_zero] at hcq
      rw [hL]; unfold longOf
      rw [if_pos (by omega)]
      omega
    · omega
  obtain ⟨n, rfl⟩ : ∃ n : Nat, N = n := ⟨N.toNat, by omega⟩
  have hn0 : 0 < n := by omega
  rw [Int.toNat_natCast] at hown
  have hown2 := hown
  rcases hown.2 with ⟨_, h0⟩ | ⟨g, cap, cur, rfl, hbg, _⟩
  · omega
  · refine ⟨q, r, L, n, g, cap, ⟨hcq, hL, hN⟩, hq0, by omega, hr0, hr1, hL0.1, hL0.2, hNP.1, hNP.2, hbg, rfl, ?_, hb⟩
    intro k hk
    have hk' : k < n := by omega
    have hget : ∀ j, j < 4 → w'.cell? ⟨g, k * 4 + j, none⟩ = (colAt D P a q L k).cells[j]? := by
      intro j hj
      rw [hown2.cellAt (k * 4 + j) (by omega)]
      have := flat_get (f := fun k => (colAt D P a q L k).cells) (m := 4) (fun _ => rfl) n k j hk' hj
      rw [Nat.mul_comm] at this
      exact this
    exact ⟨hget 0 (by omega), hget 1 (by omega), hget 2 (by omega), hget 3 (by omega)⟩

/-! ### CostRight -/
theorem cost_facts (D P c : Int) (h1 : 2 ≤ D) (h2 : D ≤ 8) (h3 : 1 ≤ P) (h4 : P ≤ 3) (h5 : P < D) (h6 : 1 ≤ c) (h7 : c ≤ 31) :
    costOf D P 1 = P + 1 ∧ costOf D P c % (P + 1) = 0 ∧ c + P ≤ costOf D P c ∧ costOf D P c ≤ costOf D P (c + 1) := by
  have hW : D - P = 1 ∨ D - P = 2 ∨ D - P = 3 ∨ D - P = 4 ∨ D - P = 5 ∨ D - P = 6 ∨ D - P = 7 := by omega
  have hP : P = 1 ∨ P = 2 ∨ P = 3 := by omega
  unfold costOf upTo
  rcases hP with rfl | rfl | rfl <;> rcases hW with h | h | h | h | h | h | h <;> rw [h] <;> omega

set_option maxHeartbeats 1000000 in
theorem costRight (d p c : Int) (w : World) :
    Calls Try.prog 4 #[.int .i64 d, .int .i64 p, .int .i64 c] w fun e w' => e = .returned (.bool true) ∧ Below w.heap.size w w' := by
  go_enter Try.func4, Try.ntmps4
  go_wp2_with fail
  refine (shape _ _ _).mono ?_
  rintro e w' ⟨D, P, hD0, hD1, hP0, hP1, hPD, rfl, rfl⟩
  go_wp2_with fail
  refine (picked _ _ _ (by omega) (by omega)).mono ?_; rintro e w' ⟨x, hx, hx0, hx1, rfl, rfl⟩
  go_wp2_with fail
  refine (cost D P (1 + x) _ (by omega) (by omega) (by omega) (by omega) (by omega) (by omega) (by omega)).mono ?_; rintro e w1 ⟨r1, e1, l1, u1, rfl, hb1⟩
  go_wp2_with fail
  refine (cost D P (1 + x + 1) _ (by omega) (by omega) (by omega) (by omega) (by omega) (by omega) (by omega)).mono ?_; rintro e w2 ⟨r2, e2, l2, u2, rfl, hb2⟩
  go_wp2_with fail
  refine (cost D P 1 _ (by omega) (by omega) (by omega) (by omega) (by omega) (by omega) (by omega)).mono ?_; rintro e w3 ⟨r3, e3, l3, u3, rfl, hb3⟩
  obtain ⟨f1, f2, f3, f4⟩ := cost_facts D P (1 + x) (by omega) (by omega) (by omega) (by omega) (by omega) (by omega) (by omega)
  rw [← e1.out] at f2 f3 f4
  rw [← e2.out] at f4
  rw [← e3.out] at f1
  have g1 : (r3 == P + 1) = true := by simp [f1]
  have g0 : (P + 1 == 0) = false := by simp; omega
  have g2 : (r1 % (P + 1) == 0) = true := by simp [f2]
  clear f1 f2
  go_wp2
  all_goals go_ret
  all_goals exact ⟨by simp [*]; try omega, Below_next (Below_next hb1 hb2) hb3⟩
end Go.Proofs.Ytjnheahhlopbfaa
