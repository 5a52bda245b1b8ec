/- The law ColumnsFill, walked. -/
import Derived.Test.YtjnheahhlopbfaaGeomM
namespace Go.Proofs.Ytjnheahhlopbfaa
open Go.RowKit
set_option linter.unusedVariables false

def sumTo (q L : Int) : Nat → Int
  | 0 => 0
  | k + 1 => sumTo q L k + cnt q L k
theorem sumTo_eq (q L : Int) (hL : 0 ≤ L) : ∀ k : Nat, sumTo q L k = k * q + (if (k : Int) ≤ L then (k : Int) else L)
  | 0 => by rw [sumTo, if_pos (by omega), show ((0 : Nat) : Int) = 0 from rfl, Int.zero_mul]; rfl
  | k + 1 => by
    have e : ((k + 1 : Nat) : Int) = (k : Int) + 1 := by omega
    rw [sumTo, sumTo_eq q L hL k, cnt, e, Int.add_mul]
    generalize (k : Int) * q = z
    by_cases b : (k : Int) < L
    · rw [if_pos b, if_pos (by omega), if_pos (by omega)]; omega
    · rw [if_neg b, if_neg (show ¬ (k : Int) + 1 ≤ L by omega)]
      by_cases c : (k : Int) ≤ L
      · rw [if_pos c]; omega
      · rw [if_neg c]; omega
theorem sumTo_bd (q L : Int) (hq : 0 ≤ q) (hq' : q ≤ 32) : ∀ k : Nat, 0 ≤ sumTo q L k ∧ sumTo q L k ≤ 33 * k
  | 0 => by simp [sumTo]
  | k + 1 => by
    have := sumTo_bd q L hq hq' k
    rw [sumTo, cnt]
    split <;> omega
theorem sum_whole {D P q r L C : Int} {N : Nat} (hS : (D - P) * q + r = C ∧ L = longOf r P ∧ (N : Int) = manyOf q D L) (h3 : 1 ≤ P) (h5 : P < D) (hr1 : r < D - P) :
    sumTo q L N = D * q + L := by
  obtain ⟨_, hL, hN⟩ := hS
  have hL0 : 0 ≤ L ∧ L ≤ D := by rw [hL]; unfold longOf; split <;> omega
  rw [sumTo_eq q L hL0.1 N]
  unfold manyOf at hN
  split at hN
  · rename_i h0
    rw [h0, if_pos (by omega)]; simp; omega
  · rw [hN]
    by_cases h : D ≤ L
    · rw [if_pos h]; omega
    · rw [if_neg h]
theorem fill_facts {D P q r L C : Int} {N : Nat} (hS : (D - P) * q + r = C ∧ L = longOf r P ∧ (N : Int) = manyOf q D L) (h1 : 2 ≤ D) (h2 : D ≤ 8) (h3 : 1 ≤ P) (h4 : P ≤ 3) (h5 : P < D) (h6 : 1 ≤ C) (h7 : C ≤ 32)
    (hr0 : 0 ≤ r) (hr1 : r < D - P) : 1 ≤ sumTo q L N ∧ sumTo q L N ≤ costOf D P C ∧ costOf D P C ≤ sumTo q L N + P ∧ sumTo q L N ≤ 200 := by
  rw [sum_whole hS h3 h5 hr1]
  obtain ⟨hc, hL, _⟩ := hS
  have hW : D - P = 1 ∨ D - P = 2 ∨ D - P = 3 ∨ D - P = 4 ∨ D - P = 5 ∨ D - P = 6 ∨ D - P = 7 := by omega
  have hP : P = 1 ∨ P = 2 ∨ P = 3 := by omega
  unfold costOf upTo
  unfold longOf at hL
  have hD : D = (D - P) + P := by omega
  rw [hD]
  rcases hP with rfl | rfl | rfl <;> rcases hW with h | h | h | h | h | h | h <;> simp only [h] at hc hr1 ⊢ <;> split at hL <;> omega
theorem once {D P q r L C a : Int} {N k : Nat} (hS : (D - P) * q + r = C ∧ L = longOf r P ∧ (N : Int) = manyOf q D L) (h1 : 2 ≤ D) (h2 : D ≤ 8) (h3 : 1 ≤ P) (h5 : P < D) (hq : 0 ≤ q)
    (hr0 : 0 ≤ r) (hr1 : r < D - P) (hk : (k : Int) < sumTo q L N) :
    ∃ i0 : Nat, i0 < N ∧ (a + i0) % D = (a + k) % D ∧ (a + i0) / D ≤ (a + k) / D ∧ (a + k) / D < (a + i0) / D + cnt q L i0 := by
  rw [sum_whole hS h3 h5 hr1] at hk
  obtain ⟨hc, hL, hN⟩ := hS
  have hL0 : 0 ≤ L ∧ L < D := by rw [hL]; unfold longOf; split <;> omega
  have hND : q = 0 → (N : Int) = L := fun h => by rw [hN, manyOf, if_pos h]
  have hND' : q ≠ 0 → (N : Int) = D := fun h => by rw [hN, manyOf, if_neg h]
  have hDD : D = 2 ∨ D = 3 ∨ D = 4 ∨ D = 5 ∨ D = 6 ∨ D = 7 ∨ D = 8 := by omega
  clear hc hr0 hr1 hN hL
  have hnq : q = 0 ∨ 1 ≤ q := by omega
  refine ⟨((k : Int) % D).toNat, ?_, ?_, ?_, ?_⟩
  · rcases hnq with h | h
    · have := hND h; subst h; rcases hDD with rfl | rfl | rfl | rfl | rfl | rfl | rfl <;> omega
    · have := hND' (by omega); rcases hDD with rfl | rfl | rfl | rfl | rfl | rfl | rfl <;> omega
  · rcases hDD with rfl | rfl | rfl | rfl | rfl | rfl | rfl <;> omega
  · rcases hDD with rfl | rfl | rfl | rfl | rfl | rfl | rfl <;> omega
  · unfold cnt
    rcases hDD with rfl | rfl | rfl | rfl | rfl | rfl | rfl <;> split <;> omega

/-- whether column i has the spot (x, t) -/
def hasSpot (D a q L x t : Int) (i : Nat) : Bool := ((a + i) % D == x) && (decide ((a + i) / D ≤ t) && decide (t < (a + i) / D + cnt q L i))
theorem hasSpot_iff {D a q L : Int} {N k i0 i : Nat} (hN : (N : Int) ≤ D) (hi0 : i0 < N) (h1 : (a + i0) % D = (a + k) % D) (h2 : (a + i0) / D ≤ (a + k) / D) (h3 : (a + k) / D < (a + i0) / D + cnt q L i0) (hi : i < N) :
    hasSpot D a q L ((a + k) % D) ((a + k) / D) i = (i == i0) := by
  by_cases h : i = i0
  · subst h
    simp [hasSpot, h1, h2, h3]
  · have : (i == i0) = false := by simp [h]
    rw [this]
    have hne : ((a + i) % D == (a + k) % D) = false := by
      rw [← h1]
      by_cases hl : i < i0
      · exact drives_apart hl (by omega)
      · have := drives_apart (a := a) (D := D) (k := i0) (i := i) (by omega) (by omega)
        rw [beq_eq_false_iff_ne] at this ⊢
        exact fun e => this e.symm
    simp [hasSpot, hne]

/-- how many of the first m columns have the spot -/
def foundTo (i0 m : Nat) : Int := if i0 < m then 1 else 0

set_option maxRecDepth 100000 in
set_option maxHeartbeats 4000000 in
theorem columnsFill (d p a c : Int) (w : World) :
    Calls Try.prog 6 #[.int .i64 d, .int .i64 p, .int .i64 a, .int .i64 c] w fun e w' => e = .returned (.bool true) ∧ Below w.heap.size w w' := by
  go_enter Try.func6, Try.ntmps6
  go_wp2_with fail
  refine (shape _ _ _).mono ?_
  rintro e w' ⟨D, P, hD0, hD1, hP0, hP1, hPD, rfl, rfl⟩
  go_wp2_with fail
  refine (picked _ _ _ (by omega) (by omega)).mono ?_; rintro e w' ⟨x, hx, hx0, hx1, rfl, rfl⟩
  go_wp2_with fail
  refine (picked _ _ _ (by omega) (by omega)).mono ?_; rintro e w' ⟨y, hy, hy0, hy1, rfl, rfl⟩
  go_wp2_with fail
  refine (columns2 D P x (1 + y) _ (by omega) (by omega) (by omega) (by omega) (by omega) (by omega) (by omega) (by omega) (by omega)).mono ?_
  rintro e w1 ⟨q, r, L, N, g, cap, hS, hq0, hq1, hr0, hr1, hL0, hL1, hPN, hND, hg, rfl, hrow1, hb1⟩
  go_wp2_with fail
  refine (cost D P (1 + y) _ (by omega) (by omega) (by omega) (by omega) (by omega) (by omega) (by omega)).mono ?_
  rintro e w2 ⟨C, hC, hC0, hC1, rfl, hb2⟩
  have hgw : g < w1.heap.size := by
    obtain ⟨h, _⟩ := hrow1.out 0 (by omega)
    exact World.block_lt_of_cell? _ _ h
  have hrow : Hid (ColRow D P x q L N g w2) := fun k hk => by
    obtain ⟨a0, a1, a2, a3⟩ := hrow1.out k hk
    exact ⟨(hb2.cell (p := ⟨g, k * 4, none⟩) hgw).trans a0, (hb2.cell (p := ⟨g, k * 4 + 1, none⟩) hgw).trans a1, (hb2.cell (p := ⟨g, k * 4 + 2, none⟩) hgw).trans a2, (hb2.cell (p := ⟨g, k * 4 + 3, none⟩) hgw).trans a3⟩
  have hb := Below_next hb1 hb2
  have hff := fill_facts hS.out hD0 hD1 hP0 hP1 hPD (by omega) (by omega) hr0 hr1
  rw [← hC.out] at hff
  obtain ⟨f1, f2, f3, f4⟩ := hff
  obtain ⟨T, hT⟩ : ∃ T, Hid (T = sumTo q L N) := ⟨_, rfl⟩
  rw [← hT.out] at f1 f2 f3 f4
  clear hb1 hb2 hrow1 hC
  go_wp2_with fail
  go_loopw [17, 18] (fun s i wr => ∃ k : Nat, k ≤ N ∧ i = .int .i64 k ∧ s = .int .i64 (sumTo q L k) ∧ wr = w2) (fun _ i _ => N - (intOf i).toNat)
  case atStart => exact ⟨0, by omega, rfl, rfl, rfl⟩
  case round =>
    obtain ⟨k, hk, rfl, rfl, rfl⟩ := hrel
    have hbd := sumTo_bd q L hq0 hq1 k
    by_cases hlt : k < N
    · obtain ⟨dv, cv, cz, hdv, hcv, c0, c2, c3, z2, b1, b2, b3, b4, b5, b6, b7, b8, b10, b11, b12⟩ := round_facts hrow.out hS.out hq0 hq1 (by omega) hlt (by omega) hP0
      clear b6 c3 c0 z2
      have hcv32 : cv ≤ 32 := by
        rw [hcv.out, cnt]
        obtain ⟨s1, s2, s3⟩ := hS.out
        split
        · by_cases h : q = 32
          · subst h
            exfalso
            have : (1 : Int) * 32 ≤ (D - P) * 32 := Int.mul_le_mul_of_nonneg_right (by omega) (by omega)
            have hr : r = 0 := by omega
            rw [hr, longOf, if_neg (by omega)] at s2
            omega
          · omega
        · omega
      have hds : sumTo q L (k + 1) = sumTo q L k + cv := by rw [hcv.out]; rfl
      have HDS := Lib.hid hds
      clear hds
      go_wp2
      go_roundw
      case rel => exact ⟨k + 1, by omega, by go_num, by rw [HDS.out]; exact ⟨rfl, trivial⟩⟩
      case measure => simp [intOf]; omega
    · obtain rfl : k = N := by omega
      rw [← hT.out]
      clear hbd
      go_wp2_with fail
      go_loopw [19] (fun i wx => ∃ k : Nat, (k : Int) ≤ T ∧ i = .int .i64 k ∧ ∃ n, wx = wr.drewN n) (fun i _ => (T - intOf i).toNat)
      case atStart => exact ⟨0, by omega, rfl, 0, rfl⟩
      case round =>
        obtain ⟨j, hj, rfl, n1, rfl⟩ := hrel
        by_cases hjT : (j : Int) < T
        · obtain ⟨i0, o1, o2, o3, o4⟩ := once (k := j) (a := x) hS.out hD0 hD1 hP0 hPD hq0 hr0 hr1 (by rw [← hT.out]; exact hjT)
          have hspot := fun (i : Nat) (hi : i < k) => hasSpot_iff (q := q) (L := L) hND o1 o2 o3 o4 hi
          have HS := Lib.hid hspot
          clear hspot o2 o3 o4
          go_wp2_with fail
          refine (spot _ _ _ (by omega) (by omega) (by omega) (by omega)).mono ?_; rintro e w' ⟨sx, st, hst, hi0, hi1, hm0, hm1, rfl, k1, rfl⟩
          go_wp2_with fail
          go_loopw [23, 24] (fun f i wx => ∃ m : Nat, m ≤ k ∧ i = .int .i64 m ∧ f = .int .i64 (foundTo i0 m) ∧ ∃ n, wx = wr.drewN n) (fun _ i _ => k - (intOf i).toNat)
          case atStart => exact ⟨0, by omega, rfl, rfl, _, rfl⟩
          case round =>
            obtain ⟨m, hm, rfl, rfl, n2, rfl⟩ := hrel
            have hf0 : 0 ≤ foundTo i0 m ∧ foundTo i0 m ≤ 1 := by unfold foundTo; split <;> omega
            by_cases hmk : m < k
            · obtain ⟨e0, e1, e2, _⟩ := hrow.out m (by omega)
              obtain ⟨dv, hdv⟩ : ∃ dv, Hid (dv = (x + m) % D) := ⟨_, rfl⟩
              obtain ⟨av, hav⟩ : ∃ av, Hid (av = (x + m) / D) := ⟨_, rfl⟩
              obtain ⟨cv, hcv⟩ : ∃ cv, Hid (cv = cnt q L m) := ⟨_, rfl⟩
              have e0' : wr.cell? ⟨g, m * 4, none⟩ = some (.int .i64 dv) := by rw [hdv.out]; exact e0
              have e1' : wr.cell? ⟨g, m * 4 + 1, none⟩ = some (.int .i64 av) := by rw [hav.out]; exact e1
              have e2' : wr.cell? ⟨g, m * 4 + 2, none⟩ = some (.int .i64 cv) := by rw [hcv.out]; exact e2
              clear e0 e1 e2
              have hcb : 0 ≤ cv ∧ cv ≤ 33 := by rw [hcv.out, cnt]; split <;> omega
              have hab : 0 ≤ av ∧ av ≤ 70000 := by
                rw [hav.out]
                have := Int.ediv_le_self (a := x + m) D (by omega)
                exact ⟨Int.ediv_nonneg (by omega) (by omega), by omega⟩
              have hh := HS.out m hmk
              unfold hasSpot at hh
              rw [← hdv.out, ← hav.out, ← hcv.out, ← (hst.out).1, ← (hst.out).2] at hh
              have HH := Lib.hid hh
              clear hh
              cases h1 : (dv == sx)
              · have hfn : foundTo i0 (m + 1) = foundTo i0 m := by
                  have := HH.out; rw [h1] at this; simp at this
                  unfold foundTo
                  by_cases h : i0 < m
                  · rw [if_pos h, if_pos (by omega)]
                  · rw [if_neg h, if_neg (by omega)]
                have HF := Lib.hid hfn
                clear hfn
                go_wp2
                go_quiet (fail)
                go_wp2
                go_roundw
                case rel => exact ⟨m + 1, by omega, by go_num, by rw [HF.out], _, by first | rfl | exact World.drewN_drewN _ _ _⟩
                case measure => simp [intOf]; omega
              · cases h2 : decide (av ≤ st)
                · have hfn : foundTo i0 (m + 1) = foundTo i0 m := by
                    have := HH.out; rw [h1, h2] at this; simp at this
                    unfold foundTo
                    by_cases h : i0 < m
                    · rw [if_pos h, if_pos (by omega)]
                    · rw [if_neg h, if_neg (by omega)]
                  have HF := Lib.hid hfn
                  clear hfn
                  go_wp2
                  go_quiet (fail)
                  go_wp2
                  go_roundw
                  case rel => exact ⟨m + 1, by omega, by go_num, by rw [HF.out], _, by first | rfl | exact World.drewN_drewN _ _ _⟩
                  case measure => simp [intOf]; omega
                · cases h3 : decide (st < av + cv)
                  · have hfn : foundTo i0 (m + 1) = foundTo i0 m := by
                      have := HH.out; rw [h1, h2, h3] at this; simp at this
                      unfold foundTo
                      by_cases h : i0 < m
                      · rw [if_pos h, if_pos (by omega)]
                      · rw [if_neg h, if_neg (by omega)]
                    have HF := Lib.hid hfn
                    clear hfn
                    go_wp2
                    go_quiet (fail)
                    go_wp2
                    go_roundw
                    case rel => exact ⟨m + 1, by omega, by go_num, by rw [HF.out], _, by first | rfl | exact World.drewN_drewN _ _ _⟩
                    case measure => simp [intOf]; omega
                  · have hfn : foundTo i0 (m + 1) = foundTo i0 m + 1 := by
                      have := HH.out; rw [h1, h2, h3] at this; simp at this
                      unfold foundTo
                      rw [if_pos (by omega), if_neg (by omega)]; rfl
                    have HF := Lib.hid hfn
                    clear hfn
                    go_wp2
                    go_quiet (fail)
                    go_wp2
                    go_roundw
                    case rel => exact ⟨m + 1, by omega, by go_num, by rw [HF.out], _, by first | rfl | exact World.drewN_drewN _ _ _⟩
                    case measure => simp [intOf]; omega
            · obtain rfl : m = k := by omega
              have hf1 : foundTo i0 m = 1 := by unfold foundTo; rw [if_pos o1]
              clear hf0
              rw [hf1]
              go_wp2
              go_roundw
              case rel => exact ⟨j + 1, by omega, by go_num, _, rfl⟩
              case measure => simp [intOf]; omega
        · go_wp2
          go_ret
          exact ⟨rfl, below_drewN hb _⟩
end Go.Proofs.Ytjnheahhlopbfaa
