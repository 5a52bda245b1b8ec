/- The law ColumnsApart, walked. -/
import Derived.Test.YtjnheahhlopbfaaGeomL
namespace Go.Proofs.Ytjnheahhlopbfaa
open Go.RowKit

def cnt (q L : Int) (k : Nat) : Int := if (k : Int) < L then q + 1 else q
def dataTo (P q L : Int) : Nat → Int
  | 0 => 0
  | k + 1 => dataTo P q L k + if (k : Int) < P then 0 else cnt q L k
theorem dataTo_eq (P q L : Int) (hP : 0 ≤ P) (hL : P ≤ L ∨ L ≤ 0) : ∀ k : Nat, (k : Int) ≤ P → dataTo P q L k = 0
  | 0, _ => rfl
  | k + 1, h => by
    rw [dataTo, dataTo_eq P q L hP hL k (by omega), if_pos (by omega)]
    rfl
theorem dataTo_big (P q L : Int) (hP : 0 ≤ P) (hL : P ≤ L ∨ L ≤ 0) : ∀ k : Nat, P ≤ (k : Int) → dataTo P q L k = (k - P) * q + (if L ≤ 0 then 0 else if (k : Int) ≤ L then k - P else L - P)
  | 0, h => by
    have : P = 0 := by omega
    subst this
    rw [dataTo, show ((0 : Nat) : Int) - 0 = 0 from rfl, Int.zero_mul]
    by_cases a : L ≤ 0
    · rw [if_pos a]; rfl
    · rw [if_neg a, if_pos (by omega)]; rfl
  | k + 1, h => by
    by_cases hk : P ≤ (k : Int)
    · have e : ((k + 1 : Nat) : Int) - P = (k - P) + 1 := by omega
      rw [dataTo, dataTo_big P q L hP hL k hk, if_neg (show ¬ (k : Int) < P by omega), e, Int.add_mul, cnt]
      generalize ((k : Int) - P) * q = z
      by_cases a : L ≤ 0
      · rw [if_pos a, if_neg (by omega)]; omega
      · rw [if_neg a, if_neg a]
        by_cases b : (k : Int) < L
        · rw [if_pos (show (k : Int) ≤ L by omega), if_pos b, if_pos (by omega)]; omega
        · rw [if_neg b, if_neg (show ¬ ((k + 1 : Nat) : Int) ≤ L by omega)]
          by_cases c : (k : Int) ≤ L
          · rw [if_pos c]; omega
          · rw [if_neg c]; omega
    · have e : ((k + 1 : Nat) : Int) = P := by omega
      rw [dataTo_eq P q L hP hL (k + 1) (by omega), e, Int.sub_self, Int.zero_mul]
      by_cases a : L ≤ 0
      · rw [if_pos a]; rfl
      · rw [if_neg a, if_pos (by omega)]; rfl
theorem dataTo_bd (P q L : Int) (hq : 0 ≤ q) (hq' : q ≤ 32) : ∀ k : Nat, 0 ≤ dataTo P q L k ∧ dataTo P q L k ≤ 33 * k
  | 0 => by simp [dataTo]
  | k + 1 => by
    have := dataTo_bd P q L hq hq' k
    rw [dataTo, cnt]
    split
    · omega
    · split <;> omega

theorem data_whole (D P c q r L N : Int) (n : Nat) (hn : N = n) (hP : 1 ≤ P) (hc : (D - P) * q + r = c) (hL : L = longOf r P) (hN : N = manyOf q D L) (hr0 : 0 ≤ r) (hr1 : r < D - P) (hPN : P < N) : dataTo P q L n = c := by
  rw [dataTo_big P q L (by omega) (by rw [hL]; unfold longOf; split <;> omega) n (by omega), ← hn]
  unfold manyOf at hN
  split at hN
  · rename_i h0
    subst h0
    rw [Int.mul_zero] at hc
    simp
    rw [if_neg (by omega), if_pos (by omega)]
    unfold longOf at hL
    split at hL <;> omega
  · rw [hN]
    unfold longOf at hL
    split at hL
    · rw [if_neg (by omega)]
      split <;> omega
    · rw [if_pos (by omega)]; omega

theorem drives_apart {a D : Int} {k i : Nat} (hki : k < i) (hi : (i : Int) < D) : ((a + k) % D == (a + i) % D) = false := by
  simp
  intro h
  have h2 := Int.emod_eq_emod_iff_emod_sub_eq_zero.1 h
  have h3 : (a + k) - (a + i) = -((i : Int) - k) := by omega
  rw [h3] at h2
  have h4 := Int.dvd_of_emod_eq_zero h2
  rw [Int.dvd_neg] at h4
  have := Int.le_of_dvd (by omega) h4
  omega

theorem round_facts {D P x q L r C : Int} {N g k : Nat} {w1 : World} (hrow : ColRow D P x q L N g w1) (hS : (D - P) * q + r = C ∧ L = longOf r P ∧ (N : Int) = manyOf q D L) (hq : 0 ≤ q) (hq' : q ≤ 32) (hD : 0 < D) (hk : k < N) (hr : 0 ≤ r) (hP : 1 ≤ P) :
    ∃ dv cv cz : Int, Hid (dv = (x + k) % D) ∧ Hid (cv = cnt q L k) ∧ w1.cell? ⟨g, k * 4, none⟩ = some (.int .i64 dv) ∧ w1.cell? ⟨g, k * 4 + 2, none⟩ = some (.int .i64 cv) ∧ w1.cell? ⟨g, k * 4 + 3, none⟩ = some (.bool (decide ((k : Int) < P))) ∧
      w1.cell? ⟨g, 2, none⟩ = some (.int .i64 cz) ∧ decide (dv < 0) = false ∧ decide (D ≤ dv) = false ∧ decide (cv < 1) = false ∧ decide (cz < cv) = false ∧ decide (1 < cz - cv) = false ∧ ((k : Int) < P → (cv != cz) = false) ∧ cz ≤ q + 1 ∧ 1 ≤ cv ∧ cv ≤ cz ∧ cz - cv ≤ 1 ∧ cv ≤ 33 := by
  obtain ⟨c0, _, c2, c3⟩ := hrow k (by omega)
  obtain ⟨_, _, z2, _⟩ := hrow 0 (by omega)
  have h1 := Int.emod_nonneg (x + k) (b := D) (by omega)
  have h2 := Int.emod_lt_of_pos (x + k) hD
  have hcz : (cnt q L 0) = if (0 : Int) < L then q + 1 else q := rfl
  have hck : (cnt q L k) = if (k : Int) < L then q + 1 else q := rfl
  have hLr : L = 0 ∨ L = r + P := by rw [hS.2.1]; unfold longOf; split <;> omega
  have hk1 : 1 ≤ cnt q L k := by
    rw [hck]
    have := hS.2.2
    unfold manyOf at this
    split at this
    · rw [if_pos (by omega)]; omega
    · split <;> omega
  refine ⟨_, _, cnt q L 0, rfl, rfl, c0, c2, c3, ?_, ?_, ?_, ?_, ?_, ?_, ?_, ?_, hk1, ?_, ?_, ?_⟩
  · rw [Nat.zero_mul, Nat.zero_add] at z2; exact z2
  · simp; omega
  · simp; omega
  · simp; omega
  · simp; rw [hcz, hck]; split <;> split <;> omega
  · simp; rw [hcz, hck]; split <;> split <;> omega
  · intro hkP; simp; rw [hcz, hck]; split <;> split <;> omega
  · rw [hcz]; split <;> omega
  · rw [hcz, hck]; split <;> split <;> omega
  · rw [hcz, hck]; split <;> split <;> omega
  · rw [hck]; split <;> omega

set_option maxRecDepth 100000 in
set_option maxHeartbeats 4000000 in
theorem columnsApart (d p a c : Int) (w : World) :
    Calls Try.prog 5 #[.int .i64 d, .int .i64 p, .int .i64 a, .int .i64 c] w fun e w' => e = .returned (.bool true) ∧ Below w.heap.size w w' := by
  go_enter Try.func5, Try.ntmps5
  go_wp2_with fail
  refine (shape _ _ _).mono ?_
  rintro e w' ⟨D, P, hD0, hD1, hP0, hP1, hPD, rfl, rfl⟩
  go_wp2_with fail
  refine (picked _ _ _ (by omega) (by omega)).mono ?_; rintro e w' ⟨x, hx, hx0, hx1, rfl, rfl⟩
  go_wp2_with fail
  refine (picked _ _ _ (by omega) (by omega)).mono ?_; rintro e w' ⟨y, hy, hy0, hy1, rfl, rfl⟩
  go_wp2_with fail
  refine (columns2 D P x (1 + y) _ (by omega) (by omega) (by omega) (by omega) (by omega) (by omega) (by omega) (by omega) (by omega)).mono ?_
  rintro e w1 ⟨q, r, L, N, g, cap, hS, hq0, hq1, hr0, hr1, hL0, hL1, hPN, hND, hg, rfl, hrow, hb⟩
  have hdata := data_whole D P (1 + y) q r L N N rfl hP0 hS.out.1 hS.out.2.1 hS.out.2.2 hr0 hr1 hPN
  have HD := Lib.hid hdata
  clear hdata
  have d0 : decide ((N : Int) ≤ P) = false := by simp; omega
  have d1 : decide (D < (N : Int)) = false := by simp; omega
  go_wp2_with fail
  go_loopw [15, 16] (fun s i wr => ∃ k : Nat, k ≤ N ∧ i = .int .i64 k ∧ s = .int .i64 (dataTo P q L k) ∧ ∃ n, wr = w1.drewN n) (fun _ i _ => N - (intOf i).toNat)
  case atStart => exact ⟨0, by omega, rfl, rfl, 0, rfl⟩
  case round =>
    obtain ⟨k, hk, rfl, rfl, n, rfl⟩ := hrel
    have hbd := dataTo_bd P q L hq0 hq1 k
    by_cases hlt : k < N
    · obtain ⟨dv, cv, cz, hdv, hcv, c0, c2, c3, z2, b1, b2, b3, b4, b5, b6, b7, b8, b10, b11, b12⟩ := round_facts hrow.out hS.out hq0 hq1 (by omega) hlt (by omega) hP0
      have hk4 : ((k : Int) * 4).toNat = k * 4 := by omega
      have hds : dataTo P q L (k + 1) = dataTo P q L k + if (k : Int) < P then 0 else cv := by rw [hcv.out]; rfl
      by_cases hkP : (k : Int) < P
      all_goals
        try have b9 := b6 hkP
        first | (have hpb : decide ((k : Int) < P) = true := decide_eq_true hkP) | (have hpb : decide ((k : Int) < P) = false := decide_eq_false hkP)
        have B6 := Lib.hid b6
        clear b6
        first | rw [if_pos hkP] at hds | rw [if_neg hkP] at hds
        have HDS := Lib.hid hds
        clear hds
        go_wp2
        try simp only [List.append_eq, List.cons_append, List.nil_append]
        go_quiet (fail)
        go_wp2
        go_loopw [17] (fun i wr => ∃ m : Nat, m ≤ k ∧ i = .int .i64 m ∧ ∃ n, wr = w1.drewN n) (fun i _ => k - (intOf i).toNat)
        case atStart => exact ⟨0, by omega, rfl, _, World.drewN_drewN _ _ _⟩
        case round =>
          obtain ⟨m, hm, rfl, n3, rfl⟩ := hrel
          by_cases hmk : m < k
          · obtain ⟨em, hem⟩ : ∃ em, Hid (em = (x + m) % D) := ⟨_, rfl⟩
            obtain ⟨e0, _, _, _⟩ := hrow.out m (by omega)
            have e0' : w1.cell? ⟨g, m * 4, none⟩ = some (.int .i64 em) := by rw [hem.out]; exact e0
            clear e0
            have ne : (em == dv) = false := by rw [hem.out, hdv.out]; exact drives_apart hmk (by omega)
            go_wp2
            go_quiet (fail)
            go_wp2
            go_roundw
            case rel => exact ⟨m + 1, by omega, by go_num, _, by first | rfl | exact World.drewN_drewN _ _ _⟩
            case measure => simp [intOf]; omega
          · go_wp2
            go_roundw
            case rel => exact ⟨k + 1, by omega, by go_num, by rw [HDS.out]; try go_num, _, rfl⟩
            case measure => simp [intOf]; omega
    · obtain rfl : k = N := by omega
      have he : (dataTo P q L k == 1 + y) = true := by rw [HD.out]; simp
      go_wp2
      go_ret
      exact ⟨rfl, below_drewN hb _⟩
end Go.Proofs.Ytjnheahhlopbfaa
