/- The law CombPascal, walked. -/
import Derived.Test.YtjnheahhlopbfaaCombW
namespace Go.Proofs.Ytjnheahhlopbfaa
open Go.RowKit
set_option linter.unusedVariables false

theorem count_int (n k : Int) (w : World) (h0 : 0 ≤ k) (hk : k ≤ n) (hn : n ≤ 12) : Calls Try.prog 25 #[.int .i64 n, .int .i64 k] w (Counts (pas n.toNat k.toNat) w) := by
  obtain ⟨k, rfl⟩ := Int.eq_ofNat_of_zero_le h0
  obtain ⟨n, rfl⟩ := Int.eq_ofNat_of_zero_le (show 0 ≤ n by omega)
  exact count n k w (by omega) (by omega)

set_option maxRecDepth 100000 in
set_option maxHeartbeats 1000000 in
theorem combPascal (n k : Int) (w : World) :
    Calls Try.prog 11 #[.int .i64 n, .int .i64 k] w fun e w' => e = .returned (.bool true) ∧ w = w' := by
  go_enter Try.func11, Try.ntmps11
  go_wp2_with fail
  refine (picked _ _ _ (by omega) (by omega)).mono ?_; rintro e w' ⟨r, hr, hr0, hr1, rfl, rfl⟩
  go_wp2_with fail
  refine (picked _ _ _ (by omega) (by omega)).mono ?_; rintro e w' ⟨j, hj, hj0, hj1, rfl, rfl⟩
  go_wp2_with fail
  refine (count_int _ _ _ (by omega) (by omega) (by omega)).mono ?_; rintro e w' ⟨c, hc, hc0, hc1, rfl, rfl⟩
  go_wp2_with fail
  refine (count_int _ _ _ (by omega) (by omega) (by omega)).mono ?_; rintro e w' ⟨d, hd, hd0, hd1, rfl, rfl⟩
  have hcd : c = d := by
    rw [hc.out, hd.out, pas_sym (show (1 + r).toNat ≤ 12 by omega) (show j.toNat ≤ (1 + r).toNat by omega)]
    congr 2; omega
  subst hcd
  have hcp : 1 ≤ c := by
    have := pas_pos (show (1 + r).toNat ≤ 12 by omega) (show j.toNat ≤ (1 + r).toNat by omega)
    rw [hc.out]; omega
  by_cases hj00 : j = 0
  · subst hj00
    have h1 : c = 1 := by rw [hc.out]; simp [pas_zero]
    subst h1
    go_wp2_with fail
    go_ret
    exact ⟨rfl, rfl⟩
  · by_cases hjm : j = 1 + r
    · have h1 : c = 1 := by
        rw [hd.out, hjm, Int.sub_self]; simp [pas_zero]
      subst h1
      have b1 : (j == 0) = false := by simp [hj00]
      have b2 : (j == 1 + r) = true := by simp [hjm]
      clear hjm hj00
      go_wp2_with fail
      go_ret
      exact ⟨rfl, rfl⟩
    · have b1 : (j == 0) = false := by simp [hj00]
      have b2 : (j == 1 + r) = false := by simp [hjm]
      go_wp2_with fail
      refine (count_int _ _ _ (by omega) (by omega) (by omega)).mono ?_; rintro e w' ⟨a, ha, ha0, ha1, rfl, rfl⟩
      go_wp2_with fail
      refine (count_int _ _ _ (by omega) (by omega) (by omega)).mono ?_; rintro e w' ⟨b, hb, hb0, hb1, rfl, rfl⟩
      have p1 := pas_pos (show (1 + r - 1).toNat ≤ 12 by omega) (show (j - 1).toNat ≤ (1 + r - 1).toNat by omega)
      have p2 := pas_pos (show (1 + r - 1).toNat ≤ 12 by omega) (show j.toNat ≤ (1 + r - 1).toNat by omega)
      have q1 : 0 < a := by rw [ha.out]; omega
      have q2 : 0 < b := by rw [hb.out]; omega
      have q3 : c = a + b := by
        have := pas_succ (1 + r - 1).toNat (j - 1).toNat
        rw [show (1 + r - 1).toNat + 1 = (1 + r).toNat by omega, show (j - 1).toNat + 1 = j.toNat by omega] at this
        rw [hc.out, ha.out, hb.out, this]; omega
      have q4 : (c == a + b) = true := by simp [q3]
      clear q3 p1 p2
      go_wp2_with fail
      go_ret
      exact ⟨rfl, rfl⟩
end Go.Proofs.Ytjnheahhlopbfaa
