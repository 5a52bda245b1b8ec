/- The laws GfPowers, GfLogBack, GfInverse, walked. -/
import Derived.Test.YtkfjkdonbmjniaaGfX
namespace Go.Proofs.Ytkfjkdonbmjniaa
open Go.RowKit
set_option linter.unusedVariables false

set_option maxRecDepth 100000 in
set_option maxHeartbeats 2000000 in
theorem gfPowers (a m n : Int) (w : World) :
    Calls Try.prog 4 #[.int .i64 a, .int .i64 m, .int .i64 n] w fun e w' => e = .returned (.bool true) ∧ Below w.heap.size w w' := by
  go_enter Try.func4, Try.ntmps4
  go_wp2_with fail
  refine (picked _ _ _ (by omega) (by omega)).mono ?_; rintro e w' ⟨x, hx, hx0, hx1, rfl, rfl⟩
  go_wp2_with fail
  refine (picked _ _ _ (by omega) (by omega)).mono ?_; rintro e w' ⟨i, hi, hi0, hi1, rfl, rfl⟩
  go_wp2_with fail
  refine (picked _ _ _ (by omega) (by omega)).mono ?_; rintro e w' ⟨k, hk, hk0, hk1, rfl, rfl⟩
  go_wp2_with fail
  refine (powG _ _ _ (by omega) (by omega)).mono ?_; rintro e w1 ⟨p, hp, hp0, hp1, rfl, b1⟩
  go_wp2_with fail
  refine (powG _ _ _ (by omega) (by omega)).mono ?_; rintro e w2 ⟨q, hq, hq0, hq1, rfl, b2⟩
  have b2 := Below_next b1 b2
  go_wp2_with fail
  refine (powG _ _ _ (by omega) (by omega)).mono ?_; rintro e w3 ⟨r, hr, hr0, hr1, rfl, b3⟩
  have b3 := Below_next b2 b3
  go_wp2_with fail
  refine (expG _ _ (by omega)).mono ?_; rintro e w4 ⟨o, ho, ho0, ho1, rfl, b4⟩
  have b4 := Below_next b3 b4
  obtain rfl : o = 1 := by rw [ho.out]; rfl
  go_wp2_with fail
  refine (mulK _ _ _ (by omega) (by omega)).mono ?_; rintro e w5 ⟨v, hv, hv0, hv1, rfl, b5⟩
  have b5 := Below_next b4 b5
  have e : (v == r) = true := by
    rw [hv.out, hr.out, hp.out, hq.out, Int.toNat_natCast, Int.toNat_natCast, show (i + k).toNat = i.toNat + k.toNat by omega, gpow_add (by omega)]
    simp
  go_wp2_with fail
  go_ret
  exact ⟨rfl, b5⟩

set_option maxRecDepth 100000 in
set_option maxHeartbeats 2000000 in
theorem gfLogBack (a b : Int) (w : World) :
    Calls Try.prog 6 #[.int .i64 a, .int .i64 b] w fun e w' => e = .returned (.bool true) ∧ Below w.heap.size w w' := by
  go_enter Try.func6, Try.ntmps6
  go_wp2_with fail
  refine (picked _ _ _ (by omega) (by omega)).mono ?_; rintro e w' ⟨x, hx, hx0, hx1, rfl, rfl⟩
  go_wp2_with fail
  refine (picked _ _ _ (by omega) (by omega)).mono ?_; rintro e w' ⟨y, hy, hy0, hy1, rfl, rfl⟩
  go_wp2_with fail
  refine (logG _ _ (by omega)).mono ?_; rintro e w1 ⟨m, hm, hm0, hm1, rfl, b1⟩
  go_wp2_with fail
  refine (logG _ _ (by omega)).mono ?_; rintro e w2 ⟨n, hn, hn0, hn1, rfl, b2⟩
  have b2 := Below_next b1 b2
  go_wp2_with fail
  refine (expG _ _ (by omega)).mono ?_; rintro e w3 ⟨p, hp, hp0, hp1, rfl, b3⟩
  have b3 := Below_next b2 b3
  go_wp2_with fail
  refine (mulK _ _ _ (by omega) (by omega)).mono ?_; rintro e w4 ⟨v, hv, hv0, hv1, rfl, b4⟩
  have b4 := Below_next b3 b4
  have v1 : 1 ≤ v := by
    have : gmul (1 + x).toNat (1 + y).toNat ≠ 0 := by
      rw [ne_eq, mul_eq_zero (by omega) (by omega)]; omega
    rw [hv.out]; omega
  go_wp2_with fail
  refine (logG _ _ (by omega)).mono ?_; rintro e w5 ⟨l, hl, hl0, hl1, rfl, b5⟩
  have b5 := Below_next b4 b5
  have e1 : (p == 1 + x) = true := by
    have : p = 1 + x := by
      rw [hp.out, hm.out, Int.toNat_natCast, twos_glog (by omega) (by omega)]; omega
    simp [this]
  have e2 : l = (m + n) % 255 := by
    rw [hl.out, hv.out, Int.toNat_natCast, log_mul (by omega) (by omega) (by omega) (by omega), hm.out, hn.out]; omega
  have e3 : (l == (m + n) % 255) = true := by simp [e2]
  clear e2
  go_wp2_with fail
  go_ret
  exact ⟨rfl, b5⟩
end Go.Proofs.Ytkfjkdonbmjniaa
