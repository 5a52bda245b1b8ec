/- The laws GfInverse and GfField, walked. -/
import Derived.Test.YtkfjkdonbmjniaaGfX
namespace Go.Proofs.Ytkfjkdonbmjniaa
open Go.RowKit
set_option linter.unusedVariables false

set_option maxRecDepth 100000 in
set_option maxHeartbeats 2000000 in
theorem gfInverse (a b : Int) (w : World) :
    Calls Try.prog 5 #[.int .i64 a, .int .i64 b] w fun e w' => e = .returned (.bool true) ∧ Below w.heap.size w w' := by
  go_enter Try.func5, Try.ntmps5
  go_wp2_with fail
  refine (picked _ _ _ (by omega) (by omega)).mono ?_; rintro e w' ⟨x, hx, hx0, hx1, rfl, rfl⟩
  go_wp2_with fail
  refine (picked _ _ _ (by omega) (by omega)).mono ?_; rintro e w' ⟨y, hy, hy0, hy1, rfl, rfl⟩
  go_wp2_with fail
  refine (divG _ _ _ (by omega) (by omega)).mono ?_; rintro e w1 ⟨q, hq, hq0, hq1, rfl, b1⟩
  go_wp2_with fail
  refine (invG _ _ (by omega)).mono ?_; rintro e w2 ⟨i, hi, hi0, hi1, rfl, b2⟩
  have b2 := Below_next b1 b2
  go_wp2_with fail
  refine (invZ _).mono ?_; rintro e w3 ⟨rfl, b3⟩
  have b3 := Below_next b2 b3
  go_wp2_with fail
  refine (mulK _ _ _ (by omega) (by omega)).mono ?_; rintro e w4 ⟨u, hu, hu0, hu1, rfl, b4⟩
  have b4 := Below_next b3 b4
  have i1 := inv_mul (a := (1 + y).toNat) (by omega) (by omega)
  have il := ginv_lt (a := (1 + y).toNat) (by omega)
  have e1 : (u == x) = true := by
    have : u = x := by
      rw [hu.out, hq.out, Int.toNat_natCast, gmul_assoc _ (by omega) il, i1, mul_one]; omega
    simp [this]
  go_wp2_with fail
  refine (mulK _ _ _ (by omega) (by omega)).mono ?_; rintro e w5 ⟨v, hv, hv0, hv1, rfl, b5⟩
  have b5 := Below_next b4 b5
  obtain rfl : v = 1 := by rw [hv.out, hi.out, Int.toNat_natCast, i1]; rfl
  go_wp2_with fail
  refine (mulK _ _ _ (by omega) (by omega)).mono ?_; rintro e w6 ⟨t, ht, ht0, ht1, rfl, b6⟩
  have b6 := Below_next b5 b6
  have e2 : (q == t) = true := by
    have : q = t := by rw [hq.out, ht.out, hi.out, Int.toNat_natCast]
    simp [this]
  go_wp2_with fail
  refine (mulK _ _ _ (by omega) (by omega)).mono ?_; rintro e w7 ⟨s, hs, hs0, hs1, rfl, b7⟩
  have b7 := Below_next b6 b7
  have e3 : (s == 0) = (x == 0) := by
    have h := mul_eq_zero (a := x.toNat) (b := (1 + y).toNat) (by omega) (by omega)
    have h1 := hs.out
    rw [Bool.eq_iff_iff]
    simp
    omega
  go_wp2_with fail
  all_goals (go_ret; exact ⟨by simp [*], b7⟩)

set_option maxRecDepth 100000 in
set_option maxHeartbeats 2000000 in
theorem gfField (a b c : Int) (w : World) :
    Calls Try.prog 3 #[.int .i64 a, .int .i64 b, .int .i64 c] w fun e w' => e = .returned (.bool true) ∧ Below w.heap.size w w' := by
  go_enter Try.func3, Try.ntmps3
  go_wp2_with fail
  refine (picked _ _ _ (by omega) (by omega)).mono ?_; rintro e w' ⟨x, hx, hx0, hx1, rfl, rfl⟩
  go_wp2_with fail
  refine (picked _ _ _ (by omega) (by omega)).mono ?_; rintro e w' ⟨y, hy, hy0, hy1, rfl, rfl⟩
  go_wp2_with fail
  refine (picked _ _ _ (by omega) (by omega)).mono ?_; rintro e w' ⟨z, hz, hz0, hz1, rfl, rfl⟩
  have lx : x.toNat < 256 := by omega
  have ly : y.toNat < 256 := by omega
  have lz : z.toNat < 256 := by omega
  go_wp2_with fail
  refine (mulK _ _ _ (by omega) (by omega)).mono ?_; rintro e w1 ⟨xy, hxy, xy0, xy1, rfl, b1⟩
  go_wp2_with fail
  refine (mulK _ _ _ (by omega) (by omega)).mono ?_; rintro e w2 ⟨yx, hyx, yx0, yx1, rfl, b2⟩
  have b2 := Below_next b1 b2
  have e1 : (xy != yx) = false := by
    have : xy = yx := by rw [hxy.out, hyx.out, gmul_comm lx ly]
    simp [this]
  go_wp2_with fail
  refine (mulK _ _ _ (by omega) (by omega)).mono ?_; rintro e w3 ⟨x1, hx1, x10, x11, rfl, b3⟩
  have b3 := Below_next b2 b3
  have e2 : (x1 != x) = false := by
    have : x1 = x := by rw [hx1.out, show (1 : Int).toNat = 1 from rfl, mul_one]; omega
    simp [this]
  go_wp2_with fail
  refine (addK _ _ _ (by omega) (by omega)).mono ?_; rintro e w4 ⟨xx, hxx, xx0, xx1, rfl, b4⟩
  have b4 := Below_next b3 b4
  obtain rfl : xx = 0 := by rw [hxx.out]; simp
  go_wp2_with fail
  refine (addK _ _ _ (by omega) (by omega)).mono ?_; rintro e w5 ⟨xo, hxo, xo0, xo1, rfl, b5⟩
  have b5 := Below_next b4 b5
  have e3 : (xo != x) = false := by
    have : xo = x := by rw [hxo.out]; simp; omega
    simp [this]
  go_wp2_with fail
  refine (mulK _ _ _ (by omega) (by omega)).mono ?_; rintro e w6 ⟨yz, hyz, yz0, yz1, rfl, b6⟩
  have b6 := Below_next b5 b6
  go_wp2_with fail
  refine (addK _ _ _ (by omega) (by omega)).mono ?_; rintro e w7 ⟨s, hs, s0, s1, rfl, b7⟩
  have b7 := Below_next b6 b7
  go_wp2_with fail
  refine (mulK _ _ _ (by omega) (by omega)).mono ?_; rintro e w8 ⟨xz, hxz, xz0, xz1, rfl, b8⟩
  have b8 := Below_next b7 b8
  go_wp2_with fail
  refine (mulK _ _ _ (by omega) (by omega)).mono ?_; rintro e w9 ⟨l, hl, l0, l1, rfl, b9⟩
  have b9 := Below_next b8 b9
  go_wp2_with fail
  refine (mulK _ _ _ (by omega) (by omega)).mono ?_; rintro e w10 ⟨r, hr, r0, r1, rfl, b10⟩
  have b10 := Below_next b9 b10
  have e4 : (l == r) = true := by
    have : l = r := by rw [hl.out, hr.out, hxy.out, hyz.out, Int.toNat_natCast, Int.toNat_natCast, gmul_assoc _ lx ly]
    simp [this]
  go_wp2_with fail
  refine (mulK _ _ _ (by omega) (by omega)).mono ?_; rintro e w11 ⟨u, hu, u0, u1, rfl, b11⟩
  have b11 := Below_next b10 b11
  go_wp2_with fail
  refine (addK _ _ _ (by omega) (by omega)).mono ?_; rintro e w12 ⟨v, hv, v0, v1, rfl, b12⟩
  have b12 := Below_next b11 b12
  have e5 : (u == v) = true := by
    have : u = v := by rw [hu.out, hv.out, hs.out, hxy.out, hxz.out, Int.toNat_natCast, Int.toNat_natCast, Int.toNat_natCast, gmul_xor_r lx ly lz]
    simp [this]
  go_wp2_with fail
  all_goals (go_ret; exact ⟨by simp [*], b12⟩)
end Go.Proofs.Ytkfjkdonbmjniaa
