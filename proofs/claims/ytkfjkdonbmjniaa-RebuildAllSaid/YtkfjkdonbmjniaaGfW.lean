/- The walks of the field's functions. -/
import Derived.Test.YtkfjkdonbmjniaaMem
import Derived.Test.YtkfjkdonbmjniaaBits
import Derived.Test.YtkfjkdonbmjniaaGfP
namespace Go.Proofs.Ytkfjkdonbmjniaa
open Go.RowKit
set_option linter.unusedVariables false

theorem andNot_nat : ∀ a : Fin 256, bits .andNot .i64 ((a.val : Nat) : Int) 255 = 0 := by decide +kernel
theorem andNot_byte {x : Int} (h0 : 0 ≤ x) (h1 : x ≤ 255) : bits .andNot .i64 x 255 = 0 := by
  obtain ⟨x, rfl⟩ := Int.eq_ofNat_of_zero_le h0
  exact andNot_nat ⟨x, by omega⟩

set_option maxHeartbeats 1000000 in
theorem bad2 (a b : Int) (g : Nat) (w : World) (t : TypeId) (ha : 0 ≤ a ∧ a ≤ 255) (hb : 0 ≤ b ∧ b ≤ 255) (h : Box w g #[.int .i64 a, .int .i64 b] t) :
    Calls Try.prog 40 #[.slice (some ⟨g, 0, none⟩) 2 2] w fun e w' => e = .returned (.bool false) ∧ w = w' := by
  have ea := andNot_byte ha.1 ha.2
  have eb := andNot_byte hb.1 hb.2
  have h0 : w.cell? ⟨g, 0, none⟩ = some (.int .i64 a) := h.cell 0
  have h1 : w.cell? ⟨g, 1, none⟩ = some (.int .i64 b) := h.cell 1
  clear h
  go_enter Try.func40, Try.ntmps40
  go_wp2_with fail
  refine wp_loop_rounds 3 ?_
  rw [rounds_succ]
  go_wp2_with fail
  rw [rounds_succ]
  go_wp2_with fail
  rw [rounds_succ]
  go_wp2_with fail
  go_ret
  exact ⟨rfl, rfl⟩

theorem and_one (b : Nat) (h : b < 256) : bits .and .i64 (b : Int) 1 = ((b % 2 : Nat) : Int) := by
  have := i64_and b 1 (by omega) (by omega)
  rw [Nat.and_one_is_mod] at this
  exact this
theorem xor_out (a b : Nat) (ha : a < 512) (hb : b < 512) : bits .xor .i64 (a : Int) (b : Int) = ((a ^^^ b : Nat) : Int) := i64_xor a b (by omega) (by omega)

theorem xt_over (a : Nat) (h : a < 256) (h2 : 255 < a * 2) : bits .xor .i64 ((a : Int) * 2) 285 = (xt a : Int) := by
  have := xor_out (2 * a) 285 (by omega) (by omega)
  rw [xt, if_pos (by omega), show (a : Int) * 2 = ((2 * a : Nat) : Int) by omega]
  exact this
theorem xt_under (a : Nat) (h2 : ¬ 255 < a * 2) : (a : Int) * 2 = (xt a : Int) := by
  rw [xt, if_neg (by omega)]; omega
theorem mul_step {f a b o r : Nat} (h : o ^^^ mulF (f + 1) a b = r) : (if b % 2 = 1 then o ^^^ a else o) ^^^ mulF f (xt a) (b / 2) = r := by
  rw [← h, mulF, ← Nat.xor_assoc]
  split <;> simp

def Times (r : Nat) (w : World) (e : Ending) (w' : World) : Prop := ∃ v : Int, Hid (v = (r : Int)) ∧ 0 ≤ v ∧ v ≤ 255 ∧ e = .returned (.int .i64 v) ∧ w = w'
set_option maxHeartbeats 1000000 in
theorem times (a b : Nat) (w : World) (ha : a < 256) (hb : b < 256) : Calls Try.prog 42 #[.int .i64 a, .int .i64 b] w (Times (gmul a b) w) := by
  go_enter Try.func42, Try.ntmps42
  go_wp2_with fail
  go_loop [0, 1, 5] (fun x y o => ∃ f a' b' o' : Nat, f ≤ 8 ∧ a' < 256 ∧ b' < 256 ∧ o' < 256 ∧ b' < 2 ^ f ∧ Hid (o' ^^^ mulF f a' b' = gmul a b) ∧ x = .int .i64 a' ∧ y = .int .i64 b' ∧ o = .int .i64 o') (fun _ y _ => (intOf y).toNat)
  case atStart => exact ⟨8, a, b, 0, by omega, ha, hb, by omega, hb, by show 0 ^^^ mulF 8 a b = gmul a b; simp [gmul], rfl, rfl, rfl⟩
  case round =>
    obtain ⟨f, a', b', o', hf, ha', hb', ho', hbf, H, rfl, rfl, rfl⟩ := hrel
    have e1 := and_one b' hb'
    by_cases h0 : b' = 0
    · subst h0
      have : o' = gmul a b := by
        have := H.out
        rw [mulF_zero_r] at this
        simpa using this
      go_wp2_with fail
      go_ret
      exact ⟨_, by rw [← this]; rfl, by omega, by omega, rfl, rfl⟩
    · obtain ⟨f, rfl⟩ : ∃ k, f = k + 1 := ⟨f - 1, by
        have : f ≠ 0 := by rintro rfl; simp at hbf; omega
        omega⟩
      have H2 := Lib.hid (mul_step H.out)
      clear H
      have hbf' : b' / 2 < 2 ^ f := by rw [Nat.pow_succ] at hbf; omega
      clear hbf
      have ho2 := xor_lt ho' ha'
      have hx := xt_lt' ha'
      by_cases h1 : b' % 2 = 1
      · have t1 : ((b' : Int) % 2 == 1) = true := by simp; omega
        by_cases h2 : 255 < a' * 2
        · go_wp2_with fail
          go_round
          case rel => exact ⟨f, xt a', b' / 2, o' ^^^ a', by omega, hx, by omega, ho2, hbf', by have := H2.out; rwa [if_pos h1] at this, by rw [xt_over a' ha' h2], by go_num, by rw [xor_out o' a' (by omega) (by omega)]⟩
          case measure => simp [intOf]; omega
        · go_wp2_with fail
          go_round
          case rel => exact ⟨f, xt a', b' / 2, o' ^^^ a', by omega, hx, by omega, ho2, hbf', by have := H2.out; rwa [if_pos h1] at this, by rw [xt_under a' h2], by go_num, by rw [xor_out o' a' (by omega) (by omega)]⟩
          case measure => simp [intOf]; omega
      · have t1 : ((b' : Int) % 2 == 1) = false := by simp; omega
        by_cases h2 : 255 < a' * 2
        · go_wp2_with fail
          go_round
          case rel => exact ⟨f, xt a', b' / 2, o', by omega, hx, by omega, ho', hbf', by have := H2.out; rwa [if_neg h1] at this, by rw [xt_over a' ha' h2], by go_num, rfl⟩
          case measure => simp [intOf]; omega
        · go_wp2_with fail
          go_round
          case rel => exact ⟨f, xt a', b' / 2, o', by omega, hx, by omega, ho', hbf', by have := H2.out; rwa [if_neg h1] at this, by rw [xt_under a' h2], by go_num, rfl⟩
          case measure => simp [intOf]; omega

theorem times_int (a b : Int) (w : World) (ha : 0 ≤ a ∧ a ≤ 255) (hb : 0 ≤ b ∧ b ≤ 255) : Calls Try.prog 42 #[.int .i64 a, .int .i64 b] w (Times (gmul a.toNat b.toNat) w) := by
  obtain ⟨a, rfl⟩ := Int.eq_ofNat_of_zero_le ha.1
  obtain ⟨b, rfl⟩ := Int.eq_ofNat_of_zero_le hb.1
  exact times a b w (by omega) (by omega)

/-! ### powers -/
theorem pow_step {a n : Nat} (ha : a < 256) {o : Nat} (ho : o < 256) : gmul (if n % 2 = 1 then gmul o a else o) (gpow (gmul a a) (n / 2)) = gmul o (gpow a n) := by
  rw [gpow_sq ha]
  by_cases h : n % 2 = 1
  · rw [if_pos h, gmul_assoc _ ho ha]
    congr 1
    rw [gmul_comm ha (gpow_lt ha _)]
    show gpow a (2 * (n / 2) + 1) = _
    congr 1; omega
  · rw [if_neg h]; congr 2; omega
theorem and_one_big (b : Nat) (h : b < 9223372036854775808) : bits .and .i64 (b : Int) 1 = ((b % 2 : Nat) : Int) := by
  have := i64_and b 1 h (by omega)
  rw [Nat.and_one_is_mod] at this
  exact this
set_option maxHeartbeats 1000000 in
theorem power (a n : Nat) (w : World) (ha : a < 256) (hn : n < 9223372036854775808) : Calls Try.prog 41 #[.int .i64 a, .int .i64 n] w (Times (gpow a n) w) := by
  go_enter Try.func41, Try.ntmps41
  go_wp2_with fail
  go_loop [0, 1, 5] (fun x y o => ∃ a' n' o' : Nat, a' < 256 ∧ n' < 9223372036854775808 ∧ o' < 256 ∧ Hid (gmul o' (gpow a' n') = gpow a n) ∧ x = .int .i64 a' ∧ y = .int .i64 n' ∧ o = .int .i64 o') (fun _ y _ => (intOf y).toNat)
  case atStart => exact ⟨a, n, 1, ha, hn, by omega, by show gmul 1 (gpow a n) = _; exact one_mul (gpow_lt ha n), rfl, rfl, rfl⟩
  case round =>
    obtain ⟨a', n', o', ha', hn', ho', H, rfl, rfl, rfl⟩ := hrel
    have e1 := and_one_big n' hn'
    by_cases h0 : n' = 0
    · subst h0
      have : o' = gpow a n := by
        have := H.out
        rwa [gpow, mul_one] at this
      go_wp2_with fail
      go_ret
      exact ⟨_, by rw [← this]; rfl, by omega, by omega, rfl, rfl⟩
    · have H2 := Lib.hid ((pow_step (n := n') ha' ho').trans H.out)
      clear H
      have l1 := gmul_lt (b := a') ho'
      have l2 := gmul_lt (b := a') ha'
      by_cases h1 : n' % 2 = 1
      · have t1 : ((n' : Int) % 2 == 1) = true := by simp; omega
        go_wp2_with fail
        refine (times _ _ _ ho' ha').mono ?_; rintro e w' ⟨v, hv, hv0, hv1, rfl, rfl⟩
        go_wp2_with fail
        refine (times _ _ _ ha' ha').mono ?_; rintro e w' ⟨u, hu, hu0, hu1, rfl, rfl⟩
        go_wp2_with fail
        go_round
        case rel => exact ⟨gmul a' a', n' / 2, gmul o' a', l2, by omega, l1, by have := H2.out; rwa [if_pos h1] at this, by rw [hu.out], by go_num, by rw [hv.out]⟩
        case measure => simp [intOf]; omega
      · have t1 : ((n' : Int) % 2 == 1) = false := by simp; omega
        go_wp2_with fail
        refine (times _ _ _ ha' ha').mono ?_; rintro e w' ⟨u, hu, hu0, hu1, rfl, rfl⟩
        go_wp2_with fail
        go_round
        case rel => exact ⟨gmul a' a', n' / 2, o', l2, by omega, ho', by have := H2.out; rwa [if_neg h1] at this, by rw [hu.out], by go_num, rfl⟩
        case measure => simp [intOf]; omega
end Go.Proofs.Ytkfjkdonbmjniaa
