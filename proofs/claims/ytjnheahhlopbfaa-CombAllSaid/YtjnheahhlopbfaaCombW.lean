/- The walks of package comb's counting functions. -/
import Derived.Test.YtjnheahhlopbfaaBase
namespace Go.Proofs.Ytjnheahhlopbfaa
open Go.RowKit

/-- the numbers of picks, by Pascal's triangle -/
def pas : Nat → Nat → Nat
  | _, 0 => 1
  | 0, _ + 1 => 0
  | n + 1, k + 1 => pas n k + pas n (k + 1)
theorem pas_zero (n : Nat) : pas n 0 = 1 := by cases n <;> rfl
theorem pas_succ (n k : Nat) : pas (n + 1) (k + 1) = pas n k + pas n (k + 1) := rfl
theorem pas_mul_small : ∀ n : Fin 13, ∀ i : Fin 13, (i.val + 1) * pas n (i + 1) = (n - i) * pas n i := by decide
theorem pas_mul {n i : Nat} (hn : n ≤ 12) (hi : i ≤ 12) : (i + 1) * pas n (i + 1) = (n - i) * pas n i := pas_mul_small ⟨n, by omega⟩ ⟨i, by omega⟩
theorem pas_small : ∀ n : Fin 13, ∀ k : Fin 14, pas n k ≤ 4096 ∧ (k.val ≤ n.val → 1 ≤ pas n k ∧ pas n k = pas n (n - k)) ∧ (n.val < k.val → pas n k = 0) := by decide
theorem pas_le {n k : Nat} (hn : n ≤ 12) (hk : k ≤ 13) : pas n k ≤ 4096 := (pas_small ⟨n, by omega⟩ ⟨k, by omega⟩).1
theorem pas_pos {n k : Nat} (hn : n ≤ 12) (hk : k ≤ n) : 1 ≤ pas n k := ((pas_small ⟨n, by omega⟩ ⟨k, by omega⟩).2.1 hk).1
theorem pas_sym {n k : Nat} (hn : n ≤ 12) (hk : k ≤ n) : pas n k = pas n (n - k) := ((pas_small ⟨n, by omega⟩ ⟨k, by omega⟩).2.1 hk).2
theorem pas_out {n k : Nat} (hn : n ≤ 12) (hk : k ≤ 13) (h : n < k) : pas n k = 0 := (pas_small ⟨n, by omega⟩ ⟨k, by omega⟩).2.2 h
theorem pas_step {n i : Nat} (hn : n ≤ 12) (hi : i ≤ 12) : 0 ≤ (pas n i : Int) * ((n : Int) - (i : Int)) ∧ (pas n i : Int) * ((n : Int) - (i : Int)) ≤ 49152 ∧ (pas n i : Int) * ((n : Int) - (i : Int)) / ((i : Int) + 1) = (pas n (i + 1) : Int) := by
  by_cases h : i ≤ n
  · have e : (n : Int) - (i : Int) = ((n - i : Nat) : Int) := by omega
    have h1 := pas_mul hn hi
    have h2 := pas_le hn (show i ≤ 13 by omega)
    have h3 : (n - i) * pas n i ≤ 12 * 4096 := Nat.mul_le_mul (by omega) h2
    rw [e, ← Int.natCast_mul, Nat.mul_comm]
    refine ⟨by omega, by omega, ?_⟩
    rw [← h1, show (i : Int) + 1 = ((i + 1 : Nat) : Int) from by omega, Int.natCast_mul, Int.mul_ediv_cancel_left _ (by omega)]
  · rw [pas_out hn (by omega) (show n < i by omega), pas_out hn (by omega) (show n < i + 1 by omega)]
    simp

def Gives (r : Nat) (w : World) (e : Ending) (w' : World) : Prop := ∃ v : Int, Hid (v = (r : Int)) ∧ 0 ≤ v ∧ v ≤ 4096 ∧ e = .returned (.int .i64 v) ∧ w = w'
set_option maxHeartbeats 400000 in
theorem choose (n k : Nat) (w : World) (hn : n ≤ 12) (hk : k ≤ 13) : Calls Try.prog 40 #[.int .i64 n, .int .i64 k] w (Gives (pas n k) w) := by
  go_enter Try.func40, Try.ntmps40
  go_wp2_with fail
  go_loop [5, 8] (fun o i => ∃ j : Nat, j ≤ k ∧ i = .int .i64 j ∧ o = .int .i64 (pas n j : Nat)) (fun _ i => k - (intOf i).toNat)
  case atStart => exact ⟨0, by omega, rfl, by rw [pas_zero]; rfl⟩
  case round =>
    obtain ⟨j, hj, rfl, rfl⟩ := hrel
    by_cases hlt : j < k
    · obtain ⟨s1, s2, s3⟩ := pas_step hn (show j ≤ 12 by omega)
      have S3 := Lib.hid s3
      clear s3
      have hj0 : ((j : Int) + 1 == 0) = false := by simp; omega
      go_wp2
      go_round
      case rel => exact ⟨j + 1, by omega, by go_num, by rw [← S3.out]⟩
      case measure => simp [intOf]; omega
    · obtain rfl : j = k := by omega
      have hp := pas_le hn hk
      go_wp2
      go_ret
      exact ⟨_, rfl, by omega, by omega, rfl, rfl⟩

def Counts (r : Nat) (w : World) (e : Ending) (w' : World) : Prop := ∃ v : Int, Hid (v = (r : Int)) ∧ 0 ≤ v ∧ v ≤ 4096 ∧ e = .returned (.tuple #[.int .i64 v, .int .i64 0]) ∧ w = w'
set_option maxHeartbeats 400000 in
theorem count (n k : Nat) (w : World) (hn : n ≤ 12) (hk : k ≤ n) : Calls Try.prog 25 #[.int .i64 n, .int .i64 k] w (Counts (pas n k) w) := by
  go_enter Try.func25, Try.ntmps25
  go_wp2_with (first | (go_at_call 39; go_in) | (go_at_call 40; refine (choose n k _ hn (by omega)).mono ?_; rintro e w' ⟨v, hv, hv0, hv1, rfl, rfl⟩))
  all_goals go_ret2
  exact ⟨v, hv, hv0, hv1, rfl, rfl⟩
end Go.Proofs.Ytjnheahhlopbfaa
