/- Picks and their numbers, plainly: ranks by Pascal's triangle. No program here. -/
import Derived.Test.YtjnheahhlopbfaaCombW
namespace Go.Proofs.Ytjnheahhlopbfaa
open Go.RowKit
set_option linter.unusedVariables false

/-- p is a pick out of the numbers from y on, below n: ascending. -/
def Pick (n : Nat) : Nat → List Nat → Prop
  | y, [] => y ≤ n
  | y, x :: ps => y ≤ x ∧ x < n ∧ Pick n (x + 1) ps
theorem Pick.le {n y : Nat} : ∀ {p : List Nat}, Pick n y p → y ≤ n
  | [], h => h
  | _ :: _, h => by have := h.1; have := h.2.1; omega
theorem Pick.length {n : Nat} : ∀ {p : List Nat} {y : Nat}, Pick n y p → p.length ≤ n - y
  | [], _, _ => by simp
  | x :: ps, y, h => by
    have h1 := h.1
    have h2 := h.2.1
    have := h.2.2.length
    simp
    omega
theorem Pick.skip {n y x : Nat} {ps : List Nat} (h : Pick n y (x :: ps)) (hne : x ≠ y) : Pick n (y + 1) (x :: ps) := ⟨by have := h.1; omega, h.2.1, h.2.2⟩
theorem Pick.mem {n : Nat} : ∀ {p : List Nat} {y : Nat}, Pick n y p → ∀ x ∈ p, y ≤ x ∧ x < n
  | [], _, _ => by simp
  | x :: ps, y, h => by
    intro z hz
    rcases List.mem_cons.1 hz with rfl | hz
    · exact ⟨h.1, h.2.1⟩
    · have := h.2.2.mem z hz
      have := h.1
      omega

/-- the number of a pick out of the last m of n -/
def rk (n : Nat) : Nat → List Nat → Nat
  | 0, _ => 0
  | _ + 1, [] => 0
  | m + 1, x :: ps => if x = n - (m + 1) then rk n m ps else pas m ps.length + rk n m (x :: ps)
theorem rk_nil (n m : Nat) : rk n m [] = 0 := by cases m <;> rfl
theorem rk_lt (n : Nat) : ∀ (m : Nat) (p : List Nat), m ≤ n → Pick n (n - m) p → rk n m p < pas m p.length
  | 0, [], _, _ => by simp [rk, pas]
  | 0, x :: ps, _, h => by have := h.1; have := h.2.1; omega
  | m + 1, [], _, _ => by simp [rk, pas]
  | m + 1, x :: ps, hm, h => by
    rw [rk, List.length_cons, pas_succ]
    split
    · rename_i hx
      have := rk_lt n m ps (by omega) (by have := h.2.2; rw [hx, show n - (m + 1) + 1 = n - m by omega] at this; exact this)
      omega
    · rename_i hx
      have := rk_lt n m (x :: ps) (by omega) (by have := h.skip hx; rw [show n - (m + 1) + 1 = n - m by omega] at this; exact this)
      rw [List.length_cons] at this
      omega
/-- the numbers that are counted ahead of x, from y on -/
def ahead (n k y : Nat) : Nat → Nat
  | 0 => 0
  | d + 1 => ahead n k y d + pas (n - (y + d) - 1) k
theorem ahead_cons (n k y : Nat) : ∀ d, ahead n k y (d + 1) = pas (n - y - 1) k + ahead n k (y + 1) d
  | 0 => by simp [ahead]
  | d + 1 => by
    rw [ahead, ahead_cons n k y d, ahead, show y + (d + 1) = y + 1 + d by omega]; omega
theorem ahead_mono (n k y : Nat) {a b : Nat} (h : a ≤ b) : ahead n k y a ≤ ahead n k y b := by
  induction h with
  | refl => exact Nat.le_refl _
  | step h ih => rw [ahead]; omega
theorem rk_ahead (n : Nat) : ∀ (d y x : Nat) (ps : List Nat), d = x - y → y ≤ x → x < n → rk n (n - y) (x :: ps) = ahead n ps.length y d + rk n (n - (x + 1)) ps
  | 0, y, x, ps, hd, hy, hx => by
    obtain rfl : x = y := by omega
    rw [show n - x = (n - (x + 1)) + 1 by omega, rk, if_pos (by omega), ahead]; omega
  | d + 1, y, x, ps, hd, hy, hx => by
    rw [show n - y = (n - (y + 1)) + 1 by omega, rk, if_neg (by omega), rk_ahead n d (y + 1) x ps (by omega) (by omega) hx, ahead_cons, show n - y - 1 = n - (y + 1) by omega]
    omega
end Go.Proofs.Ytjnheahhlopbfaa
