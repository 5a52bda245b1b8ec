/- The field of 256 elements, plainly: products by shifts and sums. No program here. -/
import Derived.WalkKit
namespace Go.Proofs.Ytkfjkdonbmjniaa
open Go.RowKit
set_option linter.unusedVariables false

/-- times 2 -/
def xt (a : Nat) : Nat := if 255 < 2 * a then (2 * a) ^^^ 285 else 2 * a
theorem xt_lt : ∀ a : Fin 256, xt a < 256 := by decide +kernel
theorem xt_lt' {a : Nat} (h : a < 256) : xt a < 256 := xt_lt ⟨a, h⟩
theorem xt_xor_all : ∀ a : Fin 256, ∀ b : Fin 256, xt (a.val ^^^ b.val) = xt a ^^^ xt b := by decide +kernel
theorem xt_xor {a b : Nat} (ha : a < 256) (hb : b < 256) : xt (a ^^^ b) = xt a ^^^ xt b := xt_xor_all ⟨a, ha⟩ ⟨b, hb⟩
theorem xor_lt {a b : Nat} (ha : a < 256) (hb : b < 256) : a ^^^ b < 256 := Nat.xor_lt_two_pow (n := 8) ha hb
theorem xt_zero : xt 0 = 0 := rfl

/-- the product, by so many bits of the second -/
def mulF : Nat → Nat → Nat → Nat
  | 0, _, _ => 0
  | f + 1, a, b => (if b % 2 = 1 then a else 0) ^^^ mulF f (xt a) (b / 2)
def gmul (a b : Nat) : Nat := mulF 8 a b
theorem mulF_lt : ∀ (f a b : Nat), a < 256 → mulF f a b < 256
  | 0, _, _, _ => by simp [mulF]
  | f + 1, a, b, h => by
    rw [mulF]
    exact xor_lt (by split <;> omega) (mulF_lt f _ _ (xt_lt' h))
theorem gmul_lt {a b : Nat} (h : a < 256) : gmul a b < 256 := mulF_lt 8 a b h
theorem mulF_zero_r : ∀ (f a : Nat), mulF f a 0 = 0
  | 0, _ => rfl
  | f + 1, a => by rw [mulF]; simp [mulF_zero_r f]
theorem mulF_zero_l : ∀ (f b : Nat), mulF f 0 b = 0
  | 0, _ => rfl
  | f + 1, b => by rw [mulF, xt_zero, mulF_zero_l f]; simp
/-- more bits than there are change nothing -/
theorem mulF_more : ∀ (f g a b : Nat), b < 2 ^ f → f ≤ g → mulF g a b = mulF f a b
  | 0, g, a, b, h, _ => by
    obtain rfl : b = 0 := by simpa using h
    rw [mulF_zero_r]; rfl
  | f + 1, g, a, b, h, hg => by
    obtain ⟨g, rfl⟩ : ∃ k, g = k + 1 := ⟨g - 1, by omega⟩
    rw [mulF, mulF, mulF_more f g _ _ (by rw [Nat.pow_succ] at h; omega) (by omega)]
theorem xor4 (a b c d : Nat) : (a ^^^ b) ^^^ (c ^^^ d) = (a ^^^ c) ^^^ (b ^^^ d) := by
  rw [Nat.xor_assoc, ← Nat.xor_assoc b c d, Nat.xor_comm b c, Nat.xor_assoc c b d, ← Nat.xor_assoc]
theorem mulF_xor_l : ∀ (f a a' b : Nat), a < 256 → a' < 256 → mulF f (a ^^^ a') b = mulF f a b ^^^ mulF f a' b
  | 0, _, _, _, _, _ => by simp [mulF]
  | f + 1, a, a', b, h, h' => by
    rw [mulF, mulF, mulF, xt_xor h h', mulF_xor_l f _ _ _ (xt_lt' h) (xt_lt' h'), xor4]
    split <;> simp
theorem mulF_xt : ∀ (f a b : Nat), a < 256 → mulF f (xt a) b = xt (mulF f a b)
  | 0, _, _, _ => rfl
  | f + 1, a, b, h => by
    have h1 : (if b % 2 = 1 then a else 0) < 256 := by split <;> omega
    rw [mulF, mulF, xt_xor h1 (mulF_lt f _ _ (xt_lt' h)), mulF_xt f (xt a) (b / 2) (xt_lt' h)]
    split <;> simp [xt_zero]
theorem mulF_one_all : ∀ b : Fin 256, mulF 8 1 b = b := by decide +kernel
theorem one_mul {b : Nat} (h : b < 256) : gmul 1 b = b := mulF_one_all ⟨b, h⟩
theorem mul_one (a : Nat) : gmul a 1 = a := by
  show mulF 8 a 1 = a
  rw [mulF, if_pos rfl, show 1 / 2 = 0 from rfl, mulF_zero_r]; simp
theorem half_split {a : Nat} (h : a < 256) : a = (if a % 2 = 1 then 1 else 0) ^^^ xt (a / 2) := by
  have : ∀ a : Fin 256, a.val = (if a.val % 2 = 1 then 1 else 0) ^^^ xt (a / 2) := by decide +kernel
  exact this ⟨a, h⟩
theorem mul_comm_F : ∀ (f a b : Nat), f ≤ 8 → a < 2 ^ f → b < 256 → gmul a b = mulF f b a
  | 0, a, b, _, h, _ => by
    obtain rfl : a = 0 := by simpa using h
    exact mulF_zero_l 8 b
  | f + 1, a, b, hf, h, hb => by
    have ha : a < 256 := by
      have : 2 ^ (f + 1) ≤ 2 ^ 8 := Nat.pow_le_pow_right (by omega) hf
      omega
    have ha2 : a / 2 < 2 ^ f := by rw [Nat.pow_succ] at h; omega
    have e := half_split ha
    have h1 : gmul a b = gmul (if a % 2 = 1 then 1 else 0) b ^^^ gmul (xt (a / 2)) b := by
      conv => lhs; rw [e]
      exact mulF_xor_l 8 _ _ b (by split <;> omega) (xt_lt' (by omega))
    have h2 : gmul (xt (a / 2)) b = xt (gmul (a / 2) b) := mulF_xt 8 _ _ (by omega)
    rw [h1, h2, mul_comm_F f (a / 2) b (by omega) ha2 hb, mulF, mulF_xt f b (a / 2) hb]
    split
    · rw [one_mul hb]
    · rw [show gmul 0 b = 0 from mulF_zero_l 8 b]
theorem gmul_comm {a b : Nat} (ha : a < 256) (hb : b < 256) : gmul a b = gmul b a := mul_comm_F 8 a b (Nat.le_refl _) ha hb
theorem gmul_xor_l {a a' : Nat} (b : Nat) (h : a < 256) (h' : a' < 256) : gmul (a ^^^ a') b = gmul a b ^^^ gmul a' b := mulF_xor_l 8 a a' b h h'
theorem gmul_xor_r {a b b' : Nat} (ha : a < 256) (h : b < 256) (h' : b' < 256) : gmul a (b ^^^ b') = gmul a b ^^^ gmul a b' := by
  rw [gmul_comm ha (xor_lt h h'), gmul_xor_l a h h', gmul_comm h ha, gmul_comm h' ha]
theorem gmul_xt_r {a b : Nat} (ha : a < 256) (hb : b < 256) : gmul a (xt b) = xt (gmul a b) := by
  rw [gmul_comm ha (xt_lt' hb), gmul_comm ha hb]; exact mulF_xt 8 b a hb
theorem gmul_zero_r (a : Nat) : gmul a 0 = 0 := mulF_zero_r 8 a
theorem gmul_zero_l (b : Nat) : gmul 0 b = 0 := mulF_zero_l 8 b
theorem assoc_F : ∀ (f a b c : Nat), a < 256 → b < 256 → mulF f (gmul a b) c = gmul a (mulF f b c)
  | 0, a, b, c, _, _ => (gmul_zero_r a).symm
  | f + 1, a, b, c, ha, hb => by
    rw [mulF, mulF, ← gmul_xt_r ha hb, assoc_F f a (xt b) (c / 2) ha (xt_lt' hb), gmul_xor_r ha (by split <;> omega) (mulF_lt f _ _ (xt_lt' hb))]
    split
    · rfl
    · rw [gmul_zero_r]
theorem gmul_assoc {a b : Nat} (c : Nat) (ha : a < 256) (hb : b < 256) : gmul (gmul a b) c = gmul a (gmul b c) := assoc_F 8 a b c ha hb

/-! ### powers -/
def gpow (a : Nat) : Nat → Nat
  | 0 => 1
  | n + 1 => gmul (gpow a n) a
theorem gpow_lt {a : Nat} (h : a < 256) : ∀ n, gpow a n < 256
  | 0 => by simp [gpow]
  | n + 1 => gmul_lt (gpow_lt h n)
theorem gpow_add {a : Nat} (h : a < 256) (m : Nat) : ∀ n, gpow a (m + n) = gmul (gpow a m) (gpow a n)
  | 0 => (mul_one _).symm
  | n + 1 => by rw [← Nat.add_assoc, gpow, gpow_add h m n, gmul_assoc _ (gpow_lt h m) (gpow_lt h n)]; rfl
theorem gpow_mul {a : Nat} (h : a < 256) (m : Nat) : ∀ n, gpow a (m * n) = gpow (gpow a m) n
  | 0 => rfl
  | n + 1 => by rw [Nat.mul_succ, gpow_add h, gpow_mul h m n]; rfl
theorem gpow_sq {a : Nat} (h : a < 256) (n : Nat) : gpow (gmul a a) n = gpow a (2 * n) := by
  rw [gpow_mul h]
  congr 1
  show gmul a a = gmul (gmul 1 a) a
  rw [one_mul h]
/-- the powers of 2 -/
def twos : Nat → Nat
  | 0 => 1
  | n + 1 => xt (twos n)
theorem gmul_two {a : Nat} (h : a < 256) : gmul a 2 = xt a := by
  have : ∀ a : Fin 256, gmul a 2 = xt a := by decide +kernel
  exact this ⟨a, h⟩
theorem twos_lt : ∀ n, twos n < 256
  | 0 => by simp [twos]
  | n + 1 => xt_lt' (twos_lt n)
theorem gpow_two : ∀ n, gpow 2 n = twos n
  | 0 => rfl
  | n + 1 => by rw [gpow, gpow_two n, gmul_two (twos_lt n)]; rfl
theorem twos_255 : twos 255 = 1 := by decide +kernel
theorem twos_add (m n : Nat) : twos (m + n) = gmul (twos m) (twos n) := by rw [← gpow_two, ← gpow_two, ← gpow_two]; exact gpow_add (by omega) m n
theorem twos_mod (n : Nat) : twos n = twos (n % 255) := by
  have h : ∀ q r, twos (255 * q + r) = twos r := by
    intro q
    induction q with
    | zero => intro r; simp
    | succ q ih =>
      intro r
      rw [Nat.mul_succ, show 255 * q + 255 + r = 255 * q + (255 + r) by omega, ih, twos_add, twos_255, one_mul (twos_lt r)]
  conv => lhs; rw [← Nat.div_add_mod n 255]
  exact h _ _
/-- which power of 2: the search -/
def logF : Nat → Nat → Nat → Nat → Nat
  | 0, _, n, _ => n
  | f + 1, x, n, a => if x = a then n else logF f (xt x) (n + 1) a
def glog (a : Nat) : Nat := logF 255 1 0 a
theorem glog_all : ∀ a : Fin 256, a.val ≠ 0 → glog a < 255 ∧ twos (glog a) = a := by decide +kernel
theorem glog_lt {a : Nat} (h : a < 256) (h0 : a ≠ 0) : glog a < 255 := (glog_all ⟨a, h⟩ h0).1
theorem twos_glog {a : Nat} (h : a < 256) (h0 : a ≠ 0) : twos (glog a) = a := (glog_all ⟨a, h⟩ h0).2
theorem twos_ne_one : ∀ d : Fin 255, d.val ≠ 0 → twos d ≠ 1 := by decide +kernel
theorem twos_ne_zero (n : Nat) : twos n ≠ 0 := by
  intro h
  have h1 : twos (n + (255 - n % 255)) = 1 := by
    rw [twos_mod]
    have : (n + (255 - n % 255)) % 255 = 0 := by omega
    rw [this]; rfl
  rw [twos_add, h, gmul_zero_l] at h1
  exact absurd h1 (by decide)
theorem twos_inj {i j : Nat} (hi : i < 255) (hj : j < 255) (h : twos i = twos j) : i = j := by
  have key : ∀ i j, i ≤ j → j < 255 → twos i = twos j → i = j := by
    intro i j hij hj h
    have e : twos (j - i) = 1 := by
      have h1 : twos (j + (255 - i)) = twos (i + (255 - i)) := by rw [twos_add, twos_add, h]
      rw [show i + (255 - i) = 255 by omega, twos_255, twos_mod] at h1
      by_cases hd : j - i = 0
      · rw [hd]; rfl
      · rw [show (j + (255 - i)) % 255 = j - i by omega] at h1; exact h1
    by_cases hd : j - i = 0
    · omega
    · exact absurd e (twos_ne_one ⟨j - i, by omega⟩ hd)
  by_cases hij : i ≤ j
  · exact key i j hij hj h
  · exact (key j i (by omega) hi h.symm).symm
theorem glog_twos {i : Nat} (hi : i < 255) : glog (twos i) = i :=
  twos_inj (glog_lt (twos_lt i) (twos_ne_zero i)) hi (twos_glog (twos_lt i) (twos_ne_zero i))

/-! ### inverses -/
theorem order {a : Nat} (h : a < 256) (h0 : a ≠ 0) : gpow a 255 = 1 := by
  rw [← twos_glog h h0, ← gpow_two, ← gpow_mul (by omega), Nat.mul_comm, gpow_mul (by omega), gpow_two, twos_255]
  have : ∀ n, gpow 1 n = 1 := fun n => by
    induction n with
    | zero => rfl
    | succ n ih => rw [gpow, ih, mul_one]
  exact this _
def ginv (a : Nat) : Nat := gpow a 254
theorem ginv_lt {a : Nat} (h : a < 256) : ginv a < 256 := gpow_lt h 254
theorem inv_mul {a : Nat} (h : a < 256) (h0 : a ≠ 0) : gmul (ginv a) a = 1 := order h h0
theorem mul_inv {a : Nat} (h : a < 256) (h0 : a ≠ 0) : gmul a (ginv a) = 1 := by rw [gmul_comm h (ginv_lt h)]; exact inv_mul h h0
theorem mul_eq_zero {a b : Nat} (ha : a < 256) (hb : b < 256) : gmul a b = 0 ↔ a = 0 ∨ b = 0 := by
  constructor
  · intro h
    by_cases h0 : b = 0
    · exact .inr h0
    · left
      have : gmul (gmul a b) (ginv b) = a := by rw [gmul_assoc _ ha hb, mul_inv hb h0, mul_one]
      rw [h, gmul_zero_l] at this
      exact this.symm
  · rintro (rfl | rfl)
    · exact gmul_zero_l b
    · exact gmul_zero_r a
theorem log_mul {a b : Nat} (ha : a < 256) (ha0 : a ≠ 0) (hb : b < 256) (hb0 : b ≠ 0) : glog (gmul a b) = (glog a + glog b) % 255 := by
  have h : gmul a b = twos ((glog a + glog b) % 255) := by
    rw [← twos_mod, twos_add, twos_glog ha ha0, twos_glog hb hb0]
  rw [h]
  exact glog_twos (Nat.mod_lt _ (by omega))
end Go.Proofs.Ytkfjkdonbmjniaa
