/- Texts that belong together: GfP, GfW, GfX. -/
import Derived.WalkKit
import Derived.Test.YtkjaddiagembaaaZ1
/- The field of 256 elements, plainly: products by shifts and sums. No program here. -/
namespace Go.Proofs.Ytkjaddiagembaaa
open Go.RowKit
set_option linter.unusedVariables false

/-- times 2 -/
def xt (a : Nat) : Nat := if 255 < 2 * a then (2 * a) ^^^ 285 else 2 * a
theorem xt_lt : ∀ a : Fin 256, xt a < 256 := by decide +kernel
theorem xt_lt' {a : Nat} (h : a < 256) : xt a < 256 := xt_lt ⟨a, h⟩
theorem xt_xor_all : ∀ a : Fin 256, ∀ b : Fin 256, xt (a.val ^^^ b.val) = xt a ^^^ xt b := by decide +kernel
theorem xt_xor {a b : Nat} (ha : a < 256) (hb : b < 256) : xt (a ^^^ b) = xt a ^^^ xt b := xt_xor_all ⟨a, ha⟩ ⟨b, hb⟩
theorem xor_lt {a b : Nat} (ha : a < 256) (hb : b < 256) : a ^^^ b < 256 := Nat.xor_lt_two_pow (n := 8) ha hb
theorem xt_zero : xt 0 = 0 := rfl

/-- the product, by so many bits of the second -/
def mulF : Nat → Nat → Nat → Nat
  | 0, _, _ => 0
  | f + 1, a, b => (if b % 2 = 1 then a else 0) ^^^ mulF f (xt a) (b / 2)
def gmul (a b : Nat) : Nat := mulF 8 a b
theorem mulF_lt : ∀ (f a b : Nat), a < 256 → mulF f a b < 256
  | 0, _, _, _ => by simp [mulF]
  | f + 1, a, b, h => by
    rw [mulF]
    exact xor_lt (by split <;> omega) (mulF_lt f _ _ (xt_lt' h))
theorem gmul_lt {a b : Nat} (h : a < 256) : gmul a b < 256 := mulF_lt 8 a b h
theorem mulF_zero_r : ∀ (f a : Nat), mulF f a 0 = 0
  | 0, _ => rfl
  | f + 1, a => by rw [mulF]; simp [mulF_zero_r f]
theorem mulF_zero_l : ∀ (f b : Nat), mulF f 0 b = 0
  | 0, _ => rfl
  | f + 1, b => by rw [mulF, xt_zero, mulF_zero_l f]; simp
/-- more bits than there are change nothing -/
theorem mulF_more : ∀ (f g a b : Nat), b < 2 ^ f → f ≤ g → mulF g a b = mulF f a b
  | 0, g, a, b, h, _ => by
    obtain rfl : b = 0 := by simpa using h
    rw [mulF_zero_r]; rfl
  | f + 1, g, a, b, h, hg => by
    obtain ⟨g, rfl⟩ : ∃ k, g = k + 1 := ⟨g - 1, by omega⟩
    rw [mulF, mulF, mulF_more f g _ _ (by rw [Nat.pow_succ] at h; omega) (by omega)]
theorem xor4 (a b c d : Nat) : (a ^^^ b) ^^^ (c ^^^ d) = (a ^^^ c) ^^^ (b ^^^ d) := by
  rw [Nat.xor_assoc, ← Nat.xor_assoc b c d, Nat.xor_comm b c, Nat.xor_assoc c b d, ← Nat.xor_assoc]
theorem mulF_xor_l : ∀ (f a a' b : Nat), a < 256 → a' < 256 → mulF f (a ^^^ a') b = mulF f a b ^^^ mulF f a' b
  | 0, _, _, _, _, _ => by simp [mulF]
  | f + 1, a, a', b, h, h' => by
    rw [mulF, mulF, mulF, xt_xor h h', mulF_xor_l f _ _ _ (xt_lt' h) (xt_lt' h'), xor4]
    split <;> simp
theorem mulF_xt : ∀ (f a b : Nat), a < 256 → mulF f (xt a) b = xt (mulF f a b)
  | 0, _, _, _ => rfl
  | f + 1, a, b, h => by
    have h1 : (if b % 2 = 1 then a else 0) < 256 := by split <;> omega
    rw [mulF, mulF, xt_xor h1 (mulF_lt f _ _ (xt_lt' h)), mulF_xt f (xt a) (b / 2) (xt_lt' h)]
    split <;> simp [xt_zero]
theorem mulF_one_all : ∀ b : Fin 256, mulF 8 1 b = b := by decide +kernel
theorem one_mul {b : Nat} (h : b < 256) : gmul 1 b = b := mulF_one_all ⟨b, h⟩
theorem mul_one (a : Nat) : gmul a 1 = a := by
  show mulF 8 a 1 = a
  rw [mulF, if_pos rfl, show 1 / 2 = 0 from rfl, mulF_zero_r]; simp
theorem half_split {a : Nat} (h : a < 256) : a = (if a % 2 = 1 then 1 else 0) ^^^ xt (a / 2) := by
  have : ∀ a : Fin 256, a.val = (if a.val % 2 = 1 then 1 else 0) ^^^ xt (a / 2) := by decide +kernel
  exact this ⟨a, h⟩
theorem mul_comm_F : ∀ (f a b : Nat), f ≤ 8 → a < 2 ^ f → b < 256 → gmul a b = mulF f b a
  | 0, a, b, _, h, _ => by
    obtain rfl : a = 0 := by simpa using h
    exact mulF_zero_l 8 b
  | f + 1, a, b, hf, h, hb => by
    have ha : a < 256 := by
      have : 2 ^ (f + 1) ≤ 2 ^ 8 := Nat.pow_le_pow_right (by omega) hf
      omega
    have ha2 : a / 2 < 2 ^ f := by rw [Nat.pow_succ] at h; omega
    have e := half_split ha
    have h1 : gmul a b = gmul (if a % 2 = 1 then 1 else 0) b ^^^ gmul (xt (a / 2)) b := by
      conv => lhs; rw [e]
      exact mulF_xor_l 8 _ _ b (by split <;> omega) (xt_lt' (by omega))
    have h2 : gmul (xt (a / 2)) b = xt (gmul (a / 2) b) := mulF_xt 8 _ _ (by omega)
    rw [h1, h2, mul_comm_F f (a / 2) b (by omega) ha2 hb, mulF, mulF_xt f b (a / 2) hb]
    split
    · rw [one_mul hb]
    · rw [show gmul 0 b = 0 from mulF_zero_l 8 b]
theorem gmul_comm {a b : Nat} (ha : a < 256) (hb : b < 256) : gmul a b = gmul b a := mul_comm_F 8 a b (Nat.le_refl _) ha hb
theorem gmul_xor_l {a a' : Nat} (b : Nat) (h : a < 256) (h' : a' < 256) : gmul (a ^^^ a') b = gmul a b ^^^ gmul a' b := mulF_xor_l 8 a a' b h h'
theorem gmul_xor_r {a b b' : Nat} (ha : a < 256) (h : b < 256) (h' : b' < 256) : gmul a (b ^^^ b') = gmul a b ^^^ gmul a b' := by
  rw [gmul_comm ha (xor_lt h h'), gmul_xor_l a h h', gmul_comm h ha, gmul_comm h' ha]
theorem gmul_xt_r {a b : Nat} (ha : a < 256) (hb : b < 256) : gmul a (xt b) = xt (gmul a b) := by
  rw [gmul_comm ha (xt_lt' hb), gmul_comm ha hb]; exact mulF_xt 8 b a hb
theorem gmul_zero_r (a : Nat) : gmul a 0 = 0 := mulF_zero_r 8 a
theorem gmul_zero_l (b : Nat) : gmul 0 b = 0 := mulF_zero_l 8 b
theorem assoc_F : ∀ (f a b c : Nat), a < 256 → b < 256 → mulF f (gmul a b) c = gmul a (mulF f b c)
  | 0, a, b, c, _, _ => (gmul_zero_r a).symm
  | f + 1, a, b, c, ha, hb => by
    rw [mulF, mulF, ← gmul_xt_r ha hb, assoc_F f a (xt b) (c / 2) ha (xt_lt' hb), gmul_xor_r ha (by split <;> omega) (mulF_lt f _ _ (xt_lt' hb))]
    split
    · rfl
    · rw [gmul_zero_r]
theorem gmul_assoc {a b : Nat} (c : Nat) (ha : a < 256) (hb : b < 256) : gmul (gmul a b) c = gmul a (gmul b c) := assoc_F 8 a b c ha hb

/-! ### powers -/
def gpow (a : Nat) : Nat → Nat
  | 0 => 1
  | n + 1 => gmul (gpow a n) a
theorem gpow_lt {a : Nat} (h : a < 256) : ∀ n, gpow a n < 256
  | 0 => by simp [gpow]
  | n + 1 => gmul_lt (gpow_lt h n)
theorem gpow_add {a : Nat} (h : a < 256) (m : Nat) : ∀ n, gpow a (m + n) = gmul (gpow a m) (gpow a n)
  | 0 => (mul_one _).symm
  | n + 1 => by rw [← Nat.add_assoc, gpow, gpow_add h m n, gmul_assoc _ (gpow_lt h m) (gpow_lt h n)]; rfl
theorem gpow_mul {a : Nat} (h : a < 256) (m : Nat) : ∀ n, gpow a (m * n) = gpow (gpow a m) n
  | 0 => rfl
  | n + 1 => by rw [Nat.mul_succ, gpow_add h, gpow_mul h m n]; rfl
theorem gpow_sq {a : Nat} (h : a < 256) (n : Nat) : gpow (gmul a a) n = gpow a (2 * n) := by
  rw [gpow_mul h]
  congr 1
  show gmul a a = gmul (gmul 1 a) a
  rw [one_mul h]
/-- the powers of 2 -/
def twos : Nat → Nat
  | 0 => 1
  | n + 1 => xt (twos n)
theorem gmul_two {a : Nat} (h : a < 256) : gmul a 2 = xt a := by
  have : ∀ a : Fin 256, gmul a 2 = xt a := by decide +kernel
  exact this ⟨a, h⟩
theorem twos_lt : ∀ n, twos n < 256
  | 0 => by simp [twos]
  | n + 1 => xt_lt' (twos_lt n)
theorem gpow_two : ∀ n, gpow 2 n = twos n
  | 0 => rfl
  | n + 1 => by rw [gpow, gpow_two n, gmul_two (twos_lt n)]; rfl
theorem twos_255 : twos 255 = 1 := by decide +kernel
theorem twos_add (m n : Nat) : twos (m + n) = gmul (twos m) (twos n) := by rw [← gpow_two, ← gpow_two, ← gpow_two]; exact gpow_add (by omega) m n
theorem twos_mod (n : Nat) : twos n = twos (n % 255) := by
  have h : ∀ q r, twos (255 * q + r) = twos r := by
    intro q
    induction q with
    | zero => intro r; simp
    | succ q ih =>
      intro r
      rw [Nat.mul_succ, show 255 * q + 255 + r = 255 * q + (255 + r) by omega, ih, twos_add, twos_255, one_mul (twos_lt r)]
  conv => lhs; rw [← Nat.div_add_mod n 255]
  exact h _ _
/-- which power of 2: the search -/
def logF : Nat → Nat → Nat → Nat → Nat
  | 0, _, n, _ => n
  | f + 1, x, n, a => if x = a then n else logF f (xt x) (n + 1) a
def glog (a : Nat) : Nat := logF 255 1 0 a
theorem glog_all : ∀ a : Fin 256, a.val ≠ 0 → glog a < 255 ∧ twos (glog a) = a := by decide +kernel
theorem glog_lt {a : Nat} (h : a < 256) (h0 : a ≠ 0) : glog a < 255 := (glog_all ⟨a, h⟩ h0).1
theorem twos_glog {a : Nat} (h : a < 256) (h0 : a ≠ 0) : twos (glog a) = a := (glog_all ⟨a, h⟩ h0).2
theorem twos_ne_one : ∀ d : Fin 255, d.val ≠ 0 → twos d ≠ 1 := by decide +kernel
theorem twos_ne_zero (n : Nat) : twos n ≠ 0 := by
  intro h
  have h1 : twos (n + (255 - n % 255)) = 1 := by
    rw [twos_mod]
    have : (n + (255 - n % 255)) % 255 = 0 := by omega
    rw [this]; rfl
  rw [twos_add, h, gmul_zero_l] at h1
  exact absurd h1 (by decide)
theorem twos_inj {i j : Nat} (hi : i < 255) (hj : j < 255) (h : twos i = twos j) : i = j := by
  have key : ∀ i j, i ≤ j → j < 255 → twos i = twos j → i = j := by
    intro i j hij hj h
    have e : twos (j - i) = 1 := by
      have h1 : twos (j + (255 - i)) = twos (i + (255 - i)) := by rw [twos_add, twos_add, h]
      rw [show i + (255 - i) = 255 by omega, twos_255, twos_mod] at h1
      by_cases hd : j - i = 0
      · rw [hd]; rfl
      · rw [show (j + (255 - i)) % 255 = j - i by omega] at h1; exact h1
    by_cases hd : j - i = 0
    · omega
    · exact absurd e (twos_ne_one ⟨j - i, by omega⟩ hd)
  by_cases hij : i ≤ j
  · exact key i j hij hj h
  · exact (key j i (by omega) hi h.symm).symm
theorem glog_twos {i : Nat} (hi : i < 255) : glog (twos i) = i :=
  twos_inj (glog_lt (twos_lt i) (twos_ne_zero i)) hi (twos_glog (twos_lt i) (twos_ne_zero i))

/-! ### inverses -/
theorem order {a : Nat} (h : a < 256) (h0 : a ≠ 0) : gpow a 255 = 1 := by
  rw [← twos_glog h h0, ← gpow_two, ← gpow_mul (by omega), Nat.mul_comm, gpow_mul (by omega), gpow_two, twos_255]
  have : ∀ n, gpow 1 n = 1 := fun n => by
    induction n with
    | zero => rfl
    | succ n ih => rw [gpow, ih, mul_one]
  exact this _
def ginv (a : Nat) : Nat := gpow a 254
theorem ginv_lt {a : Nat} (h : a < 256) : ginv a < 256 := gpow_lt h 254
theorem inv_mul {a : Nat} (h : a < 256) (h0 : a ≠ 0) : gmul (ginv a) a = 1 := order h h0
theorem mul_inv {a : Nat} (h : a < 256) (h0 : a ≠ 0) : gmul a (ginv a) = 1 := by rw [gmul_comm h (ginv_lt h)]; exact inv_mul h h0
theorem mul_eq_zero {a b : Nat} (ha : a < 256) (hb : b < 256) : gmul a b = 0 ↔ a = 0 ∨ b = 0 := by
  constructor
  · intro h
    by_cases h0 : b = 0
    · exact .inr h0
    · left
      have : gmul (gmul a b) (ginv b) = a := by rw [gmul_assoc _ ha hb, mul_inv hb h0, mul_one]
      rw [h, gmul_zero_l] at this
      exact this.symm
  · rintro (rfl | rfl)
    · exact gmul_zero_l b
    · exact gmul_zero_r a
theorem log_mul {a b : Nat} (ha : a < 256) (ha0 : a ≠ 0) (hb : b < 256) (hb0 : b ≠ 0) : glog (gmul a b) = (glog a + glog b) % 255 := by
  have h : gmul a b = twos ((glog a + glog b) % 255) := by
    rw [← twos_mod, twos_add, twos_glog ha ha0, twos_glog hb hb0]
  rw [h]
  exact glog_twos (Nat.mod_lt _ (by omega))
end Go.Proofs.Ytkjaddiagembaaa
/- The walks of the field's functions. -/
namespace Go.Proofs.Ytkjaddiagembaaa
open Go.RowKit
set_option linter.unusedVariables false

theorem andNot_nat : ∀ a : Fin 256, bits .andNot .i64 ((a.val : Nat) : Int) 255 = 0 := by decide +kernel
theorem andNot_byte {x : Int} (h0 : 0 ≤ x) (h1 : x ≤ 255) : bits .andNot .i64 x 255 = 0 := by
  obtain ⟨x, rfl⟩ := Int.eq_ofNat_of_zero_le h0
  exact andNot_nat ⟨x, by omega⟩

set_option maxHeartbeats 1000000 in
theorem bad2 (a b : Int) (g : Nat) (w : World) (t : TypeId) (ha : 0 ≤ a ∧ a ≤ 255) (hb : 0 ≤ b ∧ b ≤ 255) (h : Box w g #[.int .i64 a, .int .i64 b] t) :
    Calls Try.prog 59 #[.slice (some ⟨g, 0, none⟩) 2 2] w fun e w' => e = .returned (.bool false) ∧ w = w' := by
  have ea := andNot_byte ha.1 ha.2
  have eb := andNot_byte hb.1 hb.2
  have h0 : w.cell? ⟨g, 0, none⟩ = some (.int .i64 a) := h.cell 0
  have h1 : w.cell? ⟨g, 1, none⟩ = some (.int .i64 b) := h.cell 1
  clear h
  go_enter Try.func59, Try.ntmps59
  go_wp2_with fail
  refine wp_loop_rounds 3 ?_
  rw [rounds_succ]
  go_wp2_with fail
  rw [rounds_succ]
  go_wp2_with fail
  rw [rounds_succ]
  go_wp2_with fail
  go_ret
  exact ⟨rfl, rfl⟩

theorem and_one (b : Nat) (h : b < 256) : bits .and .i64 (b : Int) 1 = ((b % 2 : Nat) : Int) := by
  have := i64_and b 1 (by omega) (by omega)
  rw [Nat.and_one_is_mod] at this
  exact this
theorem xor_out (a b : Nat) (ha : a < 512) (hb : b < 512) : bits .xor .i64 (a : Int) (b : Int) = ((a ^^^ b : Nat) : Int) := i64_xor a b (by omega) (by omega)

theorem xt_over (a : Nat) (h : a < 256) (h2 : 255 < a * 2) : bits .xor .i64 ((a : Int) * 2) 285 = (xt a : Int) := by
  have := xor_out (2 * a) 285 (by omega) (by omega)
  rw [xt, if_pos (by omega), show (a : Int) * 2 = ((2 * a : Nat) : Int) by omega]
  exact this
theorem xt_under (a : Nat) (h2 : ¬ 255 < a * 2) : (a : Int) * 2 = (xt a : Int) := by
  rw [xt, if_neg (by omega)]; omega
theorem mul_step {f a b o r : Nat} (h : o ^^^ mulF (f + 1) a b = r) : (if b % 2 = 1 then o ^^^ a else o) ^^^ mulF f (xt a) (b / 2) = r := by
  rw [← h, mulF, ← Nat.xor_assoc]
  split <;> simp

def Times (r : Nat) (w : World) (e : Ending) (w' : World) : Prop := ∃ v : Int, Hid (v = (r : Int)) ∧ 0 ≤ v ∧ v ≤ 255 ∧ e = .returned (.int .i64 v) ∧ w = w'
set_option maxHeartbeats 1000000 in
theorem times (a b : Nat) (w : World) (ha : a < 256) (hb : b < 256) : Calls Try.prog 60 #[.int .i64 a, .int .i64 b] w (Times (gmul a b) w) := by
  go_enter Try.func60, Try.ntmps60
  go_wp2_with fail
  go_loop [0, 1, 5] (fun x y o => ∃ f a' b' o' : Nat, f ≤ 8 ∧ a' < 256 ∧ b' < 256 ∧ o' < 256 ∧ b' < 2 ^ f ∧ Hid (o' ^^^ mulF f a' b' = gmul a b) ∧ x = .int .i64 a' ∧ y = .int .i64 b' ∧ o = .int .i64 o') (fun _ y _ => (intOf y).toNat)
  case atStart => exact ⟨8, a, b, 0, by omega, ha, hb, by omega, hb, by show 0 ^^^ mulF 8 a b = gmul a b; simp [gmul], rfl, rfl, rfl⟩
  case round =>
    obtain ⟨f, a', b', o', hf, ha', hb', ho', hbf, H, rfl, rfl, rfl⟩ := hrel
    have e1 := and_one b' hb'
    by_cases h0 : b' = 0
    · subst h0
      have : o' = gmul a b := by
        have := H.out
        rw [mulF_zero_r] at this
        simpa using this
      go_wp2_with fail
      go_ret
      exact ⟨_, by rw [← this]; rfl, by omega, by omega, rfl, rfl⟩
    · obtain ⟨f, rfl⟩ : ∃ k, f = k + 1 := ⟨f - 1, by
        have : f ≠ 0 := by rintro rfl; simp at hbf; omega
        omega⟩
      have H2 := Lib.hid (mul_step H.out)
      clear H
      have hbf' : b' / 2 < 2 ^ f := by rw [Nat.pow_succ] at hbf; omega
      clear hbf
      have ho2 := xor_lt ho' ha'
      have hx := xt_lt' ha'
      by_cases h1 : b' % 2 = 1
      · have t1 : ((b' : Int) % 2 == 1) = true := by simp; omega
        by_cases h2 : 255 < a' * 2
        · go_wp2_with fail
          go_round
          case rel => exact ⟨f, xt a', b' / 2, o' ^^^ a', by omega, hx, by omega, ho2, hbf', by have := H2.out; rwa [if_pos h1] at this, by rw [xt_over a' ha' h2], by go_num, by rw [xor_out o' a' (by omega) (by omega)]⟩
          case measure => simp [intOf]; omega
        · go_wp2_with fail
          go_round
          case rel => exact ⟨f, xt a', b' / 2, o' ^^^ a', by omega, hx, by omega, ho2, hbf', by have := H2.out; rwa [if_pos h1] at this, by rw [xt_under a' h2], by go_num, by rw [xor_out o' a' (by omega) (by omega)]⟩
          case measure => simp [intOf]; omega
      · have t1 : ((b' : Int) % 2 == 1) = false := by simp; omega
        by_cases h2 : 255 < a' * 2
        · go_wp2_with fail
          go_round
          case rel => exact ⟨f, xt a', b' / 2, o', by omega, hx, by omega, ho', hbf', by have := H2.out; rwa [if_neg h1] at this, by rw [xt_over a' ha' h2], by go_num, rfl⟩
          case measure => simp [intOf]; omega
        · go_wp2_with fail
          go_round
          case rel => exact ⟨f, xt a', b' / 2, o', by omega, hx, by omega, ho', hbf', by have := H2.out; rwa [if_neg h1] at this, by rw [xt_under a' h2], by go_num, rfl⟩
          case measure => simp [intOf]; omega

theorem times_int (a b : Int) (w : World) (ha : 0 ≤ a ∧ a ≤ 255) (hb : 0 ≤ b ∧ b ≤ 255) : Calls Try.prog 60 #[.int .i64 a, .int .i64 b] w (Times (gmul a.toNat b.toNat) w) := by
  obtain ⟨a, rfl⟩ := Int.eq_ofNat_of_zero_le ha.1
  obtain ⟨b, rfl⟩ := Int.eq_ofNat_of_zero_le hb.1
  exact times a b w (by omega) (by omega)

/-! ### powers -/
theorem pow_step {a n : Nat} (ha : a < 256) {o : Nat} (ho : o < 256) : gmul (if n % 2 = 1 then gmul o a else o) (gpow (gmul a a) (n / 2)) = gmul o (gpow a n) := by
  rw [gpow_sq ha]
  by_cases h : n % 2 = 1
  · rw [if_pos h, gmul_assoc _ ho ha]
    congr 1
    rw [gmul_comm ha (gpow_lt ha _)]
    show gpow a (2 * (n / 2) + 1) = _
    congr 1; omega
  · rw [if_neg h]; congr 2; omega
theorem and_one_big (b : Nat) (h : b < 9223372036854775808) : bits .and .i64 (b : Int) 1 = ((b % 2 : Nat) : Int) := by
  have := i64_and b 1 h (by omega)
  rw [Nat.and_one_is_mod] at this
  exact this
set_option maxHeartbeats 1000000 in
theorem power (a n : Nat) (w : World) (ha : a < 256) (hn : n < 9223372036854775808) : Calls Try.prog 61 #[.int .i64 a, .int .i64 n] w (Times (gpow a n) w) := by
  go_enter Try.func61, Try.ntmps61
  go_wp2_with fail
  go_loop [0, 1, 5] (fun x y o => ∃ a' n' o' : Nat, a' < 256 ∧ n' < 9223372036854775808 ∧ o' < 256 ∧ Hid (gmul o' (gpow a' n') = gpow a n) ∧ x = .int .i64 a' ∧ y = .int .i64 n' ∧ o = .int .i64 o') (fun _ y _ => (intOf y).toNat)
  case atStart => exact ⟨a, n, 1, ha, hn, by omega, by show gmul 1 (gpow a n) = _; exact one_mul (gpow_lt ha n), rfl, rfl, rfl⟩
  case round =>
    obtain ⟨a', n', o', ha', hn', ho', H, rfl, rfl, rfl⟩ := hrel
    have e1 := and_one_big n' hn'
    by_cases h0 : n' = 0
    · subst h0
      have : o' = gpow a n := by
        have := H.out
        rwa [gpow, mul_one] at this
      go_wp2_with fail
      go_ret
      exact ⟨_, by rw [← this]; rfl, by omega, by omega, rfl, rfl⟩
    · have H2 := Lib.hid ((pow_step (n := n') ha' ho').trans H.out)
      clear H
      have l1 := gmul_lt (b := a') ho'
      have l2 := gmul_lt (b := a') ha'
      by_cases h1 : n' % 2 = 1
      · have t1 : ((n' : Int) % 2 == 1) = true := by simp; omega
        go_wp2_with fail
        refine (times _ _ _ ho' ha').mono ?_; rintro e w' ⟨v, hv, hv0, hv1, rfl, rfl⟩
        go_wp2_with fail
        refine (times _ _ _ ha' ha').mono ?_; rintro e w' ⟨u, hu, hu0, hu1, rfl, rfl⟩
        go_wp2_with fail
        go_round
        case rel => exact ⟨gmul a' a', n' / 2, gmul o' a', l2, by omega, l1, by have := H2.out; rwa [if_pos h1] at this, by rw [hu.out], by go_num, by rw [hv.out]⟩
        case measure => simp [intOf]; omega
      · have t1 : ((n' : Int) % 2 == 1) = false := by simp; omega
        go_wp2_with fail
        refine (times _ _ _ ha' ha').mono ?_; rintro e w' ⟨u, hu, hu0, hu1, rfl, rfl⟩
        go_wp2_with fail
        go_round
        case rel => exact ⟨gmul a' a', n' / 2, o', l2, by omega, ho', by have := H2.out; rwa [if_neg h1] at this, by rw [hu.out], by go_num, rfl⟩
        case measure => simp [intOf]; omega
end Go.Proofs.Ytkjaddiagembaaa
/- The walks of the field's guarded functions. -/
namespace Go.Proofs.Ytkjaddiagembaaa
open Go.RowKit
set_option linter.unusedVariables false

/-- a number below 256 and no fault; new memory only -/
def Two (r : Nat) (w : World) (e : Ending) (w' : World) : Prop := ∃ v : Int, Hid (v = (r : Int)) ∧ 0 ≤ v ∧ v ≤ 255 ∧ e = .returned (.tuple #[.int .i64 v, .int .i64 0]) ∧ Below w.heap.size w w'
def One (r : Nat) (w : World) (e : Ending) (w' : World) : Prop := ∃ v : Int, Hid (v = (r : Int)) ∧ 0 ≤ v ∧ v ≤ 255 ∧ e = .returned (.int .i64 v) ∧ Below w.heap.size w w'

set_option maxHeartbeats 1000000 in
theorem bad1 (a : Int) (g : Nat) (w : World) (t : TypeId) (ha : 0 ≤ a ∧ a ≤ 255) (h : Box w g #[.int .i64 a] t) :
    Calls Try.prog 59 #[.slice (some ⟨g, 0, none⟩) 1 1] w fun e w' => e = .returned (.bool false) ∧ w = w' := by
  have ea := andNot_byte ha.1 ha.2
  have h0 : w.cell? ⟨g, 0, none⟩ = some (.int .i64 a) := h.cell 0
  clear h
  go_enter Try.func59, Try.ntmps59
  go_wp2_with fail
  refine wp_loop_rounds 3 ?_
  rw [rounds_succ]
  go_wp2_with fail
  rw [rounds_succ]
  go_wp2_with fail
  go_ret
  exact ⟨rfl, rfl⟩

set_option maxHeartbeats 1000000 in
theorem mulG (a b : Int) (w : World) (ha : 0 ≤ a ∧ a ≤ 255) (hb : 0 ≤ b ∧ b ≤ 255) : Calls Try.prog 54 #[.int .i64 a, .int .i64 b] w (Two (gmul a.toNat b.toNat) w) := by
  go_enter Try.func54, Try.ntmps54
  go_wp2_with fail
  refine (bad2 _ _ _ _ _ ha hb (Box.new rfl)).mono ?_; rintro e w' ⟨rfl, rfl⟩
  go_wp2_with fail
  refine (times_int _ _ _ ha hb).mono ?_; rintro e w' ⟨v, hv, hv0, hv1, rfl, rfl⟩
  go_wp2_with fail
  go_ret2
  exact ⟨v, hv, hv0, hv1, rfl, Below_alloc1 _⟩
theorem power_int (a n : Int) (w : World) (ha : 0 ≤ a ∧ a ≤ 255) (hn : 0 ≤ n ∧ n < 9223372036854775808) : Calls Try.prog 61 #[.int .i64 a, .int .i64 n] w (Times (gpow a.toNat n.toNat) w) := by
  obtain ⟨a, rfl⟩ := Int.eq_ofNat_of_zero_le ha.1
  obtain ⟨n, rfl⟩ := Int.eq_ofNat_of_zero_le hn.1
  exact power a n w (by omega) (by omega)
set_option maxHeartbeats 1000000 in
theorem divG (a b : Int) (w : World) (ha : 0 ≤ a ∧ a ≤ 255) (hb : 1 ≤ b ∧ b ≤ 255) : Calls Try.prog 70 #[.int .i64 a, .int .i64 b] w (Two (gmul a.toNat (ginv b.toNat)) w) := by
  have hb' : 0 ≤ b ∧ b ≤ 255 := by omega
  have b0 : (b == 0) = false := by simp; omega
  go_enter Try.func70, Try.ntmps70
  go_wp2_with fail
  refine (bad2 _ _ _ _ _ ha hb' (Box.new rfl)).mono ?_; rintro e w' ⟨rfl, rfl⟩
  go_wp2_with fail
  refine (power_int _ _ _ hb' (by omega)).mono ?_; rintro e w' ⟨u, hu, hu0, hu1, rfl, rfl⟩
  go_wp2_with fail
  refine (times_int _ _ _ ha ⟨hu0, hu1⟩).mono ?_; rintro e w' ⟨v, hv, hv0, hv1, rfl, rfl⟩
  go_wp2_with fail
  go_ret2
  exact ⟨v, by rw [hv.out, hu.out]; rfl, hv0, hv1, rfl, Below_alloc1 _⟩
set_option maxHeartbeats 1000000 in
theorem divZ (a : Int) (w : World) (ha : 0 ≤ a ∧ a ≤ 255) : Calls Try.prog 70 #[.int .i64 a, .int .i64 0] w (fun e w' => e = .returned (.tuple #[.int .i64 0, .int .i64 10]) ∧ Below w.heap.size w w') := by
  go_enter Try.func70, Try.ntmps70
  go_wp2_with fail
  refine (bad2 _ _ _ _ _ ha (by omega) (Box.new rfl)).mono ?_; rintro e w' ⟨rfl, rfl⟩
  go_wp2_with fail
  go_ret2
  exact ⟨rfl, Below_alloc1 _⟩
theorem invG (b : Int) (w : World) (hb : 1 ≤ b ∧ b ≤ 255) : Calls Try.prog 65 #[.int .i64 b] w (Two (ginv b.toNat) w) := by
  go_enter Try.func65, Try.ntmps65
  go_wp2_with fail
  refine (divG _ _ _ (by omega) hb).mono ?_; rintro e w' ⟨v, hv, hv0, hv1, rfl, hw⟩
  go_wp2_with fail
  go_ret2
  exact ⟨v, by rw [hv.out]; congr 1; exact one_mul (ginv_lt (by omega)), hv0, hv1, rfl, hw⟩
theorem invZ (w : World) : Calls Try.prog 65 #[.int .i64 0] w (fun e w' => e = .returned (.tuple #[.int .i64 0, .int .i64 10]) ∧ Below w.heap.size w w') := by
  go_enter Try.func65, Try.ntmps65
  go_wp2_with fail
  refine (divZ _ _ (by omega)).mono ?_; rintro e w' ⟨rfl, hw⟩
  go_wp2_with fail
  go_ret2
  exact ⟨rfl, hw⟩
set_option maxHeartbeats 1000000 in
theorem powG (a n : Int) (w : World) (ha : 0 ≤ a ∧ a ≤ 255) (hn : 0 ≤ n ∧ n < 9223372036854775808) : Calls Try.prog 55 #[.int .i64 a, .int .i64 n] w (Two (gpow a.toNat n.toNat) w) := by
  go_enter Try.func55, Try.ntmps55
  go_wp2_with fail
  refine (bad1 _ _ _ _ ha (Box.new rfl)).mono ?_; rintro e w' ⟨rfl, rfl⟩
  go_wp2_with fail
  refine (power_int _ _ _ ha hn).mono ?_; rintro e w' ⟨v, hv, hv0, hv1, rfl, rfl⟩
  go_wp2_with fail
  go_ret2
  exact ⟨v, hv, hv0, hv1, rfl, Below_alloc1 _⟩
theorem expG (n : Int) (w : World) (hn : 0 ≤ n ∧ n < 9223372036854775808) : Calls Try.prog 51 #[.int .i64 n] w (Two (twos n.toNat) w) := by
  go_enter Try.func51, Try.ntmps51
  go_wp2_with fail
  refine (powG _ _ _ (by omega) hn).mono ?_; rintro e w' ⟨v, hv, hv0, hv1, rfl, hw⟩
  go_wp2_with fail
  go_ret2
  exact ⟨v, by rw [hv.out]; congr 1; exact gpow_two _, hv0, hv1, rfl, hw⟩

/-! ### logarithms -/
def Log (r : Nat) (w : World) (e : Ending) (w' : World) : Prop := ∃ v : Int, Hid (v = (r : Int)) ∧ 0 ≤ v ∧ v ≤ 254 ∧ e = .returned (.tuple #[.int .i64 v, .int .i64 0]) ∧ Below w.heap.size w w'
end Go.Proofs.Ytkjaddiagembaaa
