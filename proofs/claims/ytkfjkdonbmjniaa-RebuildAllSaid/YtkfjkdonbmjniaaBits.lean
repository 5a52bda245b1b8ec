/- Bit operations on int, of numbers that are not negative. No program here. -/
import Derived.WalkKit
namespace Go.Proofs.Ytkfjkdonbmjniaa
open Go.RowKit
set_option linter.unusedVariables false

theorem ofInt_i64 (a : Nat) (ha : a < 9223372036854775808) : (BitVec.ofInt 64 (a : Int)).toNat = a := by
  rw [BitVec.toNat_ofInt]; omega
theorem i64_or (a b : Nat) (ha : a < 9223372036854775808) (hb : b < 9223372036854775808) : bits .or .i64 (a : Int) (b : Int) = ((a ||| b : Nat) : Int) := by
  have hx : a ||| b < 2 ^ 63 := Nat.or_lt_two_pow (by omega) (by omega)
  show IntKind.i64.wrap ((BitVec.ofInt 64 (a : Int) ||| BitVec.ofInt 64 (b : Int)).toNat : Int) = _
  rw [BitVec.toNat_or, ofInt_i64 a ha, ofInt_i64 b hb, IntKind.wrap_i64]
  omega
theorem i64_xor (a b : Nat) (ha : a < 9223372036854775808) (hb : b < 9223372036854775808) : bits .xor .i64 (a : Int) (b : Int) = ((a ^^^ b : Nat) : Int) := by
  have hx : a ^^^ b < 2 ^ 63 := Nat.xor_lt_two_pow (by omega) (by omega)
  show IntKind.i64.wrap ((BitVec.ofInt 64 (a : Int) ^^^ BitVec.ofInt 64 (b : Int)).toNat : Int) = _
  rw [BitVec.toNat_xor, ofInt_i64 a ha, ofInt_i64 b hb, IntKind.wrap_i64]
  omega
theorem i64_and (a b : Nat) (ha : a < 9223372036854775808) (hb : b < 9223372036854775808) : bits .and .i64 (a : Int) (b : Int) = ((a &&& b : Nat) : Int) := by
  have hx : a &&& b ≤ a := Nat.and_le_left
  show IntKind.i64.wrap ((BitVec.ofInt 64 (a : Int) &&& BitVec.ofInt 64 (b : Int)).toNat : Int) = _
  rw [BitVec.toNat_and, ofInt_i64 a ha, ofInt_i64 b hb, IntKind.wrap_i64]
  omega
theorem or_add (a b k : Nat) (h : a < 2 ^ k) : a ||| (b * 2 ^ k) = a + b * 2 ^ k := by
  rw [Nat.or_comm, ← Nat.shiftLeft_eq, ← Nat.shiftLeft_add_eq_or_of_lt h, Nat.add_comm]

/-- four bytes, the least first, joined by shifts and or -/
theorem word_bits (a b c d : Int) (ha : 0 ≤ a ∧ a ≤ 255) (hb : 0 ≤ b ∧ b ≤ 255) (hc : 0 ≤ c ∧ c ≤ 255) (hd : 0 ≤ d ∧ d ≤ 255) :
    bits BinOp.or IntKind.i64 (bits BinOp.or IntKind.i64 (bits BinOp.or IntKind.i64 (IntKind.i64.wrap a) (IntKind.i64.wrap (IntKind.i64.wrap b * 256))) (IntKind.i64.wrap (IntKind.i64.wrap c * 65536)))
      (IntKind.i64.wrap (IntKind.i64.wrap d * 16777216)) = a + 256 * b + 65536 * c + 16777216 * d := by
  rw [IntWalk.i64_in a (by omega), IntWalk.i64_in b (by omega), IntWalk.i64_in c (by omega), IntWalk.i64_in d (by omega), IntWalk.i64_in (b * 256) (by omega), IntWalk.i64_in (c * 65536) (by omega), IntWalk.i64_in (d * 16777216) (by omega)]
  obtain ⟨a, rfl⟩ := Int.eq_ofNat_of_zero_le ha.1
  obtain ⟨b, rfl⟩ := Int.eq_ofNat_of_zero_le hb.1
  obtain ⟨c, rfl⟩ := Int.eq_ofNat_of_zero_le hc.1
  obtain ⟨d, rfl⟩ := Int.eq_ofNat_of_zero_le hd.1
  have h1 : a ||| (b * 2 ^ 8) = a + b * 2 ^ 8 := or_add a b 8 (by omega)
  have h2 : (a + b * 2 ^ 8) ||| (c * 2 ^ 16) = a + b * 2 ^ 8 + c * 2 ^ 16 := or_add _ c 16 (by omega)
  have h3 : (a + b * 2 ^ 8 + c * 2 ^ 16) ||| (d * 2 ^ 24) = a + b * 2 ^ 8 + c * 2 ^ 16 + d * 2 ^ 24 := or_add _ d 24 (by omega)
  rw [show (b : Int) * 256 = ((b * 2 ^ 8 : Nat) : Int) from by omega, i64_or a _ (by omega) (by omega), h1,
    show (c : Int) * 65536 = ((c * 2 ^ 16 : Nat) : Int) from by omega, i64_or _ _ (by omega) (by omega), h2,
    show (d : Int) * 16777216 = ((d * 2 ^ 24 : Nat) : Int) from by omega, i64_or _ _ (by omega) (by omega), h3]
  omega
end Go.Proofs.Ytkfjkdonbmjniaa
