/- The walk of package label: a number read. -/
import Derived.Test.YteidmdakglkkfaaLbW
import Derived.Test.YteidmdakglkkfaaBits
namespace Go.Proofs.Yteidmdakglkkfaa
open Go.RowKit
set_option linter.unusedVariables false

/-- what a slice's pointer is behind so many elements of one cell -/
def onA (a : Option Addr) (cap lo : Nat) : Option Addr := if cap = lo then a else a.map (·.add lo)
theorem Row.from_ {k : IntKind} {w : World} {a : Option Addr} {len cap : Nat} {xs : List Int} (h : Row k w a len cap xs) (lo : Nat) (hlo : lo ≤ len) : Row k w (onA a cap lo) (len - lo) (cap - lo) (xs.drop lo) := by
  have hp := h.toV.piece lo len hlo (Nat.le_refl _)
  have hl := h.hlen
  have e : (((xs.map (Value.int k)).drop (lo * 1)).take ((len - lo) * 1)) = (xs.drop lo).map (.int k) := by
    rw [Nat.mul_one, Nat.mul_one, List.map_drop, List.take_of_length_le (by rw [List.length_drop, List.length_map]; omega)]
  rw [e, Nat.mul_one] at hp
  exact hp.toRow (fun x hx => h.hwf x (List.mem_of_mem_drop hx))
theorem bw_take_succ (xs : List Int) (i : Nat) (h : i < xs.length) : bw (xs.drop i) = xs.getD i 0 + 256 * bw (xs.drop (i + 1)) := by
  rw [List.drop_eq_getElem_cons h]
  show xs[i] + 256 * _ = _
  congr 1
  simp [List.getD, h]
theorem shl_or (n b : Int) (hb : 0 ≤ b ∧ b ≤ 255) : bits .or .i64 (wrap64 (n * 256)) b = wrap64 (b + 256 * n) := by
  obtain ⟨c, rfl⟩ := Int.eq_ofNat_of_zero_le hb.1
  have h1 : (BitVec.ofInt 64 (wrap64 (n * 256)) ||| BitVec.ofInt 64 (c : Int)) = BitVec.ofInt 64 (wrap64 (n * 256)) + BitVec.ofInt 64 (c : Int) := by
    have h0 : BitVec.ofInt 64 (wrap64 (n * 256)) &&& BitVec.ofInt 64 (c : Int) = 0#64 := by
      have ea : BitVec.ofInt 64 (wrap64 (n * 256)) = BitVec.ofInt 64 n <<< 8 := by
        apply BitVec.eq_of_toNat_eq
        rw [BitVec.toNat_ofInt, BitVec.toNat_shiftLeft, BitVec.toNat_ofInt, Nat.shiftLeft_eq]
        unfold wrap64
        omega
      apply BitVec.eq_of_getLsbD_eq
      intro i hi
      rw [BitVec.getLsbD_and, ea, BitVec.getLsbD_shiftLeft]
      by_cases h8 : i < 8
      · simp [h8]
      · have : (BitVec.ofInt 64 (c : Int)).getLsbD i = false := by
          rw [BitVec.getLsbD, BitVec.toNat_ofInt]
          have e : ((c : Int) % ((2 ^ 64 : Nat) : Int)).toNat = c := by omega
          rw [e]
          apply Nat.testBit_lt_two_pow
          have : 2 ^ 8 ≤ 2 ^ i := Nat.pow_le_pow_right (by decide) (by omega)
          omega
        rw [this]; simp
    exact (BitVec.add_eq_or_of_and_eq_zero _ _ h0).symm
  show IntKind.i64.wrap ((BitVec.ofInt 64 (wrap64 (n * 256)) ||| BitVec.ofInt 64 (c : Int)).toNat : Int) = _
  rw [h1, BitVec.toNat_add, BitVec.toNat_ofInt, BitVec.toNat_ofInt, IntKind.wrap_i64]
  unfold wrap64
  omega
set_option maxHeartbeats 1000000 in
theorem number (hr : Nat) (a : Option Addr) (len cap : Nat) (xs : List Int) (size : Nat) (w : World) (hb : Hid (Box w hr #[.slice a len cap] 118)) (h : Row .u8 w a len cap xs) (hx : ∀ x ∈ xs, 0 ≤ x ∧ x ≤ 255) (hz : size ≤ len) (h1 : 1 ≤ size) (h8 : size ≤ 8) :
    Calls Try.prog 46 #[.pointer (some ⟨hr, 0, none⟩), .int .i64 size] w fun e w' => e = .returned (.int .i64 (wrap64 (bw (xs.take size)))) ∧ w' = w.setCell ⟨hr, 0, none⟩ (.slice (onA a cap size) (len - size) (cap - size)) := by
  have hle := h.hle
  have hmx := h.hmax
  have hln := h.hlen
  unfold maxLen at hmx
  rcases h.hat with h0 | ⟨g, off, rfl, hc⟩
  · omega
  have HC := Lib.hid hc
  have HX := Lib.hid hx
  have c0 : w.cell? ⟨hr, 0, none⟩ = some (.slice (some ⟨g, off, none⟩) len cap) := hb.out.cell 0
  have f0 : w.frozen? ⟨hr, 0, none⟩ = false := hb.out.free _
  obtain ⟨ys, hys⟩ : ∃ ys, Hid (xs.take size = ys) := ⟨_, rfl⟩
  have hyl : ys.length = size := by rw [← hys.out, List.length_take]; omega
  have hyg : ∀ i, i < size → ys.getD i 0 = xs.getD i 0 := fun i hi => by
    rw [← hys.out]; simp [List.getD, hi]
  have HYG := Lib.hid hyg
  rw [hys.out]
  clear hc hx h hyg hln
  go_enter Try.func46, Try.ntmps46
  go_wp2_with fail
  go_loop [5, 6] (fun nv iv => ∃ k : Nat, k ≤ size ∧ iv = .int .i64 ((k : Int) - 1) ∧ nv = .int .i64 (wrap64 (bw (ys.drop k)))) (fun _ iv => (intOf iv + 1).toNat)
  case atStart => exact ⟨size, by omega, rfl, by rw [List.drop_of_length_le (by omega), show wrap64 (bw []) = 0 from by simp [bw, wrap64]]⟩
  case round =>
    obtain ⟨k, hk, rfl, rfl⟩ := hrel
    by_cases hk0 : k = 0
    · subst hk0
      by_cases hcs : cap = size
      · go_wp2_with fail
        go_ret
        exact ⟨rfl, by simp [onA]⟩
      · go_wp2_with fail
        go_ret
        exact ⟨rfl, by simp [onA, hcs, Addr.add, show size ≠ 0 by omega]⟩
    · obtain ⟨j, rfl⟩ : ∃ j, k = j + 1 := ⟨k - 1, by omega⟩
      have hu := HC.out j (by omega)
      have hbd : 0 ≤ xs.getD j 0 ∧ xs.getD j 0 ≤ 255 := by
        have hjl : j < xs.length := by have := hys.out; have h2 := congrArg List.length this; rw [List.length_take] at h2; omega
        have := HX.out (xs.getD j 0) (by simp [List.getD, hjl])
        exact this
      have hbs := bw_take_succ ys j (by omega)
      rw [HYG.out j (by omega)] at hbs
      obtain ⟨x, hx⟩ : ∃ x, Hid (xs.getD j 0 = x) := ⟨_, rfl⟩
      rw [hx.out] at hu hbd hbs
      have hso := shl_or (wrap64 (bw (ys.drop (j + 1)))) x hbd
      have hji : ((j + 1 : Nat) : Int) - 1 = (j : Int) := by omega
      rw [hji]
      have hjz : (0 : Int) ≤ (j : Int) := by omega
      have HSO := Lib.hid hso
      have HBS := Lib.hid hbs
      clear hso hbs
      obtain ⟨n, hn⟩ : ∃ n, Hid (wrap64 (bw (ys.drop (j + 1))) = n) := ⟨_, rfl⟩
      rw [hn.out] at HSO ⊢
      go_wp2_with fail
      go_round
      case rel => exact ⟨j, by omega, rfl, by rw [HSO.out, HBS.out, ← hn.out, ← wrap_add_r, wrap_mul_r, wrap_add_r]⟩
      case measure => (simp [intOf]; try omega)
end Go.Proofs.Yteidmdakglkkfaa
