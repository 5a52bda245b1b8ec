/- The walks of the field's guarded functions. -/
import Derived.Test.YtkfjkdonbmjniaaGfW
namespace Go.Proofs.Ytkfjkdonbmjniaa
open Go.RowKit
set_option linter.unusedVariables false

/-- a number below 256 and no fault; new memory only -/
def Two (r : Nat) (w : World) (e : Ending) (w' : World) : Prop := ∃ v : Int, Hid (v = (r : Int)) ∧ 0 ≤ v ∧ v ≤ 255 ∧ e = .returned (.tuple #[.int .i64 v, .int .i64 0]) ∧ Below w.heap.size w w'
def One (r : Nat) (w : World) (e : Ending) (w' : World) : Prop := ∃ v : Int, Hid (v = (r : Int)) ∧ 0 ≤ v ∧ v ≤ 255 ∧ e = .returned (.int .i64 v) ∧ Below w.heap.size w w'

set_option maxHeartbeats 1000000 in
theorem bad1 (a : Int) (g : Nat) (w : World) (t : TypeId) (ha : 0 ≤ a ∧ a ≤ 255) (h : Box w g #[.int .i64 a] t) :
    Calls Try.prog 40 #[.slice (some ⟨g, 0, none⟩) 1 1] w fun e w' => e = .returned (.bool false) ∧ w = w' := by
  have ea := andNot_byte ha.1 ha.2
  have h0 : w.cell? ⟨g, 0, none⟩ = some (.int .i64 a) := h.cell 0
  clear h
  go_enter Try.func40, Try.ntmps40
  go_wp2_with fail
  refine wp_loop_rounds 3 ?_
  rw [rounds_succ]
  go_wp2_with fail
  rw [rounds_succ]
  go_wp2_with fail
  go_ret
  exact ⟨rfl, rfl⟩

set_option maxHeartbeats 1000000 in
theorem mulG (a b : Int) (w : World) (ha : 0 ≤ a ∧ a ≤ 255) (hb : 0 ≤ b ∧ b ≤ 255) : Calls Try.prog 38 #[.int .i64 a, .int .i64 b] w (Two (gmul a.toNat b.toNat) w) := by
  go_enter Try.func38, Try.ntmps38
  go_wp2_with fail
  refine (bad2 _ _ _ _ _ ha hb (Box.new rfl)).mono ?_; rintro e w' ⟨rfl, rfl⟩
  go_wp2_with fail
  refine (times_int _ _ _ ha hb).mono ?_; rintro e w' ⟨v, hv, hv0, hv1, rfl, rfl⟩
  go_wp2_with fail
  go_ret2
  exact ⟨v, hv, hv0, hv1, rfl, Below_alloc1 _⟩
set_option maxHeartbeats 1000000 in
theorem addG (a b : Int) (w : World) (ha : 0 ≤ a ∧ a ≤ 255) (hb : 0 ≤ b ∧ b ≤ 255) : Calls Try.prog 39 #[.int .i64 a, .int .i64 b] w (Two (a.toNat ^^^ b.toNat) w) := by
  have e : bits .xor .i64 a b = ((a.toNat ^^^ b.toNat : Nat) : Int) := by
    have := xor_out a.toNat b.toNat (by omega) (by omega)
    rwa [Int.toNat_of_nonneg ha.1, Int.toNat_of_nonneg hb.1] at this
  have hl : a.toNat ^^^ b.toNat < 256 := xor_lt (by omega) (by omega)
  have E := Lib.hid e
  clear e
  go_enter Try.func39, Try.ntmps39
  go_wp2_with fail
  refine (bad2 _ _ _ _ _ ha hb (Box.new rfl)).mono ?_; rintro e w' ⟨rfl, rfl⟩
  go_wp2_with fail
  go_ret2
  exact ⟨_, E, by rw [E.out]; omega, by rw [E.out]; omega, rfl, Below_alloc1 _⟩
set_option maxHeartbeats 1000000 in
theorem mulK (a b : Int) (w : World) (ha : 0 ≤ a ∧ a ≤ 255) (hb : 0 ≤ b ∧ b ≤ 255) : Calls Try.prog 16 #[.int .i64 a, .int .i64 b] w (One (gmul a.toNat b.toNat) w) := by
  go_enter Try.func16, Try.ntmps16
  go_wp2_with fail
  refine (mulG _ _ _ ha hb).mono ?_; rintro e w' ⟨v, hv, hv0, hv1, rfl, hw⟩
  go_wp2_with fail
  go_ret
  exact ⟨v, hv, hv0, hv1, rfl, hw⟩
set_option maxHeartbeats 1000000 in
theorem addK (a b : Int) (w : World) (ha : 0 ≤ a ∧ a ≤ 255) (hb : 0 ≤ b ∧ b ≤ 255) : Calls Try.prog 17 #[.int .i64 a, .int .i64 b] w (One (a.toNat ^^^ b.toNat) w) := by
  go_enter Try.func17, Try.ntmps17
  go_wp2_with fail
  refine (addG _ _ _ ha hb).mono ?_; rintro e w' ⟨v, hv, hv0, hv1, rfl, hw⟩
  go_wp2_with fail
  go_ret
  exact ⟨v, hv, hv0, hv1, rfl, hw⟩

theorem power_int (a n : Int) (w : World) (ha : 0 ≤ a ∧ a ≤ 255) (hn : 0 ≤ n ∧ n < 9223372036854775808) : Calls Try.prog 41 #[.int .i64 a, .int .i64 n] w (Times (gpow a.toNat n.toNat) w) := by
  obtain ⟨a, rfl⟩ := Int.eq_ofNat_of_zero_le ha.1
  obtain ⟨n, rfl⟩ := Int.eq_ofNat_of_zero_le hn.1
  exact power a n w (by omega) (by omega)
set_option maxHeartbeats 1000000 in
theorem divG (a b : Int) (w : World) (ha : 0 ≤ a ∧ a ≤ 255) (hb : 1 ≤ b ∧ b ≤ 255) : Calls Try.prog 20 #[.int .i64 a, .int .i64 b] w (Two (gmul a.toNat (ginv b.toNat)) w) := by
  have hb' : 0 ≤ b ∧ b ≤ 255 := by omega
  have b0 : (b == 0) = false := by simp; omega
  go_enter Try.func20, Try.ntmps20
  go_wp2_with fail
  refine (bad2 _ _ _ _ _ ha hb' (Box.new rfl)).mono ?_; rintro e w' ⟨rfl, rfl⟩
  go_wp2_with fail
  refine (power_int _ _ _ hb' (by omega)).mono ?_; rintro e w' ⟨u, hu, hu0, hu1, rfl, rfl⟩
  go_wp2_with fail
  refine (times_int _ _ _ ha ⟨hu0, hu1⟩).mono ?_; rintro e w' ⟨v, hv, hv0, hv1, rfl, rfl⟩
  go_wp2_with fail
  go_ret2
  exact ⟨v, by rw [hv.out, hu.out]; rfl, hv0, hv1, rfl, Below_alloc1 _⟩
set_option maxHeartbeats 1000000 in
theorem divZ (a : Int) (w : World) (ha : 0 ≤ a ∧ a ≤ 255) : Calls Try.prog 20 #[.int .i64 a, .int .i64 0] w (fun e w' => e = .returned (.tuple #[.int .i64 0, .int .i64 10]) ∧ Below w.heap.size w w') := by
  go_enter Try.func20, Try.ntmps20
  go_wp2_with fail
  refine (bad2 _ _ _ _ _ ha (by omega) (Box.new rfl)).mono ?_; rintro e w' ⟨rfl, rfl⟩
  go_wp2_with fail
  go_ret2
  exact ⟨rfl, Below_alloc1 _⟩
theorem invG (b : Int) (w : World) (hb : 1 ≤ b ∧ b ≤ 255) : Calls Try.prog 21 #[.int .i64 b] w (Two (ginv b.toNat) w) := by
  go_enter Try.func21, Try.ntmps21
  go_wp2_with fail
  refine (divG _ _ _ (by omega) hb).mono ?_; rintro e w' ⟨v, hv, hv0, hv1, rfl, hw⟩
  go_wp2_with fail
  go_ret2
  exact ⟨v, by rw [hv.out]; congr 1; exact one_mul (ginv_lt (by omega)), hv0, hv1, rfl, hw⟩
theorem invZ (w : World) : Calls Try.prog 21 #[.int .i64 0] w (fun e w' => e = .returned (.tuple #[.int .i64 0, .int .i64 10]) ∧ Below w.heap.size w w') := by
  go_enter Try.func21, Try.ntmps21
  go_wp2_with fail
  refine (divZ _ _ (by omega)).mono ?_; rintro e w' ⟨rfl, hw⟩
  go_wp2_with fail
  go_ret2
  exact ⟨rfl, hw⟩
set_option maxHeartbeats 1000000 in
theorem powG (a n : Int) (w : World) (ha : 0 ≤ a ∧ a ≤ 255) (hn : 0 ≤ n ∧ n < 9223372036854775808) : Calls Try.prog 18 #[.int .i64 a, .int .i64 n] w (Two (gpow a.toNat n.toNat) w) := by
  go_enter Try.func18, Try.ntmps18
  go_wp2_with fail
  refine (bad1 _ _ _ _ ha (Box.new rfl)).mono ?_; rintro e w' ⟨rfl, rfl⟩
  go_wp2_with fail
  refine (power_int _ _ _ ha hn).mono ?_; rintro e w' ⟨v, hv, hv0, hv1, rfl, rfl⟩
  go_wp2_with fail
  go_ret2
  exact ⟨v, hv, hv0, hv1, rfl, Below_alloc1 _⟩
theorem expG (n : Int) (w : World) (hn : 0 ≤ n ∧ n < 9223372036854775808) : Calls Try.prog 19 #[.int .i64 n] w (Two (twos n.toNat) w) := by
  go_enter Try.func19, Try.ntmps19
  go_wp2_with fail
  refine (powG _ _ _ (by omega) hn).mono ?_; rintro e w' ⟨v, hv, hv0, hv1, rfl, hw⟩
  go_wp2_with fail
  go_ret2
  exact ⟨v, by rw [hv.out]; congr 1; exact gpow_two _, hv0, hv1, rfl, hw⟩

/-! ### logarithms -/
def Log (r : Nat) (w : World) (e : Ending) (w' : World) : Prop := ∃ v : Int, Hid (v = (r : Int)) ∧ 0 ≤ v ∧ v ≤ 254 ∧ e = .returned (.tuple #[.int .i64 v, .int .i64 0]) ∧ Below w.heap.size w w'
set_option maxHeartbeats 1000000 in
theorem logG (a : Int) (w : World) (ha : 1 ≤ a ∧ a ≤ 255) : Calls Try.prog 22 #[.int .i64 a] w (Log (glog a.toNat) w) := by
  have ha' : 0 ≤ a ∧ a ≤ 255 := by omega
  have a0 : (a == 0) = false := by simp; omega
  have L := glog_lt (a := a.toNat) (by omega) (by omega)
  have T := twos_glog (a := a.toNat) (by omega) (by omega)
  go_enter Try.func22, Try.ntmps22
  go_wp2_with fail
  refine (bad1 _ _ _ _ ha' (Box.new rfl)).mono ?_; rintro e w' ⟨rfl, rfl⟩
  go_wp2_with fail
  obtain ⟨V, hV⟩ : ∃ V, V = w.alloc (Obj.cells #[Value.int IntKind.i64 a] 3) := ⟨_, rfl⟩
  have hb : Below w.heap.size w V := by rw [hV]; exact Below_alloc1 _
  rw [← hV]
  clear hV
  go_loop [4, 5] (fun n x => ∃ k : Nat, k ≤ glog a.toNat ∧ n = .int .i64 k ∧ x = .int .i64 (twos k : Nat)) (fun n _ => glog a.toNat - (intOf n).toNat)
  case atStart => exact ⟨0, by omega, rfl, rfl⟩
  case round =>
    obtain ⟨k, hk, rfl, rfl⟩ := hrel
    have htl := twos_lt k
    by_cases h : k = glog a.toNat
    · have hn : ((twos k : Int) != a) = false := by
        rw [h, T]; simp; omega
      have HK := Lib.hid h
      clear h T
      go_wp2_with fail
      go_ret2
      exact ⟨_, by rw [← HK.out]; rfl, by omega, by omega, rfl, hb⟩
    · have hn : ((twos k : Int) != a) = true := by
        simp
        intro e
        apply h
        rw [← e, Int.toNat_natCast, glog_twos (by omega)]
      clear T
      go_wp2_with fail
      refine (times_int _ _ _ (by omega) (by omega)).mono ?_; rintro e w' ⟨v, hv, hv0, hv1, rfl, rfl⟩
      go_wp2_with fail
      go_round
      case rel => exact ⟨k + 1, by omega, by go_num, by rw [hv.out]; congr 2; exact gmul_two htl⟩
      case measure => simp [intOf]; omega
end Go.Proofs.Ytkfjkdonbmjniaa
