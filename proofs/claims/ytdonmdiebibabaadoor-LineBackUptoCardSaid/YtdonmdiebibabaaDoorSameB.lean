/- The walk of sameBytes. -/
import Derived.Test.YtdonmdiebibabaaDoorSame
namespace Go.Proofs.YtdonmdiebibabaaDoor
open Go.RowKit
set_option linter.unusedVariables false

set_option maxHeartbeats 1000000 in
theorem sameBytes (a : Option Addr) (la ca : Nat) (xs : List Int) (b : Option Addr) (lb cb : Nat) (ys : List Int) (w : World) (ha : Row .u8 w a la ca xs) (hb : Row .u8 w b lb cb ys) :
    Calls Tryd.prog 15 #[.slice a la ca, .slice b lb cb] w (Same xs ys w) := by
  have h1 := ha.hle
  have h2 := ha.hmax
  have h3 := hb.hle
  have h4 := hb.hmax
  have h5 := ha.hlen
  have h6 := hb.hlen
  unfold maxLen at h2 h4
  by_cases hne : la = lb
  · subst hne
    have H5 := Lib.hid h5
    have H6 := Lib.hid h6
    clear h5 h6
    go_enter Tryd.func15, Tryd.ntmps15
    go_wp2_with fail

    go_loopw [5] (fun i wr => ∃ k : Nat, k ≤ la ∧ i = .int .i64 k ∧ Hid (∀ j, j < k → xs.getD j 0 = ys.getD j 0) ∧ ∃ n, wr = w.drewN n) (fun i _ => la - (intOf i).toNat)
    case atStart => exact ⟨0, by omega, rfl, fun j hj => absurd hj (by omega), 0, rfl⟩
    case round =>
      obtain ⟨k, hk, rfl, hsame, n, rfl⟩ := hrel
      by_cases hlt : k < la
      · rcases ha.hat with h0 | ⟨b1, o1, rfl, hc1⟩
        · omega
        rcases hb.hat with h0 | ⟨b2, o2, rfl, hc2⟩
        · omega
        have e1 := hc1 k hlt
        have e2 := hc2 k hlt
        clear hc1 hc2
        obtain ⟨x, hx⟩ : ∃ x, Hid (xs.getD k 0 = x) := ⟨_, rfl⟩
        obtain ⟨y, hy⟩ : ∃ y, Hid (ys.getD k 0 = y) := ⟨_, rfl⟩
        rw [hx.out] at e1
        rw [hy.out] at e2
        have hki : (k : Int) < (la : Int) := by omega
        by_cases hxy : x = y
        · have hb1 : (x != y) = false := by simp [hxy]
          have hn : ∀ j, j < k + 1 → xs.getD j 0 = ys.getD j 0 := fun j hj => by
            by_cases h : j < k
            · exact hsame.out j h
            · obtain rfl : j = k := by omega
              rw [hx.out, hy.out, hxy]
          have HN := Lib.hid hn
          clear hn hxy
          go_wp2
          go_quiet (fail)
          go_wp2
          go_roundw
          case rel => exact ⟨k + 1, by omega, by go_num, HN.out, _, by first | rfl | exact World.drewN_drewN _ _ _⟩
          case measure => simp [intOf]; omega
        · have hb1 : (x != y) = true := by simp [hxy]
          have hn : ¬ xs = ys := fun h => hxy (by rw [← hx.out, ← hy.out, h])
          have HN := Lib.hid hn
          clear hn hxy
          go_wp2
          go_quiet (fail)
          go_wp2
          go_ret
          exact ⟨ret_bool (decide_eq_false HN.out).symm, _, by first | rfl | exact World.drewN_drewN _ _ _⟩
      · obtain rfl : k = la := by omega
        have hn : xs = ys := getD_ext (by rw [H5.out, H6.out]) (fun i hi => hsame.out i (by have := H5.out; omega))
        have HN := Lib.hid hn
        clear hn
        go_wp2
        go_ret
        exact ⟨ret_bool (decide_eq_true HN.out).symm, _, rfl⟩
  · have hb0 : ((la : Int) != (lb : Int)) = true := by simp; omega
    have hn : ¬ xs = ys := fun h => hne (by rw [← h5, ← h6, h])
    have HN := Lib.hid hn
    clear hn h5 h6
    go_enter Tryd.func15, Tryd.ntmps15
    go_wp2
    go_ret
    exact ⟨ret_bool (decide_eq_false HN.out).symm, 0, rfl⟩
end Go.Proofs.YtdonmdiebibabaaDoor
