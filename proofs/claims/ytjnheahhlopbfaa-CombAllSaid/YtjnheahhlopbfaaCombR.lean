/- The law CombBack, walked. -/
import Derived.Test.YtjnheahhlopbfaaCombQ
import Derived.Test.YtjnheahhlopbfaaSev
import Derived.Test.YtjnheahhlopbfaaSameI
namespace Go.Proofs.Ytjnheahhlopbfaa
open Go.RowKit
set_option linter.unusedVariables false

theorem Pick.weaken {n y : Nat} {p : List Nat} (h : Pick n (y + 1) p) : Pick n y p := by
  cases p with
  | nil => have h' : y + 1 ≤ n := h; show y ≤ n; omega
  | cons x ps => exact ⟨by have := h.1; omega, h.2.1, h.2.2⟩
theorem pick_filter (n : Nat) (f : Nat → Bool) : ∀ d y, y + d = n → Pick n y ((List.range' y d).filter f)
  | 0, y, h => by show y ≤ n; omega
  | d + 1, y, h => by
    rw [List.range'_succ, List.filter_cons]
    have ih := pick_filter n f d (y + 1) (by omega)
    split
    · exact ⟨Nat.le_refl _, by omega, ih⟩
    · exact ih.weaken
theorem several_pick (l : List Int) (most n : Nat) : Pick n 0 (several l most n) := by
  unfold several sevTo
  rw [List.range_eq_range']
  exact pick_filter n _ n 0 (by omega)
theorem number_int (n : Int) (a : Option Addr) (len cap : Nat) (p : List Nat) (w : World) (h : Row .i64 w a len cap (ints p)) (hn0 : 0 ≤ n) (hn : n ≤ 12) (hp : Pick n.toNat 0 p) :
    Calls Try.prog 27 #[.int .i64 n, .slice a len cap] w (Numbers (rk n.toNat n.toNat p) w) := by
  obtain ⟨n, rfl⟩ := Int.eq_ofNat_of_zero_le hn0
  exact number n a len cap p w h (by omega) hp
theorem count_int' (n k : Int) (w : World) (h0 : 0 ≤ k) (hk : k ≤ n) (hn : n ≤ 12) : Calls Try.prog 25 #[.int .i64 n, .int .i64 k] w (Counts (pas n.toNat k.toNat) w) := by
  obtain ⟨k, rfl⟩ := Int.eq_ofNat_of_zero_le h0
  obtain ⟨n, rfl⟩ := Int.eq_ofNat_of_zero_le (show 0 ≤ n by omega)
  exact count n k w (by omega) (by omega)

set_option maxRecDepth 100000 in
set_option maxHeartbeats 2000000 in
theorem combBack (n : Int) (a : Option Addr) (len cap : Nat) (zs : List Int) (w : World) (ha : Row .i64 w a len cap zs) :
    Calls Try.prog 12 #[.int .i64 n, .slice a len cap] w fun e w' => e = .returned (.bool true) ∧ Below w.heap.size w w' := by
  go_enter Try.func12, Try.ntmps12
  go_wp2_with fail
  refine (picked _ _ _ (by omega) (by omega)).mono ?_
  rintro e w' ⟨r, hr, hr0, hr1, rfl, rfl⟩
  clear hr
  go_wp2_with fail
  refine (sev _ _ _ _ _ _ _ ha (by omega) (by omega) (by omega) (by omega)).mono ?_
  rintro e w1 ⟨a1, l1, c1, rfl, hown1, hb1⟩
  obtain ⟨P, hP⟩ : ∃ P, Hid (several zs (1 + r).toNat (1 + r).toNat = P) := ⟨_, rfl⟩
  have hpick : Pick (1 + r).toNat 0 P := by rw [← hP.out]; exact several_pick _ _ _
  rw [hP.out] at hown1
  have hl1 : P.length = l1 := by have := hown1.out.1; simpa [nats] using this
  have hl2 := hpick.length
  have R1 := Lib.hid hown1.out.ints
  have HPK := Lib.hid hpick
  have HL1 := Lib.hid hl1
  have l12 : l1 ≤ 1 + r.toNat := by omega
  clear hpick hl1 hl2 hown1 hP
  have hmx := R1.out.hle
  have hmx2 := R1.out.hmax
  unfold maxLen at hmx2
  go_wp2_with (at_builtin; refine wpList_append_data (L := Lay.int .i64) rfl (.const (.slice none 0 0)) (.tmp 24) 51 rfl w1.heap.size 3 (.int .i64 0) 8 Try.underlying51 info_int rfl (fun _ => True) none 0 0 [] rfl (SOwn.nil ..) a1 l1 c1 (nats P) ((nats P).map fun x => [Value.int .i64 x]) rfl (by rw [flatten_ints]; exact R1.out.toV) (fun _ => False) (Pt.ints R1.out.hwf) (by have := HL1.out; simp [nats]; omega) (fun b h => h.elim) (by unfold maxLen; omega) (by omega) (Nat.le_refl _) ?_)
  intro a2 c2 w2 hown2 hg2
  have hb2 : Below w1.heap.size w1 w2 := (SOwn.nil (Lay.int .i64) w1 w1.heap.size 3 (fun _ => True)).grown (Below.refl _ _) (Nat.le_refl _) (Nat.le_refl _) hg2
  have R2 : Hid (Row .i64 w2 a2 l1 c2 (nats P)) := by have := hown2.ints; simpa [Hid] using this
  have R1' : Hid (Row .i64 w2 a1 l1 c1 (nats P)) := R1.out.below hb2
  have HB := Lib.hid (Below_next hb1 hb2)
  clear hown2 hg2 hb2 hb1 R1
  go_wp2_with fail
  refine (number_int _ _ _ _ P _ R2.out (by omega) (by omega) HPK.out).mono ?_
  rintro e w' ⟨x, hx, hx0, hx1, rfl, rfl⟩
  go_wp2_with fail
  refine (count_int' _ _ _ (by omega) (by omega) (by omega)).mono ?_
  rintro e w' ⟨c, hc, hc0, hc1, rfl, rfl⟩
  have hxc : x < c := by
    have h1 := rk_lt (1 + r).toNat (1 + r).toNat P (Nat.le_refl _) (by rw [Nat.sub_self]; exact HPK.out)
    have h2 := hx.out
    have h3 := hc.out
    rw [HL1.out] at h1
    rw [Int.toNat_natCast] at h3
    omega
  go_wp2_with fail
  refine (at_pick _ _ _ P _ (by omega) (by omega) (by have := HL1.out; show _ = _; omega) HPK.out hx).mono ?_
  rintro e w3 ⟨a3, c3, rfl, hown3, hb3⟩
  rw [HL1.out] at hown3 ⊢
  have R3 := Lib.hid hown3.out.ints
  replace R1' := Lib.hid (R1'.out.below hb3)
  replace HB := Lib.hid (Below_next HB.out hb3)
  clear hown3 hb3
  go_wp2_with fail
  refine (at_beyond _ _ _ _ (by omega) (by omega) (by omega) hc).mono ?_
  rintro e w' ⟨rfl, rfl⟩
  have b1 : decide (0 ≤ x) = true := by simp; omega
  have b2 : decide (x < c) = true := by simp; omega
  go_wp2_with fail
  refine (sameInts _ _ _ (nats P) _ _ _ (nats P) _ R1'.out R3.out).mono ?_
  rintro e w4 ⟨rfl, k4, rfl⟩
  have hd : decide (nats P = nats P) = true := by simp
  go_wp2_with fail
  go_ret
  exact ⟨rfl, below_drewN HB.out k4⟩
end Go.Proofs.Ytjnheahhlopbfaa
