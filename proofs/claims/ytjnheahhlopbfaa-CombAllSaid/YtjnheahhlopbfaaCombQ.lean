/- The walks of At and sameInts. -/
import Derived.Test.YtjnheahhlopbfaaCombN
import Derived.Test.YtjnheahhlopbfaaFacts
namespace Go.Proofs.Ytjnheahhlopbfaa
open Go.RowKit
set_option linter.unusedVariables false

theorem info_int : (Try.prog.info? 3).map (fun i => (i.zero, i.size, i.bytes)) = some (some (.int .i64 0), 1, 8) := by kernel_rfl
theorem int_wf {x : Int} (h0 : -9223372036854775808 ≤ x) (h1 : x ≤ 9223372036854775807) : (Lit.int .i64 x).wf = true := by
  simp [Lit.wf, IntKind.min, IntKind.max, IntKind.signed, IntKind.bits]; omega
theorem rk_step {n y : Nat} {z : Nat} {ps : List Nat} (hy : y < n) (hp : Pick n y (z :: ps)) :
    (z = y ∧ rk n (n - y) (z :: ps) = rk n (n - (y + 1)) ps ∧ rk n (n - (y + 1)) ps < pas (n - y - 1) ps.length) ∨ (z ≠ y ∧ rk n (n - y) (z :: ps) = pas (n - y - 1) ps.length + rk n (n - (y + 1)) (z :: ps)) := by
  have e : n - y = (n - (y + 1)) + 1 := by omega
  by_cases h : z = y
  · left
    refine ⟨h, ?_, ?_⟩
    · rw [e, rk, if_pos (by omega)]
    · rw [show n - y - 1 = n - (y + 1) by omega]
      refine rk_lt n (n - (y + 1)) ps (by omega) ?_
      have := hp.2.2
      rw [h] at this
      rw [show n - (n - (y + 1)) = y + 1 by omega]; exact this
  · right
    refine ⟨h, ?_⟩
    rw [e, rk, if_neg (by omega), show n - (y + 1) + 1 - 1 = n - (y + 1) by omega]

set_option maxHeartbeats 400000 in
theorem fine_yes (n k : Int) (w : World) (hn : n ≤ 12) (hk0 : 0 ≤ k) (hk : k ≤ n) : Calls Try.prog 39 #[.int .i64 n, .int .i64 k] w fun e w' => e = .returned (.bool true) ∧ w = w' := by
  have b1 : decide (0 ≤ n) = true := by simp; omega
  have b2 : decide (n ≤ 12) = true := by simp; omega
  have b3 : decide (0 ≤ k) = true := by simp; omega
  have b4 : decide (k ≤ n) = true := by simp; omega
  go_enter Try.func39, Try.ntmps39
  go_wp2
  go_ret
  exact ⟨rfl, rfl⟩

/-- 'At' found the pick. -/
def AtIs (p : List Nat) (k : Nat) (w : World) (e : Ending) (w' : World) : Prop := ∃ a cap, e = .returned (.tuple #[.slice a k cap, .int .i64 0]) ∧ Hid (SOwn (Lay.int .i64) w' w.heap.size 3 (fun _ => True) a k cap (ints p)) ∧ Below w.heap.size w w'
set_option maxHeartbeats 2000000 in
theorem at_pick (n k r : Int) (p : List Nat) (w : World) (hn : n ≤ 12) (hn0 : 0 ≤ n) (hk : Hid (k = (p.length : Int))) (hp : Pick n.toNat 0 p) (hr : Hid (r = (rk n.toNat n.toNat p : Nat))) :
    Calls Try.prog 28 #[.int .i64 n, .int .i64 k, .int .i64 r] w (AtIs p p.length w) := by
  obtain ⟨n, rfl⟩ := Int.eq_ofNat_of_zero_le hn0
  rw [Int.toNat_natCast] at hp hr
  have hk' := hk.out
  have hr' := hr.out
  obtain ⟨k, rfl⟩ : ∃ k' : Nat, k = k' := ⟨_, hk'⟩
  have hl : p.length = k := by omega
  clear hk hr hk'
  have hkn : k ≤ n := by have := hp.length; omega
  have hr0 : 0 ≤ r := by omega
  have hrl := rk_lt n n p (Nat.le_refl _) (by rw [Nat.sub_self]; exact hp)
  rw [hl] at hrl
  have hpl := pas_le (show n ≤ 12 by omega) (show k ≤ 13 by omega)
  have HP := Lib.hid hp
  have HL := Lib.hid hl
  have HR := Lib.hid hr'
  have HRL := Lib.hid hrl
  have hrb : r ≤ 4096 := by omega
  rw [hl]
  clear hp hl hr' hrl hpl
  have b1 : decide (r < 0) = false := by simp; omega
  go_enter Try.func28, Try.ntmps28
  go_wp2_with (go_at_call 39; refine (fine_yes _ _ _ (by omega) (by omega) (by omega)).mono ?_; rintro e w' ⟨rfl, rfl⟩)
  refine (choose_int _ _ _ (by omega) (by omega) (by omega) (by omega)).mono ?_
  rintro e w' ⟨c, hc, hc0, hc1, rfl, rfl⟩
  have b2 : decide (c ≤ r) = false := by
    have h1 := hc.out
    have h2 := HRL.out
    have h3 := HR.out
    simp only [Int.toNat_natCast] at h1
    simp; omega
  go_wp2_with fail
  clear b1 b2 hc hc0 hc1
  go_loopw [2, 8, 9] (fun rv o yv wr => ∃ (j y : Nat) (q : Int) (a : Option Addr) (cap : Nat), j ≤ k ∧ y ≤ n ∧ rv = .int .i64 q ∧ 0 ≤ q ∧ q ≤ 4096 ∧ yv = .int .i64 (y : Int) ∧ o = .slice a j cap ∧ Hid (SOwn (Lay.int .i64) wr w.heap.size 3 (fun _ => True) a j cap (ints (p.take j))) ∧ Below w.heap.size w wr ∧
    Hid (Pick n y (p.drop j)) ∧ Hid (q = (rk n (n - y) (p.drop j) : Nat))) (fun _ _ yv _ => n - (intOf yv).toNat)
  case atStart => exact ⟨0, 0, r, none, 0, by omega, by omega, rfl, by omega, by omega, rfl, rfl, SOwn.nil .., Below.refl _ _, HP.out, by rw [Nat.sub_zero]; exact HR.out⟩
  case round =>
    obtain ⟨j, y, q, a, cap, hjk, hyn, rfl, hq0, hq1, rfl, rfl, hown, hbl, hpk, hqr⟩ := hrel
    have hcap := hown.out.hle
    have hmx := hown.out.hmax
    unfold maxLen at hmx
    by_cases hlt : j < k
    · obtain ⟨z, ps, hdrop⟩ : ∃ z ps, p.drop j = z :: ps := by
        cases hd : p.drop j with
        | nil => rw [List.drop_eq_nil_iff] at hd; have := HL.out; omega
        | cons z ps => exact ⟨z, ps, rfl⟩
      have hpsl : ps.length = k - j - 1 := by
        have h1 : (p.drop j).length = ps.length + 1 := by rw [hdrop]; rfl
        rw [List.length_drop, HL.out] at h1; omega
      have hpk2 := hpk.out
      have hqr2 := hqr.out
      rw [hdrop] at hpk2 hqr2
      have hyn2 : y < n := by have := hpk2.1; have := hpk2.2.1; omega
      have hrem := hpk2.length
      rw [List.length_cons, hpsl] at hrem
      have hstep := rk_step hyn2 hpk2
      rw [hpsl] at hstep
      have HQ := Lib.hid hpk2
      have HQR := Lib.hid hqr2
      have HS := Lib.hid hstep
      have HD := Lib.hid hdrop
      clear hpk2 hqr2 hstep hdrop hpk hqr hpsl
      go_wp2_with fail
      refine (choose_int _ _ _ (by omega) (by omega) (by omega) (by omega)).mono ?_
      rintro e w' ⟨c, hc, hc0, hc1, rfl, rfl⟩
      have hcv : c = ((pas (n - y - 1) (k - j - 1) : Nat) : Int) := by
        have h1 := hc.out
        rwa [show ((n : Int) - (y : Int) - 1).toNat = n - y - 1 by omega, show ((k : Int) - (j : Int) - 1).toNat = k - j - 1 by omega] at h1
      have HC := Lib.hid hcv
      clear hcv hc
      rcases HS.out with ⟨e1, e2, e3⟩ | ⟨e1, e2⟩
      · have b1 : decide (c ≤ q) = false := by
          have h1 := HC.out
          have h2 := HQR.out
          simp; omega
        have E1 := Lib.hid e1
        have E2 := Lib.hid e2
        clear e1 e2 e3 HS
        go_wp2_with (at_builtin; refine wpList_append_one rfl (.tmp 48) (.tmp 50) 51 rfl w.heap.size 3 (.int .i64 0) 8 Try.underlying51 info_int rfl (fun _ => True) a j cap _ rfl hown.out #[.int .i64 (y : Int)] (y : Int) rfl (fun _ => False) ⟨rfl, int_wf (by omega) (by omega)⟩ (fun b h => h.elim) (by unfold maxLen; omega) (by omega) hbl.size ?_)
        intro a' cap' w1 hown1 hg1
        have hb1 : Below w.heap.size w w1 := hown.out.grown hbl (Nat.le_refl _) hbl.size hg1
        have H1 : Hid (SOwn (Lay.int .i64) w1 w.heap.size 3 (fun _ => True) a' (j + 1) cap' (ints (p.take (j + 1)))) := by
          have et : p.take (j + 1) = p.take j ++ [y] := by
            have hj : j < p.length := by have := HL.out; omega
            rw [List.take_succ_eq_append_getElem hj]
            have : (p.drop j)[0]? = some z := by rw [HD.out]; rfl
            rw [List.getElem?_drop, Nat.add_zero, List.getElem?_eq_getElem hj] at this
            rw [show p[j] = y by have := E1.out; simp_all]
          rw [et]
          show SOwn _ _ _ _ _ _ _ _ (List.map _ (_ ++ _))
          rw [List.map_append]
          exact hown1
        clear hown1 hg1
        go_wp2_with fail
        go_roundw
        case rel =>
          have hd : p.drop (j + 1) = ps := by rw [← List.drop_drop, HD.out]; rfl
          refine ⟨j + 1, y + 1, q, a', cap', by omega, by omega, rfl, hq0, hq1, by go_num, by go_num, H1, hb1, ?_, ?_⟩
          · rw [hd]; have := HQ.out.2.2; rwa [E1.out] at this
          · rw [hd]; show _ = _; rw [HQR.out, E2.out]
        case measure => simp [intOf]; omega
      · have b1 : decide (c ≤ q) = true := by
          have h1 := HC.out
          have h2 := HQR.out
          simp; omega
        have E1 := Lib.hid e1
        have E2 := Lib.hid e2
        have hqc : 0 ≤ q - c := by
          have h1 := HC.out
          have h2 := HQR.out
          omega
        clear e1 e2 HS
        go_wp2_with fail
        go_roundw
        case rel =>
          refine ⟨j, y + 1, q - c, a, cap, by omega, by omega, rfl, by omega, by omega, by go_num, rfl, hown, hbl, ?_, ?_⟩
          · rw [HD.out]; exact HQ.out.skip E1.out
          · rw [HD.out]; show _ = _; rw [HQR.out, E2.out, HC.out]; omega
        case measure => simp [intOf]; omega
    · obtain rfl : j = k := by omega
      have H1 : Hid (SOwn (Lay.int .i64) wr w.heap.size 3 (fun _ => True) a j cap (ints p)) := by
        have := hown.out
        rwa [List.take_of_length_le (by have := HL.out; omega)] at this
      clear hown
      go_wp2_with fail
      go_ret2
      exact ⟨a, cap, rfl, H1, hbl⟩
/-- 'At' beyond the last number. -/
def AtNone (w : World) (e : Ending) (w' : World) : Prop := e = .returned (.tuple #[.slice none 0 0, .int .i64 2]) ∧ w = w'
set_option maxHeartbeats 400000 in
theorem at_beyond (n k r : Int) (w : World) (hn : n ≤ 12) (hk0 : 0 ≤ k) (hk : k ≤ n) (hr : Hid (r = (pas n.toNat k.toNat : Nat))) :
    Calls Try.prog 28 #[.int .i64 n, .int .i64 k, .int .i64 r] w (AtNone w) := by
  have hr0 : 0 ≤ r := by have := hr.out; omega
  have b1 : decide (r < 0) = false := by simp; omega
  go_enter Try.func28, Try.ntmps28
  go_wp2_with (go_at_call 39; refine (fine_yes _ _ _ (by omega) (by omega) (by omega)).mono ?_; rintro e w' ⟨rfl, rfl⟩)
  refine (choose_int _ _ _ (by omega) (by omega) (by omega) (by omega)).mono ?_
  rintro e w' ⟨c, hc, hc0, hc1, rfl, rfl⟩
  have b2 : decide (c ≤ r) = true := by
    have h1 := hc.out
    have h3 := hr.out
    simp; omega
  go_wp2_with fail
  go_ret2
  exact ⟨rfl, rfl⟩

end Go.Proofs.Ytjnheahhlopbfaa
