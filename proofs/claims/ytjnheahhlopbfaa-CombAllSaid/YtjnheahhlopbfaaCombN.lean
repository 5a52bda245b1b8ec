/- The walks of Number and sameInts. -/
import Derived.Test.YtjnheahhlopbfaaCombP
import Derived.Test.YtjnheahhlopbfaaOwn
namespace Go.Proofs.Ytjnheahhlopbfaa
open Go.RowKit
set_option linter.unusedVariables false

def ints (p : List Nat) : List Int := p.map (fun x : Nat => (x : Int))
theorem ints_getD (p : List Nat) (i : Nat) : (ints p).getD i 0 = ((p.getD i 0 : Nat) : Int) := by
  unfold ints
  by_cases h : i < p.length
  · simp [List.getD, h]
  · simp [List.getD, List.getElem?_eq_none (by omega : p.length ≤ i)]
theorem choose_int (n k : Int) (w : World) (h0 : 0 ≤ n) (hn : n ≤ 12) (h1 : 0 ≤ k) (hk : k ≤ 13) : Calls Try.prog 40 #[.int .i64 n, .int .i64 k] w (Gives (pas n.toNat k.toNat) w) := by
  obtain ⟨k, rfl⟩ := Int.eq_ofNat_of_zero_le h1
  obtain ⟨n, rfl⟩ := Int.eq_ofNat_of_zero_le h0
  exact choose n k w (by omega) (by omega)

def Numbers (r : Nat) (w : World) (e : Ending) (w' : World) : Prop := ∃ v : Int, Hid (v = (r : Int)) ∧ 0 ≤ v ∧ v ≤ 4096 ∧ e = .returned (.tuple #[.int .i64 v, .int .i64 0]) ∧ w = w'
set_option maxHeartbeats 2000000 in
theorem number (n : Nat) (a : Option Addr) (len cap : Nat) (p : List Nat) (w : World) (h : Row .i64 w a len cap (ints p)) (hn : n ≤ 12) (hp : Pick n 0 p) :
    Calls Try.prog 27 #[.int .i64 n, .slice a len cap] w (Numbers (rk n n p) w) := by
  have hl : p.length = len := by have := h.hlen; simpa [ints] using this
  have hle := h.hle
  have hmx := h.hmax
  unfold maxLen at hmx
  have hlen12 : len ≤ n := by have := hp.length; omega
  have htot : rk n n p ≤ 4096 := by
    have h1 := rk_lt n n p (Nat.le_refl _) (by rw [Nat.sub_self]; exact hp)
    have h2 := pas_le hn (show p.length ≤ 13 by omega)
    omega
  have HL := Lib.hid hl
  have HP := Lib.hid hp
  clear hl hp
  obtain ⟨R, hR⟩ : ∃ R, Hid (rk n n p = R) := ⟨_, rfl⟩
  rw [hR.out] at htot
  rw [hR.out]
  go_enter Try.func27, Try.ntmps27
  go_wp2_with fail
  go_loop [6, 7, 19] (fun o l i => ∃ (k y : Nat) (v : Nat), k ≤ len ∧ i = .int .i64 k ∧ l = .int .i64 ((y : Int) - 1) ∧ o = .int .i64 v ∧ y ≤ n ∧ v ≤ R ∧ Hid (v + rk n (n - y) (p.drop k) = R ∧ Pick n y (p.drop k))) (fun _ _ i => len - (intOf i).toNat)
  case atStart => exact ⟨0, 0, 0, by omega, rfl, rfl, rfl, by omega, by omega, by rw [Nat.zero_add, Nat.sub_zero]; exact hR.out, HP.out⟩
  case round =>
    obtain ⟨k, y, v, hk, rfl, rfl, rfl, hy, hv, hst⟩ := hrel
    by_cases hlt : k < len
    · rcases h.hat with h0 | ⟨b, off, rfl, hc⟩
      · omega
      have e1 := hc k hlt
      rw [ints_getD] at e1
      obtain ⟨x, ps, hdrop⟩ : ∃ x ps, p.drop k = x :: ps := by
        cases hd : p.drop k with
        | nil => rw [List.drop_eq_nil_iff] at hd; have := HL.out; omega
        | cons x ps => exact ⟨x, ps, rfl⟩
      have hx : p.getD k 0 = x := by
        have : (p.drop k).getD 0 0 = x := by rw [hdrop]; rfl
        simpa [List.getD, List.getElem?_drop] using this
      rw [hx] at e1
      have hps : p.drop (k + 1) = ps := by rw [← List.drop_drop, hdrop]; rfl
      have hpsl : ps.length + k + 1 = len := by
        have h1 : (p.drop k).length = ps.length + 1 := by rw [hdrop]; rfl
        rw [List.length_drop, HL.out] at h1; omega
      have hst2 := hst.out
      rw [hdrop] at hst2
      obtain ⟨hs1, hs2, hs3, hs4⟩ := hst2
      have hrem := hs4.length
      have hah := rk_ahead n (x - y) y x ps rfl hs2 hs3
      have hki : (k : Int) < (len : Int) := by omega
      have HPS := Lib.hid hps
      have HPL := Lib.hid hpsl
      have HS1 := Lib.hid hs1
      have HS4 := Lib.hid hs4
      have HAH := Lib.hid hah
      have hr1 : len ≤ k + 1 + (n - (x + 1)) := by omega
      have hpsl2 : ps.length = len - k - 1 := by omega
      have hmono : ∀ d, d ≤ x - y → v + ahead n ps.length y d ≤ R := fun d hd => by
        have := ahead_mono n ps.length y hd
        have h2 := hs1
        rw [hah] at h2
        omega
      have HM := Lib.hid hmono
      have HL2 := Lib.hid hpsl2
      clear hc hdrop hx hps hpsl hpsl2 hs1 hs4 hah hrem hmono
      have t1 : ((x : Int) ≤ (y : Int) - 1) = False := by simp; omega
      have t2 : decide ((x : Int) ≤ (y : Int) - 1) = false := by simp; omega
      have t3 : decide ((n : Int) ≤ (x : Int)) = false := by simp; omega
      have hxn : (x : Int) < (n : Int) := by omega
      have hyx : (y : Int) ≤ (x : Int) := by omega
      clear t1
      go_wp2_with fail
      go_loop [6, 10] (fun o yv => ∃ d : Nat, d ≤ x - y ∧ yv = .int .i64 ((y + d : Nat) : Int) ∧ o = .int .i64 ((v + ahead n ps.length y d : Nat) : Int) ∧ v + ahead n ps.length y d ≤ R) (fun _ yv => x - (intOf yv).toNat)
      case atStart => exact ⟨0, by omega, by go_num, rfl, by simp [ahead]; omega⟩
      case round =>
        obtain ⟨d, hd, rfl, rfl, hvd⟩ := hrel
        by_cases hlt2 : y + d < x
        · have hm2 := HM.out (d + 1) (by omega)
          have hpb : v + ahead n ps.length y d ≤ 4096 := by omega
          have b1 : decide (((y + d : Nat) : Int) < (x : Int)) = true := by simp; omega
          have b2 : decide ((len : Int) - (k : Int) - 1 ≤ (n : Int) - ((y + d : Nat) : Int) - 1) = true := by simp; omega
          obtain ⟨u, hu⟩ : ∃ u, Hid (v + ahead n ps.length y d = u) := ⟨_, rfl⟩
          obtain ⟨z, hz⟩ : ∃ z, Hid (y + d = z) := ⟨_, rfl⟩
          rw [hz.out] at b1 b2 hlt2 ⊢
          rw [hu.out] at hvd hpb ⊢
          clear hm2
          go_wp2_with fail
          refine (choose_int _ _ _ (by omega) (by omega) (by omega) (by omega)).mono ?_
          rintro e w' ⟨c, hc, hc0, hc1, rfl, rfl⟩
          go_wp2_with fail
          go_round
          case rel =>
            have hm2 := HM.out (d + 1) (by have := hz.out; omega)
            have e2 : pas (n - (y + d) - 1) ps.length = c.toNat := by
              have h1 := hc.out
              rw [hz.out, HL2.out]
              rw [show ((n : Int) - (z : Int) - 1).toNat = n - z - 1 by omega, show ((len : Int) - (k : Int) - 1).toNat = len - k - 1 by omega] at h1
              omega
            rw [ahead, e2] at hm2
            refine ⟨d + 1, by have := hz.out; omega, ?_, ?_, ?_⟩
            · rw [← hz.out]; go_num
            · rw [ahead, e2, ← Nat.add_assoc, hu.out]; go_num
            · rw [ahead, e2]; exact hm2
          case measure => simp [intOf]; omega
        · obtain rfl : d = x - y := by omega
          have b1 : decide (((y + (x - y) : Nat) : Int) < (x : Int)) = false := by simp; omega
          obtain ⟨u, hu⟩ : ∃ u, Hid (v + ahead n ps.length y (x - y) = u) := ⟨_, rfl⟩
          have hyd : y + (x - y) = x := by omega
          have HYD := Lib.hid hyd
          rw [hu.out] at hvd ⊢
          rw [hyd]
          rw [hyd] at b1
          clear hyd
          go_wp2_with fail
          go_round
          case rel =>
            refine ⟨k + 1, x + 1, u, by omega, by go_num, by go_num, rfl, by omega, hvd, ?_, ?_⟩
            · rw [HPS.out, ← hu.out]
              have h1 := HS1.out
              rw [HAH.out] at h1
              omega
            · rw [HPS.out]; exact HS4.out
          case measure => simp [intOf]; omega
    · obtain rfl : k = len := by omega
      have hfin : v = R := by
        have h1 := hst.out.1
        rw [List.drop_of_length_le (by have := HL.out; omega), rk_nil] at h1
        omega
      have HF := Lib.hid hfin
      clear hfin
      go_wp2_with fail
      go_ret2
      exact ⟨_, by show _ = _; rw [HF.out], by omega, by omega, rfl, rfl⟩
end Go.Proofs.Ytjnheahhlopbfaa
