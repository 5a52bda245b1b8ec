/- Package par: Rebuild where too many were lost. -/
import Derived.Test.YtkfjkdonbmjniaaRbB
namespace Go.Proofs.Ytkfjkdonbmjniaa
open Go.RowKit
set_option linter.unusedVariables false
set_option maxRecDepth 100000

theorem take_not_mem {p : List Nat} (hn : p.Nodup) (k : Nat) (hk : k < p.length) : p.getD k 0 ∉ p.take k := fun hm => by
  obtain ⟨j, hj, e⟩ := List.mem_iff_getElem.1 hm
  rw [List.length_take] at hj
  rw [List.getElem_take] at e
  have e2 : p.getD k 0 = p[k] := by simp [List.getD, hk]
  rw [e2] at e
  have hlt : j < k := by omega
  exact absurd e ((List.pairwise_iff_getElem.1 hn) j k (by omega) hk hlt)
set_option maxHeartbeats 8000000 in
theorem rebuild_lost (a : Option Addr) (len cap : Nat) (D : List (List Int)) (size : Nat) (parity : Nat) (al : Option Addr) (ll cl : Nat) (p : List Nat) (w : World) {F : Nat → Prop} (h : SRow (Lay.int .u8).slice w F a len cap D) (hc : Evn D size) (hp : Row .i64 w al ll cl (nats p)) (hpl : ∀ x ∈ p, x < len) (hnd : p.Nodup) (h1 : 1 ≤ parity) (h3 : parity ≤ 3) (hpp : parity < len) (hlen : len ≤ parity + 12) (hll : parity < ll) (hll2 : ll < len) :
    Calls Try.prog 36 #[.slice a len cap, .int .i64 parity, .slice al ll cl] w fun e w' => e = .returned (.tuple #[.slice none 0 0, .int .i64 12]) ∧ Below w.heap.size w w' := by
  have hDl := h.1
  have hmx := h.hmax
  have hle := h.hle
  have hql := hp.hle
  have hqm := hp.hmax
  have hqn : p.length = ll := by have := hp.hlen; simpa [nats] using this
  unfold maxLen at hmx hqm
  have HS := Lib.hid h
  have HP := Lib.hid hp
  have HC := Lib.hid hc
  have HPL := Lib.hid hpl
  have HND := Lib.hid hnd
  clear h hp hc hpl hnd
  obtain ⟨nn, hnn⟩ : ∃ nn : Nat, len = nn + parity := ⟨len - parity, by omega⟩
  have hnn1 : 1 ≤ nn := by omega
  have hnn2 : nn ≤ 12 := by omega
  go_enter Try.func36, Try.ntmps36
  go_upto_region 2 with fail
  clear hnn
  have n1 : (1 : Int) ≤ (nn : Int) := by omega
  have n2 : (nn : Int) ≤ 12 := by omega
  have n3 : decide ((nn : Int) < 1) = false := by simp; omega
  have n4 : decide ((12 : Int) < (nn : Int)) = false := by simp; omega
  go_wp2_with fail
  refine (someP parity w ⟨by omega, by omega⟩).mono ?_
  rintro e w2 ⟨rfl, rfl⟩
  go_wp2_with (refine wpList_make_zeros rfl _ _ 68 rfl 4 (.bool false) 1 Try.underlying68 info_bool2 rfl _ _ _ _ len rfl rfl rfl rfl (by omega) (by unfold maxLen; omega) ?_)
  intro w1 hoz hb1
  have B1 := Lib.hid (zeros_box hoz)
  obtain ⟨g, hg⟩ : ∃ g, Hid (w.heap.size = g) := ⟨_, rfl⟩
  rw [hg.out] at B1 ⊢
  have L1 := Lib.hid hb1
  clear hoz hb1
  go_wp2_with fail
  go_loopw [10, 37] (fun cv iv wr => ∃ k : Nat, k ≤ ll ∧ cv = .int .i64 0 ∧ iv = .int .i64 k ∧ Hid (Box wr g ((markB (List.replicate len false) (p.take k)).map Value.bool).toArray 4) ∧ Hid (Below w.heap.size w wr)) (fun _ iv _ => ll - (intOf iv).toNat)
  case atStart => exact ⟨0, by omega, rfl, rfl, B1, L1⟩
  case round =>
    obtain ⟨k, hk, rfl, rfl, hB, hL⟩ := hrel
    by_cases hlt : k < ll
    · have k1 : (k : Int) < (ll : Int) := by omega
      have hrow := HP.out.below hL.out
      obtain ⟨bl, ol, rfl, hcl⟩ : ∃ bl ol, al = some ⟨bl, ol, none⟩ ∧ ∀ t, t < ll → wr.cell? ⟨bl, ol + t, none⟩ = some (.int .i64 ((nats p).getD t 0)) := by
        rcases hrow.hat with h0 | h
        · omega
        · exact h
      have e0 := hcl k hlt
      rw [nats_getD] at e0
      have hnm := take_not_mem HND.out k (by omega)
      obtain ⟨x, hx⟩ : ∃ x, p.getD k 0 = x := ⟨_, rfl⟩
      rw [hx] at e0 hnm
      have hxl : x < len := by
        rw [← hx]
        refine HPL.out _ ?_
        rw [show p.getD k 0 = p[k]'(by omega) by simp [List.getD, hqn, hlt]]
        exact List.getElem_mem _
      have hnext : Hid (markB (List.replicate len false) (p.take (k + 1)) = (markB (List.replicate len false) (p.take k)).set x true) := by
        show _ = _
        rw [take_nats p k (by omega), markB_snoc, hx]
      have hml : (markB (List.replicate len false) (p.take k)).length = len := by rw [markB_length]; simp
      have hmx2 : (markB (List.replicate len false) (p.take k)).getD x false = false := by
        rw [markB_getD _ _ _ (fun y hy => by simp; exact HPL.out y (List.mem_of_mem_take hy))]
        simp [hnm, hxl]
      have x0 : decide ((x : Int) < 0) = false := by simp
      have x1 : (x : Int) < (len : Int) := by omega
      have x2 : decide ((len : Int) ≤ (x : Int)) = false := by simp; omega
      have e1 : wr.cell? ⟨g, x, none⟩ = some (.bool false) := by
        rw [hB.out.cell x]
        have e : (markB (List.replicate len false) (p.take k))[x]? = some false := by
          rw [List.getElem?_eq_getElem (by omega)]
          rw [List.getD, List.getElem?_eq_getElem (by omega)] at hmx2
          exact congrArg some hmx2
        rw [List.getElem?_toArray, List.getElem?_map, e]; rfl
      have f1 : wr.frozen? ⟨g, x, none⟩ = false := hB.out.free x
      have BN := hB.out.set x (.bool true)
      rw [mark_bools] at BN
      have HBN := Lib.hid BN
      have LN := Lib.hid (hL.out.setCell (p := ⟨g, x, none⟩) (by rw [hg.out]; exact Nat.le_refl _) (.bool true))
      clear hcl hrow hx hml BN hB hL hnm hmx2
      go_wp2_with fail
      go_roundw
      case rel => exact ⟨k + 1, by omega, rfl, by go_num, by rw [hnext.out]; exact HBN, LN⟩
      case measure => simp [intOf]; omega
    · obtain rfl : k = ll := by omega
      have kp : (parity : Int) < (k : Int) := by omega
      have kp2 : decide ((parity : Int) < (k : Int)) = true := by simp; omega
      have HEX : Hid (∃ i, i < len ∧ i ∉ p) := exists_not_mem (by omega) HND.out
      clear hB
      go_wp2_with fail
      refine (refusedW a len cap D size al k cl p 12 wr (HS.out.below hL.out) HC.out (HP.out.below hL.out) HPL.out (by omega) HEX.out).mono ?_
      rintro e w4 ⟨rfl, hb4⟩
      have L4 := Lib.hid (hL.out.trans (hb4.mono hL.out.size))
      clear hb4 hL
      go_wp2_with fail
      go_ret2
      exact ⟨rfl, L4.out⟩
end Go.Proofs.Ytkfjkdonbmjniaa
