/- The walks of package label: in, write. -/
import Derived.Test.YteidmdakglkkfaaLbP
import Derived.Test.YteidmdakglkkfaaSpY
namespace Go.Proofs.Yteidmdakglkkfaa
open Go.RowKit
set_option linter.unusedVariables false

theorem in_ (n low high : Int) (w : World) (b : Bool) (hb : Hid (decide (low ≤ n ∧ n ≤ high) = b)) :
    Calls Try.prog 48 #[.int .i64 n, .int .i64 low, .int .i64 high] w fun e w' => e = .returned (.bool b) ∧ w = w' := by
  by_cases h1 : low ≤ n
  · by_cases h2 : n ≤ high
    · obtain rfl : true = b := by rw [← hb.out]; simp [h1, h2]
      clear hb
      go_enter Try.func48, Try.ntmps48
      go_wp2_with fail
      go_ret
      exact ⟨rfl, rfl⟩
    · obtain rfl : false = b := by rw [← hb.out]; simp [h1, h2]
      have b2 : decide (n ≤ high) = false := by simp; omega
      clear hb h2
      go_enter Try.func48, Try.ntmps48
      go_wp2_with fail
      go_ret
      exact ⟨rfl, rfl⟩
  · obtain rfl : false = b := by rw [← hb.out]; simp [h1]
    have b1 : decide (low ≤ n) = false := by simp; omega
    clear hb h1
    go_enter Try.func48, Try.ntmps48
    go_wp2_with fail
    go_ret
    exact ⟨rfl, rfl⟩
def Wrote (base B : Nat) (bs : List Int) (len : Nat) (w : World) (e : Ending) (w' : World) : Prop :=
  ∃ a' c', e = .returned (.slice a' len c') ∧ Hid (SOwn (Lay.int .u8) w' base 5 (fun _ => False) a' len c' bs) ∧ Hid (Below B w w') ∧ Hid (∀ b vs t, Box w b vs t → t ≠ 5 → Box w' b vs t)
theorem write (base B : Nat) (bs : List Int) (a : Option Addr) (len cap : Nat) (n : Int) (size : Nat) (w : World) (ho : Hid (SOwn (Lay.int .u8) w base 5 (fun _ => False) a len cap bs)) (hB : B ≤ base) (hs : base ≤ w.heap.size) (hn : -9223372036854775808 ≤ n ∧ n ≤ 9223372036854775807) (hz : size ≤ 8) (hl : len ≤ 1000) :
    Calls Try.prog 43 #[.slice a len cap, .int .i64 n, .int .i64 size] w (Wrote base B (bs ++ leB size n) (len + size) w) := by
  go_enter Try.func43, Try.ntmps43
  go_wp2_with fail
  go_loopw [0, 1, 8] (fun ov nv kv wr => ∃ (k : Nat) (a' : Option Addr) (c' : Nat), k ≤ size ∧ kv = .int .i64 k ∧ nv = .int .i64 (sh k n) ∧ ov = .slice a' (len + k : Nat) c' ∧ Hid (SOwn (Lay.int .u8) wr base 5 (fun _ => False) a' (len + k) c' (bs ++ leB k n)) ∧ Hid (Below B w wr) ∧ Hid (∀ b vs t, Box w b vs t → t ≠ 5 → Box wr b vs t)) (fun _ _ kv _ => size - (intOf kv).toNat)
  case atStart => exact ⟨0, a, cap, by omega, rfl, rfl, rfl, by rw [show leB 0 n = [] from rfl, List.append_nil]; exact ho.out, Below.refl _ _, fun _ _ _ h _ => h⟩
  case round =>
    obtain ⟨k, a', c', hk, rfl, rfl, rfl, hown, hbl, hkp⟩ := hrel
    have hc := hown.out.hle
    have hm := hown.out.hmax
    unfold maxLen at hm
    have hws : B ≤ w.heap.size := by omega
    have hsz : base ≤ wr.heap.size := by have := hbl.out.size; omega
    by_cases hlt : k < size
    · have hki : (k : Int) < (size : Int) := by omega
      have hsb := sh_bound k n hn
      have hsu := leB_succ k n
      have hsn : sh (k + 1) n = sh k n / 256 := rfl
      obtain ⟨x, hx⟩ : ∃ x, Hid (sh k n = x) := ⟨_, rfl⟩
      rw [hx.out] at hsb hsu hsn ⊢
      have HSU := Lib.hid hsu
      have HSN := Lib.hid hsn
      have hwf : (Lit.int .u8 (x % 256)).wf = true := by
        have h1 : 0 ≤ x % 256 := by omega
        have h2 : x % 256 ≤ 255 := by omega
        simp [Lit.wf, IntKind.min, IntKind.max, IntKind.signed, IntKind.bits]; omega
      have HWF := Lib.hid hwf
      clear hsu hsn hwf
      go_wp2_with (at_builtin; refine wpList_append_one (L := Lay.int .u8) rfl (.tmp 10) (.tmp 13) 59 rfl base 5 _ 1 Try.underlying59 info_u8' rfl (fun _ => False) a' (len + k) c' _ rfl hown.out #[.int .u8 (x % 256)] (x % 256) ?hx1 (fun _ => False) ⟨rfl, HWF.out⟩ (fun b h => h.elim) (by unfold maxLen; omega) (by omega) hsz ?_)
      case hx1 => simp [Act.eval]
      intro a7 c7 w7 hown7 hg7
      have hb7 := Lib.hid (hown.out.grown hbl.out hB (by omega) hg7)
      have hk7 := Lib.hid (show ∀ b vs t, Box w b vs t → t ≠ 5 → Box w7 b vs t from fun b vs t hb ht => (hkp.out b vs t hb ht).grown hg7 (hown.out.apart (hkp.out b vs t hb ht) ht))
      have hown8 : Hid (SOwn (Lay.int .u8) w7 base 5 (fun _ => False) a7 (len + (k + 1)) c7 (bs ++ leB (k + 1) n)) := by
        rw [HSU.out]; exact hown7
      clear hown7 hg7 hown hkp hbl
      go_wp2_with fail
      go_roundw
      case rel => exact ⟨k + 1, a7, c7, by omega, by go_num, by rw [HSN.out]; try rfl, by go_num, hown8, hb7, hk7⟩
      case measure => (simp [intOf]; try omega)
    · obtain rfl : k = size := by omega
      go_wp2_with fail
      go_ret
      exact ⟨a', c', rfl, hown, hbl, hkp⟩
end Go.Proofs.Yteidmdakglkkfaa
