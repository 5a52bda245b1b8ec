/- The walk of package label: write, onto a block of 128 bytes known whole. -/
import Derived.Test.YteidmdakglkkfaaLbA
namespace Go.Proofs.Yteidmdakglkkfaa
open Go.RowKit
set_option linter.unusedVariables false

/-- a block of 128 bytes: those, and zeros behind -/
def room (bs : List Int) : Array Value := ((bs ++ List.replicate (128 - bs.length) 0).map (Value.int .u8)).toArray
theorem room_size (bs : List Int) (h : bs.length ≤ 128) : (room bs).size = 128 := by simp [room]; omega
theorem room_set (bs : List Int) (h : bs.length < 128) (x : Int) : (room bs).setIfInBounds bs.length (.int .u8 x) = room (bs ++ [x]) := by
  unfold room
  rw [List.length_append, List.length_singleton, show 128 - bs.length = (128 - (bs.length + 1)) + 1 by omega, List.replicate_succ]
  apply Array.toList_inj.1
  rw [Array.toList_setIfInBounds]
  simp only [List.map_append, List.map_cons]
  rw [List.set_append_right _ _ (by rw [List.length_map]; omega)]
  simp
def WroteIn (g : Nat) (bs : List Int) (len : Nat) (w : World) (e : Ending) (w' : World) : Prop :=
  e = .returned (.slice (some ⟨g, 0, none⟩) len 128) ∧ Hid (Box w' g (room bs) 5) ∧ Hid (w.grownBy w' (some g))
theorem write_in (g : Nat) (bs : List Int) (len : Nat) (n : Int) (size : Nat) (w : World) (hb : Hid (Box w g (room bs) 5)) (hl : Hid (bs.length = len)) (hn : -9223372036854775808 ≤ n ∧ n ≤ 9223372036854775807) (hz : len + size ≤ 128) :
    Calls Try.prog 43 #[.slice (some ⟨g, 0, none⟩) len 128, .int .i64 n, .int .i64 size] w (WroteIn g (bs ++ leB size n) (len + size) w) := by
  go_enter Try.func43, Try.ntmps43
  go_wp2_with fail
  go_loopw [0, 1, 8] (fun ov nv kv wr => ∃ (k : Nat), k ≤ size ∧ kv = .int .i64 k ∧ nv = .int .i64 (sh k n) ∧ ov = .slice (some ⟨g, 0, none⟩) (len + k : Nat) 128 ∧ Hid (Box wr g (room (bs ++ leB k n)) 5) ∧ Hid (w.grownBy wr (some g))) (fun _ _ kv _ => size - (intOf kv).toNat)
  case atStart => exact ⟨0, by omega, rfl, rfl, rfl, by rw [show leB 0 n = [] from rfl, List.append_nil]; exact hb.out, World.grownBy.refl _ _⟩
  case round =>
    obtain ⟨k, hk, rfl, rfl, rfl, hbx, hgr⟩ := hrel
    by_cases hlt : k < size
    · have hki : (k : Int) < (size : Int) := by omega
      have hsb := sh_bound k n hn
      have hsu := leB_succ k n
      have hsn : sh (k + 1) n = sh k n / 256 := rfl
      have hbl : (bs ++ leB k n).length = len + k := by rw [List.length_append, leB_length, hl.out]
      have hset := fun x => room_set (bs ++ leB k n) (by rw [hbl]; omega) x
      have hrs := room_size (bs ++ leB k n) (by rw [hbl]; omega)
      rw [hbl] at hset
      obtain ⟨x, hx⟩ : ∃ x, Hid (sh k n = x) := ⟨_, rfl⟩
      rw [hx.out] at hsb hsu hsn ⊢
      have HSU := Lib.hid hsu
      have HSN := Lib.hid hsn
      have HST := Lib.hid hset
      have HRS := Lib.hid hrs
      clear hsu hsn hset hrs hbl
      go_wp2_with (at_builtin; refine wpList_append_box rfl (.tmp 10) (.tmp 13) 59 rfl 5 _ 1 Try.underlying59 info_u8' g (len + k) 128 _ rfl hbx.out HRS.out (by omega) (.int .u8 (x % 256)) rfl ?hx1 ?_)
      case hx1 => simp [Act.eval]
      intro w7 hb7 hg7
      rw [HST.out] at hb7
      have hb8 : Hid (Box w7 g (room (bs ++ leB (k + 1) n)) 5) := by
        rw [HSU.out, ← List.append_assoc]; exact hb7
      have hg8 := Lib.hid (hgr.out.trans hg7)
      clear hb7 hg7 hbx hgr
      go_wp2_with fail
      go_roundw
      case rel => exact ⟨k + 1, by omega, by go_num, by rw [HSN.out]; try rfl, by go_num, hb8, hg8⟩
      case measure => (simp [intOf]; try omega)
    · obtain rfl : k = size := by omega
      go_wp2_with fail
      go_ret
      exact ⟨rfl, hbx, hgr⟩
end Go.Proofs.Yteidmdakglkkfaa
