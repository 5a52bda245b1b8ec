/- The block of 128 bytes read: zeros behind are zeros within; a slice of its head. No program here. -/
import Derived.Test.YteidmdakglkkfaaLbK
namespace Go.Proofs.Yteidmdakglkkfaa
open Go.RowKit
set_option linter.unusedVariables false

theorem room_zeros (bs : List Int) (k : Nat) (h : bs.length + k ≤ 128) : room bs = room (bs ++ List.replicate k 0) := by
  unfold room
  rw [List.length_append, List.length_replicate, List.append_assoc, List.replicate_append_replicate, show k + (128 - (bs.length + k)) = 128 - bs.length by omega]
theorem room_get (bs : List Int) (i : Nat) (h : i < bs.length) : (room bs)[i]? = some (.int .u8 (bs.getD i 0)) := by
  have e : (List.map (Value.int .u8) bs)[i]? = some (.int .u8 bs[i]) := by simp [h]
  simp only [room, List.map_append, List.getElem?_toArray]
  rw [List.getElem?_append_left (by rw [List.length_map]; exact h), e]
  simp [List.getD, h]
theorem u8_wf {x : Int} (h : 0 ≤ x ∧ x ≤ 255) : (Lit.int .u8 x).wf = true := by
  simp [Lit.wf, IntKind.min, IntKind.max, IntKind.signed, IntKind.bits]; omega
theorem room_row {w : World} {g : Nat} {bs : List Int} {e : TypeId} (hb : Box w g (room bs) e) (h : bs.length ≤ 128) (hx : ∀ x ∈ bs, 0 ≤ x ∧ x ≤ 255) : Row .u8 w (some ⟨g, 0, none⟩) bs.length 128 bs :=
  ⟨rfl, h, by unfold maxLen; omega, (fun h => by cases h), fun x hm => u8_wf (hx x hm), .inr ⟨g, 0, rfl, fun i hi => by rw [Nat.zero_add, hb.cell i, room_get bs i hi]⟩⟩
end Go.Proofs.Yteidmdakglkkfaa
