/- The walk of BestNewest. -/
import Derived.Test.YteidmdakglkkfaaLbI
import Derived.Test.YteidmdakglkkfaaLay2
import Derived.Deep.DeepCutAuto
namespace Go.Proofs.Yteidmdakglkkfaa
open Go.RowKit Go.ChangeShapes Go.WideShapes Go.Deep
set_option linter.unusedVariables false
set_option maxRecDepth 100000

/-- Rows of bytes whose lengths are within the form's own reach. -/
def byteL : Lay (List Int) where
  size := 1
  pos := by decide
  at_ := fun w F xs vs => (Lay.int .u8).slice.at_ w F xs vs ∧ xs.length ≤ 140737488351232
  len := fun h => (Lay.int .u8).slice.len h.1
  one := fun h => (Lay.int .u8).slice.one h.1
  keep := fun h hF hw => ⟨(Lay.int .u8).slice.keep h.1 hF hw, h.2⟩
theorem junk_elem {w : World} {F : Nat → Prop} {a : Option Addr} {len cap : Nat} {L : List (List Int)} (h : SRow byteL w F a len cap L) (i : Nat) (hi : i < len) :
    ∃ b off a' l' c', a = some ⟨b, off, none⟩ ∧ b < w.heap.size ∧ w.cell? ⟨b, off + i, none⟩ = some (.slice a' l' c') ∧ Row .u8 w a' l' c' (L.getD i []) ∧ l' ≤ 140737488351232 := by
  obtain ⟨b, off, vs, rfl, _, hb, hx, hc⟩ := h.get i hi
  have hl : i < L.length := by rw [h.1]; exact hi
  obtain ⟨⟨a', l', c', rfl, hr⟩, hz⟩ := hx _ (List.getElem?_eq_getElem hl)
  refine ⟨b, off, a', l', c', rfl, hb, ?_, ?_, ?_⟩
  · have := hc 0 (by decide)
    simpa [byteL] using this
  · rw [show L.getD i [] = L[i] by simp [List.getD, hl]]
    exact hr.ints
  · rw [← hr.1]; exact hz
theorem bool_elem {w : World} {F : Nat → Prop} {a : Option Addr} {len cap : Nat} {L : List Bool} (h : SRow Lay.bool w F a len cap L) (i : Nat) (hi : i < len) :
    ∃ b off, a = some ⟨b, off, none⟩ ∧ b < w.heap.size ∧ w.cell? ⟨b, off + i, none⟩ = some (.bool (L.getD i false)) := by
  obtain ⟨b, off, vs, rfl, _, hb, hx, hc⟩ := h.get i hi
  have hl : i < L.length := by rw [h.1]; exact hi
  have e := hx _ (List.getElem?_eq_getElem hl)
  have e2 : vs = [.bool L[i]] := e
  subst e2
  refine ⟨b, off, rfl, hb, ?_⟩
  have := hc 0 (by decide)
  simpa [Lay.bool, List.getD, hl] using this
theorem room_put (bs : List Int) (p : Nat) (h : p < bs.length) (x : Int) : (room bs).setIfInBounds p (.int .u8 x) = room (bs.set p x) := by
  unfold room
  apply Array.toList_inj.1
  rw [Array.toList_setIfInBounds]
  simp only [List.map_append, List.length_set]
  rw [List.set_append_left _ _ (by rw [List.length_map]; exact h), List.map_set]
theorem info_bytes : (Try.prog.info? 59).map (fun i => (i.zero, i.size, i.bytes)) = some (some (.slice none 0 0), 1, 24) := by kernel_rfl
theorem bestOf_valid (L : List (List Int)) {Y : List Int} {y : Lab} (h : dec Y = (y, 0)) : bestOf (L ++ [Y]) = if (bestOf L).1.time < y.time then (y, (L.length : Int)) else bestOf L := by
  rw [bestOf_append]; unfold bestStep; rw [h]; simp
theorem bestOf_bad (L : List (List Int)) {Y : List Int} {k : Int} (h : dec Y = (Lab.none, k)) (hk : k ≠ 0) : bestOf (L ++ [Y]) = bestOf L := by
  rw [bestOf_append]; unfold bestStep; rw [h, if_neg (fun h => hk h.1)]
theorem xor_range1 {a : Int} (ha : 0 ≤ a ∧ a ≤ 255) : 0 ≤ bits .xor .u8 a 1 ∧ bits .xor .u8 a 1 ≤ 255 := by
  rw [u8_xor a 1 ha.1 (by omega) (by omega) (by omega)]
  have : a.toNat ^^^ (1 : Int).toNat < 2 ^ 8 := Nat.xor_lt_two_pow (by omega) (by decide)
  omega
theorem xor1_ne {v : Int} (h : 0 ≤ v ∧ v ≤ 255) : bits .xor .u8 v 1 ≠ v := by
  rw [u8_xor v 1 h.1 (by omega) (by omega) (by omega)]
  intro e
  have e2 : v.toNat ^^^ 1 = v.toNat := by
    have : ((v.toNat ^^^ (1 : Int).toNat : Nat) : Int) = v := e
    have h1 : (1 : Int).toNat = 1 := rfl
    rw [h1] at this
    omega
  have : v.toNat ^^^ (v.toNat ^^^ 1) = v.toNat ^^^ v.toNat := by rw [e2]
  rw [← Nat.xor_assoc, Nat.xor_self, Nat.zero_xor] at this
  exact absurd this (by decide)
/-- A valid sector with one bit turned. -/
theorem dec_torn (y : Lab) (p : Nat) (hp : p < 128) (v : Int) (hv : (encB y).getD p 0 = v) : dec ((encB y).set p (bits .xor .u8 v 1)) = (Lab.none, 11) := by
  have hvb : 0 ≤ v ∧ v ≤ 255 := by rw [← hv]; exact (encB_Bytes y).getD p
  have hxb := xor_range1 hvb
  refine dec_touched y _ (by rw [List.length_set, encB_length]) ?_ (p / 4) (by omega) ?_ ?_ ?_
  · intro x hx
    rcases List.mem_or_eq_of_mem_set hx with h | h
    · exact encB_Bytes y x h
    · rw [h]; exact hxb
  · intro j hj; simp [List.getD, show ¬ p = j by omega]
  · intro j hj; simp [List.getD, show ¬ p = j by omega]
  · intro h
    have h2 : ((encB y).set p (bits .xor .u8 v 1)).getD p 0 = (encB y).getD p 0 := by rw [← h]
    rw [hv] at h2
    have h3 : ((encB y).set p (bits .xor .u8 v 1)).getD p 0 = bits .xor .u8 v 1 := by simp [List.getD, encB_length, hp]
    rw [h3] at h2
    exact xor1_ne hvb h2
end Go.Proofs.Yteidmdakglkkfaa
