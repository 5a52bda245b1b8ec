/- The walks of Block and Steps. -/
import Derived.Test.YthjjfmnipemakaaTrY
namespace Go.Proofs.Ythjjfmnipemakaa
open Go.RowKit
set_option linter.unusedVariables false
set_option maxRecDepth 100000

def blockP (xs : List Int) (n : Nat) : List Int := if xs = [] then [7] else xs.take n
theorem blockP_len (xs : List Int) (n : Nat) (hn : 0 < n) : 0 < (blockP xs n).length ∧ (blockP xs n).length ≤ n := by
  unfold blockP
  split
  · exact ⟨by simp, by simp; omega⟩
  · rename_i h
    have : 0 < xs.length := List.length_pos_iff.2 h
    rw [List.length_take]; omega
theorem Row.take {k : IntKind} {w : World} {b off len cap : Nat} {xs : List Int} (h : Row k w (some ⟨b, off, none⟩) len cap xs) (m : Nat) (hm : m ≤ len) : Row k w (some ⟨b, off, none⟩) m cap (xs.take m) := by
  have hl := h.hlen
  refine ⟨by rw [List.length_take]; omega, by have := h.hle; omega, h.hmax, h.hnil, fun x hx => h.hwf x (List.mem_of_mem_take hx), ?_⟩
  rcases h.hat with h0 | ⟨b', off', e, hc⟩
  · exact .inl (by omega)
  · refine .inr ⟨b', off', e, fun i hi => ?_⟩
    rw [hc i (by omega)]
    congr 2
    rw [List.getD_eq_getElem?_getD, List.getD_eq_getElem?_getD, List.getElem?_take, if_pos hi]
theorem Turns.nilOwnT {α : Type} {L : Lay α} {B : Nat} {e : TypeId} {w : World} : Turns (thAll []) (thOwn L B e none 0 0 []) w w :=
  ⟨SOwn.nil .., Mv.refl _ _, fun b hb => by cases (show (none : Option Nat) = some b from hb)⟩
set_option maxHeartbeats 4000000 in
theorem blockW (a : Option Addr) (len cap : Nat) (xs : List Int) (n : Nat) (w : World) (h : Row .u8 w a len cap xs) (hn : 0 < n) (hn2 : n ≤ 4096) :
    Calls Try.prog 12 #[.slice a len cap, .int .i64 n] w fun e w' => ∃ a' l' c', e = .returned (.slice a' l' c') ∧ Hid (Turns (thAll []) (thOwn (Lay.int .u8) w.heap.size 5 a' l' c' (blockP xs n)) w w') := by
  have hl := h.hlen
  have hle := h.hle
  have hmx := h.hmax
  unfold maxLen at hmx
  by_cases h0 : len = 0
  · subst h0
    have hx : blockP xs n = [7] := by unfold blockP; rw [if_pos (List.eq_nil_of_length_eq_zero hl)]
    rw [hx]
    have T : Hid (Turns (thAll []) (thOwn (Lay.int .u8) w.heap.size 5 (some ⟨w.heap.size, 0, none⟩) 1 1 [7]) w (w.alloc (.cells #[.int .u8 7] 5))) :=
      ⟨byteOwn (xs := [7]) (Box.new rfl) (Nat.le_refl _) rfl (by unfold maxLen; omega) (by intro x hx; obtain rfl := List.mem_singleton.1 hx; rfl), Mv.alloc _ _, fun b hb => .inr (by have : some w.heap.size = some b := hb; injection this with this; omega)⟩
    clear h hx
    go_enter Try.func12, Try.ntmps12
    go_wp2_with fail
    go_ret
    exact ⟨some ⟨w.heap.size, 0, none⟩, 1, 1, rfl, T⟩
  · obtain ⟨b, off, rfl⟩ : ∃ b off, a = some ⟨b, off, none⟩ := by
      rcases h.hat with h1 | ⟨b, off, e, _⟩
      · exact absurd h1 h0
      · exact ⟨b, off, e⟩
    obtain ⟨m, hm⟩ : ∃ m, min len n = m := ⟨_, rfl⟩
    have hx : blockP xs n = xs.take m := by
      unfold blockP
      rw [if_neg (by intro e; rw [e] at hl; simp at hl; omega)]
      by_cases hc : n ≤ len
      · rw [show m = n by omega]
      · rw [show m = len by omega, List.take_of_length_le (l := xs) (i := n) (by omega), List.take_of_length_le (by omega)]
    rw [hx]
    have hR := h.take m (by omega)
    have HV : Hid (VRow w 1 (some ⟨b, off, none⟩) m cap ((xs.take m).map fun x => [Value.int .u8 x]).flatten) := by show VRow _ _ _ _ _ _; rw [flatten_ints]; exact hR.toV
    have HP : Hid (Pt (Lay.int .u8) w (fun _ => False) (xs.take m) ((xs.take m).map fun x => [Value.int .u8 x])) := Pt.ints hR.hwf
    have HLen : Hid ((xs.take m).length = m) := hR.hlen
    have T0 : Hid (Turns (thAll []) (thOwn (Lay.int .u8) w.heap.size 5 none 0 0 []) w w) := Turns.nilOwnT
    have hz : ((len : Int) == 0) = false := by simp; omega
    have hmc : (m : Int) ≤ (cap : Int) := by omega
    have hm0 : (0 : Int) ≤ (m : Int) := by omega
    have hml : m ≤ 4096 := by omega
    by_cases hc : n < len
    · have q1 : (n : Int) < (len : Int) := by omega
      have q2 : ¬ ((len : Int) ≤ (n : Int)) := by omega
      obtain rfl : m = n := by omega
      clear h hR hx hm hl h0 hc
      go_enter Try.func12, Try.ntmps12
      go_wp2_with (at_builtin; refine wpList_append_T (L := Lay.int .u8) rfl (.const (.slice none 0 0)) (.tmp 14) 23 rfl w.heap.size 5 _ 1 Try.underlying23 info_byte0 rfl none 0 0 [] rfl T0.out.now (some ⟨b, off, none⟩) m cap (xs.take m) ((xs.take m).map fun x => [Value.int .u8 x]) rfl HV.out HP.out HLen.out (by unfold maxLen; omega) (by omega) (Nat.le_refl _) ?_; intro a2 c2 w2 T2; have T3 := Lib.hid (T0.out.trans T2); rw [Nat.zero_add] at T3; clear T2)
      go_ret
      exact ⟨a2, m, c2, rfl, T3⟩
    · have q1 : ¬ ((n : Int) < (len : Int)) := by omega
      have q2 : (len : Int) ≤ (n : Int) := by omega
      obtain rfl : m = len := by omega
      clear h hR hx hm hl h0 hc
      go_enter Try.func12, Try.ntmps12
      go_wp2_with (at_builtin; refine wpList_append_T (L := Lay.int .u8) rfl (.const (.slice none 0 0)) (.tmp 14) 23 rfl w.heap.size 5 _ 1 Try.underlying23 info_byte0 rfl none 0 0 [] rfl T0.out.now (some ⟨b, off, none⟩) m cap (xs.take m) ((xs.take m).map fun x => [Value.int .u8 x]) rfl HV.out HP.out HLen.out (by unfold maxLen; omega) (by omega) (Nat.le_refl _) ?_; intro a2 c2 w2 T2; have T3 := Lib.hid (T0.out.trans T2); rw [Nat.zero_add] at T3; clear T2)
      go_ret
      exact ⟨a2, m, c2, rfl, T3⟩
end Go.Proofs.Ythjjfmnipemakaa
