/- The keeper's commands: objectName, snapName, Block, CommandOf, Commands. -/
import Derived.Test.YtkbfohbpndjcpaaPoU
import Derived.Test.YtkbfohbpndjcpaaOpen
namespace Go.Proofs.Ytkbfohbpndjcpaa
open Go.RowKit
set_option linter.unusedVariables false
set_option maxRecDepth 100000
set_option linter.unusedSimpArgs false

def objN (a : Int) : Nm := ([[97], [98], [99, 51], [122, 122], [101]] : List Nm).getD (a % 5).toNat []
def snapN (a : Int) : Nm := ([[115], [116], [117, 48], [118]] : List Nm).getD (a % 4).toNat []
set_option maxHeartbeats 4000000 in
theorem objectNameW (n : Int) (w : World) : Calls Try.prog 9 #[.int .i64 n] w fun e w' => e = .returned (encStr (objN n)) ∧ Hid (Below w.heap.size w w') := by
  have h0 := Int.emod_nonneg n (b := 5) (by decide)
  have h1 := Int.emod_lt_of_pos n (b := 5) (by decide)
  have hk : n % 5 = 0 ∨ n % 5 = 1 ∨ n % 5 = 2 ∨ n % 5 = 3 ∨ n % 5 = 4 := by omega
  rcases hk with hk | hk | hk | hk | hk
  all_goals
    have HK := Lib.hid hk
    clear hk h0 h1
    go_enter Try.func9, Try.ntmps9
    go_wp2_with (go_at_call 15; refine (picked n 5 _ (by omega) (by omega)).mono ?_; rintro e w' ⟨r, hr, hr0, hr1, rfl, rfl⟩; have hr' := hr.out; rw [HK.out] at hr'; subst hr'; clear hr)
    go_ret
    exact ⟨by unfold objN; rw [HK.out]; rfl, Below_alloc1 _⟩
set_option maxHeartbeats 4000000 in
theorem snapNameW (n : Int) (w : World) : Calls Try.prog 16 #[.int .i64 n] w fun e w' => e = .returned (encStr (snapN n)) ∧ Hid (Below w.heap.size w w') := by
  have h0 := Int.emod_nonneg n (b := 4) (by decide)
  have h1 := Int.emod_lt_of_pos n (b := 4) (by decide)
  have hk : n % 4 = 0 ∨ n % 4 = 1 ∨ n % 4 = 2 ∨ n % 4 = 3 := by omega
  rcases hk with hk | hk | hk | hk
  all_goals
    have HK := Lib.hid hk
    clear hk h0 h1
    go_enter Try.func16, Try.ntmps16
    go_wp2_with (go_at_call 15; refine (picked n 4 _ (by omega) (by omega)).mono ?_; rintro e w' ⟨r, hr, hr0, hr1, rfl, rfl⟩; have hr' := hr.out; rw [HK.out] at hr'; subst hr'; clear hr)
    go_ret
    exact ⟨by unfold snapN; rw [HK.out]; rfl, Below_alloc1 _⟩

def u8sP (xs : List Int) : Array Value := (xs.map (Value.int .u8)).toArray
theorem byteOwnP {w : World} {B o m : Nat} {xs : List Int} (h : Box w o (u8sP xs) 5) (hB : B ≤ o) (hm : xs.length = m) (hx : m ≤ maxLen) (hw : ∀ x ∈ xs, (Lit.int .u8 x).wf = true) :
    (thOwn (Lay.int .u8) B 5 (some ⟨o, 0, none⟩) m m xs).holds w := by
  refine ⟨hm, xs.map fun x => [Value.int .u8 x], fun _ => False, ⟨?_, .inr ⟨o, m, u8sP xs, rfl, hB, h, Nat.le_refl _, hx, ?_, ?_⟩⟩, Pt.ints hw, fun b hb => hb.elim⟩
  · rw [flatten_ints]; show (xs.map (Value.int .u8)).length = m * 1; simp [hm]
  · show (u8sP xs).size = m * 1; simp [u8sP, hm]
  · rw [flatten_ints]; show (u8sP xs).toList.take (m * 1) = _; unfold u8sP; rw [Nat.mul_one]; show (xs.map (Value.int .u8)).take m = _; exact List.take_of_length_le (by rw [List.length_map]; omega)
def blockP (xs : List Int) (n : Nat) : List Int := if xs = [] then [7] else xs.take n
theorem blockP_len (xs : List Int) (n : Nat) (hn : 0 < n) : 0 < (blockP xs n).length ∧ (blockP xs n).length ≤ n := by
  unfold blockP
  split
  · exact ⟨by simp, by simp; omega⟩
  · rename_i h
    have : 0 < xs.length := List.length_pos_iff.2 h
    rw [List.length_take]; omega
theorem Row.takeP {k : IntKind} {w : World} {b off len cap : Nat} {xs : List Int} (h : Row k w (some ⟨b, off, none⟩) len cap xs) (m : Nat) (hm : m ≤ len) : Row k w (some ⟨b, off, none⟩) m cap (xs.take m) := by
  have hl := h.hlen
  refine ⟨by rw [List.length_take]; omega, by have := h.hle; omega, h.hmax, h.hnil, fun x hx => h.hwf x (List.mem_of_mem_take hx), ?_⟩
  rcases h.hat with h0 | ⟨b', off', e, hc⟩
  · exact .inl (by omega)
  · refine .inr ⟨b', off', e, fun i hi => ?_⟩
    rw [hc i (by omega)]
    congr 2
    rw [List.getD_eq_getElem?_getD, List.getD_eq_getElem?_getD, List.getElem?_take, if_pos hi]
theorem Turns.nilOwnP {α : Type} {L : Lay α} {B : Nat} {e : TypeId} {w : World} : Turns (thAll []) (thOwn L B e none 0 0 []) w w :=
  ⟨SOwn.nil .., Mv.refl _ _, fun b hb => by cases (show (none : Option Nat) = some b from hb)⟩
set_option maxHeartbeats 4000000 in
theorem blockT (a : Option Addr) (len cap : Nat) (xs : List Int) (n : Nat) (w : World) (h : Row .u8 w a len cap xs) (hn : 0 < n) (hn2 : n ≤ 4096) :
    Calls Try.prog 14 #[.slice a len cap, .int .i64 n] w fun e w' => ∃ a' l' c', e = .returned (.slice a' l' c') ∧ Hid (Turns (thAll []) (thOwn (Lay.int .u8) w.heap.size 5 a' l' c' (blockP xs n)) w w') := by
  have hl := h.hlen
  have hle := h.hle
  have hmx := h.hmax
  unfold maxLen at hmx
  by_cases h0 : len = 0
  · subst h0
    have hx : blockP xs n = [7] := by unfold blockP; rw [if_pos (List.eq_nil_of_length_eq_zero hl)]
    rw [hx]
    have T : Hid (Turns (thAll []) (thOwn (Lay.int .u8) w.heap.size 5 (some ⟨w.heap.size, 0, none⟩) 1 1 [7]) w (w.alloc (.cells #[.int .u8 7] 5))) :=
      ⟨byteOwnP (xs := [7]) (Box.new rfl) (Nat.le_refl _) rfl (by unfold maxLen; omega) (by intro x hx; obtain rfl := List.mem_singleton.1 hx; rfl), Mv.alloc _ _, fun b hb => .inr (by have : some w.heap.size = some b := hb; injection this with this; omega)⟩
    clear h hx
    go_enter Try.func14, Try.ntmps14
    go_wp2_with fail
    go_ret
    exact ⟨some ⟨w.heap.size, 0, none⟩, 1, 1, rfl, T⟩
  · obtain ⟨b, off, rfl⟩ : ∃ b off, a = some ⟨b, off, none⟩ := by
      rcases h.hat with h1 | ⟨b, off, e, _⟩
      · exact absurd h1 h0
      · exact ⟨b, off, e⟩
    obtain ⟨m, hm⟩ : ∃ m, min len n = m := ⟨_, rfl⟩
    have hx : blockP xs n = xs.take m := by
      unfold blockP
      rw [if_neg (by intro e; rw [e] at hl; simp at hl; omega)]
      by_cases hc : n ≤ len
      · rw [show m = n by omega]
      · rw [show m = len by omega, List.take_of_length_le (l := xs) (i := n) (by omega), List.take_of_length_le (by omega)]
    rw [hx]
    have hR := Row.takeP h m (by omega)
    have HV : Hid (VRow w 1 (some ⟨b, off, none⟩) m cap ((xs.take m).map fun x => [Value.int .u8 x]).flatten) := by show VRow _ _ _ _ _ _; rw [flatten_ints]; exact hR.toV
    have HP : Hid (Pt (Lay.int .u8) w (fun _ => False) (xs.take m) ((xs.take m).map fun x => [Value.int .u8 x])) := Pt.ints hR.hwf
    have HLen : Hid ((xs.take m).length = m) := hR.hlen
    have T0 : Hid (Turns (thAll []) (thOwn (Lay.int .u8) w.heap.size 5 none 0 0 []) w w) := Turns.nilOwnP
    have hz : ((len : Int) == 0) = false := by simp; omega
    have hmc : (m : Int) ≤ (cap : Int) := by omega
    have hm0 : (0 : Int) ≤ (m : Int) := by omega
    have hml : m ≤ 4096 := by omega
    by_cases hc : n < len
    · have q1 : (n : Int) < (len : Int) := by omega
      have q2 : ¬ ((len : Int) ≤ (n : Int)) := by omega
      obtain rfl : m = n := by omega
      have q5 : min (len : Int) (m : Int) = (m : Int) := by omega
      clear h hR hx hm hl h0 hc
      go_enter Try.func14, Try.ntmps14
      go_wp2_with (at_builtin; refine wpList_append_T (L := Lay.int .u8) rfl (.const (.slice none 0 0)) (.tmp 14) 28 rfl w.heap.size 5 _ 1 Try.underlying28 info_byteF rfl none 0 0 [] rfl T0.out.now (some ⟨b, off, none⟩) m cap (xs.take m) ((xs.take m).map fun x => [Value.int .u8 x]) rfl HV.out HP.out HLen.out (by unfold maxLen; omega) (by omega) (Nat.le_refl _) ?_; intro a2 c2 w2 T2; have T3 := Lib.hid (T0.out.trans T2); rw [Nat.zero_add] at T3; clear T2)
      go_ret
      exact ⟨a2, m, c2, rfl, T3⟩
    · have q1 : ¬ ((n : Int) < (len : Int)) := by omega
      have q2 : (len : Int) ≤ (n : Int) := by omega
      obtain rfl : m = len := by omega
      have q5 : min (m : Int) (n : Int) = (m : Int) := by omega
      clear h hR hx hm hl h0 hc
      go_enter Try.func14, Try.ntmps14
      go_wp2_with (at_builtin; refine wpList_append_T (L := Lay.int .u8) rfl (.const (.slice none 0 0)) (.tmp 14) 28 rfl w.heap.size 5 _ 1 Try.underlying28 info_byteF rfl none 0 0 [] rfl T0.out.now (some ⟨b, off, none⟩) m cap (xs.take m) ((xs.take m).map fun x => [Value.int .u8 x]) rfl HV.out HP.out HLen.out (by unfold maxLen; omega) (by omega) (Nat.le_refl _) ?_; intro a2 c2 w2 T2; have T3 := Lib.hid (T0.out.trans T2); rw [Nat.zero_add] at T3; clear T2)
      go_ret
      exact ⟨a2, m, c2, rfl, T3⟩
theorem blockW (a : Option Addr) (len cap : Nat) (xs : List Int) (n : Nat) (w : World) (h : Row .u8 w a len cap xs) (hn : 0 < n) (hn2 : n ≤ 4096) :
    Calls Try.prog 14 #[.slice a len cap, .int .i64 n] w fun e w' => ∃ a' l' c', e = .returned (.slice a' l' c') ∧ Hid (NewB w w' a' l' c' (blockP xs n)) := by
  refine (blockT a len cap xs n w h hn hn2).mono ?_
  rintro e w' ⟨a', l', c', rfl, hT⟩
  have hO : SOwn (Lay.int .u8) w' w.heap.size 5 (fun _ => False) a' l' c' (blockP xs n) := hT.out.now
  refine ⟨a', l', c', rfl, SOwn.ints hO, fun x hx => ?_, hT.out.nilBelowT⟩
  exact World.ownsRow.lt hO.2.choose_spec.choose_spec.1 x.block (by rw [hx]; rfl)
end Go.Proofs.Ytkbfohbpndjcpaa
