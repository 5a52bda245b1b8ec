/- The walks of Of, Join, Words, sure, sameBytes. -/
import Derived.Test.YtjnheahhlopbfaaFletW
import Derived.Test.YtjnheahhlopbfaaFletQ
import Derived.Test.YtjnheahhlopbfaaOwn
namespace Go.Proofs.Ytjnheahhlopbfaa
open Go.RowKit
set_option linter.unusedVariables false

theorem info_u8 : (Try.prog.info? 5).map (fun i => (i.zero, i.size, i.bytes)) = some (some (.int .u8 0), 1, 1) := by kernel_rfl

set_option maxHeartbeats 400000 in
theorem of_bytes (a : Option Addr) (len cap : Nat) (xs : List Int) (w : World) (h : Row .u8 w a len cap xs) (h4 : len % 4 = 0) :
    Calls Try.prog 21 #[.slice a len cap] w (Mores (Four.zero.words (wordsOf xs)) w) := by
  go_enter Try.func21, Try.ntmps21
  go_wp2_with fail
  refine (more _ _ _ _ _ _ _ xs _ (h.below (Below_alloc1 _)) h4).mono ?_; rintro e w1 ⟨a', b', c', d', hs, rfl, hb⟩
  have hR : Box w1 w.heap.size #[.int .i64 0, .int .i64 0, .int .i64 0, .int .i64 0] 41 := Box.below (Box.new rfl) hb (by simp)
  have hL : Below w.heap.size w w1 := (Below_alloc1 _).trans (hb.mono (by simp))
  have y0 : w1.cell? ⟨w.heap.size, 0, none⟩ = some (.int .i64 0) := hR.cell 0
  have y1 : w1.cell? ⟨w.heap.size, 1, none⟩ = some (.int .i64 0) := hR.cell 1
  have y2 : w1.cell? ⟨w.heap.size, 2, none⟩ = some (.int .i64 0) := hR.cell 2
  have y3 : w1.cell? ⟨w.heap.size, 3, none⟩ = some (.int .i64 0) := hR.cell 3
  have f0 := hR.free 0
  have f1 := hR.free 1
  have f2 := hR.free 2
  have f3 := hR.free 3
  have HL := Lib.hid ((((hL.setCell (p := ⟨w.heap.size, 0, none⟩) (Nat.le_refl _) (.int .i64 a')).setCell (p := ⟨w.heap.size, 1, none⟩) (Nat.le_refl _) (.int .i64 b')).setCell (p := ⟨w.heap.size, 2, none⟩) (Nat.le_refl _) (.int .i64 c')).setCell (p := ⟨w.heap.size, 3, none⟩) (Nat.le_refl _) (.int .i64 d'))
  have HB := Lib.hid ((((hR.set 0 (.int .i64 a')).set 1 (.int .i64 b')).set 2 (.int .i64 c')).set 3 (.int .i64 d'))
  clear hR hb hL
  go_wp2
  generalize (((w1.setCell ⟨w.heap.size, 0, none⟩ (.int .i64 a')).setCell ⟨w.heap.size, 1, none⟩ (.int .i64 b')).setCell ⟨w.heap.size, 2, none⟩ (.int .i64 c')).setCell ⟨w.heap.size, 3, none⟩ (.int .i64 d') = W at *
  have q0 : W.cell? ⟨w.heap.size, 0, none⟩ = some (.int .i64 a') := HB.out.cell 0
  have q1 : W.cell? ⟨w.heap.size, 1, none⟩ = some (.int .i64 b') := HB.out.cell 1
  have q2 : W.cell? ⟨w.heap.size, 2, none⟩ = some (.int .i64 c') := HB.out.cell 2
  have q3 : W.cell? ⟨w.heap.size, 3, none⟩ = some (.int .i64 d') := HB.out.cell 3
  clear y0 y1 y2 y3 f0 f1 f2 f3
  refine bodyPost_ret (by simp [results, Try.results21, go_sem, q0, q1, q2, q3]) rfl ⟨a', b', c', d', hs, rfl, HL.out⟩

/-- the first m whole words' bytes -/
def wholeTo (n m : Nat) : Nat := min n m - min n m % 4
def Copies (w : World) (T : TypeId) (k : IntKind) (xs : List Int) (e : Ending) (w' : World) : Prop := ∃ a len cap, e = .returned (.slice a len cap) ∧ Own w' w.heap.size T 1 a len cap (xs.map (.int k)) ∧ Below w.heap.size w w'

set_option maxHeartbeats 400000 in
theorem words_copy (a : Option Addr) (len cap : Nat) (xs : List Int) (w : World) (h : Row .u8 w a len cap xs) :
    Calls Try.prog 19 #[.slice a len cap, .int .i64 400] w (Copies w 5 .u8 (xs.take (wholeTo len 400))) := by
  have hle := h.hle
  have hmx := h.hmax
  have hl := h.hlen
  unfold maxLen at hmx
  have hrow : ∀ j, j ≤ len → VRow w 1 a j cap ((xs.take j).map (.int .u8)) := fun j hj => by
    have := h.toV.piece 0 j (Nat.zero_le _) hj
    have e : (if cap = 0 then a else a.map (·.add (0 * 1))) = a := by
      cases a with
      | none => simp
      | some ad => split <;> simp [Addr.add_zero']
    rw [e] at this
    simpa [List.map_take] using this
  have HR := Lib.hid hrow
  have HL := Lib.hid hl
  clear hrow hl
  have hone : ∀ (l : List Int), ∀ u ∈ l.map (Value.int .u8), u.oneCell' = true := fun l u hu => by
    obtain ⟨x, _, rfl⟩ := List.mem_map.1 hu; rfl
  have HO := Lib.hid hone
  clear hone
  by_cases hc : 400 < len
  · have hw : wholeTo len 400 = 400 := by unfold wholeTo; omega
    rw [hw]
    clear hw
    go_enter Try.func19, Try.ntmps19
    go_wp2_with (at_builtin; refine wpList_append_any rfl (.const (.slice none 0 0)) (.tmp 15) 37 rfl w.heap.size 5 _ 1 1 Try.underlying37 info_u8 rfl (by decide) none 0 0 [] rfl (Own.nil _ _ _ _) a 400 cap ((xs.take 400).map (.int .u8)) rfl (HR.out 400 (by omega)) (HO.out _) (by unfold maxLen; omega) (by omega) (Nat.le_refl _) ?_)
    intro a' cap' w' hown hg
    have hb := Own.grown (Own.nil w w.heap.size 5 1) (Below.refl w.heap.size w) (Nat.le_refl _) (Nat.le_refl _) hg
    have HW := Lib.hid hown
    clear hown hg
    go_wp2
    go_ret
    exact ⟨a', _, cap', rfl, by rw [List.map_take]; exact HW.out, hb⟩
  · have hw : wholeTo len 400 = len - len % 4 := by unfold wholeTo; omega
    rw [hw]
    clear hw
    have hm4 : len % 4 ≤ len := Nat.mod_le _ _
    go_enter Try.func19, Try.ntmps19
    go_wp2_with (at_builtin; refine wpList_append_any rfl (.const (.slice none 0 0)) (.tmp 15) 37 rfl w.heap.size 5 _ 1 1 Try.underlying37 info_u8 rfl (by decide) none 0 0 [] rfl (Own.nil _ _ _ _) a (len - len % 4) cap ((xs.take (len - len % 4)).map (.int .u8)) rfl (HR.out _ (by omega)) (HO.out _) (by unfold maxLen; omega) (by omega) (Nat.le_refl _) ?_)
    intro a' cap' w' hown hg
    have hb := Own.grown (Own.nil w w.heap.size 5 1) (Below.refl w.heap.size w) (Nat.le_refl _) (Nat.le_refl _) hg
    have HW := Lib.hid hown
    clear hown hg
    go_wp2
    go_ret
    exact ⟨a', _, cap', rfl, by rw [List.map_take]; exact HW.out, hb⟩

def Same (xs ys : List Int) (w : World) (e : Ending) (w' : World) : Prop := e = .returned (.bool (decide (xs = ys))) ∧ ∃ k, w' = w.drewN k
theorem getD_ext {xs ys : List Int} (hl : xs.length = ys.length) (h : ∀ i, i < xs.length → xs.getD i 0 = ys.getD i 0) : xs = ys := by
  apply List.ext_getElem hl
  intro i h1 h2
  have := h i h1
  simpa [List.getD, h1, h2] using this
set_option maxHeartbeats 1000000 in
theorem sameBytes (a : Option Addr) (la ca : Nat) (xs : List Int) (b : Option Addr) (lb cb : Nat) (ys : List Int) (w : World) (ha : Row .u8 w a la ca xs) (hb : Row .u8 w b lb cb ys) :
    Calls Try.prog 22 #[.slice a la ca, .slice b lb cb] w (Same xs ys w) := by
  have h1 := ha.hle
  have h2 := ha.hmax
  have h3 := hb.hle
  have h4 := hb.hmax
  have h5 := ha.hlen
  have h6 := hb.hlen
  unfold maxLen at h2 h4
  by_cases hne : la = lb
  · subst hne
    have H5 := Lib.hid h5
    have H6 := Lib.hid h6
    clear h5 h6
    go_enter Try.func22, Try.ntmps22
    go_wp2_with fail

    go_loopw [5] (fun i wr => ∃ k : Nat, k ≤ la ∧ i = .int .i64 k ∧ Hid (∀ j, j < k → xs.getD j 0 = ys.getD j 0) ∧ ∃ n, wr = w.drewN n) (fun i _ => la - (intOf i).toNat)
    case atStart => exact ⟨0, by omega, rfl, fun j hj => absurd hj (by omega), 0, rfl⟩
    case round =>
      obtain ⟨k, hk, rfl, hsame, n, rfl⟩ := hrel
      by_cases hlt : k < la
      · rcases ha.hat with h0 | ⟨b1, o1, rfl, hc1⟩
        · omega
        rcases hb.hat with h0 | ⟨b2, o2, rfl, hc2⟩
        · omega
        have e1 := hc1 k hlt
        have e2 := hc2 k hlt
        clear hc1 hc2
        obtain ⟨x, hx⟩ : ∃ x, Hid (xs.getD k 0 = x) := ⟨_, rfl⟩
        obtain ⟨y, hy⟩ : ∃ y, Hid (ys.getD k 0 = y) := ⟨_, rfl⟩
        rw [hx.out] at e1
        rw [hy.out] at e2
        have hki : (k : Int) < (la : Int) := by omega
        by_cases hxy : x = y
        · have hb1 : (x != y) = false := by simp [hxy]
          have hn : ∀ j, j < k + 1 → xs.getD j 0 = ys.getD j 0 := fun j hj => by
            by_cases h : j < k
            · exact hsame.out j h
            · obtain rfl : j = k := by omega
              rw [hx.out, hy.out, hxy]
          have HN := Lib.hid hn
          clear hn hxy
          go_wp2
          go_quiet (fail)
          go_wp2
          go_roundw
          case rel => exact ⟨k + 1, by omega, by go_num, HN.out, _, by first | rfl | exact World.drewN_drewN _ _ _⟩
          case measure => simp [intOf]; omega
        · have hb1 : (x != y) = true := by simp [hxy]
          have hn : ¬ xs = ys := fun h => hxy (by rw [← hx.out, ← hy.out, h])
          have HN := Lib.hid hn
          clear hn hxy
          go_wp2
          go_quiet (fail)
          go_wp2
          go_ret
          exact ⟨ret_bool (decide_eq_false HN.out).symm, _, by first | rfl | exact World.drewN_drewN _ _ _⟩
      · obtain rfl : k = la := by omega
        have hn : xs = ys := getD_ext (by rw [H5.out, H6.out]) (fun i hi => hsame.out i (by have := H5.out; omega))
        have HN := Lib.hid hn
        clear hn
        go_wp2
        go_ret
        exact ⟨ret_bool (decide_eq_true HN.out).symm, _, rfl⟩
  · have hb0 : ((la : Int) != (lb : Int)) = true := by simp; omega
    have hn : ¬ xs = ys := fun h => hne (by rw [← h5, ← h6, h])
    have HN := Lib.hid hn
    clear hn h5 h6
    go_enter Try.func22, Try.ntmps22
    go_wp2
    go_ret
    exact ⟨ret_bool (decide_eq_false HN.out).symm, 0, rfl⟩
end Go.Proofs.Ytjnheahhlopbfaa
