/- The walk of LineFixed. -/
import Derived.Test.YtdonmdiebibabaaDoorLoD
import Derived.Test.YtdonmdiebibabaaDoorLoE
namespace Go.Proofs.YtdonmdiebibabaaDoor
open Go.RowKit Go.Sort
set_option linter.unusedVariables false
set_option maxRecDepth 100000
set_option linter.unusedSimpArgs false

def oneLine : Nm := [115, 116, 111, 114, 101, 32, 97, 32, 45, 51, 32, 48, 97, 102, 102]
theorem readOne (w : World) (hE : EnvX w) : Calls Tryd.prog 13 #[.string ⟨#[115, 116, 111, 114, 101, 32, 97, 32, 45, 51, 32, 48, 97, 102, 102]⟩] w fun e w' =>
    ∃ a l k, e = .returned (.tuple #[.agg #[.int .i64 2, encStr [97], encStr [], .int .i64 (-3), .int .i64 0, .int .i64 0, .int .i64 0, .slice a l k], .int .i64 0]) ∧ Hid (Row .u8 w' a l k [10, 255]) ∧ Hid (Below w.heap.size w w') := by
  refine (readW oneLine w hE (by decide)).mono ?_
  intro e w' h
  unfold Readed at h
  rw [show readP oneLine = _ from read_one] at h
  exact h
theorem litRow2 (w : World) (xs : List Int) (hw : ∀ x ∈ xs, (Lit.int .u8 x).wf = true) (hl : xs.length ≤ 1000) : Row .u8 (w.alloc (.cells (xs.map (.int .u8)).toArray 5)) (some ⟨w.heap.size, 0, none⟩) xs.length xs.length xs := by
  refine ⟨rfl, Nat.le_refl _, by unfold maxLen; omega, (fun h => by cases h), hw, .inr ⟨w.heap.size, 0, rfl, fun i hi => ?_⟩⟩
  have h : Box (w.alloc (.cells (xs.map (.int .u8)).toArray 5)) w.heap.size (xs.map (.int .u8)).toArray 5 := Box.new rfl
  rw [h.cell (0 + i)]
  simp [List.getD_eq_getElem?_getD, List.getElem?_eq_getElem hi]
theorem unpairs_len : ∀ (n : Nat) (s : Nm) (l : List Int), s.length ≤ n → unpairs s = some l → l.length ≤ s.length
  | _, [], l, _, h => by simp only [unpairs] at h; obtain rfl := Option.some.inj h; simp
  | _, [_], l, _, h => by simp only [unpairs] at h; cases h
  | 0, a :: b :: r, l, hn, h => by simp at hn
  | n + 1, a :: b :: r, l, hn, h => by
    simp only [unpairs] at h
    split at h
    · cases h
    · cases hr : unpairs r with
      | none => rw [hr] at h; cases h
      | some m =>
        rw [hr] at h
        obtain rfl := Option.some.inj h
        have := unpairs_len n r m (by simp at hn; omega) hr
        simp; omega
theorem unhexP_len {s : Nm} {l : List Int} (h : unhexP s = some l) : l.length ≤ s.length := by
  unfold unhexP at h
  split at h
  · obtain rfl := Option.some.inj h; simp
  · split at h
    · cases h
    · exact unpairs_len _ s l (Nat.le_refl _) h
theorem putL_dlen {x : UInt8} {s : Nm} {c d : Cmd} {B : Nat} (h : putL x s c = some d) (hs : s.length ≤ B) (hc : c.data.length ≤ B) : d.data.length ≤ B := by
  unfold putL at h
  repeat' split at h
  all_goals first
    | cases h; done
    | (obtain rfl := Option.some.inj h; exact hc)
    | (rename_i l hl; obtain rfl := Option.some.inj h; exact Nat.le_trans (unhexP_len hl) hs)
theorem readL_dlen {B : Nat} : ∀ (xs : Nm) (ss : List Nm) (c d : Cmd), readL xs ss c = some d → (∀ s ∈ ss, s.length ≤ B) → c.data.length ≤ B → d.data.length ≤ B
  | [], ss, c, d, h, _, hc => by cases ss <;> (simp only [readL] at h; obtain rfl := Option.some.inj h; exact hc)
  | x :: xs, [], c, d, h, _, hc => by simp only [readL] at h; obtain rfl := Option.some.inj h; exact hc
  | x :: xs, s :: ss, c, d, h, hs, hc => by
    simp only [readL] at h
    split at h
    · rename_i e he
      exact readL_dlen xs ss e d h (fun t ht => hs t (List.mem_cons_of_mem _ ht)) (putL_dlen he (hs s (List.mem_cons_self ..)) hc)
    · cases h
theorem read_dlen {s : Nm} {c : Cmd} (h : readP s = some c) (hl : s.length ≤ 2000000) : c.data.length ≤ 2000000 := by
  have hp : ∀ x ∈ cutP s, x.length ≤ 2000000 := fun x hx => Nat.le_trans (part_len s x hx) hl
  unfold readP at h
  split at h
  · cases h
  · rename_i w ss hc
    rw [hc] at hp
    split at h
    · cases h
    · split at h
      · exact readL_dlen _ ss _ c h (fun t ht => hp t (List.mem_cons_of_mem _ ht)) (by simp [Cmd.mt])
      · cases h
set_option maxHeartbeats 8000000 in
theorem lineFixedW (s : Nm) (w : World) (hE : EnvX w) (hl : s.length ≤ 2000000) : Calls Tryd.prog 5 #[encStr s] w fun e w' => e = .returned (.bool true) ∧ Hid (Below w.heap.size w w') := by
  have HE := Lib.hid hE
  have hR := readW s w hE (by omega)
  cases hp : readP s with
  | none =>
    have HR : Hid (Calls Tryd.prog 13 #[encStr s] w fun e w' => e = .returned (.tuple #[.agg #[.int .i64 0, encStr [], encStr [], .int .i64 0, .int .i64 0, .int .i64 0, .int .i64 0, .slice none 0 0], .int .i64 4]) ∧ Hid (Below w.heap.size w w')) := hR.mono fun e w' h => by
      unfold Readed at h; rw [hp] at h; exact h
    clear hR hp hE
    go_enter Tryd.func5, Tryd.ntmps5
    go_upto_region 2 with (go_at_call 13; refine HR.out.mono ?_; rintro e w1 ⟨rfl, hb1⟩)
    obtain ⟨W1, hW1⟩ : ∃ W1, W1 = w1.alloc (.cells #[.int .i64 0, encStr [], encStr [], .int .i64 0, .int .i64 0, .int .i64 0, .int .i64 0, .slice none 0 0] 39) := ⟨_, rfl⟩
    have hX1 : Hid (Box W1 w1.heap.size #[.int .i64 0, encStr [], encStr [], .int .i64 0, .int .i64 0, .int .i64 0, .int .i64 0, .slice none 0 0] 39) := by rw [hW1]; exact Box.new rfl
    have hB1 : Hid (Below w.heap.size w W1) := by rw [hW1]; exact hb1.out.alloc hb1.out.size _
    have HO := Lib.hid (readOne W1 (HE.out.below hB1.out))
    rw [← hW1]
    clear hW1 hb1
    go_upto_region 3 with (go_at_call 13; refine HO.out.mono ?_; rintro e w2 ⟨a2, l2, k2, rfl, hr2, hb2⟩)
    obtain ⟨W2, hW2⟩ : ∃ W2, W2 = w2.alloc (.cells #[.int .i64 2, encStr [97], encStr [], .int .i64 (-3), .int .i64 0, .int .i64 0, .int .i64 0, .slice a2 l2 k2] 39) := ⟨_, rfl⟩
    have hX2 : Hid (Box W2 w2.heap.size #[.int .i64 2, encStr [97], encStr [], .int .i64 (-3), .int .i64 0, .int .i64 0, .int .i64 0, .slice a2 l2 k2] 39) := by rw [hW2]; exact Box.new rfl
    have hBy : Hid (Below w2.heap.size w2 W2) := by rw [hW2]; exact Below_alloc1 _
    have hB2 : Hid (Below W1.heap.size W1 W2) := hb2.out.trans (hBy.out.mono hb2.out.size)
    have hr3 : Hid (Row .u8 W2 a2 l2 k2 [10, 255]) := hr2.out.below hBy.out
    rw [← hW2]
    clear hW2 hr2 hb2 hBy
    have hX12 : Hid (Box W2 w1.heap.size #[.int .i64 0, encStr [], encStr [], .int .i64 0, .int .i64 0, .int .i64 0, .int .i64 0, .slice none 0 0] 39) := hX1.out.below hB2.out hX1.out.lt
    have hB3 : Hid (Below w.heap.size w W2) := hB1.out.trans (hB2.out.mono hB1.out.size)
    have x3 : W2.cell? ⟨w2.heap.size, 3, none⟩ = some (.int .i64 (-3)) := hX2.out.cell 3
    have x7 : W2.cell? ⟨w2.heap.size, 7, none⟩ = some (.slice a2 l2 k2) := hX2.out.cell 7
    obtain ⟨W3, hW3⟩ : ∃ W3, W3 = W2.alloc (.cells #[.int .u8 10, .int .u8 255] 5) := ⟨_, rfl⟩
    have hBz : Hid (Below W2.heap.size W2 W3) := by rw [hW3]; exact Below_alloc1 _
    have hlit : Row .u8 W3 (some ⟨W2.heap.size, 0, none⟩) 2 2 [10, 255] := by rw [hW3]; exact litRow2 W2 [10, 255] (by decide) (by decide)
    have HSB := Lib.hid (sameSelfP (hr3.out.below hBz.out) hlit)
    have HW3 := Lib.hid hW3
    clear hlit hW3
    go_upto_region 5 with (go_at_call 15; rw [← HW3.out]; refine HSB.out.mono ?_; rintro e w' ⟨rfl, nk, rfl⟩)
    have hB4 : Hid (Below W2.heap.size W2 (W3.drewN nk)) := below_drewN hBz.out nk
    obtain ⟨W4, hW4⟩ : ∃ W4, W4 = W3.drewN nk := ⟨_, rfl⟩
    rw [← hW4] at hB4 ⊢
    clear hW4 HSB HW3 hBz x3 x7
    have hX14 : Hid (Box W4 w1.heap.size #[.int .i64 0, encStr [], encStr [], .int .i64 0, .int .i64 0, .int .i64 0, .int .i64 0, .slice none 0 0] 39) := hX12.out.below hB4.out hX12.out.lt
    have hB5 : Hid (Below w.heap.size w W4) := hB3.out.trans (hB4.out.mono hB3.out.size)
    have y0 : W4.cell? ⟨w1.heap.size, 0, none⟩ = some (.int .i64 0) := hX14.out.cell 0
    have y1 : W4.cell? ⟨w1.heap.size, 1, none⟩ = some (.string ⟨#[]⟩) := hX14.out.cell 1
    have y7 : W4.cell? ⟨w1.heap.size, 7, none⟩ = some (.slice none 0 0) := hX14.out.cell 7
    go_wp2_with fail
    go_ret
    exact ⟨rfl, hB5⟩
  | some c =>
    have HR : Hid (Calls Tryd.prog 13 #[encStr s] w fun e w' => ∃ a l k, e = .returned (.tuple #[.agg #[.int .i64 c.kind, encStr c.name, encStr c.other, .int .i64 c.off, .int .i64 c.count, .int .i64 c.drive, .int .i64 c.keep, .slice a l k], .int .i64 0]) ∧ Hid (Row .u8 w' a l k c.data) ∧ Hid (Below w.heap.size w w')) := hR.mono fun e w' h => by
      unfold Readed at h; rw [hp] at h; exact h
    have hfix := Lib.hid (read_fixed hp)
    have hdl := Lib.hid (read_dlen hp hl)
    clear hR hp hE
    go_enter Tryd.func5, Tryd.ntmps5
    go_upto_region 2 with (go_at_call 13; refine HR.out.mono ?_; rintro e w1 ⟨a, l, k, rfl, HRow, hb1⟩)
    have hll : Hid (l ≤ 2000000) := by show _ ≤ _; have := HRow.out.hlen; have := hdl.out; omega
    obtain ⟨W1, hW1⟩ : ∃ W1, W1 = w1.alloc (.cells #[.int .i64 c.kind, encStr c.name, encStr c.other, .int .i64 c.off, .int .i64 c.count, .int .i64 c.drive, .int .i64 c.keep, .slice a l k] 39) := ⟨_, rfl⟩
    have hX1 : Hid (Box W1 w1.heap.size #[.int .i64 c.kind, encStr c.name, encStr c.other, .int .i64 c.off, .int .i64 c.count, .int .i64 c.drive, .int .i64 c.keep, .slice a l k] 39) := by rw [hW1]; exact Box.new rfl
    have hB1 : Hid (Below w.heap.size w W1) := by rw [hW1]; exact hb1.out.alloc hb1.out.size _
    have hr1 : Hid (Row .u8 W1 a l k c.data) := by rw [hW1]; exact HRow.out.below (Below_alloc1 _)
    have HO := Lib.hid (readOne W1 (HE.out.below hB1.out))
    rw [← hW1]
    clear hW1 hb1
    go_upto_region 3 with (go_at_call 13; refine HO.out.mono ?_; rintro e w2 ⟨a2, l2, k2, rfl, hr2, hb2⟩)
    obtain ⟨W2, hW2⟩ : ∃ W2, W2 = w2.alloc (.cells #[.int .i64 2, encStr [97], encStr [], .int .i64 (-3), .int .i64 0, .int .i64 0, .int .i64 0, .slice a2 l2 k2] 39) := ⟨_, rfl⟩
    have hX2 : Hid (Box W2 w2.heap.size #[.int .i64 2, encStr [97], encStr [], .int .i64 (-3), .int .i64 0, .int .i64 0, .int .i64 0, .slice a2 l2 k2] 39) := by rw [hW2]; exact Box.new rfl
    have hBy : Hid (Below w2.heap.size w2 W2) := by rw [hW2]; exact Below_alloc1 _
    have hB2 : Hid (Below W1.heap.size W1 W2) := hb2.out.trans (hBy.out.mono hb2.out.size)
    have hr3 : Hid (Row .u8 W2 a2 l2 k2 [10, 255]) := hr2.out.below hBy.out
    rw [← hW2]
    clear hW2 hr2 hb2 hBy
    have hX12 : Hid (Box W2 w1.heap.size #[.int .i64 c.kind, encStr c.name, encStr c.other, .int .i64 c.off, .int .i64 c.count, .int .i64 c.drive, .int .i64 c.keep, .slice a l k] 39) := hX1.out.below hB2.out hX1.out.lt
    have hr12 : Hid (Row .u8 W2 a l k c.data) := hr1.out.below hB2.out
    have hB3 : Hid (Below w.heap.size w W2) := hB1.out.trans (hB2.out.mono hB1.out.size)
    have x3 : W2.cell? ⟨w2.heap.size, 3, none⟩ = some (.int .i64 (-3)) := hX2.out.cell 3
    have x7 : W2.cell? ⟨w2.heap.size, 7, none⟩ = some (.slice a2 l2 k2) := hX2.out.cell 7
    obtain ⟨W3, hW3⟩ : ∃ W3, W3 = W2.alloc (.cells #[.int .u8 10, .int .u8 255] 5) := ⟨_, rfl⟩
    have hBz : Hid (Below W2.heap.size W2 W3) := by rw [hW3]; exact Below_alloc1 _
    have hlit : Row .u8 W3 (some ⟨W2.heap.size, 0, none⟩) 2 2 [10, 255] := by rw [hW3]; exact litRow2 W2 [10, 255] (by decide) (by decide)
    have HSB := Lib.hid (sameSelfP (hr3.out.below hBz.out) hlit)
    have HW3 := Lib.hid hW3
    clear hlit hW3
    go_upto_region 5 with (go_at_call 15; rw [← HW3.out]; refine HSB.out.mono ?_; rintro e w' ⟨rfl, nk, rfl⟩)
    have hB4 : Hid (Below W2.heap.size W2 (W3.drewN nk)) := below_drewN hBz.out nk
    obtain ⟨W4, hW4⟩ : ∃ W4, W4 = W3.drewN nk := ⟨_, rfl⟩
    rw [← hW4] at hB4 ⊢
    clear hW4 HSB HW3 hBz x3 x7
    have hX14 : Hid (Box W4 w1.heap.size #[.int .i64 c.kind, encStr c.name, encStr c.other, .int .i64 c.off, .int .i64 c.count, .int .i64 c.drive, .int .i64 c.keep, .slice a l k] 39) := hX12.out.below hB4.out hX12.out.lt
    have hB5 : Hid (Below w.heap.size w W4) := hB3.out.trans (hB4.out.mono hB3.out.size)
    have HS : Hid (Calls Tryd.prog 12 #[.agg #[.int .i64 c.kind, encStr c.name, encStr c.other, .int .i64 c.off, .int .i64 c.count, .int .i64 c.drive, .int .i64 c.keep, .slice a l k]] W4 fun e w' => e = .returned (.tuple #[encStr s, .int .i64 0]) ∧ Hid (Below W4.heap.size W4 w')) := (showW c a l k s W4 (HE.out.below hB5.out) hfix.out.1 hfix.out.2 (hr12.out.below hB4.out) hll.out)
    go_wp2_with (first
      | (refine wpList_load_box rfl 39 (.tmp 3) rfl w1.heap.size rfl 39 _ hX14.out _ Tryd.underlying39 rfl (by kernel_rfl) ?_)
      | (go_at_call 12; refine HS.out.mono ?_; rintro e w5 ⟨rfl, hb5⟩)
      | fail)
    go_ret
    exact ⟨rfl, hB5.out.trans (hb5.out.mono hB5.out.size)⟩
end Go.Proofs.YtdonmdiebibabaaDoor
