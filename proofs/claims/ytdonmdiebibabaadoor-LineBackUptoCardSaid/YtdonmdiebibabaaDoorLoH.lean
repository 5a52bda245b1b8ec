/- The walk of LineBack. -/
import Derived.Test.YtdonmdiebibabaaDoorLoF
import Derived.Test.YtdonmdiebibabaaDoorLoG
namespace Go.Proofs.YtdonmdiebibabaaDoor
open Go.RowKit Go.Sort
set_option linter.unusedVariables false
set_option maxRecDepth 100000
set_option linter.unusedSimpArgs false

set_option maxHeartbeats 4000000 in
theorem sameCommandW (c : Cmd) (a : Option Addr) (l k : Nat) (b : Option Addr) (m d : Nat) (w : World) (h1 : Row .u8 w a l k c.data) (h2 : Row .u8 w b m d c.data) :
    Calls Tryd.prog 14 #[.agg (c.cells a l k), .agg (c.cells b m d)] w fun e w' => e = .returned (.bool true) ∧ Hid (Below w.heap.size w w') := by
  obtain ⟨W, hW⟩ : ∃ W, W = (w.alloc (.cells (c.cells a l k) 39)).alloc (.cells (c.cells b m d) 39) := ⟨_, rfl⟩
  have hB : Below w.heap.size w W := by rw [hW]; exact Below_alloc2 _ _
  have b1 : Box W w.heap.size (c.cells a l k) 39 := by rw [hW]; exact Box.alloc (Box.new rfl) _
  have b2 : Box W (w.heap.size + 1) (c.cells b m d) 39 := by rw [hW]; exact Box.new (by simp)
  have HB := Lib.hid hB
  have HSB := Lib.hid (sameSelfP (h1.below hB) (h2.below hB))
  have x0 : W.cell? ⟨w.heap.size, 0, none⟩ = some (.int .i64 c.kind) := b1.cell 0
  have x1 : W.cell? ⟨w.heap.size, 1, none⟩ = some (encStr c.name) := b1.cell 1
  have x2 : W.cell? ⟨w.heap.size, 2, none⟩ = some (encStr c.other) := b1.cell 2
  have x3 : W.cell? ⟨w.heap.size, 3, none⟩ = some (.int .i64 c.off) := b1.cell 3
  have x4 : W.cell? ⟨w.heap.size, 4, none⟩ = some (.int .i64 c.count) := b1.cell 4
  have x5 : W.cell? ⟨w.heap.size, 5, none⟩ = some (.int .i64 c.drive) := b1.cell 5
  have x6 : W.cell? ⟨w.heap.size, 6, none⟩ = some (.int .i64 c.keep) := b1.cell 6
  have x7 : W.cell? ⟨w.heap.size, 7, none⟩ = some (.slice a l k) := b1.cell 7
  have y0 : W.cell? ⟨w.heap.size + 1, 0, none⟩ = some (.int .i64 c.kind) := b2.cell 0
  have y1 : W.cell? ⟨w.heap.size + 1, 1, none⟩ = some (encStr c.name) := b2.cell 1
  have y2 : W.cell? ⟨w.heap.size + 1, 2, none⟩ = some (encStr c.other) := b2.cell 2
  have y3 : W.cell? ⟨w.heap.size + 1, 3, none⟩ = some (.int .i64 c.off) := b2.cell 3
  have y4 : W.cell? ⟨w.heap.size + 1, 4, none⟩ = some (.int .i64 c.count) := b2.cell 4
  have y5 : W.cell? ⟨w.heap.size + 1, 5, none⟩ = some (.int .i64 c.drive) := b2.cell 5
  have y6 : W.cell? ⟨w.heap.size + 1, 6, none⟩ = some (.int .i64 c.keep) := b2.cell 6
  have y7 : W.cell? ⟨w.heap.size + 1, 7, none⟩ = some (.slice b m d) := b2.cell 7
  clear hB b1 b2 h1 h2
  unfold Cmd.cells at hW ⊢
  go_enter Tryd.func14, Tryd.ntmps14
  go_upto_region 1 with fail
  rw [← hW]
  clear hW
  go_wp2_with (first
    | (go_at_call 15; refine HSB.out.mono ?_; rintro e w' ⟨rfl, k, rfl⟩)
    | fail)
  go_ret
  exact ⟨rfl, below_drewN HB.out _⟩
theorem readLine (c : Cmd) (s : Nm) (w : World) (hE : EnvX w) (h : readP s = some c) (hl : s.length ≤ 4000000) : Calls Tryd.prog 13 #[encStr s] w fun e w' =>
    ∃ a l k, e = .returned (.tuple #[.agg #[.int .i64 c.kind, encStr c.name, encStr c.other, .int .i64 c.off, .int .i64 c.count, .int .i64 c.drive, .int .i64 c.keep, .slice a l k], .int .i64 0]) ∧ Hid (Row .u8 w' a l k c.data) ∧ Hid (Below w.heap.size w w') :=
  (readW s w hE hl).mono fun e w' h' => by unfold Readed at h'; rw [h] at h'; exact h'
theorem readNone (s : Nm) (w : World) (hE : EnvX w) (h : readP s = none) (hl : s.length ≤ 4000000) : Calls Tryd.prog 13 #[encStr s] w fun e w' =>
    e = .returned (.tuple #[.agg #[.int .i64 0, encStr [], encStr [], .int .i64 0, .int .i64 0, .int .i64 0, .int .i64 0, .slice none 0 0], .int .i64 4]) ∧ Hid (Below w.heap.size w w') :=
  (readW s w hE hl).mono fun e w' h' => by unfold Readed at h'; rw [h] at h'; exact h'
theorem lineCmd_wf (k : Nat) (N1 N2 : Nm) (off cnt keep drive : Int) (xs : List Int) (h1 : -9223372036854775808 ≤ off ∧ off ≤ 9223372036854775807) (h2 : -9223372036854775808 ≤ cnt ∧ cnt ≤ 9223372036854775807) (h3 : -9223372036854775808 ≤ drive ∧ drive ≤ 9223372036854775807) (h4 : -9223372036854775808 ≤ keep ∧ keep ≤ 9223372036854775807) (hb : ∀ x ∈ xs, 0 ≤ x ∧ x < 256) :
    (lineCmd k N1 N2 off cnt keep drive xs).Wf ∧ (lineCmd k N1 N2 off cnt keep drive xs).data.length ≤ xs.length := by
  refine ⟨⟨?_, ?_, ?_, ?_, ?_⟩, ?_⟩
  · show _ ≤ (if k + 1 ∈ [2, 3, 8, 15] then off else 0) ∧ (if k + 1 ∈ [2, 3, 8, 15] then off else 0) ≤ _
    split
    · exact h1
    · decide
  · show _ ≤ (if k + 1 ∈ [3, 8, 4, 14, 19] then cnt else 0) ∧ (if k + 1 ∈ [3, 8, 4, 14, 19] then cnt else 0) ≤ _
    split
    · exact h2
    · decide
  · show _ ≤ (if k + 1 ∈ [15, 16, 17] then drive else 0) ∧ (if k + 1 ∈ [15, 16, 17] then drive else 0) ≤ _
    split
    · exact h3
    · decide
  · show _ ≤ (if k + 1 ∈ [13, 14, 19] then keep else 0) ∧ (if k + 1 ∈ [13, 14, 19] then keep else 0) ≤ _
    split
    · exact h4
    · decide
  · show ∀ y ∈ (if k + 1 = 2 then xs else []), _
    split
    · exact hb
    · intro y hy; cases hy
  · show (if k + 1 = 2 then xs else []).length ≤ _
    split
    · exact Nat.le_refl _
    · simp
theorem hexP_len (b : List Int) : (hexP b).length ≤ 2 * b.length + 1 := by
  unfold hexP
  split
  · simp
  · rw [pairs_length]; omega
theorem getL_sum {y : UInt8} (hy : y ∈ lettersAll) {c : Cmd} (hw : c.Wf) (ho : okL y c = true) : (getL y c).length + 2 * (clrL y c).data.length ≤ 22 + 2 * c.data.length := by
  simp only [lettersAll, List.mem_cons, List.mem_nil_iff, or_false] at hy
  rcases hy with rfl | rfl | rfl | rfl | rfl | rfl | rfl
  · show c.name.length + 2 * c.data.length ≤ _
    have := name_short (n := c.name) ho; omega
  · show c.other.length + 2 * c.data.length ≤ _
    have := name_short (n := c.other) ho; omega
  · show (Lib.itoa c.off).length + 2 * c.data.length ≤ _
    have := itoa_len c.off hw.1.1 hw.1.2; omega
  · show (Lib.itoa c.count).length + 2 * c.data.length ≤ _
    have := itoa_len c.count hw.2.1 hw.2.2; omega
  · show (Lib.itoa c.drive).length + 2 * c.data.length ≤ _
    have := itoa_len c.drive hw.3.1 hw.3.2; omega
  · show (Lib.itoa c.keep).length + 2 * c.data.length ≤ _
    have := itoa_len c.keep hw.4.1 hw.4.2; omega
  · show (hexP c.data).length + 2 * 0 ≤ _
    have := hexP_len c.data; omega
theorem showL_sum {ls : Nm} {c e : Cmd} {ps : List Nm} (hls : ∀ x ∈ ls, x ∈ lettersAll) (hw : c.Wf) (h : showL ls c = some (ps, e)) : (ps.map List.length).sum ≤ 22 * ls.length + 2 * c.data.length ∧ ps.length = ls.length := by
  induction ls generalizing c ps with
  | nil => simp only [showL] at h; obtain ⟨rfl, rfl⟩ := Prod.mk.inj (Option.some.inj h); simp
  | cons y ys ih =>
    obtain ⟨ho, r2, rfl, h2⟩ := showL_cons h
    obtain ⟨i1, i2⟩ := ih (fun x hx => hls x (List.mem_cons_of_mem _ hx)) (clrL_wf y hw) h2
    have hg := getL_sum (hls y (List.mem_cons_self ..)) hw ho
    simp only [List.map_cons, List.sum_cons, List.length_cons]
    exact ⟨by omega, by omega⟩
theorem joinP_sum : ∀ xs : List Nm, (joinP xs).length ≤ (xs.map List.length).sum + xs.length
  | [] => by simp [joinP, Lib.join]
  | [x] => by rw [joinP_one]; simp
  | x :: y :: r => by
    rw [joinP_cons]
    have h2 := joinP_sum (y :: r)
    simp only [List.length_append, List.length_cons, List.map_cons, List.sum_cons] at h2 ⊢
    omega
theorem shows_len {c : Cmd} {s : Nm} (h : Shows c s) (hw : c.Wf) (hd : c.data.length ≤ 1048576) : s.length ≤ 3900000 := by
  obtain ⟨ps, h1, h2, h3, rfl⟩ := h
  have hk : (c.kind - 1).toNat < 19 := by omega
  have hw9 : ∀ k : Fin 19, (wordOf k.val).length ≤ 9 ∧ (lettersOf k.val).length ≤ 4 := by decide
  have h9 := hw9 ⟨_, hk⟩
  simp only at h9
  have hm : ∀ x ∈ lettersOf (c.kind - 1).toNat, x ∈ lettersAll := (words_ok ⟨_, hk⟩).1
  obtain ⟨i1, i2⟩ := showL_sum hm hw h3
  have := joinP_sum (wordOf (c.kind - 1).toNat :: ps)
  simp only [List.map_cons, List.sum_cons, List.length_cons] at this
  omega
set_option maxHeartbeats 8000000 in
theorem lineBackW (kd na oa off cnt keep drive : Int) (ad : Option Addr) (len cd : Nat) (xs : List Int) (w : World) (hE : EnvX w) (hd : Row .u8 w ad len cd xs) (hl : len ≤ 1048576)
    (h1 : -9223372036854775808 ≤ off ∧ off ≤ 9223372036854775807) (h2 : -9223372036854775808 ≤ cnt ∧ cnt ≤ 9223372036854775807) (h3 : -9223372036854775808 ≤ drive ∧ drive ≤ 9223372036854775807) (h4 : -9223372036854775808 ≤ keep ∧ keep ≤ 9223372036854775807) :
    Calls Tryd.prog 4 #[.agg #[.int .i64 kd, .int .i64 na, .int .i64 oa, .int .i64 off, .int .i64 cnt, .slice ad len cd], .int .i64 keep, .int .i64 drive] w fun e w' => e = .returned (.bool true) ∧ Hid (Below w.heap.size w w') := by
  obtain ⟨c, hc⟩ : ∃ c, lineCmd (kd % 19).toNat (objN na) (snN oa) off cnt keep drive xs = c := ⟨_, rfl⟩
  have hk19 : (kd % 19).toNat < 19 := by have := Int.emod_lt_of_pos kd (b := 19) (by decide); have := Int.emod_nonneg kd (b := 19) (by decide); omega
  have hb : ∀ x ∈ xs, 0 ≤ x ∧ x < 256 := fun x hx => by
    have := hd.hwf x hx
    simp [Lit.wf, IntKind.min, IntKind.max, IntKind.signed, IntKind.bits] at this
    omega
  obtain ⟨hwf, hdl⟩ := lineCmd_wf (kd % 19).toNat (objN na) (snN oa) off cnt keep drive xs h1 h2 h3 h4 hb
  obtain ⟨s, hs⟩ := lineCmd_shows (kd % 19).toNat hk19 (objN na) (snN oa) off cnt keep drive xs (objN_name na) (snN_ok oa)
  have hLC := lineCommandW kd na oa off cnt keep drive ad len cd xs
  unfold LcPost at hLC
  rw [hc] at hwf hdl hs hLC
  have hsl := shows_len hs hwf (by have := hd.hlen; omega)
  obtain ⟨r1, r2, r3, r4⟩ := show_back hs hwf
  obtain ⟨W, hW⟩ : ∃ W, W = w.alloc (.cells #[.int .i64 kd, .int .i64 na, .int .i64 oa, .int .i64 off, .int .i64 cnt, .slice ad len cd] 37) := ⟨_, rfl⟩
  have hB0 : Hid (Below w.heap.size w W) := by rw [hW]; exact Below_alloc1 _
  have hX0 : Hid (Box W w.heap.size #[.int .i64 kd, .int .i64 na, .int .i64 oa, .int .i64 off, .int .i64 cnt, .slice ad len cd] 37) := by rw [hW]; exact Box.new rfl
  have HLC := Lib.hid (hLC W (hd.below hB0.out) (by omega))
  have HE := Lib.hid hE
  have HR1 := Lib.hid r1
  have HR2 := Lib.hid r2
  have HR3 := Lib.hid r3
  have HS := Lib.hid hs
  have HWF := Lib.hid hwf
  have hdl2 : Hid (c.data.length ≤ 1048576) := by show _ ≤ _; have := hd.hlen; omega
  have hnl : 0 < s.length := List.length_pos_iff.2 r4
  have hne : (0 : Int) < (s.length : Int) := by have : 0 < s.length := List.length_pos_iff.2 r4; omega
  clear hLC hd hE r1 r2 r3 hs hwf hc hdl hb
  go_enter Tryd.func4, Tryd.ntmps4
  go_upto_region 1 with fail
  rw [← hW]
  clear hW
  go_upto_region 2 with (first
    | (refine wpList_load_box rfl 37 (.tmp 3) rfl w.heap.size rfl 37 _ hX0.out _ Tryd.underlying37 rfl (by kernel_rfl) ?_)
    | (go_at_call 11; refine HLC.out.mono ?_; rintro e w1 ⟨a1, l1, c1, rfl, hr1, hb1⟩; unfold Cmd.cells)
    | fail)
  obtain ⟨W1, hW1⟩ : ∃ W1, W1 = w1.alloc (.cells #[.int .i64 c.kind, encStr c.name, encStr c.other, .int .i64 c.off, .int .i64 c.count, .int .i64 c.drive, .int .i64 c.keep, .slice a1 l1 c1] 39) := ⟨_, rfl⟩
  have hX1 : Hid (Box W1 w1.heap.size #[.int .i64 c.kind, encStr c.name, encStr c.other, .int .i64 c.off, .int .i64 c.count, .int .i64 c.drive, .int .i64 c.keep, .slice a1 l1 c1] 39) := by rw [hW1]; exact Box.new rfl
  have hy1 : Hid (Below w1.heap.size w1 W1) := by rw [hW1]; exact Below_alloc1 _
  have hR1 : Hid (Row .u8 W1 a1 l1 c1 c.data) := by have := hr1.below hy1.out; exact this
  have hB1 : Hid (Below w.heap.size w W1) := hB0.out.trans ((hb1.out.trans (hy1.out.mono hb1.out.size)).mono hB0.out.size)
  unfold encStr at hW1
  rw [← hW1]
  clear hW1 hy1 hb1 hr1
  have hl1 : Hid (l1 ≤ 2000000) := by show _ ≤ _; have := hR1.out.hlen; have := hdl2.out; omega
  have HSh : Hid (Calls Tryd.prog 12 #[.agg #[.int .i64 c.kind, encStr c.name, encStr c.other, .int .i64 c.off, .int .i64 c.count, .int .i64 c.drive, .int .i64 c.keep, .slice a1 l1 c1]] W1 fun e w' => e = .returned (.tuple #[encStr s, .int .i64 0]) ∧ Hid (Below W1.heap.size W1 w')) := showW c a1 l1 c1 s W1 (HE.out.below hB1.out) HS.out HWF.out hR1.out hl1.out
  go_upto_region 3 with (first
    | (refine wpList_load_box rfl 39 (.tmp 7) rfl w1.heap.size rfl 39 _ hX1.out _ Tryd.underlying39 rfl (by kernel_rfl) ?_)
    | (go_at_call 12; refine HSh.out.mono ?_; rintro e w2 ⟨rfl, hb2⟩)
    | fail)
  have hB2 : Hid (Below w.heap.size w w2) := hB1.out.trans (hb2.out.mono hB1.out.size)
  have HRd := Lib.hid (readLine c s w2 (HE.out.below hB2.out) HR1.out (by omega))
  go_upto_region 4 with (go_at_call 13; refine HRd.out.mono ?_; rintro e w3 ⟨a3, l3, c3, rfl, hr3, hb3⟩)
  obtain ⟨W3, hW3⟩ : ∃ W3, W3 = w3.alloc (.cells #[.int .i64 c.kind, encStr c.name, encStr c.other, .int .i64 c.off, .int .i64 c.count, .int .i64 c.drive, .int .i64 c.keep, .slice a3 l3 c3] 39) := ⟨_, rfl⟩
  have hX3 : Hid (Box W3 w3.heap.size #[.int .i64 c.kind, encStr c.name, encStr c.other, .int .i64 c.off, .int .i64 c.count, .int .i64 c.drive, .int .i64 c.keep, .slice a3 l3 c3] 39) := by rw [hW3]; exact Box.new rfl
  have hy3 : Hid (Below w3.heap.size w3 W3) := by rw [hW3]; exact Below_alloc1 _
  have hR3 : Hid (Row .u8 W3 a3 l3 c3 c.data) := hr3.out.below hy3.out
  have hb13 : Hid (Below W1.heap.size W1 W3) := hb2.out.trans ((hb3.out.trans (hy3.out.mono hb3.out.size)).mono hb2.out.size)
  unfold encStr at hW3
  rw [← hW3]
  clear hW3 hy3 hb3 hr3 hb2 HRd HSh
  have hB3 : Hid (Below w.heap.size w W3) := hB1.out.trans (hb13.out.mono hB1.out.size)
  have HRn := Lib.hid (readNone (s ++ [32]) W3 (HE.out.below hB3.out) HR2.out (by simp; omega))
  go_upto_region 5 with (first
    | (refine wpList_concat rfl (.tmp 31) (.const (.string ⟨#[32]⟩)) _ _ rfl s [32] rfl rfl (by simp; omega) ?_)
    | (go_at_call 13; refine HRn.out.mono ?_; rintro e w4 ⟨rfl, hb4⟩)
    | fail)
  obtain ⟨W4, hW4⟩ : ∃ W4, W4 = w4.alloc (.cells #[.int .i64 0, .string ⟨#[]⟩, .string ⟨#[]⟩, .int .i64 0, .int .i64 0, .int .i64 0, .int .i64 0, .slice none 0 0] 39) := ⟨_, rfl⟩
  have hb34 : Hid (Below W3.heap.size W3 W4) := by rw [hW4]; exact hb4.out.alloc hb4.out.size _
  have hB4 : Hid (Below w.heap.size w W4) := hB3.out.trans (hb34.out.mono hB3.out.size)
  rw [← hW4]
  clear hW4 hb4 HRn
  have HRm := Lib.hid (readNone (32 :: s) W4 (HE.out.below hB4.out) HR3.out (by simp; omega))
  go_upto_region 6 with (first
    | (refine wpList_concat rfl (.const (.string ⟨#[32]⟩)) (.tmp 37) _ _ rfl [32] s rfl rfl (by simp; omega) ?_)
    | (go_at_call 13; refine HRm.out.mono ?_; rintro e w5 ⟨rfl, hb5⟩)
    | fail)
  obtain ⟨W5, hW5⟩ : ∃ W5, W5 = w5.alloc (.cells #[.int .i64 0, .string ⟨#[]⟩, .string ⟨#[]⟩, .int .i64 0, .int .i64 0, .int .i64 0, .int .i64 0, .slice none 0 0] 39) := ⟨_, rfl⟩
  have hb45 : Hid (Below W4.heap.size W4 W5) := by rw [hW5]; exact hb5.out.alloc hb5.out.size _
  have hb35 : Hid (Below W3.heap.size W3 W5) := hb34.out.trans (hb45.out.mono hb34.out.size)
  have hB5 : Hid (Below w.heap.size w W5) := hB3.out.trans (hb35.out.mono hB3.out.size)
  rw [← hW5]
  clear hW5 hb5 HRm
  have hX15 : Hid (Box W5 w1.heap.size #[.int .i64 c.kind, encStr c.name, encStr c.other, .int .i64 c.off, .int .i64 c.count, .int .i64 c.drive, .int .i64 c.keep, .slice a1 l1 c1] 39) := (hX1.out.below hb13.out hX1.out.lt).below hb35.out (Nat.lt_of_lt_of_le hX1.out.lt hb13.out.size)
  have hX35 : Hid (Box W5 w3.heap.size #[.int .i64 c.kind, encStr c.name, encStr c.other, .int .i64 c.off, .int .i64 c.count, .int .i64 c.drive, .int .i64 c.keep, .slice a3 l3 c3] 39) := hX3.out.below hb35.out hX3.out.lt
  have HSC : Hid (Calls Tryd.prog 14 #[.agg #[.int .i64 c.kind, encStr c.name, encStr c.other, .int .i64 c.off, .int .i64 c.count, .int .i64 c.drive, .int .i64 c.keep, .slice a1 l1 c1], .agg #[.int .i64 c.kind, encStr c.name, encStr c.other, .int .i64 c.off, .int .i64 c.count, .int .i64 c.drive, .int .i64 c.keep, .slice a3 l3 c3]] W5 fun e w' => e = .returned (.bool true) ∧ Hid (Below W5.heap.size W5 w')) := sameCommandW c a1 l1 c1 a3 l3 c3 W5 ((hR1.out.below hb13.out).below hb35.out) (hR3.out.below hb35.out)
  go_wp2_with (first
    | (refine load_box_w (by first | rfl | simp [Region.wanted, yielded, hnl]) 39 (.tmp 7) rfl w1.heap.size rfl 39 _ hX15.out _ Tryd.underlying39 rfl (by kernel_rfl) ?_)
    | (refine load_box_w (by first | rfl | simp [Region.wanted, yielded, hnl]) 39 (.tmp 10) rfl w3.heap.size rfl 39 _ hX35.out _ Tryd.underlying39 rfl (by kernel_rfl) ?_)
    | (go_at_call 14; refine HSC.out.mono ?_; rintro e w6 ⟨rfl, hb6⟩)
    | fail)
  go_ret
  exact ⟨rfl, hB5.out.trans (hb6.out.mono hB5.out.size)⟩
end Go.Proofs.YtdonmdiebibabaaDoor
