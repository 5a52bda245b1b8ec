/- The walk of package label: Encode (printed by wip/encgen.py). -/
import Derived.Test.YteidmdakglkkfaaLbQ
import Derived.Test.YteidmdakglkkfaaLbF
namespace Go.Proofs.Yteidmdakglkkfaa
open Go.RowKit
set_option linter.unusedVariables false
set_option maxRecDepth 100000

theorem stepB {B : Nat} {w0 a w : World} (h0 : Below B w0 a) (hw : B ≤ w0.heap.size) (h : Below a.heap.size a w) : Below B w0 w := h0.trans (h.mono (Nat.le_trans hw h0.size))
theorem stepG {B g : Nat} {w0 a w : World} (h0 : Below B w0 a) (hw : B ≤ w0.heap.size) (h : a.grownBy w (some g)) (hg : B ≤ g) : Below B w0 w := h0.grown h (Nat.le_trans hw h0.size) (fun k hk => by injection hk with hk; omega)
def Encoded (x : Lab) (w : World) (e : Ending) (w' : World) : Prop := ∃ g, e = .returned (.tuple #[.slice (some ⟨g, 0, none⟩) 128 128, .int .i64 0]) ∧ w.heap.size ≤ g ∧ Hid (Box w' g (room (encB x)) 5) ∧ Hid (Below w.heap.size w w')
set_option maxHeartbeats 400000 in
theorem encode_no (x : Lab) (w : World) (hm : Hid (x.may = false)) :
    Calls Try.prog 25 #[x.val] w fun e w' => e = .returned (.tuple #[.slice none 0 0, .int .i64 4]) ∧ Below w.heap.size w w' := by
  obtain ⟨pool, drive, drives, parity, time, addr, count, bytes, birth, a, b, c, d⟩ := x
  unfold Lab.val
  simp only
  go_enter Try.func25, Try.ntmps25
  go_wp2_with fail
  obtain ⟨V, hV⟩ : ∃ V, V = w.alloc (.cells #[Value.int .i64 pool, Value.int .i64 drive, Value.int .i64 drives, Value.int .i64 parity, Value.int .i64 time, Value.int .i64 addr, Value.int .i64 count, Value.int .i64 bytes, Value.int .i64 birth, Value.int .i64 a, Value.int .i64 b, Value.int .i64 c, Value.int .i64 d] 57) := ⟨_, rfl⟩
  have LB : Hid (Below w.heap.size w V) := by rw [hV]; exact Below_alloc1 _
  rw [← hV]
  clear hV
  refine (may_ pool drive drives parity time addr count bytes birth a b c d V).mono ?_
  rw [hm.out]
  rintro e w1 ⟨rfl, hb1⟩
  go_wp2_with fail
  go_ret2
  exact ⟨rfl, stepB LB.out (Nat.le_refl _) hb1⟩
set_option maxHeartbeats 2000000 in
theorem encode (x : Lab) (w : World) (hm : Hid (x.may = true)) (hx : x.ok) :
    Calls Try.prog 25 #[x.val] w (Encoded x w) := by
  obtain ⟨pool, drive, drives, parity, time, addr, count, bytes, birth, a, b, c, d⟩ := x
  unfold Lab.val
  simp only
  have HX := Lib.hid hx
  clear hx
  unfold Lab.ok at HX
  go_enter Try.func25, Try.ntmps25
  go_wp2_with fail
  obtain ⟨V, hV⟩ : ∃ V, V = w.alloc (.cells #[Value.int .i64 pool, Value.int .i64 drive, Value.int .i64 drives, Value.int .i64 parity, Value.int .i64 time, Value.int .i64 addr, Value.int .i64 count, Value.int .i64 bytes, Value.int .i64 birth, Value.int .i64 a, Value.int .i64 b, Value.int .i64 c, Value.int .i64 d] 57) := ⟨_, rfl⟩
  have B1 : Box V w.heap.size #[Value.int .i64 pool, Value.int .i64 drive, Value.int .i64 drives, Value.int .i64 parity, Value.int .i64 time, Value.int .i64 addr, Value.int .i64 count, Value.int .i64 bytes, Value.int .i64 birth, Value.int .i64 a, Value.int .i64 b, Value.int .i64 c, Value.int .i64 d] 57 := by rw [hV]; exact Box.new rfl
  have LB : Hid (Below w.heap.size w V) := by rw [hV]; exact Below_alloc1 _
  rw [← hV]
  clear hV
  obtain ⟨h, hh⟩ : ∃ g, Hid (w.heap.size = g) := ⟨_, rfl⟩
  rw [hh.out] at B1 ⊢
  refine (may_ pool drive drives parity time addr count bytes birth a b c d V).mono ?_
  rw [hm.out]
  rintro e w1 ⟨rfl, hb1⟩
  have hwz : w.heap.size ≤ w.heap.size := Nat.le_refl _
  have LB1 := Lib.hid (stepB LB.out hwz hb1)
  have B2 := Lib.hid (B1.below hb1 B1.lt)
  have hlt := B1.lt
  clear B1
  go_wp2_with (at_make; refine wpList_make_sector rfl (.const (.int .i64 0)) (.const (.int .i64 128)) 59 rfl 5 Try.underlying59 info_u8' rfl rfl ?_)
  intro w2 hr2 hb2
  obtain ⟨g, hg⟩ : ∃ g, Hid (w1.heap.size = g) := ⟨_, rfl⟩
  rw [hg.out] at hr2 ⊢
  have LB2 := Lib.hid (stepB LB1.out hwz hb2)
  have hgw : w.heap.size ≤ g := by have := hg.out; have := LB1.out.size; omega
  have R2 := Lib.hid hr2
  have B3 := Lib.hid (B2.out.below hb2 B2.out.lt)
  clear hr2 B2
  go_wp2_with fail
  refine (small h w2).mono ?_
  rintro e w3 ⟨rfl, hb3⟩
  have LB3 := Lib.hid (stepB LB2.out hwz hb3)
  have R3 := Lib.hid (R2.out.below hb3 R2.out.lt)
  have B4 := Lib.hid (B3.out.below hb3 B3.out.lt)
  clear R2 B3
  have i0 : ∀ w, (Instr.index 109 (.agg #[.pointer (some ⟨h, 0, none⟩), .pointer (some ⟨h, 1, none⟩), .pointer (some ⟨h, 2, none⟩), .pointer (some ⟨h, 3, none⟩), .pointer (some ⟨h, 4, none⟩), .pointer (some ⟨h, 5, none⟩), .pointer (some ⟨h, 6, none⟩), .pointer (some ⟨h, 7, none⟩), .pointer (some ⟨h, 8, none⟩)]) (.int .i64 0)).run Try.prog w = .ok (.pointer (some ⟨h, 0, none⟩)) w := fun _ => by kernel_rfl
  have i1 : ∀ w, (Instr.index 109 (.agg #[.pointer (some ⟨h, 0, none⟩), .pointer (some ⟨h, 1, none⟩), .pointer (some ⟨h, 2, none⟩), .pointer (some ⟨h, 3, none⟩), .pointer (some ⟨h, 4, none⟩), .pointer (some ⟨h, 5, none⟩), .pointer (some ⟨h, 6, none⟩), .pointer (some ⟨h, 7, none⟩), .pointer (some ⟨h, 8, none⟩)]) (.int .i64 1)).run Try.prog w = .ok (.pointer (some ⟨h, 1, none⟩)) w := fun _ => by kernel_rfl
  have i2 : ∀ w, (Instr.index 109 (.agg #[.pointer (some ⟨h, 0, none⟩), .pointer (some ⟨h, 1, none⟩), .pointer (some ⟨h, 2, none⟩), .pointer (some ⟨h, 3, none⟩), .pointer (some ⟨h, 4, none⟩), .pointer (some ⟨h, 5, none⟩), .pointer (some ⟨h, 6, none⟩), .pointer (some ⟨h, 7, none⟩), .pointer (some ⟨h, 8, none⟩)]) (.int .i64 2)).run Try.prog w = .ok (.pointer (some ⟨h, 2, none⟩)) w := fun _ => by kernel_rfl
  have i3 : ∀ w, (Instr.index 109 (.agg #[.pointer (some ⟨h, 0, none⟩), .pointer (some ⟨h, 1, none⟩), .pointer (some ⟨h, 2, none⟩), .pointer (some ⟨h, 3, none⟩), .pointer (some ⟨h, 4, none⟩), .pointer (some ⟨h, 5, none⟩), .pointer (some ⟨h, 6, none⟩), .pointer (some ⟨h, 7, none⟩), .pointer (some ⟨h, 8, none⟩)]) (.int .i64 3)).run Try.prog w = .ok (.pointer (some ⟨h, 3, none⟩)) w := fun _ => by kernel_rfl
  have i4 : ∀ w, (Instr.index 109 (.agg #[.pointer (some ⟨h, 0, none⟩), .pointer (some ⟨h, 1, none⟩), .pointer (some ⟨h, 2, none⟩), .pointer (some ⟨h, 3, none⟩), .pointer (some ⟨h, 4, none⟩), .pointer (some ⟨h, 5, none⟩), .pointer (some ⟨h, 6, none⟩), .pointer (some ⟨h, 7, none⟩), .pointer (some ⟨h, 8, none⟩)]) (.int .i64 4)).run Try.prog w = .ok (.pointer (some ⟨h, 4, none⟩)) w := fun _ => by kernel_rfl
  have i5 : ∀ w, (Instr.index 109 (.agg #[.pointer (some ⟨h, 0, none⟩), .pointer (some ⟨h, 1, none⟩), .pointer (some ⟨h, 2, none⟩), .pointer (some ⟨h, 3, none⟩), .pointer (some ⟨h, 4, none⟩), .pointer (some ⟨h, 5, none⟩), .pointer (some ⟨h, 6, none⟩), .pointer (some ⟨h, 7, none⟩), .pointer (some ⟨h, 8, none⟩)]) (.int .i64 5)).run Try.prog w = .ok (.pointer (some ⟨h, 5, none⟩)) w := fun _ => by kernel_rfl
  have i6 : ∀ w, (Instr.index 109 (.agg #[.pointer (some ⟨h, 0, none⟩), .pointer (some ⟨h, 1, none⟩), .pointer (some ⟨h, 2, none⟩), .pointer (some ⟨h, 3, none⟩), .pointer (some ⟨h, 4, none⟩), .pointer (some ⟨h, 5, none⟩), .pointer (some ⟨h, 6, none⟩), .pointer (some ⟨h, 7, none⟩), .pointer (some ⟨h, 8, none⟩)]) (.int .i64 6)).run Try.prog w = .ok (.pointer (some ⟨h, 6, none⟩)) w := fun _ => by kernel_rfl
  have i7 : ∀ w, (Instr.index 109 (.agg #[.pointer (some ⟨h, 0, none⟩), .pointer (some ⟨h, 1, none⟩), .pointer (some ⟨h, 2, none⟩), .pointer (some ⟨h, 3, none⟩), .pointer (some ⟨h, 4, none⟩), .pointer (some ⟨h, 5, none⟩), .pointer (some ⟨h, 6, none⟩), .pointer (some ⟨h, 7, none⟩), .pointer (some ⟨h, 8, none⟩)]) (.int .i64 7)).run Try.prog w = .ok (.pointer (some ⟨h, 7, none⟩)) w := fun _ => by kernel_rfl
  have i8 : ∀ w, (Instr.index 109 (.agg #[.pointer (some ⟨h, 0, none⟩), .pointer (some ⟨h, 1, none⟩), .pointer (some ⟨h, 2, none⟩), .pointer (some ⟨h, 3, none⟩), .pointer (some ⟨h, 4, none⟩), .pointer (some ⟨h, 5, none⟩), .pointer (some ⟨h, 6, none⟩), .pointer (some ⟨h, 7, none⟩), .pointer (some ⟨h, 8, none⟩)]) (.int .i64 8)).run Try.prog w = .ok (.pointer (some ⟨h, 8, none⟩)) w := fun _ => by kernel_rfl
  have hne : (some h : Option Nat) ≠ some g := by intro e; injection e with e; have := hg.out; have := hb1.size; omega
  go_wp2_with fail
  refine wp_loop_rounds 10 ?_
  have c0 : w3.cell? ⟨h, 0, none⟩ = some (.int .i64 pool) := B4.out.cell 0
  rw [rounds_succ]
  go_wp2_with fail
  refine (write_in g ([]) 0 pool 4 w3 R3 rfl (HX.out _ (by simp)) (by omega)).mono ?_
  rintro e v0 ⟨rfl, Rv0', Gv0'⟩
  have Bv0' := Lib.hid (B4.out.grown Gv0'.out hne)
  have Lv0' := Lib.hid (stepG LB3.out hwz Gv0'.out hgw)
  clear c0 B4 LB3 R3
  go_wp2_with fail
  have c1 : v0.cell? ⟨h, 1, none⟩ = some (.int .i64 drive) := Bv0'.out.cell 1
  rw [rounds_succ]
  go_wp2_with fail
  refine (write_in g ([] ++ leB 4 pool) 4 drive 4 v0 Rv0' rfl (HX.out _ (by simp)) (by omega)).mono ?_
  rintro e v1 ⟨rfl, Rv1', Gv1'⟩
  have Bv1' := Lib.hid (Bv0'.out.grown Gv1'.out hne)
  have Lv1' := Lib.hid (stepG Lv0'.out hwz Gv1'.out hgw)
  clear c1 Bv0' Lv0' Rv0'
  go_wp2_with fail
  have c2 : v1.cell? ⟨h, 2, none⟩ = some (.int .i64 drives) := Bv1'.out.cell 2
  rw [rounds_succ]
  go_wp2_with fail
  refine (write_in g ([] ++ leB 4 pool ++ leB 4 drive) 8 drives 4 v1 Rv1' rfl (HX.out _ (by simp)) (by omega)).mono ?_
  rintro e v2 ⟨rfl, Rv2', Gv2'⟩
  have Bv2' := Lib.hid (Bv1'.out.grown Gv2'.out hne)
  have Lv2' := Lib.hid (stepG Lv1'.out hwz Gv2'.out hgw)
  clear c2 Bv1' Lv1' Rv1'
  go_wp2_with fail
  have c3 : v2.cell? ⟨h, 3, none⟩ = some (.int .i64 parity) := Bv2'.out.cell 3
  rw [rounds_succ]
  go_wp2_with fail
  refine (write_in g ([] ++ leB 4 pool ++ leB 4 drive ++ leB 4 drives) 12 parity 4 v2 Rv2' rfl (HX.out _ (by simp)) (by omega)).mono ?_
  rintro e v3 ⟨rfl, Rv3', Gv3'⟩
  have Bv3' := Lib.hid (Bv2'.out.grown Gv3'.out hne)
  have Lv3' := Lib.hid (stepG Lv2'.out hwz Gv3'.out hgw)
  clear c3 Bv2' Lv2' Rv2'
  go_wp2_with fail
  have c4 : v3.cell? ⟨h, 4, none⟩ = some (.int .i64 time) := Bv3'.out.cell 4
  rw [rounds_succ]
  go_wp2_with fail
  refine (write_in g ([] ++ leB 4 pool ++ leB 4 drive ++ leB 4 drives ++ leB 4 parity) 16 time 4 v3 Rv3' rfl (HX.out _ (by simp)) (by omega)).mono ?_
  rintro e v4 ⟨rfl, Rv4', Gv4'⟩
  have Bv4' := Lib.hid (Bv3'.out.grown Gv4'.out hne)
  have Lv4' := Lib.hid (stepG Lv3'.out hwz Gv4'.out hgw)
  clear c4 Bv3' Lv3' Rv3'
  go_wp2_with fail
  have c5 : v4.cell? ⟨h, 5, none⟩ = some (.int .i64 addr) := Bv4'.out.cell 5
  rw [rounds_succ]
  go_wp2_with fail
  refine (write_in g ([] ++ leB 4 pool ++ leB 4 drive ++ leB 4 drives ++ leB 4 parity ++ leB 4 time) 20 addr 4 v4 Rv4' rfl (HX.out _ (by simp)) (by omega)).mono ?_
  rintro e v5 ⟨rfl, Rv5', Gv5'⟩
  have Bv5' := Lib.hid (Bv4'.out.grown Gv5'.out hne)
  have Lv5' := Lib.hid (stepG Lv4'.out hwz Gv5'.out hgw)
  clear c5 Bv4' Lv4' Rv4'
  go_wp2_with fail
  have c6 : v5.cell? ⟨h, 6, none⟩ = some (.int .i64 count) := Bv5'.out.cell 6
  rw [rounds_succ]
  go_wp2_with fail
  refine (write_in g ([] ++ leB 4 pool ++ leB 4 drive ++ leB 4 drives ++ leB 4 parity ++ leB 4 time ++ leB 4 addr) 24 count 4 v5 Rv5' rfl (HX.out _ (by simp)) (by omega)).mono ?_
  rintro e v6 ⟨rfl, Rv6', Gv6'⟩
  have Bv6' := Lib.hid (Bv5'.out.grown Gv6'.out hne)
  have Lv6' := Lib.hid (stepG Lv5'.out hwz Gv6'.out hgw)
  clear c6 Bv5' Lv5' Rv5'
  go_wp2_with fail
  have c7 : v6.cell? ⟨h, 7, none⟩ = some (.int .i64 bytes) := Bv6'.out.cell 7
  rw [rounds_succ]
  go_wp2_with fail
  refine (write_in g ([] ++ leB 4 pool ++ leB 4 drive ++ leB 4 drives ++ leB 4 parity ++ leB 4 time ++ leB 4 addr ++ leB 4 count) 28 bytes 4 v6 Rv6' rfl (HX.out _ (by simp)) (by omega)).mono ?_
  rintro e v7 ⟨rfl, Rv7', Gv7'⟩
  have Bv7' := Lib.hid (Bv6'.out.grown Gv7'.out hne)
  have Lv7' := Lib.hid (stepG Lv6'.out hwz Gv7'.out hgw)
  clear c7 Bv6' Lv6' Rv6'
  go_wp2_with fail
  have c8 : v7.cell? ⟨h, 8, none⟩ = some (.int .i64 birth) := Bv7'.out.cell 8
  rw [rounds_succ]
  go_wp2_with fail
  refine (write_in g ([] ++ leB 4 pool ++ leB 4 drive ++ leB 4 drives ++ leB 4 parity ++ leB 4 time ++ leB 4 addr ++ leB 4 count ++ leB 4 bytes) 32 birth 4 v7 Rv7' rfl (HX.out _ (by simp)) (by omega)).mono ?_
  rintro e v8 ⟨rfl, Rv8', Gv8'⟩
  have Bv8' := Lib.hid (Bv7'.out.grown Gv8'.out hne)
  have Lv8' := Lib.hid (stepG Lv7'.out hwz Gv8'.out hgw)
  clear c8 Bv7' Lv7' Rv7'
  go_wp2_with fail
  rw [rounds_succ]
  go_wp2_with fail
  refine (sums h 9 v8).mono ?_
  rintro e u0 ⟨rfl, hbu⟩
  have RU := Lib.hid (Rv8'.out.below hbu Rv8'.out.lt)
  have BU := Lib.hid (Bv8'.out.below hbu Bv8'.out.lt)
  have LU := Lib.hid (stepB Lv8'.out hwz hbu)
  clear Rv8' Bv8' Lv8'
  have j0 : ∀ w, (Instr.index 113 (.agg #[.pointer (some ⟨h, 9, none⟩), .pointer (some ⟨h, 10, none⟩), .pointer (some ⟨h, 11, none⟩), .pointer (some ⟨h, 12, none⟩)]) (.int .i64 0)).run Try.prog w = .ok (.pointer (some ⟨h, 9, none⟩)) w := fun _ => by kernel_rfl
  have j1 : ∀ w, (Instr.index 113 (.agg #[.pointer (some ⟨h, 9, none⟩), .pointer (some ⟨h, 10, none⟩), .pointer (some ⟨h, 11, none⟩), .pointer (some ⟨h, 12, none⟩)]) (.int .i64 1)).run Try.prog w = .ok (.pointer (some ⟨h, 10, none⟩)) w := fun _ => by kernel_rfl
  have j2 : ∀ w, (Instr.index 113 (.agg #[.pointer (some ⟨h, 9, none⟩), .pointer (some ⟨h, 10, none⟩), .pointer (some ⟨h, 11, none⟩), .pointer (some ⟨h, 12, none⟩)]) (.int .i64 2)).run Try.prog w = .ok (.pointer (some ⟨h, 11, none⟩)) w := fun _ => by kernel_rfl
  have j3 : ∀ w, (Instr.index 113 (.agg #[.pointer (some ⟨h, 9, none⟩), .pointer (some ⟨h, 10, none⟩), .pointer (some ⟨h, 11, none⟩), .pointer (some ⟨h, 12, none⟩)]) (.int .i64 3)).run Try.prog w = .ok (.pointer (some ⟨h, 12, none⟩)) w := fun _ => by kernel_rfl
  go_wp2_with fail
  refine wp_loop_rounds 5 ?_
  have c0 : u0.cell? ⟨h, 9, none⟩ = some (.int .i64 a) := BU.out.cell 9
  rw [rounds_succ]
  go_wp2_with fail
  refine (write_in g ([] ++ leB 4 pool ++ leB 4 drive ++ leB 4 drives ++ leB 4 parity ++ leB 4 time ++ leB 4 addr ++ leB 4 count ++ leB 4 bytes ++ leB 4 birth) 36 a 8 u0 RU rfl (HX.out _ (by simp)) (by omega)).mono ?_
  rintro e t0 ⟨rfl, Rt0', Gt0'⟩
  have Bt0' := Lib.hid (BU.out.grown Gt0'.out hne)
  have Lt0' := Lib.hid (stepG LU.out hwz Gt0'.out hgw)
  clear c0 BU LU RU
  go_wp2_with fail
  have c1 : t0.cell? ⟨h, 10, none⟩ = some (.int .i64 b) := Bt0'.out.cell 10
  rw [rounds_succ]
  go_wp2_with fail
  refine (write_in g ([] ++ leB 4 pool ++ leB 4 drive ++ leB 4 drives ++ leB 4 parity ++ leB 4 time ++ leB 4 addr ++ leB 4 count ++ leB 4 bytes ++ leB 4 birth ++ leB 8 a) 44 b 8 t0 Rt0' rfl (HX.out _ (by simp)) (by omega)).mono ?_
  rintro e t1 ⟨rfl, Rt1', Gt1'⟩
  have Bt1' := Lib.hid (Bt0'.out.grown Gt1'.out hne)
  have Lt1' := Lib.hid (stepG Lt0'.out hwz Gt1'.out hgw)
  clear c1 Bt0' Lt0' Rt0'
  go_wp2_with fail
  have c2 : t1.cell? ⟨h, 11, none⟩ = some (.int .i64 c) := Bt1'.out.cell 11
  rw [rounds_succ]
  go_wp2_with fail
  refine (write_in g ([] ++ leB 4 pool ++ leB 4 drive ++ leB 4 drives ++ leB 4 parity ++ leB 4 time ++ leB 4 addr ++ leB 4 count ++ leB 4 bytes ++ leB 4 birth ++ leB 8 a ++ leB 8 b) 52 c 8 t1 Rt1' rfl (HX.out _ (by simp)) (by omega)).mono ?_
  rintro e t2 ⟨rfl, Rt2', Gt2'⟩
  have Bt2' := Lib.hid (Bt1'.out.grown Gt2'.out hne)
  have Lt2' := Lib.hid (stepG Lt1'.out hwz Gt2'.out hgw)
  clear c2 Bt1' Lt1' Rt1'
  go_wp2_with fail
  have c3 : t2.cell? ⟨h, 12, none⟩ = some (.int .i64 d) := Bt2'.out.cell 12
  rw [rounds_succ]
  go_wp2_with fail
  refine (write_in g ([] ++ leB 4 pool ++ leB 4 drive ++ leB 4 drives ++ leB 4 parity ++ leB 4 time ++ leB 4 addr ++ leB 4 count ++ leB 4 bytes ++ leB 4 birth ++ leB 8 a ++ leB 8 b ++ leB 8 c) 60 d 8 t2 Rt2' rfl (HX.out _ (by simp)) (by omega)).mono ?_
  rintro e t3 ⟨rfl, Rt3', Gt3'⟩
  have Bt3' := Lib.hid (Bt2'.out.grown Gt3'.out hne)
  have Lt3' := Lib.hid (stepG Lt2'.out hwz Gt3'.out hgw)
  clear c3 Bt2' Lt2' Rt2'
  go_wp2_with fail
  rw [rounds_succ]
  go_wp2_with fail
  have HXL : Lab.ok ⟨pool, drive, drives, parity, time, addr, count, bytes, birth, a, b, c, d⟩ := HX.out
  obtain ⟨x, hxe⟩ : ∃ x : Lab, ⟨pool, drive, drives, parity, time, addr, count, bytes, birth, a, b, c, d⟩ = x := ⟨_, rfl⟩
  have HXE := Lib.hid hxe
  have HB96 : Hid (Box t3 g (room (lab96 x)) 5) := by
    have h1 := Rt3'.out
    have h2 : Box t3 g (room (lab68 ⟨pool, drive, drives, parity, time, addr, count, bytes, birth, a, b, c, d⟩)) 5 := h1
    rw [hxe, room_zeros _ 28 (by rw [lab68_length]; omega)] at h2
    exact h2
  clear hxe Rt3'
  obtain ⟨l96, hl96⟩ : ∃ l : List Int, lab96 x = l := ⟨_, rfl⟩
  have HL96 : Hid (l96.length = 96) := by show _ = _; rw [← hl96]; exact lab96_length x
  have hby : ∀ v ∈ l96, 0 ≤ v ∧ v ≤ 255 := by rw [← hl96]; exact lab96_bytes x
  have HLE := Lib.hid hl96
  rw [hl96] at HB96
  clear hl96
  have R96 := room_row HB96.out (by rw [HL96.out]; omega) hby
  rw [HL96.out] at R96
  refine (of_bytes _ 96 128 _ _ R96 (by omega)).mono ?_
  rintro e z0 ⟨sa, sb, sc, sd, hsum, rfl, hbz⟩
  have HBz := Lib.hid (HB96.out.below hbz HB96.out.lt)
  have LZ := Lib.hid (stepB Lt3'.out hwz hbz)
  have hsz := HBz.out.lt
  clear R96 HB96 Lt3' Bt3'
  go_wp2_with fail
  obtain ⟨Z, hZ⟩ : ∃ Z, Z = z0.alloc (.cells #[.int .i64 sa, .int .i64 sb, .int .i64 sc, .int .i64 sd] 51) := ⟨_, rfl⟩
  have BQ : Hid (Box Z z0.heap.size #[.int .i64 sa, .int .i64 sb, .int .i64 sc, .int .i64 sd] 51) := by rw [hZ]; exact Box.new rfl
  have HBZ : Hid (Box Z g (room l96) 5) := by rw [hZ]; exact HBz.out.alloc _
  have LZ1 : Hid (Below w.heap.size w Z) := by rw [hZ]; exact stepB LZ.out hwz (Below_alloc1 _)
  rw [← hZ]
  clear hZ LZ HBz
  obtain ⟨q, hq⟩ : ∃ q, z0.heap.size = q := ⟨_, rfl⟩
  rw [hq] at BQ hsz ⊢
  clear hq
  have hqg : (some q : Option Nat) ≠ some g := by intro e; injection e with e; omega
  refine (sums q 0 Z).mono ?_
  rintro e y9 ⟨rfl, hby9⟩
  have RY := Lib.hid (HBZ.out.below hby9 HBZ.out.lt)
  have BY := Lib.hid (BQ.out.below hby9 BQ.out.lt)
  have LY := Lib.hid (stepB LZ1.out hwz hby9)
  clear HBZ BQ LZ1
  have k0 : ∀ w, (Instr.index 113 (.agg #[.pointer (some ⟨q, 0, none⟩), .pointer (some ⟨q, 1, none⟩), .pointer (some ⟨q, 2, none⟩), .pointer (some ⟨q, 3, none⟩)]) (.int .i64 0)).run Try.prog w = .ok (.pointer (some ⟨q, 0, none⟩)) w := fun _ => by kernel_rfl
  have k1 : ∀ w, (Instr.index 113 (.agg #[.pointer (some ⟨q, 0, none⟩), .pointer (some ⟨q, 1, none⟩), .pointer (some ⟨q, 2, none⟩), .pointer (some ⟨q, 3, none⟩)]) (.int .i64 1)).run Try.prog w = .ok (.pointer (some ⟨q, 1, none⟩)) w := fun _ => by kernel_rfl
  have k2 : ∀ w, (Instr.index 113 (.agg #[.pointer (some ⟨q, 0, none⟩), .pointer (some ⟨q, 1, none⟩), .pointer (some ⟨q, 2, none⟩), .pointer (some ⟨q, 3, none⟩)]) (.int .i64 2)).run Try.prog w = .ok (.pointer (some ⟨q, 2, none⟩)) w := fun _ => by kernel_rfl
  have k3 : ∀ w, (Instr.index 113 (.agg #[.pointer (some ⟨q, 0, none⟩), .pointer (some ⟨q, 1, none⟩), .pointer (some ⟨q, 2, none⟩), .pointer (some ⟨q, 3, none⟩)]) (.int .i64 3)).run Try.prog w = .ok (.pointer (some ⟨q, 3, none⟩)) w := fun _ => by kernel_rfl
  have hok : -9223372036854775808 ≤ sa ∧ sa ≤ 9223372036854775807 ∧ -9223372036854775808 ≤ sb ∧ sb ≤ 9223372036854775807 ∧ -9223372036854775808 ≤ sc ∧ sc ≤ 9223372036854775807 ∧ -9223372036854775808 ≤ sd ∧ sd ≤ 9223372036854775807 := by
    have h1 := hsum.out
    rw [zero_words] at h1
    have ha := congrArg Four.a h1
    have hb := congrArg Four.b h1
    have hc := congrArg Four.c h1
    have hd := congrArg Four.d h1
    simp only [Four.wrap] at ha hb hc hd
    rw [← ha, ← hb, ← hc, ← hd]
    exact ⟨(wrap64_ok _).1, (wrap64_ok _).2, (wrap64_ok _).1, (wrap64_ok _).2, (wrap64_ok _).1, (wrap64_ok _).2, (wrap64_ok _).1, (wrap64_ok _).2⟩
  have hok0 : -9223372036854775808 ≤ sa ∧ sa ≤ 9223372036854775807 := ⟨hok.1, hok.2.1⟩
  have hok1 : -9223372036854775808 ≤ sb ∧ sb ≤ 9223372036854775807 := ⟨hok.2.2.1, hok.2.2.2.1⟩
  have hok2 : -9223372036854775808 ≤ sc ∧ sc ≤ 9223372036854775807 := ⟨hok.2.2.2.2.1, hok.2.2.2.2.2.1⟩
  have hok3 : -9223372036854775808 ≤ sd ∧ sd ≤ 9223372036854775807 := ⟨hok.2.2.2.2.2.2.1, hok.2.2.2.2.2.2.2⟩
  clear hok
  go_wp2_with fail
  refine wp_loop_rounds 5 ?_
  have c0 : y9.cell? ⟨q, 0, none⟩ = some (.int .i64 sa) := BY.out.cell 0
  rw [rounds_succ]
  go_wp2_with fail
  refine (write_in g (l96) 96 sa 8 y9 RY HL96 (hok0) (by omega)).mono ?_
  rintro e y0 ⟨rfl, Ry0', Gy0'⟩
  have By0' := Lib.hid (BY.out.grown Gy0'.out hqg)
  have Ly0' := Lib.hid (stepG LY.out hwz Gy0'.out hgw)
  clear c0 BY LY RY
  go_wp2_with fail
  have c1 : y0.cell? ⟨q, 1, none⟩ = some (.int .i64 sb) := By0'.out.cell 1
  rw [rounds_succ]
  go_wp2_with fail
  refine (write_in g (l96 ++ leB 8 sa) 104 sb 8 y0 Ry0' (by show _ = _; simp [leB_length, HL96.out]) (hok1) (by omega)).mono ?_
  rintro e y1 ⟨rfl, Ry1', Gy1'⟩
  have By1' := Lib.hid (By0'.out.grown Gy1'.out hqg)
  have Ly1' := Lib.hid (stepG Ly0'.out hwz Gy1'.out hgw)
  clear c1 By0' Ly0' Ry0'
  go_wp2_with fail
  have c2 : y1.cell? ⟨q, 2, none⟩ = some (.int .i64 sc) := By1'.out.cell 2
  rw [rounds_succ]
  go_wp2_with fail
  refine (write_in g (l96 ++ leB 8 sa ++ leB 8 sb) 112 sc 8 y1 Ry1' (by show _ = _; simp [leB_length, HL96.out]) (hok2) (by omega)).mono ?_
  rintro e y2 ⟨rfl, Ry2', Gy2'⟩
  have By2' := Lib.hid (By1'.out.grown Gy2'.out hqg)
  have Ly2' := Lib.hid (stepG Ly1'.out hwz Gy2'.out hgw)
  clear c2 By1' Ly1' Ry1'
  go_wp2_with fail
  have c3 : y2.cell? ⟨q, 3, none⟩ = some (.int .i64 sd) := By2'.out.cell 3
  rw [rounds_succ]
  go_wp2_with fail
  refine (write_in g (l96 ++ leB 8 sa ++ leB 8 sb ++ leB 8 sc) 120 sd 8 y2 Ry2' (by show _ = _; simp [leB_length, HL96.out]) (hok3) (by omega)).mono ?_
  rintro e y3 ⟨rfl, Ry3', Gy3'⟩
  have By3' := Lib.hid (By2'.out.grown Gy3'.out hqg)
  have Ly3' := Lib.hid (stepG Ly2'.out hwz Gy3'.out hgw)
  clear c3 By2' Ly2' Ry2'
  go_wp2_with fail
  rw [rounds_succ]
  go_wp2_with fail
  go_ret2
  refine ⟨g, rfl, hgw, ?_, Ly3'⟩
  have h1 := Ry3'.out
  rw [HXE.out]
  show Box y3 g (room (encB x)) _
  unfold encB four32
  rw [show sumOf (lab96 x) = ⟨sa, sb, sc, sd⟩ from by rw [HLE.out]; exact hsum.out, HLE.out]
  simp only
  simp only [List.append_assoc] at h1 ⊢
  exact h1
end Go.Proofs.Yteidmdakglkkfaa
