/- The walk of package label: Decode (printed by wip/decgen.py). -/
import Derived.Test.YteidmdakglkkfaaLbG
import Derived.Test.YteidmdakglkkfaaLbV
import Derived.Test.YteidmdakglkkfaaBoxOps
namespace Go.Proofs.Yteidmdakglkkfaa
open Go.RowKit
set_option linter.unusedVariables false
set_option maxRecDepth 100000

theorem numberO (w0 : World) (hr : Nat) (a : Option Addr) (L C L' C' : Nat) (xs : List Int) (o o' size : Nat) (w : World) (LB : Hid (Below w0.heap.size w0 w)) (hb : Hid (Box w hr #[.slice a L C] 118)) (h : Hid (Row .u8 w0 a L C (xs.drop o))) (hhr : w0.heap.size ≤ hr)
    (hL : L = L' + size) (hC : C = C' + size) (ho : o + size = o') (h1 : 1 ≤ size) (h8 : size ≤ 8) :
    Calls Try.prog 46 #[.pointer (some ⟨hr, 0, none⟩), .int .i64 size] w (NumAt w0 hr L' C' (fld xs o size) (xs.drop o') w) := by
  have := numberAt w0 hr a L C L' C' (xs.drop o) size w LB hb h hhr hL hC h1 h8
  rw [List.drop_drop, ho] at this
  exact this
theorem dec_sum {xs : List Int} (hl : xs.length = 128) (h : sumOf (xs.take 96) ≠ sealOf xs) : dec xs = (Lab.none, 11) := by
  unfold dec; rw [if_neg (by simp [hl]), if_pos h]
theorem dec_form {xs : List Int} (hl : xs.length = 128) (h : sumOf (xs.take 96) = sealOf xs) (hn : ¬ ((labOf xs).may = true ∧ encB (labOf xs) = xs)) : dec xs = (Lab.none, 4) := by
  unfold dec; rw [if_neg (by simp [hl]), if_neg (by simp [h]), if_neg hn]
theorem dec_ok {xs : List Int} (hl : xs.length = 128) (h : sumOf (xs.take 96) = sealOf xs) (hn : (labOf xs).may = true ∧ encB (labOf xs) = xs) : dec xs = (labOf xs, 0) := by
  unfold dec; rw [if_neg (by simp [hl]), if_neg (by simp [h]), if_pos hn]
def Decoded (r : Lab × Int) (w : World) (e : Ending) (w' : World) : Prop := e = .returned (.tuple #[r.1.val, .int .i64 r.2]) ∧ Below w.heap.size w w'
set_option maxHeartbeats 1200000 in
theorem decode (a : Option Addr) (len cap : Nat) (xs : List Int) (w : World) (h : Row .u8 w a len cap xs) (h128 : len = 128) :
    Calls Try.prog 26 #[.slice a len cap] w (Decoded (dec xs) w) := by
  subst h128
  have hle := h.hle
  have hmx := h.hmax
  have hln := h.hlen
  unfold maxLen at hmx
  obtain ⟨c, rfl⟩ : ∃ c, cap = c + 128 := ⟨cap - 128, by omega⟩
  obtain ⟨g, off, rfl⟩ : ∃ g off, a = some ⟨g, off, none⟩ := by
    rcases h.hat with h0 | ⟨g, off, ha, _⟩
    · omega
    · exact ⟨g, off, ha⟩
  have RW := Lib.hid h
  have R0 : Hid (Row .u8 w (some ⟨g, off, none⟩) 128 (c + 128) (xs.drop 0)) := h
  have HLN := Lib.hid hln
  clear h hln
  obtain ⟨res, hres⟩ : ∃ r, Hid (dec xs = r) := ⟨_, rfl⟩
  rw [hres.out]
  go_enter Try.func26, Try.ntmps26
  go_wp2_with fail
  obtain ⟨V, hV⟩ : ∃ V, V = (((w.alloc (.cells #[.int .i64 0, .int .i64 0, .int .i64 0, .int .i64 0, .int .i64 0, .int .i64 0, .int .i64 0, .int .i64 0, .int .i64 0, .int .i64 0, .int .i64 0, .int .i64 0, .int .i64 0] 57)).alloc (.cells #[.int .i64 0, .int .i64 0, .int .i64 0, .int .i64 0, .int .i64 0, .int .i64 0, .int .i64 0, .int .i64 0, .int .i64 0, .int .i64 0, .int .i64 0, .int .i64 0, .int .i64 0] 57)).alloc (.cells #[.int .i64 0, .int .i64 0, .int .i64 0, .int .i64 0] 51)).alloc (.cells #[.slice (some ⟨g, off, none⟩) 128 (c + 128)] 118) := ⟨_, rfl⟩
  have B0 : Box V w.heap.size #[.int .i64 0, .int .i64 0, .int .i64 0, .int .i64 0, .int .i64 0, .int .i64 0, .int .i64 0, .int .i64 0, .int .i64 0, .int .i64 0, .int .i64 0, .int .i64 0, .int .i64 0] 57 := by rw [hV]; exact ((((Box.new rfl).alloc _).alloc _).alloc _)
  have BX : Box V (w.heap.size + 1) #[.int .i64 0, .int .i64 0, .int .i64 0, .int .i64 0, .int .i64 0, .int .i64 0, .int .i64 0, .int .i64 0, .int .i64 0, .int .i64 0, .int .i64 0, .int .i64 0, .int .i64 0] 57 := by rw [hV]; exact ((Box.new (by simp)).alloc _).alloc _
  have BS : Box V (w.heap.size + 1 + 1) #[.int .i64 0, .int .i64 0, .int .i64 0, .int .i64 0] 51 := by rw [hV]; exact (Box.new (by simp)).alloc _
  have BR : Box V (w.heap.size + 1 + 1 + 1) #[.slice (some ⟨g, off, none⟩) 128 (c + 128)] 118 := by rw [hV]; exact Box.new (by simp)
  have LB0 : Hid (Below w.heap.size w V) := by rw [hV]; exact ((((Below.refl _ _).alloc (Nat.le_refl _) _).alloc (by simp) _).alloc (by simp; omega) _).alloc (by simp; omega) _
  rw [← hV]
  clear hV
  obtain ⟨hr, hhr⟩ : ∃ n, w.heap.size + 1 + 1 + 1 = n := ⟨_, rfl⟩
  rw [hhr] at BR ⊢
  obtain ⟨hs, hhs⟩ : ∃ n, w.heap.size + 1 + 1 = n := ⟨_, rfl⟩
  rw [hhs] at BS ⊢
  obtain ⟨hx, hhx⟩ : ∃ n, w.heap.size + 1 = n := ⟨_, rfl⟩
  rw [hhx] at BX ⊢
  obtain ⟨h0, hh0⟩ : ∃ n, w.heap.size = n := ⟨_, rfl⟩
  rw [hh0] at B0 ⊢
  have hwz : w.heap.size ≤ w.heap.size := Nat.le_refl _
  have l0 : w.heap.size ≤ h0 := by omega
  have lx : w.heap.size ≤ hx := by omega
  have ls : w.heap.size ≤ hs := by omega
  have lr : w.heap.size ≤ hr := by omega
  have n0x : h0 ≠ hx := by omega
  have n0s : h0 ≠ hs := by omega
  have n0r : h0 ≠ hr := by omega
  have nxs : hx ≠ hs := by omega
  have nxr : hx ≠ hr := by omega
  have nsr : hs ≠ hr := by omega
  have D0 := Lib.hid B0
  have DX := Lib.hid BX
  have DS := Lib.hid BS
  have DR := Lib.hid BR
  clear B0 BX BS BR hhr hhs hhx hh0
  refine (small hx V).mono ?_
  rintro e w1 ⟨rfl, hb1⟩
  have E0 := Lib.hid (D0.out.below hb1 D0.out.lt)
  have EX := Lib.hid (DX.out.below hb1 DX.out.lt)
  have ES := Lib.hid (DS.out.below hb1 DS.out.lt)
  have ER := Lib.hid (DR.out.below hb1 DR.out.lt)
  have LB1 := Lib.hid (stepB LB0.out hwz hb1)
  clear D0 DX DS DR LB0 hb1
  have i0 : ∀ w, (Instr.index 109 (.agg #[.pointer (some ⟨hx, 0, none⟩), .pointer (some ⟨hx, 1, none⟩), .pointer (some ⟨hx, 2, none⟩), .pointer (some ⟨hx, 3, none⟩), .pointer (some ⟨hx, 4, none⟩), .pointer (some ⟨hx, 5, none⟩), .pointer (some ⟨hx, 6, none⟩), .pointer (some ⟨hx, 7, none⟩), .pointer (some ⟨hx, 8, none⟩)]) (.int .i64 0)).run Try.prog w = .ok (.pointer (some ⟨hx, 0, none⟩)) w := fun _ => by kernel_rfl
  have i1 : ∀ w, (Instr.index 109 (.agg #[.pointer (some ⟨hx, 0, none⟩), .pointer (some ⟨hx, 1, none⟩), .pointer (some ⟨hx, 2, none⟩), .pointer (some ⟨hx, 3, none⟩), .pointer (some ⟨hx, 4, none⟩), .pointer (some ⟨hx, 5, none⟩), .pointer (some ⟨hx, 6, none⟩), .pointer (some ⟨hx, 7, none⟩), .pointer (some ⟨hx, 8, none⟩)]) (.int .i64 1)).run Try.prog w = .ok (.pointer (some ⟨hx, 1, none⟩)) w := fun _ => by kernel_rfl
  have i2 : ∀ w, (Instr.index 109 (.agg #[.pointer (some ⟨hx, 0, none⟩), .pointer (some ⟨hx, 1, none⟩), .pointer (some ⟨hx, 2, none⟩), .pointer (some ⟨hx, 3, none⟩), .pointer (some ⟨hx, 4, none⟩), .pointer (some ⟨hx, 5, none⟩), .pointer (some ⟨hx, 6, none⟩), .pointer (some ⟨hx, 7, none⟩), .pointer (some ⟨hx, 8, none⟩)]) (.int .i64 2)).run Try.prog w = .ok (.pointer (some ⟨hx, 2, none⟩)) w := fun _ => by kernel_rfl
  have i3 : ∀ w, (Instr.index 109 (.agg #[.pointer (some ⟨hx, 0, none⟩), .pointer (some ⟨hx, 1, none⟩), .pointer (some ⟨hx, 2, none⟩), .pointer (some ⟨hx, 3, none⟩), .pointer (some ⟨hx, 4, none⟩), .pointer (some ⟨hx, 5, none⟩), .pointer (some ⟨hx, 6, none⟩), .pointer (some ⟨hx, 7, none⟩), .pointer (some ⟨hx, 8, none⟩)]) (.int .i64 3)).run Try.prog w = .ok (.pointer (some ⟨hx, 3, none⟩)) w := fun _ => by kernel_rfl
  have i4 : ∀ w, (Instr.index 109 (.agg #[.pointer (some ⟨hx, 0, none⟩), .pointer (some ⟨hx, 1, none⟩), .pointer (some ⟨hx, 2, none⟩), .pointer (some ⟨hx, 3, none⟩), .pointer (some ⟨hx, 4, none⟩), .pointer (some ⟨hx, 5, none⟩), .pointer (some ⟨hx, 6, none⟩), .pointer (some ⟨hx, 7, none⟩), .pointer (some ⟨hx, 8, none⟩)]) (.int .i64 4)).run Try.prog w = .ok (.pointer (some ⟨hx, 4, none⟩)) w := fun _ => by kernel_rfl
  have i5 : ∀ w, (Instr.index 109 (.agg #[.pointer (some ⟨hx, 0, none⟩), .pointer (some ⟨hx, 1, none⟩), .pointer (some ⟨hx, 2, none⟩), .pointer (some ⟨hx, 3, none⟩), .pointer (some ⟨hx, 4, none⟩), .pointer (some ⟨hx, 5, none⟩), .pointer (some ⟨hx, 6, none⟩), .pointer (some ⟨hx, 7, none⟩), .pointer (some ⟨hx, 8, none⟩)]) (.int .i64 5)).run Try.prog w = .ok (.pointer (some ⟨hx, 5, none⟩)) w := fun _ => by kernel_rfl
  have i6 : ∀ w, (Instr.index 109 (.agg #[.pointer (some ⟨hx, 0, none⟩), .pointer (some ⟨hx, 1, none⟩), .pointer (some ⟨hx, 2, none⟩), .pointer (some ⟨hx, 3, none⟩), .pointer (some ⟨hx, 4, none⟩), .pointer (some ⟨hx, 5, none⟩), .pointer (some ⟨hx, 6, none⟩), .pointer (some ⟨hx, 7, none⟩), .pointer (some ⟨hx, 8, none⟩)]) (.int .i64 6)).run Try.prog w = .ok (.pointer (some ⟨hx, 6, none⟩)) w := fun _ => by kernel_rfl
  have i7 : ∀ w, (Instr.index 109 (.agg #[.pointer (some ⟨hx, 0, none⟩), .pointer (some ⟨hx, 1, none⟩), .pointer (some ⟨hx, 2, none⟩), .pointer (some ⟨hx, 3, none⟩), .pointer (some ⟨hx, 4, none⟩), .pointer (some ⟨hx, 5, none⟩), .pointer (some ⟨hx, 6, none⟩), .pointer (some ⟨hx, 7, none⟩), .pointer (some ⟨hx, 8, none⟩)]) (.int .i64 7)).run Try.prog w = .ok (.pointer (some ⟨hx, 7, none⟩)) w := fun _ => by kernel_rfl
  have i8 : ∀ w, (Instr.index 109 (.agg #[.pointer (some ⟨hx, 0, none⟩), .pointer (some ⟨hx, 1, none⟩), .pointer (some ⟨hx, 2, none⟩), .pointer (some ⟨hx, 3, none⟩), .pointer (some ⟨hx, 4, none⟩), .pointer (some ⟨hx, 5, none⟩), .pointer (some ⟨hx, 6, none⟩), .pointer (some ⟨hx, 7, none⟩), .pointer (some ⟨hx, 8, none⟩)]) (.int .i64 8)).run Try.prog w = .ok (.pointer (some ⟨hx, 8, none⟩)) w := fun _ => by kernel_rfl
  go_wp2_with fail
  refine wp_loop_rounds 10 ?_
  rw [rounds_succ]
  go_wp2_with fail
  refine (numberO w hr _ 128 (c + 128) 124 (c + 124) xs 0 4 4 _ LB1 ER R0 lr rfl rfl rfl (by omega) (by omega)).mono ?_
  rintro e u1 ⟨a1, rfl, R1, P1, G1, LN1⟩
  obtain ⟨v1, hv1⟩ : ∃ v, Hid (fld xs 0 4 = v) := ⟨_, rfl⟩
  rw [hv1.out]
  have X1 := Lib.hid (EX.out.grown G1.out (fun e => nxr (by injection e)))
  have S1 := Lib.hid (ES.out.grown G1.out (fun e => nsr (by injection e)))
  have Z1 := Lib.hid (E0.out.grown G1.out (fun e => n0r (by injection e)))
  have c1 : u1.cell? ⟨hx, 0, none⟩ = some (.int .i64 0) := X1.out.cell 0
  have f1 : u1.frozen? ⟨hx, 0, none⟩ = false := X1.out.free 0
  clear EX ES E0 ER LB1 R0 G1
  go_wp2_with fail
  obtain ⟨y1, hy1⟩ : ∃ W, W = u1.setCell ⟨hx, 0, none⟩ (.int .i64 v1) := ⟨_, rfl⟩
  have X1' : Hid (Box y1 hx #[.int .i64 v1, .int .i64 0, .int .i64 0, .int .i64 0, .int .i64 0, .int .i64 0, .int .i64 0, .int .i64 0, .int .i64 0, .int .i64 0, .int .i64 0, .int .i64 0, .int .i64 0] 57) := by rw [hy1]; exact X1.out.set 0 _
  have S1' : Hid (Box y1 hs #[.int .i64 0, .int .i64 0, .int .i64 0, .int .i64 0] 51) := by rw [hy1]; exact S1.out.other _ nxs _
  have Z1' : Hid (Box y1 h0 #[.int .i64 0, .int .i64 0, .int .i64 0, .int .i64 0, .int .i64 0, .int .i64 0, .int .i64 0, .int .i64 0, .int .i64 0, .int .i64 0, .int .i64 0, .int .i64 0, .int .i64 0] 57) := by rw [hy1]; exact Z1.out.other _ (Ne.symm n0x) _
  have P1' : Hid (Box y1 hr #[.slice a1 124 (c + 124)] 118) := by rw [hy1]; exact P1.out.other _ nxr _
  have LN1' : Hid (Below w.heap.size w y1) := by rw [hy1]; exact LN1.out.setCell (p := ⟨hx, 0, none⟩) lx _
  rw [← hy1]
  clear hy1 c1 f1 X1 S1 Z1 P1 LN1
  rw [rounds_succ]
  go_wp2_with fail
  refine (numberO w hr _ 124 (c + 124) 120 (c + 120) xs 4 8 4 _ LN1' P1' R1 lr rfl rfl rfl (by omega) (by omega)).mono ?_
  rintro e u2 ⟨a2, rfl, R2, P2, G2, LN2⟩
  obtain ⟨v2, hv2⟩ : ∃ v, Hid (fld xs 4 4 = v) := ⟨_, rfl⟩
  rw [hv2.out]
  have X2 := Lib.hid (X1'.out.grown G2.out (fun e => nxr (by injection e)))
  have S2 := Lib.hid (S1'.out.grown G2.out (fun e => nsr (by injection e)))
  have Z2 := Lib.hid (Z1'.out.grown G2.out (fun e => n0r (by injection e)))
  have c2 : u2.cell? ⟨hx, 1, none⟩ = some (.int .i64 0) := X2.out.cell 1
  have f2 : u2.frozen? ⟨hx, 1, none⟩ = false := X2.out.free 1
  clear X1' S1' Z1' P1' LN1' R1 G2
  go_wp2_with fail
  obtain ⟨y2, hy2⟩ : ∃ W, W = u2.setCell ⟨hx, 1, none⟩ (.int .i64 v2) := ⟨_, rfl⟩
  have X2' : Hid (Box y2 hx #[.int .i64 v1, .int .i64 v2, .int .i64 0, .int .i64 0, .int .i64 0, .int .i64 0, .int .i64 0, .int .i64 0, .int .i64 0, .int .i64 0, .int .i64 0, .int .i64 0, .int .i64 0] 57) := by rw [hy2]; exact X2.out.set 1 _
  have S2' : Hid (Box y2 hs #[.int .i64 0, .int .i64 0, .int .i64 0, .int .i64 0] 51) := by rw [hy2]; exact S2.out.other _ nxs _
  have Z2' : Hid (Box y2 h0 #[.int .i64 0, .int .i64 0, .int .i64 0, .int .i64 0, .int .i64 0, .int .i64 0, .int .i64 0, .int .i64 0, .int .i64 0, .int .i64 0, .int .i64 0, .int .i64 0, .int .i64 0] 57) := by rw [hy2]; exact Z2.out.other _ (Ne.symm n0x) _
  have P2' : Hid (Box y2 hr #[.slice a2 120 (c + 120)] 118) := by rw [hy2]; exact P2.out.other _ nxr _
  have LN2' : Hid (Below w.heap.size w y2) := by rw [hy2]; exact LN2.out.setCell (p := ⟨hx, 1, none⟩) lx _
  rw [← hy2]
  clear hy2 c2 f2 X2 S2 Z2 P2 LN2
  rw [rounds_succ]
  go_wp2_with fail
  refine (numberO w hr _ 120 (c + 120) 116 (c + 116) xs 8 12 4 _ LN2' P2' R2 lr rfl rfl rfl (by omega) (by omega)).mono ?_
  rintro e u3 ⟨a3, rfl, R3, P3, G3, LN3⟩
  obtain ⟨v3, hv3⟩ : ∃ v, Hid (fld xs 8 4 = v) := ⟨_, rfl⟩
  rw [hv3.out]
  have X3 := Lib.hid (X2'.out.grown G3.out (fun e => nxr (by injection e)))
  have S3 := Lib.hid (S2'.out.grown G3.out (fun e => nsr (by injection e)))
  have Z3 := Lib.hid (Z2'.out.grown G3.out (fun e => n0r (by injection e)))
  have c3 : u3.cell? ⟨hx, 2, none⟩ = some (.int .i64 0) := X3.out.cell 2
  have f3 : u3.frozen? ⟨hx, 2, none⟩ = false := X3.out.free 2
  clear X2' S2' Z2' P2' LN2' R2 G3
  go_wp2_with fail
  obtain ⟨y3, hy3⟩ : ∃ W, W = u3.setCell ⟨hx, 2, none⟩ (.int .i64 v3) := ⟨_, rfl⟩
  have X3' : Hid (Box y3 hx #[.int .i64 v1, .int .i64 v2, .int .i64 v3, .int .i64 0, .int .i64 0, .int .i64 0, .int .i64 0, .int .i64 0, .int .i64 0, .int .i64 0, .int .i64 0, .int .i64 0, .int .i64 0] 57) := by rw [hy3]; exact X3.out.set 2 _
  have S3' : Hid (Box y3 hs #[.int .i64 0, .int .i64 0, .int .i64 0, .int .i64 0] 51) := by rw [hy3]; exact S3.out.other _ nxs _
  have Z3' : Hid (Box y3 h0 #[.int .i64 0, .int .i64 0, .int .i64 0, .int .i64 0, .int .i64 0, .int .i64 0, .int .i64 0, .int .i64 0, .int .i64 0, .int .i64 0, .int .i64 0, .int .i64 0, .int .i64 0] 57) := by rw [hy3]; exact Z3.out.other _ (Ne.symm n0x) _
  have P3' : Hid (Box y3 hr #[.slice a3 116 (c + 116)] 118) := by rw [hy3]; exact P3.out.other _ nxr _
  have LN3' : Hid (Below w.heap.size w y3) := by rw [hy3]; exact LN3.out.setCell (p := ⟨hx, 2, none⟩) lx _
  rw [← hy3]
  clear hy3 c3 f3 X3 S3 Z3 P3 LN3
  rw [rounds_succ]
  go_wp2_with fail
  refine (numberO w hr _ 116 (c + 116) 112 (c + 112) xs 12 16 4 _ LN3' P3' R3 lr rfl rfl rfl (by omega) (by omega)).mono ?_
  rintro e u4 ⟨a4, rfl, R4, P4, G4, LN4⟩
  obtain ⟨v4, hv4⟩ : ∃ v, Hid (fld xs 12 4 = v) := ⟨_, rfl⟩
  rw [hv4.out]
  have X4 := Lib.hid (X3'.out.grown G4.out (fun e => nxr (by injection e)))
  have S4 := Lib.hid (S3'.out.grown G4.out (fun e => nsr (by injection e)))
  have Z4 := Lib.hid (Z3'.out.grown G4.out (fun e => n0r (by injection e)))
  have c4 : u4.cell? ⟨hx, 3, none⟩ = some (.int .i64 0) := X4.out.cell 3
  have f4 : u4.frozen? ⟨hx, 3, none⟩ = false := X4.out.free 3
  clear X3' S3' Z3' P3' LN3' R3 G4
  go_wp2_with fail
  obtain ⟨y4, hy4⟩ : ∃ W, W = u4.setCell ⟨hx, 3, none⟩ (.int .i64 v4) := ⟨_, rfl⟩
  have X4' : Hid (Box y4 hx #[.int .i64 v1, .int .i64 v2, .int .i64 v3, .int .i64 v4, .int .i64 0, .int .i64 0, .int .i64 0, .int .i64 0, .int .i64 0, .int .i64 0, .int .i64 0, .int .i64 0, .int .i64 0] 57) := by rw [hy4]; exact X4.out.set 3 _
  have S4' : Hid (Box y4 hs #[.int .i64 0, .int .i64 0, .int .i64 0, .int .i64 0] 51) := by rw [hy4]; exact S4.out.other _ nxs _
  have Z4' : Hid (Box y4 h0 #[.int .i64 0, .int .i64 0, .int .i64 0, .int .i64 0, .int .i64 0, .int .i64 0, .int .i64 0, .int .i64 0, .int .i64 0, .int .i64 0, .int .i64 0, .int .i64 0, .int .i64 0] 57) := by rw [hy4]; exact Z4.out.other _ (Ne.symm n0x) _
  have P4' : Hid (Box y4 hr #[.slice a4 112 (c + 112)] 118) := by rw [hy4]; exact P4.out.other _ nxr _
  have LN4' : Hid (Below w.heap.size w y4) := by rw [hy4]; exact LN4.out.setCell (p := ⟨hx, 3, none⟩) lx _
  rw [← hy4]
  clear hy4 c4 f4 X4 S4 Z4 P4 LN4
  rw [rounds_succ]
  go_wp2_with fail
  refine (numberO w hr _ 112 (c + 112) 108 (c + 108) xs 16 20 4 _ LN4' P4' R4 lr rfl rfl rfl (by omega) (by omega)).mono ?_
  rintro e u5 ⟨a5, rfl, R5, P5, G5, LN5⟩
  obtain ⟨v5, hv5⟩ : ∃ v, Hid (fld xs 16 4 = v) := ⟨_, rfl⟩
  rw [hv5.out]
  have X5 := Lib.hid (X4'.out.grown G5.out (fun e => nxr (by injection e)))
  have S5 := Lib.hid (S4'.out.grown G5.out (fun e => nsr (by injection e)))
  have Z5 := Lib.hid (Z4'.out.grown G5.out (fun e => n0r (by injection e)))
  have c5 : u5.cell? ⟨hx, 4, none⟩ = some (.int .i64 0) := X5.out.cell 4
  have f5 : u5.frozen? ⟨hx, 4, none⟩ = false := X5.out.free 4
  clear X4' S4' Z4' P4' LN4' R4 G5
  go_wp2_with fail
  obtain ⟨y5, hy5⟩ : ∃ W, W = u5.setCell ⟨hx, 4, none⟩ (.int .i64 v5) := ⟨_, rfl⟩
  have X5' : Hid (Box y5 hx #[.int .i64 v1, .int .i64 v2, .int .i64 v3, .int .i64 v4, .int .i64 v5, .int .i64 0, .int .i64 0, .int .i64 0, .int .i64 0, .int .i64 0, .int .i64 0, .int .i64 0, .int .i64 0] 57) := by rw [hy5]; exact X5.out.set 4 _
  have S5' : Hid (Box y5 hs #[.int .i64 0, .int .i64 0, .int .i64 0, .int .i64 0] 51) := by rw [hy5]; exact S5.out.other _ nxs _
  have Z5' : Hid (Box y5 h0 #[.int .i64 0, .int .i64 0, .int .i64 0, .int .i64 0, .int .i64 0, .int .i64 0, .int .i64 0, .int .i64 0, .int .i64 0, .int .i64 0, .int .i64 0, .int .i64 0, .int .i64 0] 57) := by rw [hy5]; exact Z5.out.other _ (Ne.symm n0x) _
  have P5' : Hid (Box y5 hr #[.slice a5 108 (c + 108)] 118) := by rw [hy5]; exact P5.out.other _ nxr _
  have LN5' : Hid (Below w.heap.size w y5) := by rw [hy5]; exact LN5.out.setCell (p := ⟨hx, 4, none⟩) lx _
  rw [← hy5]
  clear hy5 c5 f5 X5 S5 Z5 P5 LN5
  rw [rounds_succ]
  go_wp2_with fail
  refine (numberO w hr _ 108 (c + 108) 104 (c + 104) xs 20 24 4 _ LN5' P5' R5 lr rfl rfl rfl (by omega) (by omega)).mono ?_
  rintro e u6 ⟨a6, rfl, R6, P6, G6, LN6⟩
  obtain ⟨v6, hv6⟩ : ∃ v, Hid (fld xs 20 4 = v) := ⟨_, rfl⟩
  rw [hv6.out]
  have X6 := Lib.hid (X5'.out.grown G6.out (fun e => nxr (by injection e)))
  have S6 := Lib.hid (S5'.out.grown G6.out (fun e => nsr (by injection e)))
  have Z6 := Lib.hid (Z5'.out.grown G6.out (fun e => n0r (by injection e)))
  have c6 : u6.cell? ⟨hx, 5, none⟩ = some (.int .i64 0) := X6.out.cell 5
  have f6 : u6.frozen? ⟨hx, 5, none⟩ = false := X6.out.free 5
  clear X5' S5' Z5' P5' LN5' R5 G6
  go_wp2_with fail
  obtain ⟨y6, hy6⟩ : ∃ W, W = u6.setCell ⟨hx, 5, none⟩ (.int .i64 v6) := ⟨_, rfl⟩
  have X6' : Hid (Box y6 hx #[.int .i64 v1, .int .i64 v2, .int .i64 v3, .int .i64 v4, .int .i64 v5, .int .i64 v6, .int .i64 0, .int .i64 0, .int .i64 0, .int .i64 0, .int .i64 0, .int .i64 0, .int .i64 0] 57) := by rw [hy6]; exact X6.out.set 5 _
  have S6' : Hid (Box y6 hs #[.int .i64 0, .int .i64 0, .int .i64 0, .int .i64 0] 51) := by rw [hy6]; exact S6.out.other _ nxs _
  have Z6' : Hid (Box y6 h0 #[.int .i64 0, .int .i64 0, .int .i64 0, .int .i64 0, .int .i64 0, .int .i64 0, .int .i64 0, .int .i64 0, .int .i64 0, .int .i64 0, .int .i64 0, .int .i64 0, .int .i64 0] 57) := by rw [hy6]; exact Z6.out.other _ (Ne.symm n0x) _
  have P6' : Hid (Box y6 hr #[.slice a6 104 (c + 104)] 118) := by rw [hy6]; exact P6.out.other _ nxr _
  have LN6' : Hid (Below w.heap.size w y6) := by rw [hy6]; exact LN6.out.setCell (p := ⟨hx, 5, none⟩) lx _
  rw [← hy6]
  clear hy6 c6 f6 X6 S6 Z6 P6 LN6
  rw [rounds_succ]
  go_wp2_with fail
  refine (numberO w hr _ 104 (c + 104) 100 (c + 100) xs 24 28 4 _ LN6' P6' R6 lr rfl rfl rfl (by omega) (by omega)).mono ?_
  rintro e u7 ⟨a7, rfl, R7, P7, G7, LN7⟩
  obtain ⟨v7, hv7⟩ : ∃ v, Hid (fld xs 24 4 = v) := ⟨_, rfl⟩
  rw [hv7.out]
  have X7 := Lib.hid (X6'.out.grown G7.out (fun e => nxr (by injection e)))
  have S7 := Lib.hid (S6'.out.grown G7.out (fun e => nsr (by injection e)))
  have Z7 := Lib.hid (Z6'.out.grown G7.out (fun e => n0r (by injection e)))
  have c7 : u7.cell? ⟨hx, 6, none⟩ = some (.int .i64 0) := X7.out.cell 6
  have f7 : u7.frozen? ⟨hx, 6, none⟩ = false := X7.out.free 6
  clear X6' S6' Z6' P6' LN6' R6 G7
  go_wp2_with fail
  obtain ⟨y7, hy7⟩ : ∃ W, W = u7.setCell ⟨hx, 6, none⟩ (.int .i64 v7) := ⟨_, rfl⟩
  have X7' : Hid (Box y7 hx #[.int .i64 v1, .int .i64 v2, .int .i64 v3, .int .i64 v4, .int .i64 v5, .int .i64 v6, .int .i64 v7, .int .i64 0, .int .i64 0, .int .i64 0, .int .i64 0, .int .i64 0, .int .i64 0] 57) := by rw [hy7]; exact X7.out.set 6 _
  have S7' : Hid (Box y7 hs #[.int .i64 0, .int .i64 0, .int .i64 0, .int .i64 0] 51) := by rw [hy7]; exact S7.out.other _ nxs _
  have Z7' : Hid (Box y7 h0 #[.int .i64 0, .int .i64 0, .int .i64 0, .int .i64 0, .int .i64 0, .int .i64 0, .int .i64 0, .int .i64 0, .int .i64 0, .int .i64 0, .int .i64 0, .int .i64 0, .int .i64 0] 57) := by rw [hy7]; exact Z7.out.other _ (Ne.symm n0x) _
  have P7' : Hid (Box y7 hr #[.slice a7 100 (c + 100)] 118) := by rw [hy7]; exact P7.out.other _ nxr _
  have LN7' : Hid (Below w.heap.size w y7) := by rw [hy7]; exact LN7.out.setCell (p := ⟨hx, 6, none⟩) lx _
  rw [← hy7]
  clear hy7 c7 f7 X7 S7 Z7 P7 LN7
  rw [rounds_succ]
  go_wp2_with fail
  refine (numberO w hr _ 100 (c + 100) 96 (c + 96) xs 28 32 4 _ LN7' P7' R7 lr rfl rfl rfl (by omega) (by omega)).mono ?_
  rintro e u8 ⟨a8, rfl, R8, P8, G8, LN8⟩
  obtain ⟨v8, hv8⟩ : ∃ v, Hid (fld xs 28 4 = v) := ⟨_, rfl⟩
  rw [hv8.out]
  have X8 := Lib.hid (X7'.out.grown G8.out (fun e => nxr (by injection e)))
  have S8 := Lib.hid (S7'.out.grown G8.out (fun e => nsr (by injection e)))
  have Z8 := Lib.hid (Z7'.out.grown G8.out (fun e => n0r (by injection e)))
  have c8 : u8.cell? ⟨hx, 7, none⟩ = some (.int .i64 0) := X8.out.cell 7
  have f8 : u8.frozen? ⟨hx, 7, none⟩ = false := X8.out.free 7
  clear X7' S7' Z7' P7' LN7' R7 G8
  go_wp2_with fail
  obtain ⟨y8, hy8⟩ : ∃ W, W = u8.setCell ⟨hx, 7, none⟩ (.int .i64 v8) := ⟨_, rfl⟩
  have X8' : Hid (Box y8 hx #[.int .i64 v1, .int .i64 v2, .int .i64 v3, .int .i64 v4, .int .i64 v5, .int .i64 v6, .int .i64 v7, .int .i64 v8, .int .i64 0, .int .i64 0, .int .i64 0, .int .i64 0, .int .i64 0] 57) := by rw [hy8]; exact X8.out.set 7 _
  have S8' : Hid (Box y8 hs #[.int .i64 0, .int .i64 0, .int .i64 0, .int .i64 0] 51) := by rw [hy8]; exact S8.out.other _ nxs _
  have Z8' : Hid (Box y8 h0 #[.int .i64 0, .int .i64 0, .int .i64 0, .int .i64 0, .int .i64 0, .int .i64 0, .int .i64 0, .int .i64 0, .int .i64 0, .int .i64 0, .int .i64 0, .int .i64 0, .int .i64 0] 57) := by rw [hy8]; exact Z8.out.other _ (Ne.symm n0x) _
  have P8' : Hid (Box y8 hr #[.slice a8 96 (c + 96)] 118) := by rw [hy8]; exact P8.out.other _ nxr _
  have LN8' : Hid (Below w.heap.size w y8) := by rw [hy8]; exact LN8.out.setCell (p := ⟨hx, 7, none⟩) lx _
  rw [← hy8]
  clear hy8 c8 f8 X8 S8 Z8 P8 LN8
  rw [rounds_succ]
  go_wp2_with fail
  refine (numberO w hr _ 96 (c + 96) 92 (c + 92) xs 32 36 4 _ LN8' P8' R8 lr rfl rfl rfl (by omega) (by omega)).mono ?_
  rintro e u9 ⟨a9, rfl, R9, P9, G9, LN9⟩
  obtain ⟨v9, hv9⟩ : ∃ v, Hid (fld xs 32 4 = v) := ⟨_, rfl⟩
  rw [hv9.out]
  have X9 := Lib.hid (X8'.out.grown G9.out (fun e => nxr (by injection e)))
  have S9 := Lib.hid (S8'.out.grown G9.out (fun e => nsr (by injection e)))
  have Z9 := Lib.hid (Z8'.out.grown G9.out (fun e => n0r (by injection e)))
  have c9 : u9.cell? ⟨hx, 8, none⟩ = some (.int .i64 0) := X9.out.cell 8
  have f9 : u9.frozen? ⟨hx, 8, none⟩ = false := X9.out.free 8
  clear X8' S8' Z8' P8' LN8' R8 G9
  go_wp2_with fail
  obtain ⟨y9, hy9⟩ : ∃ W, W = u9.setCell ⟨hx, 8, none⟩ (.int .i64 v9) := ⟨_, rfl⟩
  have X9' : Hid (Box y9 hx #[.int .i64 v1, .int .i64 v2, .int .i64 v3, .int .i64 v4, .int .i64 v5, .int .i64 v6, .int .i64 v7, .int .i64 v8, .int .i64 v9, .int .i64 0, .int .i64 0, .int .i64 0, .int .i64 0] 57) := by rw [hy9]; exact X9.out.set 8 _
  have S9' : Hid (Box y9 hs #[.int .i64 0, .int .i64 0, .int .i64 0, .int .i64 0] 51) := by rw [hy9]; exact S9.out.other _ nxs _
  have Z9' : Hid (Box y9 h0 #[.int .i64 0, .int .i64 0, .int .i64 0, .int .i64 0, .int .i64 0, .int .i64 0, .int .i64 0, .int .i64 0, .int .i64 0, .int .i64 0, .int .i64 0, .int .i64 0, .int .i64 0] 57) := by rw [hy9]; exact Z9.out.other _ (Ne.symm n0x) _
  have P9' : Hid (Box y9 hr #[.slice a9 92 (c + 92)] 118) := by rw [hy9]; exact P9.out.other _ nxr _
  have LN9' : Hid (Below w.heap.size w y9) := by rw [hy9]; exact LN9.out.setCell (p := ⟨hx, 8, none⟩) lx _
  rw [← hy9]
  clear hy9 c9 f9 X9 S9 Z9 P9 LN9
  rw [rounds_succ]
  go_wp2_with fail
  refine (sums hx 9 _).mono ?_
  rintro e w2 ⟨rfl, hb2⟩
  have X10' := Lib.hid (X9'.out.below hb2 X9'.out.lt)
  have S10' := Lib.hid (S9'.out.below hb2 S9'.out.lt)
  have Z10' := Lib.hid (Z9'.out.below hb2 Z9'.out.lt)
  have P10' := Lib.hid (P9'.out.below hb2 P9'.out.lt)
  have LN10' := Lib.hid (stepB LN9'.out hwz hb2)
  clear X9' S9' Z9' P9' LN9' hb2
  have j0 : ∀ w, (Instr.index 113 (.agg #[.pointer (some ⟨hx, 9, none⟩), .pointer (some ⟨hx, 10, none⟩), .pointer (some ⟨hx, 11, none⟩), .pointer (some ⟨hx, 12, none⟩)]) (.int .i64 0)).run Try.prog w = .ok (.pointer (some ⟨hx, 9, none⟩)) w := fun _ => by kernel_rfl
  have j1 : ∀ w, (Instr.index 113 (.agg #[.pointer (some ⟨hx, 9, none⟩), .pointer (some ⟨hx, 10, none⟩), .pointer (some ⟨hx, 11, none⟩), .pointer (some ⟨hx, 12, none⟩)]) (.int .i64 1)).run Try.prog w = .ok (.pointer (some ⟨hx, 10, none⟩)) w := fun _ => by kernel_rfl
  have j2 : ∀ w, (Instr.index 113 (.agg #[.pointer (some ⟨hx, 9, none⟩), .pointer (some ⟨hx, 10, none⟩), .pointer (some ⟨hx, 11, none⟩), .pointer (some ⟨hx, 12, none⟩)]) (.int .i64 2)).run Try.prog w = .ok (.pointer (some ⟨hx, 11, none⟩)) w := fun _ => by kernel_rfl
  have j3 : ∀ w, (Instr.index 113 (.agg #[.pointer (some ⟨hx, 9, none⟩), .pointer (some ⟨hx, 10, none⟩), .pointer (some ⟨hx, 11, none⟩), .pointer (some ⟨hx, 12, none⟩)]) (.int .i64 3)).run Try.prog w = .ok (.pointer (some ⟨hx, 12, none⟩)) w := fun _ => by kernel_rfl
  go_wp2_with fail
  refine wp_loop_rounds 5 ?_
  rw [rounds_succ]
  go_wp2_with fail
  refine (numberO w hr _ 92 (c + 92) 84 (c + 84) xs 36 44 8 _ LN10' P10' R9 lr rfl rfl rfl (by omega) (by omega)).mono ?_
  rintro e u11 ⟨a11, rfl, R11, P11, G11, LN11⟩
  obtain ⟨v11, hv11⟩ : ∃ v, Hid (fld xs 36 8 = v) := ⟨_, rfl⟩
  rw [hv11.out]
  have X11 := Lib.hid (X10'.out.grown G11.out (fun e => nxr (by injection e)))
  have S11 := Lib.hid (S10'.out.grown G11.out (fun e => nsr (by injection e)))
  have Z11 := Lib.hid (Z10'.out.grown G11.out (fun e => n0r (by injection e)))
  have c11 : u11.cell? ⟨hx, 9, none⟩ = some (.int .i64 0) := X11.out.cell 9
  have f11 : u11.frozen? ⟨hx, 9, none⟩ = false := X11.out.free 9
  clear X10' S10' Z10' P10' LN10' R9 G11
  go_wp2_with fail
  obtain ⟨y11, hy11⟩ : ∃ W, W = u11.setCell ⟨hx, 9, none⟩ (.int .i64 v11) := ⟨_, rfl⟩
  have X11' : Hid (Box y11 hx #[.int .i64 v1, .int .i64 v2, .int .i64 v3, .int .i64 v4, .int .i64 v5, .int .i64 v6, .int .i64 v7, .int .i64 v8, .int .i64 v9, .int .i64 v11, .int .i64 0, .int .i64 0, .int .i64 0] 57) := by rw [hy11]; exact X11.out.set 9 _
  have S11' : Hid (Box y11 hs #[.int .i64 0, .int .i64 0, .int .i64 0, .int .i64 0] 51) := by rw [hy11]; exact S11.out.other _ nxs _
  have Z11' : Hid (Box y11 h0 #[.int .i64 0, .int .i64 0, .int .i64 0, .int .i64 0, .int .i64 0, .int .i64 0, .int .i64 0, .int .i64 0, .int .i64 0, .int .i64 0, .int .i64 0, .int .i64 0, .int .i64 0] 57) := by rw [hy11]; exact Z11.out.other _ (Ne.symm n0x) _
  have P11' : Hid (Box y11 hr #[.slice a11 84 (c + 84)] 118) := by rw [hy11]; exact P11.out.other _ nxr _
  have LN11' : Hid (Below w.heap.size w y11) := by rw [hy11]; exact LN11.out.setCell (p := ⟨hx, 9, none⟩) lx _
  rw [← hy11]
  clear hy11 c11 f11 X11 S11 Z11 P11 LN11
  rw [rounds_succ]
  go_wp2_with fail
  refine (numberO w hr _ 84 (c + 84) 76 (c + 76) xs 44 52 8 _ LN11' P11' R11 lr rfl rfl rfl (by omega) (by omega)).mono ?_
  rintro e u12 ⟨a12, rfl, R12, P12, G12, LN12⟩
  obtain ⟨v12, hv12⟩ : ∃ v, Hid (fld xs 44 8 = v) := ⟨_, rfl⟩
  rw [hv12.out]
  have X12 := Lib.hid (X11'.out.grown G12.out (fun e => nxr (by injection e)))
  have S12 := Lib.hid (S11'.out.grown G12.out (fun e => nsr (by injection e)))
  have Z12 := Lib.hid (Z11'.out.grown G12.out (fun e => n0r (by injection e)))
  have c12 : u12.cell? ⟨hx, 10, none⟩ = some (.int .i64 0) := X12.out.cell 10
  have f12 : u12.frozen? ⟨hx, 10, none⟩ = false := X12.out.free 10
  clear X11' S11' Z11' P11' LN11' R11 G12
  go_wp2_with fail
  obtain ⟨y12, hy12⟩ : ∃ W, W = u12.setCell ⟨hx, 10, none⟩ (.int .i64 v12) := ⟨_, rfl⟩
  have X12' : Hid (Box y12 hx #[.int .i64 v1, .int .i64 v2, .int .i64 v3, .int .i64 v4, .int .i64 v5, .int .i64 v6, .int .i64 v7, .int .i64 v8, .int .i64 v9, .int .i64 v11, .int .i64 v12, .int .i64 0, .int .i64 0] 57) := by rw [hy12]; exact X12.out.set 10 _
  have S12' : Hid (Box y12 hs #[.int .i64 0, .int .i64 0, .int .i64 0, .int .i64 0] 51) := by rw [hy12]; exact S12.out.other _ nxs _
  have Z12' : Hid (Box y12 h0 #[.int .i64 0, .int .i64 0, .int .i64 0, .int .i64 0, .int .i64 0, .int .i64 0, .int .i64 0, .int .i64 0, .int .i64 0, .int .i64 0, .int .i64 0, .int .i64 0, .int .i64 0] 57) := by rw [hy12]; exact Z12.out.other _ (Ne.symm n0x) _
  have P12' : Hid (Box y12 hr #[.slice a12 76 (c + 76)] 118) := by rw [hy12]; exact P12.out.other _ nxr _
  have LN12' : Hid (Below w.heap.size w y12) := by rw [hy12]; exact LN12.out.setCell (p := ⟨hx, 10, none⟩) lx _
  rw [← hy12]
  clear hy12 c12 f12 X12 S12 Z12 P12 LN12
  rw [rounds_succ]
  go_wp2_with fail
  refine (numberO w hr _ 76 (c + 76) 68 (c + 68) xs 52 60 8 _ LN12' P12' R12 lr rfl rfl rfl (by omega) (by omega)).mono ?_
  rintro e u13 ⟨a13, rfl, R13, P13, G13, LN13⟩
  obtain ⟨v13, hv13⟩ : ∃ v, Hid (fld xs 52 8 = v) := ⟨_, rfl⟩
  rw [hv13.out]
  have X13 := Lib.hid (X12'.out.grown G13.out (fun e => nxr (by injection e)))
  have S13 := Lib.hid (S12'.out.grown G13.out (fun e => nsr (by injection e)))
  have Z13 := Lib.hid (Z12'.out.grown G13.out (fun e => n0r (by injection e)))
  have c13 : u13.cell? ⟨hx, 11, none⟩ = some (.int .i64 0) := X13.out.cell 11
  have f13 : u13.frozen? ⟨hx, 11, none⟩ = false := X13.out.free 11
  clear X12' S12' Z12' P12' LN12' R12 G13
  go_wp2_with fail
  obtain ⟨y13, hy13⟩ : ∃ W, W = u13.setCell ⟨hx, 11, none⟩ (.int .i64 v13) := ⟨_, rfl⟩
  have X13' : Hid (Box y13 hx #[.int .i64 v1, .int .i64 v2, .int .i64 v3, .int .i64 v4, .int .i64 v5, .int .i64 v6, .int .i64 v7, .int .i64 v8, .int .i64 v9, .int .i64 v11, .int .i64 v12, .int .i64 v13, .int .i64 0] 57) := by rw [hy13]; exact X13.out.set 11 _
  have S13' : Hid (Box y13 hs #[.int .i64 0, .int .i64 0, .int .i64 0, .int .i64 0] 51) := by rw [hy13]; exact S13.out.other _ nxs _
  have Z13' : Hid (Box y13 h0 #[.int .i64 0, .int .i64 0, .int .i64 0, .int .i64 0, .int .i64 0, .int .i64 0, .int .i64 0, .int .i64 0, .int .i64 0, .int .i64 0, .int .i64 0, .int .i64 0, .int .i64 0] 57) := by rw [hy13]; exact Z13.out.other _ (Ne.symm n0x) _
  have P13' : Hid (Box y13 hr #[.slice a13 68 (c + 68)] 118) := by rw [hy13]; exact P13.out.other _ nxr _
  have LN13' : Hid (Below w.heap.size w y13) := by rw [hy13]; exact LN13.out.setCell (p := ⟨hx, 11, none⟩) lx _
  rw [← hy13]
  clear hy13 c13 f13 X13 S13 Z13 P13 LN13
  rw [rounds_succ]
  go_wp2_with fail
  refine (numberO w hr _ 68 (c + 68) 60 (c + 60) xs 60 68 8 _ LN13' P13' R13 lr rfl rfl rfl (by omega) (by omega)).mono ?_
  rintro e u14 ⟨a14, rfl, R14, P14, G14, LN14⟩
  obtain ⟨v14, hv14⟩ : ∃ v, Hid (fld xs 60 8 = v) := ⟨_, rfl⟩
  rw [hv14.out]
  have X14 := Lib.hid (X13'.out.grown G14.out (fun e => nxr (by injection e)))
  have S14 := Lib.hid (S13'.out.grown G14.out (fun e => nsr (by injection e)))
  have Z14 := Lib.hid (Z13'.out.grown G14.out (fun e => n0r (by injection e)))
  have c14 : u14.cell? ⟨hx, 12, none⟩ = some (.int .i64 0) := X14.out.cell 12
  have f14 : u14.frozen? ⟨hx, 12, none⟩ = false := X14.out.free 12
  clear X13' S13' Z13' P13' LN13' R13 G14
  go_wp2_with fail
  obtain ⟨y14, hy14⟩ : ∃ W, W = u14.setCell ⟨hx, 12, none⟩ (.int .i64 v14) := ⟨_, rfl⟩
  have X14' : Hid (Box y14 hx #[.int .i64 v1, .int .i64 v2, .int .i64 v3, .int .i64 v4, .int .i64 v5, .int .i64 v6, .int .i64 v7, .int .i64 v8, .int .i64 v9, .int .i64 v11, .int .i64 v12, .int .i64 v13, .int .i64 v14] 57) := by rw [hy14]; exact X14.out.set 12 _
  have S14' : Hid (Box y14 hs #[.int .i64 0, .int .i64 0, .int .i64 0, .int .i64 0] 51) := by rw [hy14]; exact S14.out.other _ nxs _
  have Z14' : Hid (Box y14 h0 #[.int .i64 0, .int .i64 0, .int .i64 0, .int .i64 0, .int .i64 0, .int .i64 0, .int .i64 0, .int .i64 0, .int .i64 0, .int .i64 0, .int .i64 0, .int .i64 0, .int .i64 0] 57) := by rw [hy14]; exact Z14.out.other _ (Ne.symm n0x) _
  have P14' : Hid (Box y14 hr #[.slice a14 60 (c + 60)] 118) := by rw [hy14]; exact P14.out.other _ nxr _
  have LN14' : Hid (Below w.heap.size w y14) := by rw [hy14]; exact LN14.out.setCell (p := ⟨hx, 12, none⟩) lx _
  rw [← hy14]
  clear hy14 c14 f14 X14 S14 Z14 P14 LN14
  have cr : y14.cell? ⟨hr, 0, none⟩ = some (.slice a14 60 (c + 60)) := P14'.out.cell 0
  have fr : y14.frozen? ⟨hr, 0, none⟩ = false := P14'.out.free 0
  have hc96 : ¬ c + 128 = 96 := by omega
  rw [rounds_succ]
  go_wp2_with fail
  obtain ⟨y, hy⟩ : ∃ W, W = y14.setCell ⟨hr, 0, none⟩ (.slice (some ⟨g, off + 96, none⟩) 32 (c + 32)) := ⟨_, rfl⟩
  have RX : Hid (Box y hx #[.int .i64 v1, .int .i64 v2, .int .i64 v3, .int .i64 v4, .int .i64 v5, .int .i64 v6, .int .i64 v7, .int .i64 v8, .int .i64 v9, .int .i64 v11, .int .i64 v12, .int .i64 v13, .int .i64 v14] 57) := by rw [hy]; exact X14'.out.other _ (Ne.symm nxr) _
  have RS : Hid (Box y hs #[.int .i64 0, .int .i64 0, .int .i64 0, .int .i64 0] 51) := by rw [hy]; exact S14'.out.other _ (Ne.symm nsr) _
  have RZ : Hid (Box y h0 #[.int .i64 0, .int .i64 0, .int .i64 0, .int .i64 0, .int .i64 0, .int .i64 0, .int .i64 0, .int .i64 0, .int .i64 0, .int .i64 0, .int .i64 0, .int .i64 0, .int .i64 0] 57) := by rw [hy]; exact Z14'.out.other _ (Ne.symm n0r) _
  have RR : Hid (Box y hr #[.slice (some ⟨g, off + 96, none⟩) 32 (c + 32)] 118) := by rw [hy]; exact P14'.out.set 0 _
  have RL : Hid (Below w.heap.size w y) := by rw [hy]; exact LN14'.out.setCell (p := ⟨hr, 0, none⟩) lr _
  have RQ : Hid (Row .u8 w (some ⟨g, off + 96, none⟩) 32 (c + 32) (xs.drop 96)) := by
    have := RW.out.from_ 96 (by omega)
    show Row _ _ _ _ _ _
    simpa [onA, hc96, Addr.add] using this
  rw [← hy]
  clear hy cr fr X14' S14' Z14' P14' LN14' R14
  refine (sums hs 0 _).mono ?_
  rintro e w3 ⟨rfl, hb3⟩
  have X15' := Lib.hid (RX.out.below hb3 RX.out.lt)
  have S15' := Lib.hid (RS.out.below hb3 RS.out.lt)
  have Z15' := Lib.hid (RZ.out.below hb3 RZ.out.lt)
  have P15' := Lib.hid (RR.out.below hb3 RR.out.lt)
  have LN15' := Lib.hid (stepB RL.out hwz hb3)
  clear RX RS RZ RR RL hb3
  have k0 : ∀ w, (Instr.index 113 (.agg #[.pointer (some ⟨hs, 0, none⟩), .pointer (some ⟨hs, 1, none⟩), .pointer (some ⟨hs, 2, none⟩), .pointer (some ⟨hs, 3, none⟩)]) (.int .i64 0)).run Try.prog w = .ok (.pointer (some ⟨hs, 0, none⟩)) w := fun _ => by kernel_rfl
  have k1 : ∀ w, (Instr.index 113 (.agg #[.pointer (some ⟨hs, 0, none⟩), .pointer (some ⟨hs, 1, none⟩), .pointer (some ⟨hs, 2, none⟩), .pointer (some ⟨hs, 3, none⟩)]) (.int .i64 1)).run Try.prog w = .ok (.pointer (some ⟨hs, 1, none⟩)) w := fun _ => by kernel_rfl
  have k2 : ∀ w, (Instr.index 113 (.agg #[.pointer (some ⟨hs, 0, none⟩), .pointer (some ⟨hs, 1, none⟩), .pointer (some ⟨hs, 2, none⟩), .pointer (some ⟨hs, 3, none⟩)]) (.int .i64 2)).run Try.prog w = .ok (.pointer (some ⟨hs, 2, none⟩)) w := fun _ => by kernel_rfl
  have k3 : ∀ w, (Instr.index 113 (.agg #[.pointer (some ⟨hs, 0, none⟩), .pointer (some ⟨hs, 1, none⟩), .pointer (some ⟨hs, 2, none⟩), .pointer (some ⟨hs, 3, none⟩)]) (.int .i64 3)).run Try.prog w = .ok (.pointer (some ⟨hs, 3, none⟩)) w := fun _ => by kernel_rfl
  go_wp2_with fail
  refine wp_loop_rounds 5 ?_
  rw [rounds_succ]
  go_wp2_with fail
  refine (numberO w hr _ 32 (c + 32) 24 (c + 24) xs 96 104 8 _ LN15' P15' RQ lr rfl rfl rfl (by omega) (by omega)).mono ?_
  rintro e u16 ⟨a16, rfl, R16, P16, G16, LN16⟩
  obtain ⟨v16, hv16⟩ : ∃ v, Hid (fld xs 96 8 = v) := ⟨_, rfl⟩
  rw [hv16.out]
  have X16 := Lib.hid (X15'.out.grown G16.out (fun e => nxr (by injection e)))
  have S16 := Lib.hid (S15'.out.grown G16.out (fun e => nsr (by injection e)))
  have Z16 := Lib.hid (Z15'.out.grown G16.out (fun e => n0r (by injection e)))
  have c16 : u16.cell? ⟨hs, 0, none⟩ = some (.int .i64 0) := S16.out.cell 0
  have f16 : u16.frozen? ⟨hs, 0, none⟩ = false := S16.out.free 0
  clear X15' S15' Z15' P15' LN15' RQ G16
  go_wp2_with fail
  obtain ⟨y16, hy16⟩ : ∃ W, W = u16.setCell ⟨hs, 0, none⟩ (.int .i64 v16) := ⟨_, rfl⟩
  have X16' : Hid (Box y16 hx #[.int .i64 v1, .int .i64 v2, .int .i64 v3, .int .i64 v4, .int .i64 v5, .int .i64 v6, .int .i64 v7, .int .i64 v8, .int .i64 v9, .int .i64 v11, .int .i64 v12, .int .i64 v13, .int .i64 v14] 57) := by rw [hy16]; exact X16.out.other _ (Ne.symm nxs) _
  have S16' : Hid (Box y16 hs #[.int .i64 v16, .int .i64 0, .int .i64 0, .int .i64 0] 51) := by rw [hy16]; exact S16.out.set 0 _
  have Z16' : Hid (Box y16 h0 #[.int .i64 0, .int .i64 0, .int .i64 0, .int .i64 0, .int .i64 0, .int .i64 0, .int .i64 0, .int .i64 0, .int .i64 0, .int .i64 0, .int .i64 0, .int .i64 0, .int .i64 0] 57) := by rw [hy16]; exact Z16.out.other _ (Ne.symm n0s) _
  have P16' : Hid (Box y16 hr #[.slice a16 24 (c + 24)] 118) := by rw [hy16]; exact P16.out.other _ nsr _
  have LN16' : Hid (Below w.heap.size w y16) := by rw [hy16]; exact LN16.out.setCell (p := ⟨hs, 0, none⟩) ls _
  rw [← hy16]
  clear hy16 c16 f16 X16 S16 Z16 P16 LN16
  rw [rounds_succ]
  go_wp2_with fail
  refine (numberO w hr _ 24 (c + 24) 16 (c + 16) xs 104 112 8 _ LN16' P16' R16 lr rfl rfl rfl (by omega) (by omega)).mono ?_
  rintro e u17 ⟨a17, rfl, R17, P17, G17, LN17⟩
  obtain ⟨v17, hv17⟩ : ∃ v, Hid (fld xs 104 8 = v) := ⟨_, rfl⟩
  rw [hv17.out]
  have X17 := Lib.hid (X16'.out.grown G17.out (fun e => nxr (by injection e)))
  have S17 := Lib.hid (S16'.out.grown G17.out (fun e => nsr (by injection e)))
  have Z17 := Lib.hid (Z16'.out.grown G17.out (fun e => n0r (by injection e)))
  have c17 : u17.cell? ⟨hs, 1, none⟩ = some (.int .i64 0) := S17.out.cell 1
  have f17 : u17.frozen? ⟨hs, 1, none⟩ = false := S17.out.free 1
  clear X16' S16' Z16' P16' LN16' R16 G17
  go_wp2_with fail
  obtain ⟨y17, hy17⟩ : ∃ W, W = u17.setCell ⟨hs, 1, none⟩ (.int .i64 v17) := ⟨_, rfl⟩
  have X17' : Hid (Box y17 hx #[.int .i64 v1, .int .i64 v2, .int .i64 v3, .int .i64 v4, .int .i64 v5, .int .i64 v6, .int .i64 v7, .int .i64 v8, .int .i64 v9, .int .i64 v11, .int .i64 v12, .int .i64 v13, .int .i64 v14] 57) := by rw [hy17]; exact X17.out.other _ (Ne.symm nxs) _
  have S17' : Hid (Box y17 hs #[.int .i64 v16, .int .i64 v17, .int .i64 0, .int .i64 0] 51) := by rw [hy17]; exact S17.out.set 1 _
  have Z17' : Hid (Box y17 h0 #[.int .i64 0, .int .i64 0, .int .i64 0, .int .i64 0, .int .i64 0, .int .i64 0, .int .i64 0, .int .i64 0, .int .i64 0, .int .i64 0, .int .i64 0, .int .i64 0, .int .i64 0] 57) := by rw [hy17]; exact Z17.out.other _ (Ne.symm n0s) _
  have P17' : Hid (Box y17 hr #[.slice a17 16 (c + 16)] 118) := by rw [hy17]; exact P17.out.other _ nsr _
  have LN17' : Hid (Below w.heap.size w y17) := by rw [hy17]; exact LN17.out.setCell (p := ⟨hs, 1, none⟩) ls _
  rw [← hy17]
  clear hy17 c17 f17 X17 S17 Z17 P17 LN17
  rw [rounds_succ]
  go_wp2_with fail
  refine (numberO w hr _ 16 (c + 16) 8 (c + 8) xs 112 120 8 _ LN17' P17' R17 lr rfl rfl rfl (by omega) (by omega)).mono ?_
  rintro e u18 ⟨a18, rfl, R18, P18, G18, LN18⟩
  obtain ⟨v18, hv18⟩ : ∃ v, Hid (fld xs 112 8 = v) := ⟨_, rfl⟩
  rw [hv18.out]
  have X18 := Lib.hid (X17'.out.grown G18.out (fun e => nxr (by injection e)))
  have S18 := Lib.hid (S17'.out.grown G18.out (fun e => nsr (by injection e)))
  have Z18 := Lib.hid (Z17'.out.grown G18.out (fun e => n0r (by injection e)))
  have c18 : u18.cell? ⟨hs, 2, none⟩ = some (.int .i64 0) := S18.out.cell 2
  have f18 : u18.frozen? ⟨hs, 2, none⟩ = false := S18.out.free 2
  clear X17' S17' Z17' P17' LN17' R17 G18
  go_wp2_with fail
  obtain ⟨y18, hy18⟩ : ∃ W, W = u18.setCell ⟨hs, 2, none⟩ (.int .i64 v18) := ⟨_, rfl⟩
  have X18' : Hid (Box y18 hx #[.int .i64 v1, .int .i64 v2, .int .i64 v3, .int .i64 v4, .int .i64 v5, .int .i64 v6, .int .i64 v7, .int .i64 v8, .int .i64 v9, .int .i64 v11, .int .i64 v12, .int .i64 v13, .int .i64 v14] 57) := by rw [hy18]; exact X18.out.other _ (Ne.symm nxs) _
  have S18' : Hid (Box y18 hs #[.int .i64 v16, .int .i64 v17, .int .i64 v18, .int .i64 0] 51) := by rw [hy18]; exact S18.out.set 2 _
  have Z18' : Hid (Box y18 h0 #[.int .i64 0, .int .i64 0, .int .i64 0, .int .i64 0, .int .i64 0, .int .i64 0, .int .i64 0, .int .i64 0, .int .i64 0, .int .i64 0, .int .i64 0, .int .i64 0, .int .i64 0] 57) := by rw [hy18]; exact Z18.out.other _ (Ne.symm n0s) _
  have P18' : Hid (Box y18 hr #[.slice a18 8 (c + 8)] 118) := by rw [hy18]; exact P18.out.other _ nsr _
  have LN18' : Hid (Below w.heap.size w y18) := by rw [hy18]; exact LN18.out.setCell (p := ⟨hs, 2, none⟩) ls _
  rw [← hy18]
  clear hy18 c18 f18 X18 S18 Z18 P18 LN18
  rw [rounds_succ]
  go_wp2_with fail
  refine (numberO w hr _ 8 (c + 8) 0 (c + 0) xs 120 128 8 _ LN18' P18' R18 lr rfl rfl rfl (by omega) (by omega)).mono ?_
  rintro e u19 ⟨a19, rfl, R19, P19, G19, LN19⟩
  obtain ⟨v19, hv19⟩ : ∃ v, Hid (fld xs 120 8 = v) := ⟨_, rfl⟩
  rw [hv19.out]
  have X19 := Lib.hid (X18'.out.grown G19.out (fun e => nxr (by injection e)))
  have S19 := Lib.hid (S18'.out.grown G19.out (fun e => nsr (by injection e)))
  have Z19 := Lib.hid (Z18'.out.grown G19.out (fun e => n0r (by injection e)))
  have c19 : u19.cell? ⟨hs, 3, none⟩ = some (.int .i64 0) := S19.out.cell 3
  have f19 : u19.frozen? ⟨hs, 3, none⟩ = false := S19.out.free 3
  clear X18' S18' Z18' P18' LN18' R18 G19
  go_wp2_with fail
  obtain ⟨y19, hy19⟩ : ∃ W, W = u19.setCell ⟨hs, 3, none⟩ (.int .i64 v19) := ⟨_, rfl⟩
  have X19' : Hid (Box y19 hx #[.int .i64 v1, .int .i64 v2, .int .i64 v3, .int .i64 v4, .int .i64 v5, .int .i64 v6, .int .i64 v7, .int .i64 v8, .int .i64 v9, .int .i64 v11, .int .i64 v12, .int .i64 v13, .int .i64 v14] 57) := by rw [hy19]; exact X19.out.other _ (Ne.symm nxs) _
  have S19' : Hid (Box y19 hs #[.int .i64 v16, .int .i64 v17, .int .i64 v18, .int .i64 v19] 51) := by rw [hy19]; exact S19.out.set 3 _
  have Z19' : Hid (Box y19 h0 #[.int .i64 0, .int .i64 0, .int .i64 0, .int .i64 0, .int .i64 0, .int .i64 0, .int .i64 0, .int .i64 0, .int .i64 0, .int .i64 0, .int .i64 0, .int .i64 0, .int .i64 0] 57) := by rw [hy19]; exact Z19.out.other _ (Ne.symm n0s) _
  have P19' : Hid (Box y19 hr #[.slice a19 0 (c + 0)] 118) := by rw [hy19]; exact P19.out.other _ nsr _
  have LN19' : Hid (Below w.heap.size w y19) := by rw [hy19]; exact LN19.out.setCell (p := ⟨hs, 3, none⟩) ls _
  rw [← hy19]
  clear hy19 c19 f19 X19 S19 Z19 P19 LN19
  rw [rounds_succ]
  go_wp2_with fail
  refine (of_bytes _ 96 (c + 128) _ _ ((RW.out.upto 96 (by omega)).below LN19'.out) (by omega)).mono ?_
  rintro e z0 ⟨sa, sb, sc, sd, hsum, rfl, hbz⟩
  have X20' := Lib.hid (X19'.out.below hbz X19'.out.lt)
  have S20' := Lib.hid (S19'.out.below hbz S19'.out.lt)
  have Z20' := Lib.hid (Z19'.out.below hbz Z19'.out.lt)
  have P20' := Lib.hid (P19'.out.below hbz P19'.out.lt)
  have LN20' := Lib.hid (stepB LN19'.out hwz hbz)
  clear X19' S19' Z19' P19' LN19' hbz
  have hseal : Hid (sealOf xs = ⟨v16, v17, v18, v19⟩) := by show _ = _; unfold sealOf; rw [hv16.out, hv17.out, hv18.out, hv19.out]
  have hlab : Hid (labOf xs = ⟨v1, v2, v3, v4, v5, v6, v7, v8, v9, v11, v12, v13, v14⟩) := by show _ = _; unfold labOf; rw [hv1.out, hv2.out, hv3.out, hv4.out, hv5.out, hv6.out, hv7.out, hv8.out, hv9.out, hv11.out, hv12.out, hv13.out, hv14.out]
  have hsumq : Hid (sumOf (xs.take 96) = ⟨sa, sb, sc, sd⟩) := hsum.out
  have hlen : xs.length = 128 := HLN.out
  have HLEN := Lib.hid hlen
  clear hlen hsum HLN hv1 hv2 hv3 hv4 hv5 hv6 hv7 hv8 hv9 hv11 hv12 hv13 hv14 hv16 hv17 hv18 hv19 i0 i1 i2 i3 i4 i5 i6 i7 i8 j0 j1 j2 j3 k0 k1 k2 k3 hc96 P20'
  have hls := S20'.out.lt
  have q0 : z0.cell? ⟨hs, 0, none⟩ = some (.int .i64 v16) := S20'.out.cell 0
  have q1 : z0.cell? ⟨hs, 1, none⟩ = some (.int .i64 v17) := S20'.out.cell 1
  have q2 : z0.cell? ⟨hs, 2, none⟩ = some (.int .i64 v18) := S20'.out.cell 2
  have q3 : z0.cell? ⟨hs, 3, none⟩ = some (.int .i64 v19) := S20'.out.cell 3
  by_cases heq : sa = v16 ∧ sb = v17 ∧ sc = v18 ∧ sd = v19
  · obtain ⟨ea, eb, ec, ed⟩ := heq
    have hss : Hid (sumOf (xs.take 96) = sealOf xs) := by show _ = _; rw [hsumq.out, hseal.out, ea, eb, ec, ed]
    subst ea eb ec ed
    have BXZ : Hid (Box (z0.alloc (.cells #[.int .i64 sa, .int .i64 sb, .int .i64 sc, .int .i64 sd] 51)) hx #[.int .i64 v1, .int .i64 v2, .int .i64 v3, .int .i64 v4, .int .i64 v5, .int .i64 v6, .int .i64 v7, .int .i64 v8, .int .i64 v9, .int .i64 v11, .int .i64 v12, .int .i64 v13, .int .i64 v14] 57) := X20'.out.alloc _
    go_wp2_with (refine wpList_load_box rfl 57 (.tmp 4) rfl hx rfl 57 _ BXZ.out _ Try.underlying57 rfl (by kernel_rfl) ?_)
    go_wp2_with fail
    obtain ⟨Z, hZ⟩ : ∃ Z, Z = z0.alloc (.cells #[.int .i64 sa, .int .i64 sb, .int .i64 sc, .int .i64 sd] 51) := ⟨_, rfl⟩
    have Z0 : Hid (Box Z h0 #[.int .i64 0, .int .i64 0, .int .i64 0, .int .i64 0, .int .i64 0, .int .i64 0, .int .i64 0, .int .i64 0, .int .i64 0, .int .i64 0, .int .i64 0, .int .i64 0, .int .i64 0] 57) := by rw [hZ]; exact Z20'.out.alloc _
    have ZX : Hid (Box Z hx #[.int .i64 v1, .int .i64 v2, .int .i64 v3, .int .i64 v4, .int .i64 v5, .int .i64 v6, .int .i64 v7, .int .i64 v8, .int .i64 v9, .int .i64 v11, .int .i64 v12, .int .i64 v13, .int .i64 v14] 57) := by rw [hZ]; exact X20'.out.alloc _
    have ZL : Hid (Below w.heap.size w Z) := by rw [hZ]; exact stepB LN20'.out hwz (Below_alloc1 _)
    rw [← hZ]
    clear hZ BXZ q0 q1 q2 q3 Z20' LN20' X20' S20'
    obtain ⟨lab, hlabe⟩ : ∃ x : Lab, Hid ((⟨v1, v2, v3, v4, v5, v6, v7, v8, v9, v11, v12, v13, v14⟩ : Lab) = x) := ⟨_, rfl⟩
    have hval : Hid ((Value.agg #[.int .i64 v1, .int .i64 v2, .int .i64 v3, .int .i64 v4, .int .i64 v5, .int .i64 v6, .int .i64 v7, .int .i64 v8, .int .i64 v9, .int .i64 v11, .int .i64 v12, .int .i64 v13, .int .i64 v14]) = lab.val) := by show _ = _; rw [← hlabe.out]; rfl
    have hlo : Hid (labOf xs = lab) := by show _ = _; rw [hlab.out, hlabe.out]
    have hok : lab.ok := by rw [← hlo.out]; exact labOf_ok xs
    have hlv : Hid (#[.int .i64 v1, .int .i64 v2, .int .i64 v3, .int .i64 v4, .int .i64 v5, .int .i64 v6, .int .i64 v7, .int .i64 v8, .int .i64 v9, .int .i64 v11, .int .i64 v12, .int .i64 v13, .int .i64 v14] = lab.cells) := by show _ = _; rw [← hlabe.out]; rfl
    rw [hval.out]
    rw [hlv.out] at ZX
    clear hlab hlabe hsumq hseal hlv
    by_cases hmay : lab.may = true
    · have HM := Lib.hid hmay
      clear hmay
      refine (encode lab Z HM hok).mono ?_
      rintro e m1 ⟨ge, rfl, hge, hbe, hle1⟩
      have ZX1 := Lib.hid (ZX.out.below hle1.out ZX.out.lt)
      have Z1 := Lib.hid (Z0.out.below hle1.out Z0.out.lt)
      have ZL1 := Lib.hid (stepB ZL.out hwz hle1.out)
      clear Z0 ZX ZL hle1 hge
      have hrow := room_row hbe.out (by rw [encB_length]; omega) (encB_bytes lab)
      rw [encB_length] at hrow
      have hrow2 := RW.out.below ZL1.out
      have HR1 := Lib.hid hrow
      have HR2 := Lib.hid hrow2
      clear hrow hrow2
      go_wp2_with fail
      refine (equalBytes _ _ _ _ _ _ _ _ m1 HR1.out HR2.out).mono ?_
      rintro e m2 ⟨rfl, kd, rfl⟩
      have Z2 := Lib.hid (Z1.out.drewN kd)
      have ZX2 := Lib.hid (ZX1.out.drewN kd)
      have ZL2 := Lib.hid (below_drewN ZL1.out kd)
      clear HR1 HR2 hbe Z1 ZX1 ZL1 hval
      by_cases hsame : encB lab = xs
      · have hres3 : Hid (dec xs = (lab, 0)) := by
          show _ = _
          rw [← hlo.out]
          exact dec_ok HLEN.out hss.out (by rw [hlo.out]; exact ⟨HM.out, hsame⟩)
        have HD : decide (encB lab = xs) = true := decide_eq_true hsame
        rw [HD]
        clear hsame HD
        go_wp2_with (first | (refine wpList_load_box rfl 57 (.tmp 4) rfl hx rfl 57 _ ZX2.out _ Try.underlying57 rfl (by kernel_rfl) ?_) | (refine wpList_store_box rfl 57 _ _ rfl h0 _ rfl rfl 57 _ Z2.out (by kernel_rfl) rfl rfl ?_))
        intro Y hbY hgY
        have HBY := Lib.hid hbY
        have HLY := Lib.hid (stepG ZL2.out hwz hgY l0)
        clear hbY hgY
        have hrv : Hid (res = (lab, 0)) := by show _ = _; rw [← hres.out]; exact hres3.out
        go_wp2_with (refine bodyPost_ret (results_box_tmp Try.results26 _ _ h0 _ _ HBY.out _ rfl Try.underlying57 rfl (by kernel_rfl)) rfl ?_)
        exact ⟨by rw [hrv.out]; rfl, HLY.out⟩
      · have hres3 : Hid (dec xs = (Lab.none, 4)) := by
          show _ = _
          exact dec_form HLEN.out hss.out (by rw [hlo.out]; exact fun h => hsame h.2)
        have HD : decide (encB lab = xs) = false := decide_eq_false hsame
        rw [HD]
        clear hsame HD
        go_wp2_with (refine wpList_store_box rfl 57 _ _ rfl h0 _ rfl rfl 57 _ Z2.out (by kernel_rfl) rfl rfl ?_)
        intro Y hbY hgY
        have HBY := Lib.hid hbY
        have HLY := Lib.hid (stepG ZL2.out hwz hgY l0)
        clear hbY hgY
        have hrv : Hid (res = (Lab.none, 4)) := by show _ = _; rw [← hres.out]; exact hres3.out
        go_wp2_with (refine bodyPost_ret (results_box_tmp Try.results26 _ _ h0 _ _ HBY.out _ rfl Try.underlying57 rfl (by kernel_rfl)) rfl ?_)
        exact ⟨by rw [hrv.out]; rfl, HLY.out⟩
    · have hmf : lab.may = false := by simpa using hmay
      have HM := Lib.hid hmf
      clear hmay hmf
      have hres3 : Hid (dec xs = (Lab.none, 4)) := by
        show _ = _
        exact dec_form HLEN.out hss.out (by rw [hlo.out, HM.out]; simp)
      refine (encode_no lab Z HM).mono ?_
      rintro e m1 ⟨rfl, hle1⟩
      have Z1 := Lib.hid (Z0.out.below hle1 Z0.out.lt)
      have ZL1 := Lib.hid (stepB ZL.out hwz hle1)
      clear Z0 ZX ZL hle1 hval
      go_wp2_with (refine wpList_store_box rfl 57 _ _ rfl h0 _ rfl rfl 57 _ Z1.out (by kernel_rfl) rfl rfl ?_)
      intro Y hbY hgY
      have HBY := Lib.hid hbY
      have HLY := Lib.hid (stepG ZL1.out hwz hgY l0)
      clear hbY hgY
      have hrv : Hid (res = (Lab.none, 4)) := by show _ = _; rw [← hres.out]; exact hres3.out
      go_wp2_with (refine bodyPost_ret (results_box_tmp Try.results26 _ _ h0 _ _ HBY.out _ rfl Try.underlying57 rfl (by kernel_rfl)) rfl ?_)
      exact ⟨by rw [hrv.out]; rfl, HLY.out⟩
  · have hss : Hid (sumOf (xs.take 96) ≠ sealOf xs) := by
      intro h
      rw [hsumq.out, hseal.out] at h
      injection h with h1 h2 h3 h4
      exact heq ⟨h1, h2, h3, h4⟩
    have hres3 : Hid (dec xs = (Lab.none, 11)) := dec_sum HLEN.out hss.out
    have hq : Hid (sa = v16 → sb = v17 → sc = v18 → ¬ sd = v19) := fun a b c d => heq ⟨a, b, c, d⟩
    clear heq hss hlab hsumq hseal HLEN
    have Z0 : Hid (Box (z0.alloc (.cells #[.int .i64 sa, .int .i64 sb, .int .i64 sc, .int .i64 sd] 51)) h0 #[.int .i64 0, .int .i64 0, .int .i64 0, .int .i64 0, .int .i64 0, .int .i64 0, .int .i64 0, .int .i64 0, .int .i64 0, .int .i64 0, .int .i64 0, .int .i64 0, .int .i64 0] 57) := Z20'.out.alloc _
    have ZL : Hid (Below w.heap.size w (z0.alloc (.cells #[.int .i64 sa, .int .i64 sb, .int .i64 sc, .int .i64 sd] 51))) := stepB LN20'.out hwz (Below_alloc1 _)
    clear Z20' LN20' X20' S20'
    by_cases e1 : sa = v16
    · subst e1
      by_cases e2 : sb = v17
      · subst e2
        by_cases e3 : sc = v18
        · subst e3
          have e4 : (sd == v19) = false := by simpa using hq.out rfl rfl rfl
          clear hq
          go_wp2_with (refine wpList_store_box rfl 57 _ _ rfl h0 _ rfl rfl 57 _ Z0.out (by kernel_rfl) rfl rfl ?_)
          intro Y hbY hgY
          have HBY := Lib.hid hbY
          have HLY := Lib.hid (stepG ZL.out hwz hgY l0)
          clear hbY hgY
          have hrv : Hid (res = (Lab.none, 11)) := by show _ = _; rw [← hres.out]; exact hres3.out
          go_wp2_with (refine bodyPost_ret (results_box_tmp Try.results26 _ _ h0 _ _ HBY.out _ rfl Try.underlying57 rfl (by kernel_rfl)) rfl ?_)
          exact ⟨by rw [hrv.out]; rfl, HLY.out⟩
        · have e4 : (sc == v18) = false := by simpa using e3
          clear e3 hq
          go_wp2_with (refine wpList_store_box rfl 57 _ _ rfl h0 _ rfl rfl 57 _ Z0.out (by kernel_rfl) rfl rfl ?_)
          intro Y hbY hgY
          have HBY := Lib.hid hbY
          have HLY := Lib.hid (stepG ZL.out hwz hgY l0)
          clear hbY hgY
          have hrv : Hid (res = (Lab.none, 11)) := by show _ = _; rw [← hres.out]; exact hres3.out
          go_wp2_with (refine bodyPost_ret (results_box_tmp Try.results26 _ _ h0 _ _ HBY.out _ rfl Try.underlying57 rfl (by kernel_rfl)) rfl ?_)
          exact ⟨by rw [hrv.out]; rfl, HLY.out⟩
      · have e4 : (sb == v17) = false := by simpa using e2
        clear e2 hq
        go_wp2_with (refine wpList_store_box rfl 57 _ _ rfl h0 _ rfl rfl 57 _ Z0.out (by kernel_rfl) rfl rfl ?_)
        intro Y hbY hgY
        have HBY := Lib.hid hbY
        have HLY := Lib.hid (stepG ZL.out hwz hgY l0)
        clear hbY hgY
        have hrv : Hid (res = (Lab.none, 11)) := by show _ = _; rw [← hres.out]; exact hres3.out
        go_wp2_with (refine bodyPost_ret (results_box_tmp Try.results26 _ _ h0 _ _ HBY.out _ rfl Try.underlying57 rfl (by kernel_rfl)) rfl ?_)
        exact ⟨by rw [hrv.out]; rfl, HLY.out⟩
    · have e4 : (sa == v16) = false := by simpa using e1
      clear e1 hq
      go_wp2_with (refine wpList_store_box rfl 57 _ _ rfl h0 _ rfl rfl 57 _ Z0.out (by kernel_rfl) rfl rfl ?_)
      intro Y hbY hgY
      have HBY := Lib.hid hbY
      have HLY := Lib.hid (stepG ZL.out hwz hgY l0)
      clear hbY hgY
      have hrv : Hid (res = (Lab.none, 11)) := by show _ = _; rw [← hres.out]; exact hres3.out
      go_wp2_with (refine bodyPost_ret (results_box_tmp Try.results26 _ _ h0 _ _ HBY.out _ rfl Try.underlying57 rfl (by kernel_rfl)) rfl ?_)
      exact ⟨by rw [hrv.out]; rfl, HLY.out⟩
end Go.Proofs.Yteidmdakglkkfaa
