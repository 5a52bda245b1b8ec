/- The drive: Do, Da (printed by wip/dogen.py). -/
import Derived.Test.YteidmdakglkkfaaDrDh
namespace Go.Proofs.Yteidmdakglkkfaa
open Go.RowKit
set_option linter.unusedVariables false
set_option maxRecDepth 100000

set_option maxHeartbeats 4000000 in
theorem do_fail (B hd : Nat) (s : DS) (w : World) (h : Dr w B hd s) (hBw : B ≤ w.heap.size) (at_ : Nat) (keep : Int) (a : Option Addr) (l c : Nat) (ha : at_ < 8) (hd0 : s.dead = false) :
    Calls Try.prog 50 #[.pointer (some ⟨hd, 0, none⟩), .agg #[.int .i64 7, .int .i64 at_, .int .i64 keep, .slice a l c]] w (DoPost B hd (0, none) { s with dead := true } w) := by
  obtain ⟨gp, cp, aw, lw, cw, hBh, hb, hp, hw, hat⟩ := h
  obtain ⟨pl, ws, dd⟩ := s
  obtain rfl : dd = false := hd0
  have HB := Lib.hid hb
  have HP := Lib.hid hp
  have HW := Lib.hid hw
  have HA := Lib.hid hat
  clear hb hp hw hat
  go_enter Try.func50, Try.ntmps50
  go_wp2_with fail
  obtain ⟨V, hV⟩ : ∃ V, V = (w.alloc (.cells #[.int .i64 7, .int .i64 at_, .int .i64 keep, .slice a l c] 78)).alloc (.cells #[.int .i64 0, .slice none 0 0] 90) := ⟨_, rfl⟩
  obtain ⟨n, hn⟩ : ∃ n, w.heap.size = n := ⟨_, rfl⟩
  have LV : Below w.heap.size w V := by rw [hV]; exact Below_alloc2 _ _
  have BJ0 : Box V n #[.int .i64 7, .int .i64 at_, .int .i64 keep, .slice a l c] 78 := by rw [hV]; exact (Box.new hn.symm).alloc _
  have BR0 : Box V (n + 1) #[.int .i64 0, .slice none 0 0] 90 := by rw [hV]; exact Box.new (by simp [hn])
  rw [← hV, hn]
  clear hV
  refine (faultD hd gp cp aw lw cw false V 7 at_ keep a l c (HB.out.below LV HB.out.lt) (by omega) (by omega) (by omega)).mono ?_
  rintro e w1 ⟨rfl, L1⟩
  have LW : Below w.heap.size w w1 := LV.trans (L1.mono LV.size)
  have BJ := Lib.hid (BJ0.below L1 BJ0.lt)
  have BR := Lib.hid (BR0.below L1 BR0.lt)
  have BD := Lib.hid (HB.out.below LW HB.out.lt)
  have PD := Lib.hid (HP.out.keeps (Keeps.below [5, 144] LW) (by simp) (by simp))
  have WD := Lib.hid (HW.out.keeps (Keeps.below [5, 140] LW) (by simp) (by simp))
  have S1 := Lib.hid (Spare.ends LV L1 hBw)
  have hB1 : B ≤ w1.heap.size := by have := LW.size; omega
  have hj0 : w1.cell? ⟨n, 0, none⟩ = some (.int .i64 7) := BJ.out.cell 0
  have hr0 : w1.cell? ⟨n + 1, 0, none⟩ = some (.int .i64 0) := BR.out.cell 0
  have hr1 : w1.cell? ⟨n + 1, 1, none⟩ = some (.slice none 0 0) := BR.out.cell 1
  have hf0 : w1.frozen? ⟨n + 1, 0, none⟩ = false := BR.out.free 0
  have hf1 : w1.frozen? ⟨n + 1, 1, none⟩ = false := BR.out.free 1
  rw [show faultOf false 7 = 0 from rfl]
  clear LV BJ0 BR0 L1 HB HP HW
  have q2 : w1.cell? ⟨hd, 2, none⟩ = some (.bool false) := BD.out.cell 2
  have q3 : w1.frozen? ⟨hd, 2, none⟩ = false := BD.out.free 2
  have kd := BD.out.kind
  have BD9 := BD.out.set 2 (.bool true)
  have Kt : ∀ ts : List TypeId, 136 ∉ ts → Keeps ts w1 (w1.setCell ⟨hd, 2, none⟩ (.bool true)) := fun ts hts => Keeps.set _ (fun t ht hk => hts (by rw [← hk.ne kd]; exact ht))
  have S9 : Spare B w (w1.setCell ⟨hd, 2, none⟩ (.bool true)) := S1.out.trans (Spare.set _ hBh kd (.inl rfl))
  have BR9 := BR.out.keeps (Kt [90] (by decide)) (by simp)
  have D9 : Dr (w1.setCell ⟨hd, 2, none⟩ (.bool true)) B hd ⟨pl, ws, true⟩ := ⟨gp, cp, aw, lw, cw, hBh, BD9, PD.out.keeps (Kt [5, 144] (by decide)) (by simp) (by simp), WD.out.keeps (Kt [5, 140] (by decide)) (by simp) (by simp), HA.out⟩
  have HD9 := Lib.hid D9
  have HS9 := Lib.hid S9
  have HBR9 := Lib.hid BR9
  clear D9 S9 Kt BD9 BR9
  go_wp2_with fail
  exact do_end HBR9.out HD9.out HS9.out (by omega) hBw rfl
set_option maxHeartbeats 4000000 in
theorem do_get (B hd : Nat) (s : DS) (w : World) (h : Dr w B hd s) (hBw : B ≤ w.heap.size) (at_ : Nat) (keep : Int) (a : Option Addr) (l c : Nat) (ha : at_ < 8) (hd0 : s.dead = false) :
    Calls Try.prog 50 #[.pointer (some ⟨hd, 0, none⟩), .agg #[.int .i64 2, .int .i64 at_, .int .i64 keep, .slice a l c]] w (DoPost B hd (lookD s at_) s w) := by
  obtain ⟨gp, cp, aw, lw, cw, hBh, hb, hp, hw, hat⟩ := h
  obtain ⟨pl, ws, dd⟩ := s
  obtain rfl : dd = false := hd0
  have HB := Lib.hid hb
  have HP := Lib.hid hp
  have HW := Lib.hid hw
  have HA := Lib.hid hat
  clear hb hp hw hat
  go_enter Try.func50, Try.ntmps50
  go_wp2_with fail
  obtain ⟨V, hV⟩ : ∃ V, V = (w.alloc (.cells #[.int .i64 2, .int .i64 at_, .int .i64 keep, .slice a l c] 78)).alloc (.cells #[.int .i64 0, .slice none 0 0] 90) := ⟨_, rfl⟩
  obtain ⟨n, hn⟩ : ∃ n, w.heap.size = n := ⟨_, rfl⟩
  have LV : Below w.heap.size w V := by rw [hV]; exact Below_alloc2 _ _
  have BJ0 : Box V n #[.int .i64 2, .int .i64 at_, .int .i64 keep, .slice a l c] 78 := by rw [hV]; exact (Box.new hn.symm).alloc _
  have BR0 : Box V (n + 1) #[.int .i64 0, .slice none 0 0] 90 := by rw [hV]; exact Box.new (by simp [hn])
  rw [← hV, hn]
  clear hV
  refine (faultD hd gp cp aw lw cw false V 2 at_ keep a l c (HB.out.below LV HB.out.lt) (by omega) (by omega) (by omega)).mono ?_
  rintro e w1 ⟨rfl, L1⟩
  have LW : Below w.heap.size w w1 := LV.trans (L1.mono LV.size)
  have BJ := Lib.hid (BJ0.below L1 BJ0.lt)
  have BR := Lib.hid (BR0.below L1 BR0.lt)
  have BD := Lib.hid (HB.out.below LW HB.out.lt)
  have PD := Lib.hid (HP.out.keeps (Keeps.below [5, 144] LW) (by simp) (by simp))
  have WD := Lib.hid (HW.out.keeps (Keeps.below [5, 140] LW) (by simp) (by simp))
  have S1 := Lib.hid (Spare.ends LV L1 hBw)
  have hB1 : B ≤ w1.heap.size := by have := LW.size; omega
  have hj0 : w1.cell? ⟨n, 0, none⟩ = some (.int .i64 2) := BJ.out.cell 0
  have hr0 : w1.cell? ⟨n + 1, 0, none⟩ = some (.int .i64 0) := BR.out.cell 0
  have hr1 : w1.cell? ⟨n + 1, 1, none⟩ = some (.slice none 0 0) := BR.out.cell 1
  have hf0 : w1.frozen? ⟨n + 1, 0, none⟩ = false := BR.out.free 0
  have hf1 : w1.frozen? ⟨n + 1, 1, none⟩ = false := BR.out.free 1
  rw [show faultOf false 2 = 0 from rfl]
  clear LV BJ0 BR0 L1 HB HP HW
  have hja : w1.cell? ⟨n, 1, none⟩ = some (.int .i64 at_) := BJ.out.cell 1
  obtain ⟨r, hr⟩ : ∃ r, Hid (lookD ⟨pl, ws, false⟩ at_ = r) := ⟨_, rfl⟩
  rw [hr.out]
  have HG := Lib.hid (getD B hd ⟨pl, ws, false⟩ at_ w1 ⟨gp, cp, aw, lw, cw, hBh, BD.out, PD.out, WD.out, HA.out⟩ ha)
  have HDR := Lib.hid (show Dr w1 B hd ⟨pl, ws, false⟩ from ⟨gp, cp, aw, lw, cw, hBh, BD.out, PD.out, WD.out, HA.out⟩)
  clear BD PD WD HA
  go_wp2_with fail
  refine HG.out.mono ?_
  rintro e w2 ⟨a2, l2, c2, rfl, hrep, hb2⟩
  rw [hr.out] at hrep ⊢
  have hrep' : RepAt w2 r a2 l2 c2 := hrep
  have BR2 := Lib.hid (BR.out.below hb2 BR.out.lt)
  have S2 := Lib.hid (S1.out.trans (Spare.below hb2 hB1))
  have D2 := Lib.hid (HDR.out.keeps (Keeps.below _ hb2))
  have g0 : w2.cell? ⟨n + 1, 0, none⟩ = some (.int .i64 0) := BR2.out.cell 0
  have g1 : w2.cell? ⟨n + 1, 1, none⟩ = some (.slice none 0 0) := BR2.out.cell 1
  have g2 : w2.frozen? ⟨n + 1, 0, none⟩ = false := BR2.out.free 0
  have g3 : w2.frozen? ⟨n + 1, 1, none⟩ = false := BR2.out.free 1
  have HR := Lib.hid hrep'
  clear hrep hrep' hb2 HG HDR hr0 hr1 hf0 hf1 hj0 hja
  go_wp2_with fail
  obtain ⟨h1, h2, h3, h4⟩ := do_wrote BR2.out D2.out S2.out (by omega) hBw (.int .i64 r.1) (.slice a2 l2 c2)
  exact do_out rfl h1 (by rw [hr.out]) (by rw [hr.out]; exact HR.out.keeps h4) h2 h3
set_option maxHeartbeats 4000000 in
theorem do_flush (B hd : Nat) (s : DS) (w : World) (h : Dr w B hd s) (hBw : B ≤ w.heap.size) (at_ : Nat) (keep : Int) (a : Option Addr) (l c : Nat) (ha : at_ < 8) (hd0 : s.dead = false) :
    Calls Try.prog 50 #[.pointer (some ⟨hd, 0, none⟩), .agg #[.int .i64 3, .int .i64 at_, .int .i64 keep, .slice a l c]] w (DoPost B hd (0, none) ⟨settleN (fun _ => true) s.plate s.waits s.waits.length, [], s.dead⟩ w) := by
  obtain ⟨gp, cp, aw, lw, cw, hBh, hb, hp, hw, hat⟩ := h
  obtain ⟨pl, ws, dd⟩ := s
  obtain rfl : dd = false := hd0
  have HB := Lib.hid hb
  have HP := Lib.hid hp
  have HW := Lib.hid hw
  have HA := Lib.hid hat
  clear hb hp hw hat
  go_enter Try.func50, Try.ntmps50
  go_wp2_with fail
  obtain ⟨V, hV⟩ : ∃ V, V = (w.alloc (.cells #[.int .i64 3, .int .i64 at_, .int .i64 keep, .slice a l c] 78)).alloc (.cells #[.int .i64 0, .slice none 0 0] 90) := ⟨_, rfl⟩
  obtain ⟨n, hn⟩ : ∃ n, w.heap.size = n := ⟨_, rfl⟩
  have LV : Below w.heap.size w V := by rw [hV]; exact Below_alloc2 _ _
  have BJ0 : Box V n #[.int .i64 3, .int .i64 at_, .int .i64 keep, .slice a l c] 78 := by rw [hV]; exact (Box.new hn.symm).alloc _
  have BR0 : Box V (n + 1) #[.int .i64 0, .slice none 0 0] 90 := by rw [hV]; exact Box.new (by simp [hn])
  rw [← hV, hn]
  clear hV
  refine (faultD hd gp cp aw lw cw false V 3 at_ keep a l c (HB.out.below LV HB.out.lt) (by omega) (by omega) (by omega)).mono ?_
  rintro e w1 ⟨rfl, L1⟩
  have LW : Below w.heap.size w w1 := LV.trans (L1.mono LV.size)
  have BJ := Lib.hid (BJ0.below L1 BJ0.lt)
  have BR := Lib.hid (BR0.below L1 BR0.lt)
  have BD := Lib.hid (HB.out.below LW HB.out.lt)
  have PD := Lib.hid (HP.out.keeps (Keeps.below [5, 144] LW) (by simp) (by simp))
  have WD := Lib.hid (HW.out.keeps (Keeps.below [5, 140] LW) (by simp) (by simp))
  have S1 := Lib.hid (Spare.ends LV L1 hBw)
  have hB1 : B ≤ w1.heap.size := by have := LW.size; omega
  have hj0 : w1.cell? ⟨n, 0, none⟩ = some (.int .i64 3) := BJ.out.cell 0
  have hr0 : w1.cell? ⟨n + 1, 0, none⟩ = some (.int .i64 0) := BR.out.cell 0
  have hr1 : w1.cell? ⟨n + 1, 1, none⟩ = some (.slice none 0 0) := BR.out.cell 1
  have hf0 : w1.frozen? ⟨n + 1, 0, none⟩ = false := BR.out.free 0
  have hf1 : w1.frozen? ⟨n + 1, 1, none⟩ = false := BR.out.free 1
  rw [show faultOf false 3 = 0 from rfl]
  clear LV BJ0 BR0 L1 HB HP HW
  have HDR := Lib.hid (show Dr w1 B hd ⟨pl, ws, false⟩ from ⟨gp, cp, aw, lw, cw, hBh, BD.out, PD.out, WD.out, HA.out⟩)
  clear BD PD WD HA
  go_wp2_with fail
  refine (settleAll B hd _ w1 HDR.out hB1 (fun _ => true) (fun k w' => so_all k w')).mono ?_
  rintro e w2 ⟨rfl, hdr, hsp⟩
  have BR2 := Lib.hid (BR.out.keeps (hsp.2 [90] (by decide) (by decide) (by decide)) (by simp))
  have S2 := Lib.hid (S1.out.trans hsp)
  have D2 := Lib.hid hdr
  have g0 : w2.cell? ⟨n + 1, 0, none⟩ = some (.int .i64 0) := BR2.out.cell 0
  have g1 : w2.cell? ⟨n + 1, 1, none⟩ = some (.slice none 0 0) := BR2.out.cell 1
  have g2 : w2.frozen? ⟨n + 1, 0, none⟩ = false := BR2.out.free 0
  have g3 : w2.frozen? ⟨n + 1, 1, none⟩ = false := BR2.out.free 1
  clear hdr hsp hr0 hr1 hf0 hf1 hj0
  go_wp2_with fail
  exact do_end BR2.out D2.out S2.out (by omega) hBw rfl
set_option maxHeartbeats 4000000 in
theorem do_crash (B hd : Nat) (s : DS) (w : World) (h : Dr w B hd s) (hBw : B ≤ w.heap.size) (at_ : Nat) (keep : Int) (a : Option Addr) (l c : Nat) (ha : at_ < 8) (hd0 : s.dead = false) :
    Calls Try.prog 50 #[.pointer (some ⟨hd, 0, none⟩), .agg #[.int .i64 4, .int .i64 at_, .int .i64 keep, .slice a l c]] w (DoPost B hd (0, none) ⟨settleN (bitSet keep) s.plate s.waits s.waits.length, [], s.dead⟩ w) := by
  obtain ⟨gp, cp, aw, lw, cw, hBh, hb, hp, hw, hat⟩ := h
  obtain ⟨pl, ws, dd⟩ := s
  obtain rfl : dd = false := hd0
  have HB := Lib.hid hb
  have HP := Lib.hid hp
  have HW := Lib.hid hw
  have HA := Lib.hid hat
  clear hb hp hw hat
  go_enter Try.func50, Try.ntmps50
  go_wp2_with fail
  obtain ⟨V, hV⟩ : ∃ V, V = (w.alloc (.cells #[.int .i64 4, .int .i64 at_, .int .i64 keep, .slice a l c] 78)).alloc (.cells #[.int .i64 0, .slice none 0 0] 90) := ⟨_, rfl⟩
  obtain ⟨n, hn⟩ : ∃ n, w.heap.size = n := ⟨_, rfl⟩
  have LV : Below w.heap.size w V := by rw [hV]; exact Below_alloc2 _ _
  have BJ0 : Box V n #[.int .i64 4, .int .i64 at_, .int .i64 keep, .slice a l c] 78 := by rw [hV]; exact (Box.new hn.symm).alloc _
  have BR0 : Box V (n + 1) #[.int .i64 0, .slice none 0 0] 90 := by rw [hV]; exact Box.new (by simp [hn])
  rw [← hV, hn]
  clear hV
  refine (faultD hd gp cp aw lw cw false V 4 at_ keep a l c (HB.out.below LV HB.out.lt) (by omega) (by omega) (by omega)).mono ?_
  rintro e w1 ⟨rfl, L1⟩
  have LW : Below w.heap.size w w1 := LV.trans (L1.mono LV.size)
  have BJ := Lib.hid (BJ0.below L1 BJ0.lt)
  have BR := Lib.hid (BR0.below L1 BR0.lt)
  have BD := Lib.hid (HB.out.below LW HB.out.lt)
  have PD := Lib.hid (HP.out.keeps (Keeps.below [5, 144] LW) (by simp) (by simp))
  have WD := Lib.hid (HW.out.keeps (Keeps.below [5, 140] LW) (by simp) (by simp))
  have S1 := Lib.hid (Spare.ends LV L1 hBw)
  have hB1 : B ≤ w1.heap.size := by have := LW.size; omega
  have hj0 : w1.cell? ⟨n, 0, none⟩ = some (.int .i64 4) := BJ.out.cell 0
  have hr0 : w1.cell? ⟨n + 1, 0, none⟩ = some (.int .i64 0) := BR.out.cell 0
  have hr1 : w1.cell? ⟨n + 1, 1, none⟩ = some (.slice none 0 0) := BR.out.cell 1
  have hf0 : w1.frozen? ⟨n + 1, 0, none⟩ = false := BR.out.free 0
  have hf1 : w1.frozen? ⟨n + 1, 1, none⟩ = false := BR.out.free 1
  rw [show faultOf false 4 = 0 from rfl]
  clear LV BJ0 BR0 L1 HB HP HW
  have HDR := Lib.hid (show Dr w1 B hd ⟨pl, ws, false⟩ from ⟨gp, cp, aw, lw, cw, hBh, BD.out, PD.out, WD.out, HA.out⟩)
  clear BD PD WD HA
  go_wp2_with fail
  refine (settleSome B hd _ w1 HDR.out hB1 n _ BJ.out (bitSet keep) (fun k w' hk hb => so_some keep _ _ _ k n w' hk hb)).mono ?_
  rintro e w2 ⟨rfl, hdr, hsp⟩
  have BR2 := Lib.hid (BR.out.keeps (hsp.2 [90] (by decide) (by decide) (by decide)) (by simp))
  have S2 := Lib.hid (S1.out.trans hsp)
  have D2 := Lib.hid hdr
  have g0 : w2.cell? ⟨n + 1, 0, none⟩ = some (.int .i64 0) := BR2.out.cell 0
  have g1 : w2.cell? ⟨n + 1, 1, none⟩ = some (.slice none 0 0) := BR2.out.cell 1
  have g2 : w2.frozen? ⟨n + 1, 0, none⟩ = false := BR2.out.free 0
  have g3 : w2.frozen? ⟨n + 1, 1, none⟩ = false := BR2.out.free 1
  clear hdr hsp hr0 hr1 hf0 hf1 hj0
  go_wp2_with fail
  exact do_end BR2.out D2.out S2.out (by omega) hBw rfl
set_option maxHeartbeats 4000000 in
theorem do_break (B hd : Nat) (s : DS) (w : World) (h : Dr w B hd s) (hBw : B ≤ w.heap.size) (at_ : Nat) (keep : Int) (a : Option Addr) (l c : Nat) (ha : at_ < 8) (hd0 : s.dead = false) :
    Calls Try.prog 50 #[.pointer (some ⟨hd, 0, none⟩), .agg #[.int .i64 5, .int .i64 at_, .int .i64 keep, .slice a l c]] w (DoPost B hd (0, none) { s with plate := s.plate.set at_ ⟨(s.plate.getD at_ default).data, true⟩ } w) := by
  obtain ⟨gp, cp, aw, lw, cw, hBh, hb, hp, hw, hat⟩ := h
  obtain ⟨pl, ws, dd⟩ := s
  obtain rfl : dd = false := hd0
  have HB := Lib.hid hb
  have HP := Lib.hid hp
  have HW := Lib.hid hw
  have HA := Lib.hid hat
  clear hb hp hw hat
  go_enter Try.func50, Try.ntmps50
  go_wp2_with fail
  obtain ⟨V, hV⟩ : ∃ V, V = (w.alloc (.cells #[.int .i64 5, .int .i64 at_, .int .i64 keep, .slice a l c] 78)).alloc (.cells #[.int .i64 0, .slice none 0 0] 90) := ⟨_, rfl⟩
  obtain ⟨n, hn⟩ : ∃ n, w.heap.size = n := ⟨_, rfl⟩
  have LV : Below w.heap.size w V := by rw [hV]; exact Below_alloc2 _ _
  have BJ0 : Box V n #[.int .i64 5, .int .i64 at_, .int .i64 keep, .slice a l c] 78 := by rw [hV]; exact (Box.new hn.symm).alloc _
  have BR0 : Box V (n + 1) #[.int .i64 0, .slice none 0 0] 90 := by rw [hV]; exact Box.new (by simp [hn])
  rw [← hV, hn]
  clear hV
  refine (faultD hd gp cp aw lw cw false V 5 at_ keep a l c (HB.out.below LV HB.out.lt) (by omega) (by omega) (by omega)).mono ?_
  rintro e w1 ⟨rfl, L1⟩
  have LW : Below w.heap.size w w1 := LV.trans (L1.mono LV.size)
  have BJ := Lib.hid (BJ0.below L1 BJ0.lt)
  have BR := Lib.hid (BR0.below L1 BR0.lt)
  have BD := Lib.hid (HB.out.below LW HB.out.lt)
  have PD := Lib.hid (HP.out.keeps (Keeps.below [5, 144] LW) (by simp) (by simp))
  have WD := Lib.hid (HW.out.keeps (Keeps.below [5, 140] LW) (by simp) (by simp))
  have S1 := Lib.hid (Spare.ends LV L1 hBw)
  have hB1 : B ≤ w1.heap.size := by have := LW.size; omega
  have hj0 : w1.cell? ⟨n, 0, none⟩ = some (.int .i64 5) := BJ.out.cell 0
  have hr0 : w1.cell? ⟨n + 1, 0, none⟩ = some (.int .i64 0) := BR.out.cell 0
  have hr1 : w1.cell? ⟨n + 1, 1, none⟩ = some (.slice none 0 0) := BR.out.cell 1
  have hf0 : w1.frozen? ⟨n + 1, 0, none⟩ = false := BR.out.free 0
  have hf1 : w1.frozen? ⟨n + 1, 1, none⟩ = false := BR.out.free 1
  rw [show faultOf false 5 = 0 from rfl]
  clear LV BJ0 BR0 L1 HB HP HW
  have hja : w1.cell? ⟨n, 1, none⟩ = some (.int .i64 at_) := BJ.out.cell 1
  have h0 : w1.cell? ⟨hd, 0, none⟩ = some (.slice (some ⟨gp, 0, none⟩) 8 cp) := BD.out.cell 0
  have hcp := PD.out.hmax
  have hlp := PD.out.hle
  unfold maxLen at hcp
  obtain ⟨gp', vs, heq, hBp, hpl, ⟨y, hy, hya⟩, hcp2⟩ := PD.out.get at_ ha
  obtain rfl : gp' = gp := by injection heq with heq; injection heq with h1 _; exact h1.symm
  obtain ⟨ay, ly, cy, rfl, _⟩ := hya
  have hyg : pl.getD at_ default = y := by simp [List.getD, hy]
  have o1 : w1.cell? ⟨gp', at_ * 2 + 1, none⟩ = some (.bool y.broken) := hcp2 1 (by decide)
  have kp := PD.out.kind gp' rfl
  have f1 : w1.frozen? ⟨gp', at_ * 2 + 1, none⟩ = false := by obtain ⟨_, _, _, ho, _⟩ := PD.out; exact World.ownsRow.frozenAt ho _
  have i8 : (at_ : Int) < 8 := by omega
  have P2 := SOwn.put_snd (v := .bool true) (x := (⟨y.data, true⟩ : Sec)) rfl PD.out at_ ha (fun z u v0 hz F hat2 => by
    obtain ⟨a9, l9, c9, he, hd9⟩ := hat2
    rw [hy] at hz
    injection hz with hz
    subst hz
    injection he with he _
    exact ⟨a9, l9, c9, by rw [he], hd9⟩)
  have Kt : ∀ ts : List TypeId, 144 ∉ ts → Keeps ts w1 (w1.setCell ⟨gp', at_ * 2 + 1, none⟩ (.bool true)) := fun ts hts => Keeps.set _ (fun t ht hk => hts (by rw [← hk.ne kp]; exact ht))
  have S9 : Spare B w (w1.setCell ⟨gp', at_ * 2 + 1, none⟩ (.bool true)) := S1.out.trans (Spare.set _ hBp kp (.inr (.inl rfl)))
  have BR9 := BR.out.keeps (Kt [90] (by decide)) (by simp)
  have D9 : Dr (w1.setCell ⟨gp', at_ * 2 + 1, none⟩ (.bool true)) B hd ⟨pl.set at_ ⟨y.data, true⟩, ws, false⟩ := ⟨gp', cp, aw, lw, cw, hBh, BD.out.keeps (Kt [136] (by decide)) (by simp), P2.mono (Nat.le_refl _) (fun b hb => (Kt [5] (by decide)).kind (by simp) hb), WD.out.keeps (Kt [5, 140] (by decide)) (by simp) (by simp), HA.out⟩
  have D9' := D9.keeps (Keeps.drew _ (w1.setCell ⟨gp', at_ * 2 + 1, none⟩ (.bool true)))
  have S9' := S9.drew
  have BR9' := BR9.drew
  obtain ⟨W9, hW9⟩ : ∃ W, W = (w1.setCell ⟨gp', at_ * 2 + 1, none⟩ (.bool true)).drew := ⟨_, rfl⟩
  rw [← hW9] at S9' BR9' D9'
  have HD9 := Lib.hid D9'
  have HS9 := Lib.hid S9'
  have HBR9 := Lib.hid BR9'
  have HW9 := Lib.hid hW9
  have g0 : W9.cell? ⟨n + 1, 0, none⟩ = some (.int .i64 0) := HBR9.out.cell 0
  have g1 : W9.cell? ⟨n + 1, 1, none⟩ = some (.slice none 0 0) := HBR9.out.cell 1
  have g2 : W9.frozen? ⟨n + 1, 0, none⟩ = false := HBR9.out.free 0
  have g3 : W9.frozen? ⟨n + 1, 1, none⟩ = false := HBR9.out.free 1
  clear D9 S9 Kt BR9 P2 hcp2 BR hr0 hr1 hf0 hf1 hW9 D9' S9' BR9'
  go_wp2
  go_region
  rw [← HW9.out]
  go_wp2_with fail
  have h9 : Dr W9 B hd ⟨pl.set at_ ⟨(pl.getD at_ default).data, true⟩, ws, false⟩ := by
    rw [hyg]; exact HD9.out
  exact do_end HBR9.out h9 HS9.out (by omega) hBw rfl
end Go.Proofs.Yteidmdakglkkfaa
