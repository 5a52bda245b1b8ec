/- The drive: Do, Dd (printed by wip/dogen.py). -/
import Derived.Test.YteidmdakglkkfaaDrDh
namespace Go.Proofs.Yteidmdakglkkfaa
open Go.RowKit
set_option linter.unusedVariables false
set_option maxRecDepth 100000

set_option maxHeartbeats 4000000 in
theorem do_renew (B hd : Nat) (s : DS) (w : World) (h : Dr w B hd s) (hBw : B ≤ w.heap.size) (at_ : Nat) (keep : Int) (a : Option Addr) (l c : Nat) (ha : at_ < 8) :
    Calls Try.prog 50 #[.pointer (some ⟨hd, 0, none⟩), .agg #[.int .i64 8, .int .i64 at_, .int .i64 keep, .slice a l c]] w (DoPost B hd (0, none) DS.new w) := by
  obtain ⟨gp, cp, aw, lw, cw, hBh, hb, hp, hw, hat⟩ := h
  obtain ⟨pl, ws, dd⟩ := s

  have HB := Lib.hid hb
  have HP := Lib.hid hp
  have HW := Lib.hid hw
  have HA := Lib.hid hat
  clear hb hp hw hat
  go_enter Try.func50, Try.ntmps50
  go_wp2_with fail
  obtain ⟨V, hV⟩ : ∃ V, V = (w.alloc (.cells #[.int .i64 8, .int .i64 at_, .int .i64 keep, .slice a l c] 78)).alloc (.cells #[.int .i64 0, .slice none 0 0] 90) := ⟨_, rfl⟩
  obtain ⟨n, hn⟩ : ∃ n, w.heap.size = n := ⟨_, rfl⟩
  have LV : Below w.heap.size w V := by rw [hV]; exact Below_alloc2 _ _
  have BJ0 : Box V n #[.int .i64 8, .int .i64 at_, .int .i64 keep, .slice a l c] 78 := by rw [hV]; exact (Box.new hn.symm).alloc _
  have BR0 : Box V (n + 1) #[.int .i64 0, .slice none 0 0] 90 := by rw [hV]; exact Box.new (by simp [hn])
  rw [← hV, hn]
  clear hV
  refine (faultD hd gp cp aw lw cw dd V 8 at_ keep a l c (HB.out.below LV HB.out.lt) (by omega) (by omega) (by omega)).mono ?_
  rintro e w1 ⟨rfl, L1⟩
  have LW : Below w.heap.size w w1 := LV.trans (L1.mono LV.size)
  have BJ := Lib.hid (BJ0.below L1 BJ0.lt)
  have BR := Lib.hid (BR0.below L1 BR0.lt)
  have BD := Lib.hid (HB.out.below LW HB.out.lt)
  have PD := Lib.hid (HP.out.keeps (Keeps.below [5, 144] LW) (by simp) (by simp))
  have WD := Lib.hid (HW.out.keeps (Keeps.below [5, 140] LW) (by simp) (by simp))
  have S1 := Lib.hid (Spare.ends LV L1 hBw)
  have hB1 : B ≤ w1.heap.size := by have := LW.size; omega
  have hj0 : w1.cell? ⟨n, 0, none⟩ = some (.int .i64 8) := BJ.out.cell 0
  have hr0 : w1.cell? ⟨n + 1, 0, none⟩ = some (.int .i64 0) := BR.out.cell 0
  have hr1 : w1.cell? ⟨n + 1, 1, none⟩ = some (.slice none 0 0) := BR.out.cell 1
  have hf0 : w1.frozen? ⟨n + 1, 0, none⟩ = false := BR.out.free 0
  have hf1 : w1.frozen? ⟨n + 1, 1, none⟩ = false := BR.out.free 1
  rw [show faultOf dd 8 = 0 from by unfold faultOf; rw [if_neg (fun h => h.2 rfl)]]
  clear LV BJ0 BR0 L1 HB HP HW
  have h0 : w1.cell? ⟨hd, 0, none⟩ = some (.slice (some ⟨gp, 0, none⟩) 8 cp) := BD.out.cell 0
  have h1 : w1.cell? ⟨hd, 1, none⟩ = some (.slice aw lw cw) := BD.out.cell 1
  have h2 : w1.cell? ⟨hd, 2, none⟩ = some (.bool dd) := BD.out.cell 2
  go_wp2_with fail
  refine (newD w1).mono ?_
  rintro e w2 ⟨h', rfl, ⟨gp', cp', aw', lw', cw', hBh', hb', hp', hw', hat'⟩, hb2⟩
  have BD2 := BD.out.below hb2 BD.out.lt
  have BR2 := BR.out.below hb2 BR.out.lt
  have S2 := S1.out.trans (Spare.below hb2 hB1)
  have e0 : w2.cell? ⟨h', 0, none⟩ = some (.slice (some ⟨gp', 0, none⟩) 8 cp') := hb'.cell 0
  have e1 : w2.cell? ⟨h', 1, none⟩ = some (.slice aw' lw' cw') := hb'.cell 1
  have e2 : w2.cell? ⟨h', 2, none⟩ = some (.bool false) := hb'.cell 2
  have d0 : w2.cell? ⟨hd, 0, none⟩ = some (.slice (some ⟨gp, 0, none⟩) 8 cp) := BD2.cell 0
  have d1 : w2.cell? ⟨hd, 1, none⟩ = some (.slice aw lw cw) := BD2.cell 1
  have d2 : w2.cell? ⟨hd, 2, none⟩ = some (.bool dd) := BD2.cell 2
  have f0 : w2.frozen? ⟨hd, 0, none⟩ = false := BD2.free 0
  have f1 : w2.frozen? ⟨hd, 1, none⟩ = false := BD2.free 1
  have f2 : w2.frozen? ⟨hd, 2, none⟩ = false := BD2.free 2
  have kd := BD2.kind
  have HP2 := Lib.hid hp'
  have HW2 := Lib.hid hw'
  have HAT := Lib.hid hat'
  have HBD2 := Lib.hid BD2
  have HBR2 := Lib.hid BR2
  have HS2 := Lib.hid S2
  clear hp' hw' hat' hb' BD2 BR2 S2 BD BR PD WD HA hr0 hr1 hf0 hf1 h0 h1 h2 hj0
  go_wp2_with (refine wpList_store_box rfl 136 _ _ rfl hd #[.slice (some ⟨gp', 0, none⟩) 8 cp', .slice aw' lw' cw', .bool false] rfl rfl 136 _ HBD2.out (by kernel_rfl) rfl rfl ?_)
  intro w3 hb3 hg3
  have K3 : ∀ ts : List TypeId, 136 ∉ ts → Keeps ts w2 w3 := fun ts hts => Keeps.grown hg3 (fun k hk t ht hkk => hts (by injection hk with hk; subst hk; rw [← hkk.ne kd]; exact ht))
  have hs12 := hb2.size
  have S3 : Spare B w2 w3 := ⟨(Below.refl _ _).grown hg3 (by omega) (fun k hk => by injection hk with hk; omega), fun ts h1 _ _ => K3 ts h1⟩
  have D3 : Dr w3 B hd DS.new := ⟨gp', cp', aw', lw', cw', hBh, hb3, (HP2.out.mono hB1 (fun _ h => h)).keeps (K3 [5, 144] (by decide)) (by simp) (by simp), (HW2.out.mono hB1 (fun _ h => h)).keeps (K3 [5, 140] (by decide)) (by simp) (by simp), HAT.out⟩
  have BR3 := HBR2.out.keeps (K3 [90] (by decide)) (by simp)
  have g0 : w3.cell? ⟨n + 1, 0, none⟩ = some (.int .i64 0) := BR3.cell 0
  have g1 : w3.cell? ⟨n + 1, 1, none⟩ = some (.slice none 0 0) := BR3.cell 1
  have g2 : w3.frozen? ⟨n + 1, 0, none⟩ = false := BR3.free 0
  have g3 : w3.frozen? ⟨n + 1, 1, none⟩ = false := BR3.free 1
  have HD9 := Lib.hid D3
  have HS9 := Lib.hid (HS2.out.trans S3)
  have HBR9 := Lib.hid BR3
  clear D3 S3 BR3 K3 hg3 hb3 e0 e1 e2 d0 d1 d2 f0 f1 f2
  go_wp2_with fail
  exact do_end HBR9.out HD9.out HS9.out (by omega) hBw rfl
set_option maxHeartbeats 4000000 in
theorem do_dead (B hd : Nat) (s : DS) (w : World) (h : Dr w B hd s) (hBw : B ≤ w.heap.size) (at_ : Nat) (keep : Int) (a : Option Addr) (l c : Nat) (ha : at_ < 8) (kind : Int) (hk : 1 ≤ kind ∧ kind ≤ 7) (hl : kind = 1 ∨ kind = 6 → l = 128) (hd0 : s.dead = true) :
    Calls Try.prog 50 #[.pointer (some ⟨hd, 0, none⟩), .agg #[.int .i64 kind, .int .i64 at_, .int .i64 keep, .slice a l c]] w (DoPost B hd (13, none) s w) := by
  obtain ⟨gp, cp, aw, lw, cw, hBh, hb, hp, hw, hat⟩ := h
  obtain ⟨pl, ws, dd⟩ := s
  obtain rfl : dd = true := hd0
  have HB := Lib.hid hb
  have HP := Lib.hid hp
  have HW := Lib.hid hw
  have HA := Lib.hid hat
  clear hb hp hw hat
  go_enter Try.func50, Try.ntmps50
  go_wp2_with fail
  obtain ⟨V, hV⟩ : ∃ V, V = (w.alloc (.cells #[.int .i64 kind, .int .i64 at_, .int .i64 keep, .slice a l c] 78)).alloc (.cells #[.int .i64 0, .slice none 0 0] 90) := ⟨_, rfl⟩
  obtain ⟨n, hn⟩ : ∃ n, w.heap.size = n := ⟨_, rfl⟩
  have LV : Below w.heap.size w V := by rw [hV]; exact Below_alloc2 _ _
  have BJ0 : Box V n #[.int .i64 kind, .int .i64 at_, .int .i64 keep, .slice a l c] 78 := by rw [hV]; exact (Box.new hn.symm).alloc _
  have BR0 : Box V (n + 1) #[.int .i64 0, .slice none 0 0] 90 := by rw [hV]; exact Box.new (by simp [hn])
  rw [← hV, hn]
  clear hV
  refine (faultD hd gp cp aw lw cw true V kind at_ keep a l c (HB.out.below LV HB.out.lt) (by omega) (by omega) (by omega)).mono ?_
  rintro e w1 ⟨rfl, L1⟩
  have LW : Below w.heap.size w w1 := LV.trans (L1.mono LV.size)
  have BJ := Lib.hid (BJ0.below L1 BJ0.lt)
  have BR := Lib.hid (BR0.below L1 BR0.lt)
  have BD := Lib.hid (HB.out.below LW HB.out.lt)
  have PD := Lib.hid (HP.out.keeps (Keeps.below [5, 144] LW) (by simp) (by simp))
  have WD := Lib.hid (HW.out.keeps (Keeps.below [5, 140] LW) (by simp) (by simp))
  have S1 := Lib.hid (Spare.ends LV L1 hBw)
  have hB1 : B ≤ w1.heap.size := by have := LW.size; omega
  have hj0 : w1.cell? ⟨n, 0, none⟩ = some (.int .i64 kind) := BJ.out.cell 0
  have hr0 : w1.cell? ⟨n + 1, 0, none⟩ = some (.int .i64 0) := BR.out.cell 0
  have hr1 : w1.cell? ⟨n + 1, 1, none⟩ = some (.slice none 0 0) := BR.out.cell 1
  have hf0 : w1.frozen? ⟨n + 1, 0, none⟩ = false := BR.out.free 0
  have hf1 : w1.frozen? ⟨n + 1, 1, none⟩ = false := BR.out.free 1
  rw [show faultOf true kind = 13 from by unfold faultOf; rw [if_pos ⟨rfl, by omega⟩]]
  clear LV BJ0 BR0 L1 HB HP HW
  have q13 : ((13 : Int) != 0) = true := by decide
  have HDR := Lib.hid (show Dr w1 B hd ⟨pl, ws, true⟩ from ⟨gp, cp, aw, lw, cw, hBh, BD.out, PD.out, WD.out, HA.out⟩)
  clear BD PD WD HA
  go_wp2_with fail
  obtain ⟨h1, h2, h3, h4⟩ := do_wrote BR.out HDR.out S1.out (by omega) hBw (.int .i64 13) (.slice none 0 0)
  exact do_out rfl h1 rfl (.inl ⟨rfl, rfl, rfl, rfl⟩) h2 h3
end Go.Proofs.Yteidmdakglkkfaa
