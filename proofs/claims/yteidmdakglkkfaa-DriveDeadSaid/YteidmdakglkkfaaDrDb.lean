/- The drive: Do, Db (printed by wip/dogen.py). -/
import Derived.Test.YteidmdakglkkfaaDrDh
namespace Go.Proofs.Yteidmdakglkkfaa
open Go.RowKit
set_option linter.unusedVariables false
set_option maxRecDepth 100000

set_option maxHeartbeats 4000000 in
theorem do_rot (B hd : Nat) (s : DS) (w : World) (h : Dr w B hd s) (hBw : B ≤ w.heap.size) (at_ : Nat) (keep : Int) (a : Option Addr) (l c : Nat) (ha : at_ < 8) (xs : List Int) (hx : Row .u8 w a l c xs) (hl : l = 128) (hd0 : s.dead = false) :
    Calls Try.prog 50 #[.pointer (some ⟨hd, 0, none⟩), .agg #[.int .i64 6, .int .i64 at_, .int .i64 keep, .slice a l c]] w (DoPost B hd (0, none) { s with plate := s.plate.set at_ ⟨some xs, false⟩ } w) := by
  obtain ⟨gp, cp, aw, lw, cw, hBh, hb, hp, hw, hat⟩ := h
  obtain ⟨pl, ws, dd⟩ := s
  obtain rfl : dd = false := hd0
  subst hl
  have HX := Lib.hid hx
  have hwf := hx.hwf
  have hxl := hx.hlen
  obtain ⟨p, rfl⟩ : ∃ p, a = some p := by
    rcases hx.hat with h0 | ⟨b, off, ha, _⟩
    · omega
    · exact ⟨_, ha⟩
  clear hx
  have HB := Lib.hid hb
  have HP := Lib.hid hp
  have HW := Lib.hid hw
  have HA := Lib.hid hat
  clear hb hp hw hat
  go_enter Try.func50, Try.ntmps50
  go_wp2_with fail
  obtain ⟨V, hV⟩ : ∃ V, V = (w.alloc (.cells #[.int .i64 6, .int .i64 at_, .int .i64 keep, .slice (some p) 128 c] 78)).alloc (.cells #[.int .i64 0, .slice none 0 0] 90) := ⟨_, rfl⟩
  obtain ⟨n, hn⟩ : ∃ n, w.heap.size = n := ⟨_, rfl⟩
  have LV : Below w.heap.size w V := by rw [hV]; exact Below_alloc2 _ _
  have BJ0 : Box V n #[.int .i64 6, .int .i64 at_, .int .i64 keep, .slice (some p) 128 c] 78 := by rw [hV]; exact (Box.new hn.symm).alloc _
  have BR0 : Box V (n + 1) #[.int .i64 0, .slice none 0 0] 90 := by rw [hV]; exact Box.new (by simp [hn])
  rw [← hV, hn]
  clear hV
  refine (faultD hd gp cp aw lw cw false V 6 at_ keep (some p) 128 c (HB.out.below LV HB.out.lt) (by omega) (by omega) (by omega)).mono ?_
  rintro e w1 ⟨rfl, L1⟩
  have LW : Below w.heap.size w w1 := LV.trans (L1.mono LV.size)
  have BJ := Lib.hid (BJ0.below L1 BJ0.lt)
  have BR := Lib.hid (BR0.below L1 BR0.lt)
  have BD := Lib.hid (HB.out.below LW HB.out.lt)
  have PD := Lib.hid (HP.out.keeps (Keeps.below [5, 144] LW) (by simp) (by simp))
  have WD := Lib.hid (HW.out.keeps (Keeps.below [5, 140] LW) (by simp) (by simp))
  have S1 := Lib.hid (Spare.ends LV L1 hBw)
  have hB1 : B ≤ w1.heap.size := by have := LW.size; omega
  have hj0 : w1.cell? ⟨n, 0, none⟩ = some (.int .i64 6) := BJ.out.cell 0
  have hr0 : w1.cell? ⟨n + 1, 0, none⟩ = some (.int .i64 0) := BR.out.cell 0
  have hr1 : w1.cell? ⟨n + 1, 1, none⟩ = some (.slice none 0 0) := BR.out.cell 1
  have hf0 : w1.frozen? ⟨n + 1, 0, none⟩ = false := BR.out.free 0
  have hf1 : w1.frozen? ⟨n + 1, 1, none⟩ = false := BR.out.free 1
  rw [show faultOf false 6 = 0 from rfl]
  clear LV BJ0 BR0 L1 HB HP HW
  have hja : w1.cell? ⟨n, 1, none⟩ = some (.int .i64 at_) := BJ.out.cell 1
  have hjd : w1.cell? ⟨n, 3, none⟩ = some (.slice (some p) 128 c) := BJ.out.cell 3
  have h0 : w1.cell? ⟨hd, 0, none⟩ = some (.slice (some ⟨gp, 0, none⟩) 8 cp) := BD.out.cell 0
  have hcp := PD.out.hmax
  have hlp := PD.out.hle
  unfold maxLen at hcp
  have XR := Lib.hid (HX.out.below LW)
  obtain ⟨gp', vs, heq, hBp, hpl, ⟨y, hy, hya⟩, hcp2⟩ := PD.out.get at_ ha
  obtain rfl : gp' = gp := by injection heq with heq; injection heq with h1 _; exact h1.symm
  obtain ⟨ay, ly, cy, rfl, _⟩ := hya
  have o0 : w1.cell? ⟨gp', at_ * 2, none⟩ = some (.slice ay ly cy) := hcp2 0 (by decide)
  have o1 : w1.cell? ⟨gp', at_ * 2 + 1, none⟩ = some (.bool y.broken) := hcp2 1 (by decide)
  have i8 : (at_ : Int) < 8 := by omega
  have HCL : Hid (∀ w', Below w1.heap.size w1 w' → Calls Try.prog 58 #[.slice (some p) 128 c] w' fun e w'' => ∃ g c9, e = .returned (.slice (some ⟨g, 0, none⟩) 128 c9) ∧ Hid (Own w'' w1.heap.size 5 1 (some ⟨g, 0, none⟩) 128 c9 (xs.map (.int .u8))) ∧ Below w1.heap.size w1 w'') := by
    intro w' hb
    exact (cloneB p 128 c xs w' (XR.out.below hb) (by decide) (by decide)).mono fun e w'' ⟨g, c9, h1, h2, h3⟩ => ⟨g, c9, h1, h2.mono hb.size, hb.trans (h3.mono hb.size)⟩
  have KS : Hid (∀ w', Below w1.heap.size w1 w' → (w'.cell? ⟨hd, 0, none⟩ = some (.slice (some ⟨gp', 0, none⟩) 8 cp) ∧ w'.cell? ⟨n, 1, none⟩ = some (.int .i64 at_) ∧ w'.cell? ⟨n, 3, none⟩ = some (.slice (some p) 128 c) ∧ w'.cell? ⟨gp', at_ * 2, none⟩ = some (.slice ay ly cy) ∧ w'.cell? ⟨gp', at_ * 2 + 1, none⟩ = some (.bool y.broken) ∧ w'.frozen? ⟨gp', at_ * 2, none⟩ = false ∧ w'.frozen? ⟨gp', at_ * 2 + 1, none⟩ = false)) := by
    intro w' hl
    have kc : ∀ {p : Addr} {v : Value}, w1.cell? p = some v → w'.cell? p = some v := fun h => (hl.cell (World.block_lt_of_cell? _ _ h)).trans h
    have PD' := PD.out.below hl
    obtain ⟨_, _, _, ho, _⟩ := PD'
    exact ⟨kc h0, kc hja, kc hjd, kc o0, kc o1, World.ownsRow.frozenAt ho _, World.ownsRow.frozenAt ho _⟩
  have hB0' : Below w1.heap.size w1 w1.drew := (Below.refl _ _).drew
  have k0 := KS.out _ hB0'
  obtain ⟨k1, k2, k3, k4, k5, k6, k7⟩ := k0
  clear hcp2
  go_wp2
  go_region_law (go_simp; go_at_call 58; refine (HCL.out _ ?_).mono ?_; (exact hB0'); rintro e w' ⟨g, c9, rfl, hO, hS2⟩; have s1 := (KS.out _ hS2).1; have s2 := (KS.out _ hS2).2.1; have s3 := (KS.out _ hS2).2.2.1; have s4 := (KS.out _ hS2).2.2.2.1; have s5 := (KS.out _ hS2).2.2.2.2.1; have s6 := (KS.out _ hS2).2.2.2.2.2.1; have s7 := (KS.out _ hS2).2.2.2.2.2.2)
  all_goals
    have PD2 := PD.out.keeps (Keeps.below [5, 144] hS2) (by simp) (by simp)
    have BD2 := BD.out.below hS2 BD.out.lt
    have WD2 := WD.out.keeps (Keeps.below [5, 140] hS2) (by simp) (by simp)
    have BR2 := BR.out.below hS2 BR.out.lt
    have S2 := S1.out.trans (Spare.below hS2 hB1)
    have kp := PD2.kind gp' rfl
    have P2 := SOwn.put_two rfl PD2 at_ ha (x := (⟨some xs, false⟩ : Sec)) (u := .slice (some ⟨g, 0, none⟩) 128 c9) (v := .bool false) (F2 := Kind w' 5) ⟨_, _, _, rfl, .inr ⟨xs, rfl, by omega, own_srow hO.out hwf⟩⟩ (fun b hb => ⟨hb, hb.lt, fun e => by
      rw [e] at hb
      exact absurd (hb.ne kp) (by decide)⟩)
    have kp' : Kind (w'.setCell ⟨gp', at_ * 2, none⟩ (.slice (some ⟨g, 0, none⟩) 128 c9)) 144 gp' := by
      obtain ⟨_, _, _, ho, _⟩ := PD2
      exact Own.kind (World.ownsRow.stored ho (at_ * 2) _).1 gp' rfl
    have Kt : ∀ ts : List TypeId, 144 ∉ ts → Keeps ts w' ((w'.setCell ⟨gp', at_ * 2, none⟩ (.slice (some ⟨g, 0, none⟩) 128 c9)).setCell ⟨gp', at_ * 2 + 1, none⟩ (.bool false)) := fun ts hts =>
      (Keeps.set _ (fun t ht hk => hts (by rw [← hk.ne kp]; exact ht))).trans (Keeps.set _ (fun t ht hk => hts (by rw [← hk.ne kp']; exact ht)))
    have S9 : Spare B w ((w'.setCell ⟨gp', at_ * 2, none⟩ (.slice (some ⟨g, 0, none⟩) 128 c9)).setCell ⟨gp', at_ * 2 + 1, none⟩ (.bool false)) := (S2.trans (Spare.set _ hBp kp (.inr (.inl rfl)))).trans (Spare.set _ hBp kp' (.inr (.inl rfl)))
    have BR9 := BR2.keeps (Kt [90] (by decide)) (by simp)
    have D9 : Dr ((w'.setCell ⟨gp', at_ * 2, none⟩ (.slice (some ⟨g, 0, none⟩) 128 c9)).setCell ⟨gp', at_ * 2 + 1, none⟩ (.bool false)) B hd ⟨pl.set at_ ⟨some xs, false⟩, ws, false⟩ := ⟨gp', cp, aw, lw, cw, hBh, BD2.keeps (Kt [136] (by decide)) (by simp), P2.mono (Nat.le_refl _) (fun b hb => (Kt [5] (by decide)).kind (by simp) hb), WD2.keeps (Kt [5, 140] (by decide)) (by simp) (by simp), HA.out⟩
    obtain ⟨W9, hW9⟩ : ∃ W, W = (w'.setCell ⟨gp', at_ * 2, none⟩ (.slice (some ⟨g, 0, none⟩) 128 c9)).setCell ⟨gp', at_ * 2 + 1, none⟩ (.bool false) := ⟨_, rfl⟩
    rw [← hW9] at S9 BR9 D9 ⊢
    have HD9 := Lib.hid D9
    have HS9 := Lib.hid S9
    have HBR9 := Lib.hid BR9
    have g0 : W9.cell? ⟨n + 1, 0, none⟩ = some (.int .i64 0) := BR9.cell 0
    have g1 : W9.cell? ⟨n + 1, 1, none⟩ = some (.slice none 0 0) := BR9.cell 1
    have g2 : W9.frozen? ⟨n + 1, 0, none⟩ = false := BR9.free 0
    have g3 : W9.frozen? ⟨n + 1, 1, none⟩ = false := BR9.free 1
    clear D9 S9 Kt BR9 P2 BR hW9 kp kp' PD2 BD2 WD2 BR2 S2 s1 s2 s3 s4 s5 s6 s7
    go_wp2_with fail
    exact do_end HBR9.out HD9.out HS9.out (by omega) hBw rfl
end Go.Proofs.Yteidmdakglkkfaa
