/- The drive: Do, Dc (printed by wip/dogen.py). -/
import Derived.Test.YteidmdakglkkfaaDrDh
namespace Go.Proofs.Yteidmdakglkkfaa
open Go.RowKit
set_option linter.unusedVariables false
set_option maxRecDepth 100000

theorem info_put : (Try.prog.info? 140).map (fun i => (i.zero, i.size, i.bytes)) = some (some (.agg #[.int .i64 0, .slice none 0 0]), 2, 32) := by kernel_rfl
set_option maxHeartbeats 4000000 in
theorem do_put (B hd : Nat) (s : DS) (w : World) (h : Dr w B hd s) (hBw : B ≤ w.heap.size) (at_ : Nat) (keep : Int) (a : Option Addr) (l c : Nat) (ha : at_ < 8) (xs : List Int) (hx : Row .u8 w a l c xs) (hl : l = 128) (hlw : s.waits.length < 1000) (hd0 : s.dead = false) :
    Calls Try.prog 50 #[.pointer (some ⟨hd, 0, none⟩), .agg #[.int .i64 1, .int .i64 at_, .int .i64 keep, .slice a l c]] w (DoPost B hd (0, none) { s with waits := s.waits ++ [⟨at_, xs⟩] } w) := by
  obtain ⟨gp, cp, aw, lw, cw, hBh, hb, hp, hw, hat⟩ := h
  obtain ⟨pl, ws, dd⟩ := s
  obtain rfl : dd = false := hd0
  subst hl
  have HX := Lib.hid hx
  have hwf := hx.hwf
  have hxl := hx.hlen
  have hlw0 : lw < 1000 := by have := hw.1; simp only at hlw this; omega
  obtain ⟨p, rfl⟩ : ∃ p, a = some p := by
    rcases hx.hat with h0 | ⟨b, off, ha, _⟩
    · omega
    · exact ⟨_, ha⟩
  clear hx hlw
  have HB := Lib.hid hb
  have HP := Lib.hid hp
  have HW := Lib.hid hw
  have HA := Lib.hid hat
  clear hb hp hw hat
  go_enter Try.func50, Try.ntmps50
  go_wp2_with fail
  obtain ⟨V, hV⟩ : ∃ V, V = (w.alloc (.cells #[.int .i64 1, .int .i64 at_, .int .i64 keep, .slice (some p) 128 c] 78)).alloc (.cells #[.int .i64 0, .slice none 0 0] 90) := ⟨_, rfl⟩
  obtain ⟨n, hn⟩ : ∃ n, w.heap.size = n := ⟨_, rfl⟩
  have LV : Below w.heap.size w V := by rw [hV]; exact Below_alloc2 _ _
  have BJ0 : Box V n #[.int .i64 1, .int .i64 at_, .int .i64 keep, .slice (some p) 128 c] 78 := by rw [hV]; exact (Box.new hn.symm).alloc _
  have BR0 : Box V (n + 1) #[.int .i64 0, .slice none 0 0] 90 := by rw [hV]; exact Box.new (by simp [hn])
  rw [← hV, hn]
  clear hV
  refine (faultD hd gp cp aw lw cw false V 1 at_ keep (some p) 128 c (HB.out.below LV HB.out.lt) (by omega) (by omega) (by omega)).mono ?_
  rintro e w1 ⟨rfl, L1⟩
  have LW : Below w.heap.size w w1 := LV.trans (L1.mono LV.size)
  have BJ := Lib.hid (BJ0.below L1 BJ0.lt)
  have BR := Lib.hid (BR0.below L1 BR0.lt)
  have BD := Lib.hid (HB.out.below LW HB.out.lt)
  have PD := Lib.hid (HP.out.keeps (Keeps.below [5, 144] LW) (by simp) (by simp))
  have WD := Lib.hid (HW.out.keeps (Keeps.below [5, 140] LW) (by simp) (by simp))
  have S1 := Lib.hid (Spare.ends LV L1 hBw)
  have hB1 : B ≤ w1.heap.size := by have := LW.size; omega
  have hj0 : w1.cell? ⟨n, 0, none⟩ = some (.int .i64 1) := BJ.out.cell 0
  have hr0 : w1.cell? ⟨n + 1, 0, none⟩ = some (.int .i64 0) := BR.out.cell 0
  have hr1 : w1.cell? ⟨n + 1, 1, none⟩ = some (.slice none 0 0) := BR.out.cell 1
  have hf0 : w1.frozen? ⟨n + 1, 0, none⟩ = false := BR.out.free 0
  have hf1 : w1.frozen? ⟨n + 1, 1, none⟩ = false := BR.out.free 1
  rw [show faultOf false 1 = 0 from rfl]
  clear LV BJ0 BR0 L1 HB HP HW
  have hja : w1.cell? ⟨n, 1, none⟩ = some (.int .i64 at_) := BJ.out.cell 1
  have hjd : w1.cell? ⟨n, 3, none⟩ = some (.slice (some p) 128 c) := BJ.out.cell 3
  have h0 : w1.cell? ⟨hd, 1, none⟩ = some (.slice aw lw cw) := BD.out.cell 1
  have XR := Lib.hid (HX.out.below LW)
  have HCL : Hid (∀ w', Below w1.heap.size w1 w' → Calls Try.prog 58 #[.slice (some p) 128 c] w' fun e w'' => ∃ g c9, e = .returned (.slice (some ⟨g, 0, none⟩) 128 c9) ∧ Hid (Own w'' w1.heap.size 5 1 (some ⟨g, 0, none⟩) 128 c9 (xs.map (.int .u8))) ∧ Below w1.heap.size w1 w'') := by
    intro w' hb
    exact (cloneB p 128 c xs w' (XR.out.below hb) (by decide) (by decide)).mono fun e w'' ⟨g, c9, h1, h2, h3⟩ => ⟨g, c9, h1, h2.mono hb.size, hb.trans (h3.mono hb.size)⟩
  have KS : Hid (∀ w', Below w1.heap.size w1 w' → (w'.cell? ⟨hd, 1, none⟩ = some (.slice aw lw cw) ∧ w'.cell? ⟨n, 1, none⟩ = some (.int .i64 at_) ∧ w'.cell? ⟨n, 3, none⟩ = some (.slice (some p) 128 c) ∧ w'.frozen? ⟨hd, 1, none⟩ = false)) := by
    intro w' hl
    have kc : ∀ {p : Addr} {v : Value}, w1.cell? p = some v → w'.cell? p = some v := fun h => (hl.cell (World.block_lt_of_cell? _ _ h)).trans h
    exact ⟨kc h0, kc hja, kc hjd, (BD.out.below hl BD.out.lt).free 1⟩
  have HAPP : Hid (∀ w' g c9, Below w1.heap.size w1 w' → Hid (Own w' w1.heap.size 5 1 (some ⟨g, 0, none⟩) 128 c9 (xs.map (.int .u8))) → (B ≤ w'.heap.size ∧ SOwn putL w' B 140 (Kind w' 5) aw lw cw ws ∧ putL.at_ w' (Kind w' 5) ⟨at_, xs⟩ [.int .i64 at_, .slice (some ⟨g, 0, none⟩) 128 c9] ∧ (∀ b, Kind w' 5 b → Kind w' 5 b ∧ b < w'.heap.size ∧ (Value.slice aw lw cw).ownBlock ≠ some b))) := by
    intro w' g c9 hl hO
    have WD2 := WD.out.keeps (Keeps.below [5, 140] hl) (by simp) (by simp)
    refine ⟨by have := hl.size; omega, WD2, ⟨_, _, _, rfl, by show xs.length = 128; omega, own_srow hO.out hwf⟩, fun b hb => ⟨hb, hb.lt, fun e => ?_⟩⟩
    exact absurd (hb.ne (WD2.kind b e)) (by decide)
  have HAFT : Hid (∀ w' w5 g c9 a5 c5, Below w1.heap.size w1 w' → Hid (Own w' w1.heap.size 5 1 (some ⟨g, 0, none⟩) 128 c9 (xs.map (.int .u8))) → SOwn putL w5 B 140 (Kind w' 5) a5 (lw + 1) c5 (ws ++ [⟨at_, xs⟩]) → w'.grownBy w5 (Value.slice aw lw cw).ownBlock →
      (w5.cell? ⟨hd, 1, none⟩ = some (.slice aw lw cw) ∧ w5.frozen? ⟨hd, 1, none⟩ = false) ∧ Box (w5.setCell ⟨hd, 1, none⟩ (.slice a5 (lw + 1) c5)) (n + 1) #[.int .i64 0, .slice none 0 0] 90 ∧ Dr (w5.setCell ⟨hd, 1, none⟩ (.slice a5 (lw + 1) c5)) B hd ⟨pl, ws ++ [⟨at_, xs⟩], false⟩ ∧ Spare B w (w5.setCell ⟨hd, 1, none⟩ (.slice a5 (lw + 1) c5))) := by
    intro w' w5 g c9 a5 c5 hl hO hown hg
    have WD2 := WD.out.keeps (Keeps.below [5, 140] hl) (by simp) (by simp)
    have hBD2 := BD.out.below hl BD.out.lt
    have hPD2 := PD.out.keeps (Keeps.below [5, 144] hl) (by simp) (by simp)
    have K5 : ∀ ts : List TypeId, 140 ∉ ts → Keeps ts w' w5 := fun ts hts => Keeps.grown hg (fun k hk t ht hkk => hts (by rw [← hkk.ne (WD2.kind k hk)]; exact ht))
    have BD5 := hBD2.keeps (K5 [136] (by decide)) (by simp)
    have kd := BD5.kind
    have K6 : ∀ ts : List TypeId, 136 ∉ ts → Keeps ts w5 (w5.setCell ⟨hd, 1, none⟩ (.slice a5 (lw + 1) c5)) := fun ts hts => Keeps.set _ (fun t ht hk => hts (by rw [← hk.ne kd]; exact ht))
    have S5 : Spare B w' w5 := ⟨WD2.grown (Below.refl _ _) (Nat.le_refl _) (by have := hl.size; omega) hg, fun ts _ _ h3 => K5 ts h3⟩
    have k85 : ∀ b, Kind w' 5 b → Kind w5 5 b := fun b hb => (K5 [5] (by decide)).kind (by simp) hb
    refine ⟨⟨BD5.cell 1, BD5.free 1⟩, ((BR.out.below hl BR.out.lt).keeps (K5 [90] (by decide)) (by simp)).keeps (K6 [90] (by decide)) (by simp), ?_, (S1.out.trans (Spare.below hl hB1)).trans (S5.trans (Spare.set _ hBh kd (.inl rfl)))⟩
    refine ⟨gp, cp, a5, lw + 1, c5, hBh, BD5.set 1 _, (hPD2.keeps (K5 [5, 144] (by decide)) (by simp) (by simp)).keeps (K6 [5, 144] (by decide)) (by simp) (by simp), ?_, fun x hx => ?_⟩
    · exact (hown.mono (Nat.le_refl _) k85).keeps (K6 [5, 140] (by decide)) (by simp) (by simp)
    · rcases List.mem_append.1 hx with h | h
      · exact HA.out x h
      · obtain rfl := List.mem_singleton.1 h
        exact ha
  have hB0' : Below w1.heap.size w1 w1.drew := (Below.refl _ _).drew
  obtain ⟨k1, k2, k3, k4⟩ := KS.out _ hB0'
  go_wp2
  go_region_law (first | (go_simp; go_at_call 58; refine (HCL.out _ ?_).mono ?_; (exact hB0'); rintro e w' ⟨g, c9, rfl, hO, hS2⟩; have s1 := (KS.out _ hS2).1; have s2 := (KS.out _ hS2).2.1; have s3 := (KS.out _ hS2).2.2.1; have s4 := (KS.out _ hS2).2.2.2; have s5 := (BD.out.below hS2 BD.out.lt).lt; have q1 := (HAPP.out _ _ _ hS2 hO).1; have q2 := Lib.hid (HAPP.out _ _ _ hS2 hO).2.1; have q3 := Lib.hid (HAPP.out _ _ _ hS2 hO).2.2.1; have q4 := Lib.hid (HAPP.out _ _ _ hS2 hO).2.2.2) | (refine step_append_one (L := putL) (wr := w') rfl (.tmp 21) (.tmp 28) 134 rfl B 140 _ 32 Try.underlying134 info_put rfl (Kind w' 5) aw lw cw ws (by simp [Act.eval]) q2.out #[.int .i64 at_, .slice (some ⟨g, 0, none⟩) 128 c9] ⟨at_, xs⟩ (by simp [Act.eval]) (Kind w' 5) q3.out q4.out (by unfold maxLen; omega) (by omega) q1 ?_; intro a5 c5 w5 hown5 hg5; have hafd := (HAFT.out _ _ _ _ _ _ hS2 hO hown5 hg5); have c5g := hafd.1.1; have f5g := hafd.1.2; have HAF := Lib.hid hafd.2; clear hafd hown5 hg5))
  all_goals
    obtain ⟨W9, hW9⟩ : ∃ W, W = w5.setCell ⟨hd, 1, none⟩ (.slice a5 (lw + 1) c5) := ⟨_, rfl⟩
    rw [← hW9] at HAF ⊢
    have g0 : W9.cell? ⟨n + 1, 0, none⟩ = some (.int .i64 0) := HAF.out.1.cell 0
    have g1 : W9.cell? ⟨n + 1, 1, none⟩ = some (.slice none 0 0) := HAF.out.1.cell 1
    have g2 : W9.frozen? ⟨n + 1, 0, none⟩ = false := HAF.out.1.free 0
    have g3 : W9.frozen? ⟨n + 1, 1, none⟩ = false := HAF.out.1.free 1
    clear HAFT HAPP KS HCL hW9 s1 s2 s3 s4 s5 q1 q2 q3 q4
    go_wp2_with fail
    exact do_end HAF.out.1 HAF.out.2.1 HAF.out.2.2 (by omega) hBw rfl
end Go.Proofs.Yteidmdakglkkfaa
