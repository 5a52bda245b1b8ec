/- The walks of SpanTells and SpanCounts. -/
import Derived.Test.YtddjkcogfpihpaaSnE
import Derived.Test.YtddjkcogfpihpaaOpen
import Derived.Lib.QuietBelow
import Derived.Deep.CutBlock
import Derived.Deep.DeepCutAuto
namespace Go.Proofs.Ytddjkcogfpihpaa
open Go.RowKit Go.Sort
set_option linter.unusedVariables false
set_option maxRecDepth 100000

theorem Bool.of_iff {a b : Bool} (h : a = true ↔ b = true) : a = b := by cases a <;> cases b <;> simp_all
theorem has_add {l m out : List Rg} (h : ∀ x, memR out x ↔ memR l x ∨ memR m x) (x : Int) : hasB out x = (hasB l x || hasB m x) := Bool.of_iff (by rw [hasB_iff, Bool.or_eq_true, hasB_iff, hasB_iff]; exact h x)
theorem has_cut {l m out : List Rg} (h : ∀ x, memR out x ↔ memR l x ∧ ¬ memR m x) (x : Int) : hasB out x = (hasB l x && !hasB m x) := Bool.of_iff (by rw [hasB_iff, h x, Bool.and_eq_true, hasB_iff, Bool.not_eq_true', ← Bool.not_eq_true, hasB_iff])
theorem has_both {l m out : List Rg} (h : ∀ x, memR out x ↔ memR l x ∧ memR m x) (x : Int) : hasB out x = (hasB l x && hasB m x) := Bool.of_iff (by rw [hasB_iff, h x, Bool.and_eq_true, hasB_iff, hasB_iff])
theorem has_one (r : Rg) (x : Int) : hasB [r] x = (decide (r.1 ≤ x) && decide (x < r.2)) := by simp [hasB]
theorem setOf12 (a : Option Addr) (len cap : Nat) (l : List Int) (w : World) (h : Row .i64 w a len cap l) :
    Calls Try.prog 8 #[.slice a len cap, .int .i64 12] w fun e w' => ∃ a n c R, e = .returned (.tuple #[.slice a n c, .bool true]) ∧ Hid (SRow rgL w' (fun _ => True) a n c R) ∧ Below w.heap.size w w' ∧ Hid (GoodR R) ∧ (∀ q ∈ R, q.2 ≤ 400) ∧ n ≤ 12 := by
  refine (setOfW a len cap l 12 w h (by omega)).mono fun e w' hp => ?_
  obtain ⟨a', n, c, R, h1, h2, h3, h4⟩ := hp
  have := h4.out.few
  rw [addedN_length] at this
  have h5 := h2.out.1
  exact ⟨a', n, c, R, h1, h2.out.keep (fun _ _ => trivial) (fun _ _ _ => rfl), h3.out, h4.out.good, h4.out.top, by omega⟩
theorem ranged_ok {l m out : List Rg} {b c : Int} {want : Int → Bool} (h : Res want (edgesN l b ++ edgesN m c) out) (hl : GoodR l) (hm : GoodR m) (tl : ∀ q ∈ l, q.2 ≤ 400) (tm : ∀ q ∈ m, q.2 ≤ 400) (hn : l.length + m.length ≤ 100) : GoodR out ∧ out.length ≤ l.length + m.length ∧ ∀ q ∈ out, q.2 ≤ 400 :=
  res_good (M := 400) h (fun q hq => ⟨(hl.at_ q hq).1, (hl.at_ q hq).2.1, tl q hq⟩) (fun q hq => ⟨(hm.at_ q hq).1, (hm.at_ q hq).2.1, tm q hq⟩) (by omega) (by omega)
set_option maxHeartbeats 8000000 in
theorem spanTells (al : Option Addr) (ll cl : Nat) (xl : List Int) (am : Option Addr) (lm cm : Nat) (xm : List Int) (a b n : Int) (w : World) (hl : Row .i64 w al ll cl xl) (hm : Row .i64 w am lm cm xm) :
    Calls Try.prog 5 #[.slice al ll cl, .slice am lm cm, .int .i64 a, .int .i64 b, .int .i64 n] w fun e w' => e = .returned (.bool true) ∧ Below w.heap.size w w' := by
  have HL0 := Lib.hid hl
  have HM0 := Lib.hid hm
  have LB0 : Hid (Below w.heap.size w w) := Below.refl _ _
  clear hl hm
  go_enter Try.func5, Try.ntmps5
  go_wp2_with fail
  refine (setOf12 al ll cl xl w HL0.out).mono ?_
  rintro e w1 ⟨aX, nX, cX, X, rfl, SX0, b1, GX, TX, lX⟩
  have HL_1 := Lib.hid (HL0.out.below b1)
  have HM_1 := Lib.hid (HM0.out.below b1)
  have LB_1 := Lib.hid (LB0.out.trans (b1.mono LB0.out.size))
  clear HL0 HM0 LB0
  go_wp2_with fail
  refine (setOf12 am lm cm xm w1 HM_1.out).mono ?_
  rintro e w2 ⟨aY, nY, cY, Y, rfl, SY0, b2, GY, TY, lY⟩
  have HL_2 := Lib.hid (HL_1.out.below b2)
  have HM_2 := Lib.hid (HM_1.out.below b2)
  have LB_2 := Lib.hid (LB_1.out.trans (b2.mono LB_1.out.size))
  have SX_2 := Lib.hid (SX0.out.below b2)
  clear HL_1 HM_1 LB_1 SX0
  go_wp2_with fail
  refine (rangeOfW a b w2).mono ?_
  rintro e w3 ⟨rfl, b3⟩
  have HL_3 := Lib.hid (HL_2.out.below b3)
  have HM_3 := Lib.hid (HM_2.out.below b3)
  have LB_3 := Lib.hid (LB_2.out.trans (b3.mono LB_2.out.size))
  have SX_3 := Lib.hid (SX_2.out.below b3)
  have SY_3 := Lib.hid (SY0.out.below b3)
  clear HL_2 HM_2 LB_2 SX_2 SY0
  have hro := rangeOf_ok a b
  obtain ⟨⟨f, t⟩, hrr⟩ : ∃ r : Rg, Hid (rangeOf a b = r) := ⟨_, rfl⟩
  rw [hrr.out] at hro ⊢
  simp only at hro ⊢
  have GR : Hid (GoodR [(f, t)]) := GoodR.one ⟨hro.1, hro.2.1, by omega⟩
  have hr1 : 0 ≤ (f, t).1 ∧ (f, t).1 < (f, t).2 ∧ (f, t).2 ≤ 1048576 := ⟨hro.1, hro.2.1, by simp only; omega⟩
  have TR : ∀ q ∈ [(f, t)], q.2 ≤ 400 := one_at hro.2.2
  have b4 : Below w3.heap.size w3 (w3.alloc (.cells #[.int .i64 f, .int .i64 t] 30)) := Below_alloc1 _
  have HL_4 := Lib.hid (HL_3.out.below b4)
  have HM_4 := Lib.hid (HM_3.out.below b4)
  have LB_4 := Lib.hid (LB_3.out.trans (b4.mono LB_3.out.size))
  have SX_4 := Lib.hid (SX_3.out.below b4)
  have SY_4 := Lib.hid (SY_3.out.below b4)
  clear HL_3 HM_3 LB_3 SX_3 SY_3
  have XR0 := Lib.hid (Box.new (w := w3) (vs := #[.int .i64 f, .int .i64 t]) (t := 30) rfl)
  obtain ⟨g, hg⟩ : ∃ g, Hid (w3.heap.size = g) := ⟨_, rfl⟩
  go_upto_region 6 with fail
  rw [hg.out] at XR0 ⊢
  obtain ⟨w4, hw4⟩ : ∃ W, w3.alloc (.cells #[.int .i64 f, .int .i64 t] 30) = W := ⟨_, rfl⟩
  rw [hw4] at XR0 HL_4 HM_4 LB_4 SX_4 SY_4 ⊢
  clear hw4 b4
  go_wp2_with fail
  refine (picked n 400 _ (by omega) (by omega)).mono ?_
  rintro e w5 ⟨k, hk, hk0, hk1, rfl, rfl⟩
  obtain ⟨hin, hhin⟩ : ∃ b, Hid (hasB [(f, t)] k = b) := ⟨_, rfl⟩
  have hhin2 : Hid ((decide (f ≤ k) && decide (k < t)) = hin) := by show _ = _; rw [← hhin.out, has_one]
  have c0 : w4.cell? ⟨g, 0, none⟩ = some (.int .i64 f) := XR0.out.cell 0
  have c1 : w4.cell? ⟨g, 1, none⟩ = some (.int .i64 t) := XR0.out.cell 1
  go_upto_region 7 with fail
  go_cut [17] (fun v wx => v = .bool hin ∧ w4 = wx)
  case first =>
    go_wp2_with fail
    all_goals go_meet
    all_goals
      refine ⟨congrArg Value.bool ?_, by first | rfl | trivial⟩
      rw [← hhin2.out]
      first
        | (simp [*]; done)
        | (simp; intros; omega)
  obtain ⟨rfl, rfl⟩ := hcut
  clear hhin2
  have lX2 := SX_4.out.1
  have lY2 := SY_4.out.1
  go_wp2_with fail
  refine (addW (fun _ => True) aX nX cX X (f, t) w4 SX_4.out GX.out (by omega) hr1).mono ?_
  rintro e w5 ⟨aP, nP, cP, P, rfl, OP, bP, RP⟩
  have HL_5 := Lib.hid (HL_4.out.below bP.out)
  have HM_5 := Lib.hid (HM_4.out.below bP.out)
  have LB_5 := Lib.hid (LB_4.out.trans (bP.out.mono LB_4.out.size))
  have SX_5 := Lib.hid (SX_4.out.below bP.out)
  have SY_5 := Lib.hid (SY_4.out.below bP.out)
  have XR_5 := Lib.hid (XR0.out.below bP.out XR0.out.lt)
  clear HL_4 HM_4 LB_4 SX_4 SY_4 XR0
  have SP0 := Lib.hid OP.out.sRow
  have lP := OP.out.1
  obtain ⟨GP, lP2, TP⟩ := ranged_ok RP.out GX.out GR.out TX TR (by first | omega | (simp; omega))
  have hP := Lib.hid (has_add (mem_add RP.out GX.out.canon GR.out.canon) k)
  have GPH := Lib.hid GP
  clear OP bP RP GP
  have c0P : w5.cell? ⟨g, 0, none⟩ = some (.int .i64 f) := XR_5.out.cell 0
  have c1P : w5.cell? ⟨g, 1, none⟩ = some (.int .i64 t) := XR_5.out.cell 1
  go_wp2_with fail
  refine (cutW (fun _ => True) aX nX cX X (f, t) w5 SX_5.out GX.out (by omega) hr1).mono ?_
  rintro e w6 ⟨aQ, nQ, cQ, Q, rfl, OQ, bQ, RQ⟩
  have HL_6 := Lib.hid (HL_5.out.below bQ.out)
  have HM_6 := Lib.hid (HM_5.out.below bQ.out)
  have LB_6 := Lib.hid (LB_5.out.trans (bQ.out.mono LB_5.out.size))
  have SX_6 := Lib.hid (SX_5.out.below bQ.out)
  have SY_6 := Lib.hid (SY_5.out.below bQ.out)
  have XR_6 := Lib.hid (XR_5.out.below bQ.out XR_5.out.lt)
  have SP_6 := Lib.hid (SP0.out.below bQ.out)
  clear HL_5 HM_5 LB_5 SX_5 SY_5 XR_5 SP0
  have SQ0 := Lib.hid OQ.out.sRow
  have lQ := OQ.out.1
  obtain ⟨GQ, lQ2, TQ⟩ := ranged_ok RQ.out GX.out GR.out TX TR (by first | omega | (simp; omega))
  have hQ := Lib.hid (has_cut (mem_cut RQ.out GX.out.canon GR.out.canon) k)
  have GQH := Lib.hid GQ
  clear OQ bQ RQ GQ
  go_wp2_with fail
  refine (bothW (fun _ => True) (fun _ => True) aX nX cX X aY nY cY Y w6 SX_6.out SY_6.out GX.out GY.out (by omega) (by omega)).mono ?_
  rintro e w7 ⟨aZ, nZ, cZ, Z, rfl, OZ, bZ, RZ⟩
  have HL_7 := Lib.hid (HL_6.out.below bZ.out)
  have HM_7 := Lib.hid (HM_6.out.below bZ.out)
  have LB_7 := Lib.hid (LB_6.out.trans (bZ.out.mono LB_6.out.size))
  have SX_7 := Lib.hid (SX_6.out.below bZ.out)
  have SY_7 := Lib.hid (SY_6.out.below bZ.out)
  have XR_7 := Lib.hid (XR_6.out.below bZ.out XR_6.out.lt)
  have SP_7 := Lib.hid (SP_6.out.below bZ.out)
  have SQ_7 := Lib.hid (SQ0.out.below bZ.out)
  clear HL_6 HM_6 LB_6 SX_6 SY_6 XR_6 SP_6 SQ0
  have SZ0 := Lib.hid OZ.out.sRow
  have lZ := OZ.out.1
  obtain ⟨GZ, lZ2, TZ⟩ := ranged_ok RZ.out GX.out GY.out TX TY (by first | omega | (simp; omega))
  have hZ := Lib.hid (has_both (mem_both RZ.out GX.out.canon GY.out.canon) k)
  have GZH := Lib.hid GZ
  clear OZ bZ RZ GZ
  rw [hhin.out] at hP hQ
  go_wp2_with fail
  refine (mayI _ aP nP cP P w7 SP_7.out GPH.out).mono ?_
  rintro e w8 ⟨rfl, bmP⟩
  have HL_8 := Lib.hid (HL_7.out.below bmP)
  have HM_8 := Lib.hid (HM_7.out.below bmP)
  have LB_8 := Lib.hid (LB_7.out.trans (bmP.mono LB_7.out.size))
  have SX_8 := Lib.hid (SX_7.out.below bmP)
  have SY_8 := Lib.hid (SY_7.out.below bmP)
  have XR_8 := Lib.hid (XR_7.out.below bmP XR_7.out.lt)
  have SP_8 := Lib.hid (SP_7.out.below bmP)
  have SQ_8 := Lib.hid (SQ_7.out.below bmP)
  have SZ_8 := Lib.hid (SZ0.out.below bmP)
  clear HL_7 HM_7 LB_7 SX_7 SY_7 XR_7 SP_7 SQ_7 SZ0
  go_wp2_with fail
  refine (mayI _ aQ nQ cQ Q w8 SQ_8.out GQH.out).mono ?_
  rintro e w9 ⟨rfl, bmQ⟩
  have HL_9 := Lib.hid (HL_8.out.below bmQ)
  have HM_9 := Lib.hid (HM_8.out.below bmQ)
  have LB_9 := Lib.hid (LB_8.out.trans (bmQ.mono LB_8.out.size))
  have SX_9 := Lib.hid (SX_8.out.below bmQ)
  have SY_9 := Lib.hid (SY_8.out.below bmQ)
  have XR_9 := Lib.hid (XR_8.out.below bmQ XR_8.out.lt)
  have SP_9 := Lib.hid (SP_8.out.below bmQ)
  have SQ_9 := Lib.hid (SQ_8.out.below bmQ)
  have SZ_9 := Lib.hid (SZ_8.out.below bmQ)
  clear HL_8 HM_8 LB_8 SX_8 SY_8 XR_8 SP_8 SQ_8 SZ_8
  go_wp2_with fail
  refine (mayI _ aZ nZ cZ Z w9 SZ_9.out GZH.out).mono ?_
  rintro e w10 ⟨rfl, bmZ⟩
  have HL_10 := Lib.hid (HL_9.out.below bmZ)
  have HM_10 := Lib.hid (HM_9.out.below bmZ)
  have LB_10 := Lib.hid (LB_9.out.trans (bmZ.mono LB_9.out.size))
  have SX_10 := Lib.hid (SX_9.out.below bmZ)
  have SY_10 := Lib.hid (SY_9.out.below bmZ)
  have XR_10 := Lib.hid (XR_9.out.below bmZ XR_9.out.lt)
  have SP_10 := Lib.hid (SP_9.out.below bmZ)
  have SQ_10 := Lib.hid (SQ_9.out.below bmZ)
  have SZ_10 := Lib.hid (SZ_9.out.below bmZ)
  clear HL_9 HM_9 LB_9 SX_9 SY_9 XR_9 SP_9 SQ_9 SZ_9
  go_wp2_with fail
  refine (hasW _ aX nX cX X k w10 SX_10.out GX.out).mono ?_
  rintro e w11 ⟨rfl, bh⟩
  have HL_11 := Lib.hid (HL_10.out.below bh)
  have HM_11 := Lib.hid (HM_10.out.below bh)
  have LB_11 := Lib.hid (LB_10.out.trans (bh.mono LB_10.out.size))
  have SX_11 := Lib.hid (SX_10.out.below bh)
  have SY_11 := Lib.hid (SY_10.out.below bh)
  have XR_11 := Lib.hid (XR_10.out.below bh XR_10.out.lt)
  have SP_11 := Lib.hid (SP_10.out.below bh)
  have SQ_11 := Lib.hid (SQ_10.out.below bh)
  have SZ_11 := Lib.hid (SZ_10.out.below bh)
  clear HL_10 HM_10 LB_10 SX_10 SY_10 XR_10 SP_10 SQ_10 SZ_10
  obtain ⟨hx, hhx⟩ : ∃ b, hasB X k = b := ⟨_, rfl⟩
  obtain ⟨hy, hhy⟩ : ∃ b, hasB Y k = b := ⟨_, rfl⟩
  rw [hhx] at hP hQ hZ ⊢
  rw [hhy] at hZ
  have UP : Hid (∀ W', Below w11.heap.size w11 W' → Calls Try.prog 16 #[.slice aP nP cP, .int .i64 k] W' fun e w' => e = .returned (.bool (hx || hin)) ∧ Below w11.heap.size w11 w') := fun W' hb => (hasW _ aP nP cP P k W' (SP_11.out.below hb) GPH.out).mono fun e w' hp => ⟨by rw [hp.1, hP.out], hb.trans (hp.2.mono hb.size)⟩
  have UQ : Hid (∀ W', Below w11.heap.size w11 W' → Calls Try.prog 16 #[.slice aQ nQ cQ, .int .i64 k] W' fun e w' => e = .returned (.bool (hx && !hin)) ∧ Below w11.heap.size w11 w') := fun W' hb => (hasW _ aQ nQ cQ Q k W' (SQ_11.out.below hb) GQH.out).mono fun e w' hp => ⟨by rw [hp.1, hQ.out], hb.trans (hp.2.mono hb.size)⟩
  have UZ : Hid (∀ W', Below w11.heap.size w11 W' → Calls Try.prog 16 #[.slice aZ nZ cZ, .int .i64 k] W' fun e w' => e = .returned (.bool (hx && hy)) ∧ Below w11.heap.size w11 w') := fun W' hb => (hasW _ aZ nZ cZ Z k W' (SZ_11.out.below hb) GZH.out).mono fun e w' hp => ⟨by rw [hp.1, hZ.out], hb.trans (hp.2.mono hb.size)⟩
  have UY : Hid (∀ W', Below w11.heap.size w11 W' → Calls Try.prog 16 #[.slice aY nY cY, .int .i64 k] W' fun e w' => e = .returned (.bool hy) ∧ Below w11.heap.size w11 w') := fun W' hb => (hasW _ aY nY cY Y k W' (SY_11.out.below hb) GY.out).mono fun e w' hp => ⟨by rw [hp.1, hhy], hb.trans (hp.2.mono hb.size)⟩
  have hB0 : Below w11.heap.size w11 w11 := Below.refl _ _
  have LBF := LB_11
  clear hP hQ hZ hhx hhy
  cases hx <;> cases hin <;> cases hy
  all_goals
    go_wp2_with (first | (go_at_call_of 16 aP; refine (UP.out _ ?_).mono ?_; (assumption); rintro e w' ⟨rfl, hB1⟩) | (go_at_call_of 16 aQ; refine (UQ.out _ ?_).mono ?_; (assumption); rintro e w' ⟨rfl, hB2⟩) | (go_at_call_of 16 aZ; refine (UZ.out _ ?_).mono ?_; (assumption); rintro e w' ⟨rfl, hB3⟩) | (go_at_call_of 16 aY; refine (UY.out _ ?_).mono ?_; (assumption); rintro e w' ⟨rfl, hB4⟩))
    go_ret
    exact ⟨rfl, LBF.out.trans (Below.mono (by assumption) LBF.out.size)⟩
set_option maxHeartbeats 8000000 in
theorem spanCounts (al : Option Addr) (ll cl : Nat) (xl : List Int) (a b : Int) (w : World) (hl : Row .i64 w al ll cl xl) :
    Calls Try.prog 4 #[.slice al ll cl, .int .i64 a, .int .i64 b] w fun e w' => e = .returned (.bool true) ∧ Below w.heap.size w w' := by
  have HL0 := Lib.hid hl
  have LB0 : Hid (Below w.heap.size w w) := Below.refl _ _
  clear hl
  go_enter Try.func4, Try.ntmps4
  go_wp2_with fail
  refine (setOf12 al ll cl xl w HL0.out).mono ?_
  rintro e w1 ⟨aX, nX, cX, X, rfl, SX0, b1, GX, TX, lX⟩
  have HL_1 := Lib.hid (HL0.out.below b1)
  have LB_1 := Lib.hid (LB0.out.trans (b1.mono LB0.out.size))
  clear HL0 LB0
  go_wp2_with fail
  refine (rangeOfW a b w1).mono ?_
  rintro e w2 ⟨rfl, b3⟩
  have HL_2 := Lib.hid (HL_1.out.below b3)
  have LB_2 := Lib.hid (LB_1.out.trans (b3.mono LB_1.out.size))
  have SX_2 := Lib.hid (SX0.out.below b3)
  clear HL_1 LB_1 SX0
  have hro := rangeOf_ok a b
  obtain ⟨⟨f, t⟩, hrr⟩ : ∃ r : Rg, Hid (rangeOf a b = r) := ⟨_, rfl⟩
  rw [hrr.out] at hro ⊢
  simp only at hro ⊢
  have GR : Hid (GoodR [(f, t)]) := GoodR.one ⟨hro.1, hro.2.1, by omega⟩
  have hr1 : 0 ≤ (f, t).1 ∧ (f, t).1 < (f, t).2 ∧ (f, t).2 ≤ 1048576 := ⟨hro.1, hro.2.1, by simp only; omega⟩
  have TR : ∀ q ∈ [(f, t)], q.2 ≤ 400 := one_at hro.2.2
  have b4 : Below w2.heap.size w2 (w2.alloc (.cells #[.int .i64 f, .int .i64 t] 30)) := Below_alloc1 _
  have HL_3 := Lib.hid (HL_2.out.below b4)
  have LB_3 := Lib.hid (LB_2.out.trans (b4.mono LB_2.out.size))
  have SX_3 := Lib.hid (SX_2.out.below b4)
  clear HL_2 LB_2 SX_2
  have XR0 := Lib.hid (Box.new (w := w2) (vs := #[.int .i64 f, .int .i64 t]) (t := 30) rfl)
  obtain ⟨g, hg⟩ : ∃ g, Hid (w2.heap.size = g) := ⟨_, rfl⟩
  go_upto_region 3 with fail
  rw [hg.out] at XR0 ⊢
  obtain ⟨w3, hw4⟩ : ∃ W, w2.alloc (.cells #[.int .i64 f, .int .i64 t] 30) = W := ⟨_, rfl⟩
  rw [hw4] at XR0 HL_3 LB_3 SX_3 ⊢
  clear hw4 b4
  have lX2 := SX_3.out.1
  have c0 : w3.cell? ⟨g, 0, none⟩ = some (.int .i64 f) := XR0.out.cell 0
  have c1 : w3.cell? ⟨g, 1, none⟩ = some (.int .i64 t) := XR0.out.cell 1
  go_wp2_with fail
  refine (addW (fun _ => True) aX nX cX X (f, t) w3 SX_3.out GX.out (by omega) hr1).mono ?_
  rintro e w4 ⟨aP, nP, cP, P, rfl, OP, bP, RP⟩
  have HL_4 := Lib.hid (HL_3.out.below bP.out)
  have LB_4 := Lib.hid (LB_3.out.trans (bP.out.mono LB_3.out.size))
  have SX_4 := Lib.hid (SX_3.out.below bP.out)
  have XR_4 := Lib.hid (XR0.out.below bP.out XR0.out.lt)
  clear HL_3 LB_3 SX_3 XR0
  have SP0 := Lib.hid OP.out.sRow
  have lP := OP.out.1
  obtain ⟨GP, lP2, TP⟩ := ranged_ok RP.out GX.out GR.out TX TR (by first | omega | (simp; omega))
  have mP := mem_add RP.out GX.out.canon GR.out.canon
  have GPH := Lib.hid GP
  clear OP bP RP GP
  have c0P : w4.cell? ⟨g, 0, none⟩ = some (.int .i64 f) := XR_4.out.cell 0
  have c1P : w4.cell? ⟨g, 1, none⟩ = some (.int .i64 t) := XR_4.out.cell 1
  go_wp2_with fail
  refine (cutW (fun _ => True) aX nX cX X (f, t) w4 SX_4.out GX.out (by omega) hr1).mono ?_
  rintro e w5 ⟨aQ, nQ, cQ, Q, rfl, OQ, bQ, RQ⟩
  have HL_5 := Lib.hid (HL_4.out.below bQ.out)
  have LB_5 := Lib.hid (LB_4.out.trans (bQ.out.mono LB_4.out.size))
  have SX_5 := Lib.hid (SX_4.out.below bQ.out)
  have XR_5 := Lib.hid (XR_4.out.below bQ.out XR_4.out.lt)
  have SP_5 := Lib.hid (SP0.out.below bQ.out)
  clear HL_4 LB_4 SX_4 XR_4 SP0
  have SQ0 := Lib.hid OQ.out.sRow
  have lQ := OQ.out.1
  obtain ⟨GQ, lQ2, TQ⟩ := ranged_ok RQ.out GX.out GR.out TX TR (by first | omega | (simp; omega))
  have mQ := mem_cut RQ.out GX.out.canon GR.out.canon
  have GQH := Lib.hid GQ
  clear OQ bQ RQ GQ
  have c0Q : w5.cell? ⟨g, 0, none⟩ = some (.int .i64 f) := XR_5.out.cell 0
  have c1Q : w5.cell? ⟨g, 1, none⟩ = some (.int .i64 t) := XR_5.out.cell 1
  have bl : Below w5.heap.size w5 (w5.alloc (.cells #[.int .i64 f, .int .i64 t] 30)) := Below_alloc1 _
  have SL0 := Lib.hid (lit_row (f, t) w5)
  simp only at SL0
  have HL_6 := Lib.hid (HL_5.out.below bl)
  have LB_6 := Lib.hid (LB_5.out.trans (bl.mono LB_5.out.size))
  have SX_6 := Lib.hid (SX_5.out.below bl)
  have XR_6 := Lib.hid (XR_5.out.below bl XR_5.out.lt)
  have SP_6 := Lib.hid (SP_5.out.below bl)
  have SQ_6 := Lib.hid (SQ0.out.below bl)
  clear HL_5 LB_5 SX_5 XR_5 SP_5 SQ0
  have c0L : (w5.alloc (.cells #[.int .i64 f, .int .i64 t] 30)).cell? ⟨g, 0, none⟩ = some (.int .i64 f) := XR_6.out.cell 0
  have c1L : (w5.alloc (.cells #[.int .i64 f, .int .i64 t] 30)).cell? ⟨g, 1, none⟩ = some (.int .i64 t) := XR_6.out.cell 1
  obtain ⟨gl, hgl⟩ : ∃ g, Hid (w5.heap.size = g) := ⟨_, rfl⟩
  go_wp2_with (go_at_call 13; fail)
  rw [hgl.out] at SL0 ⊢
  obtain ⟨w6, hw6⟩ : ∃ W, w5.alloc (.cells #[.int .i64 f, .int .i64 t] 30) = W := ⟨_, rfl⟩
  rw [hw6] at SL0 c0L c1L HL_6 LB_6 SX_6 XR_6 SP_6 SQ_6 ⊢
  clear hw6 bl
  refine (bothW (fun _ => True) (fun _ => True) aX nX cX X (some ⟨gl, 0, none⟩) 1 1 [(f, t)] w6 SX_6.out SL0.out GX.out GR.out (by omega) (by omega)).mono ?_
  rintro e w7 ⟨aZ, nZ, cZ, Z, rfl, OZ, bZ, RZ⟩
  have HL_7 := Lib.hid (HL_6.out.below bZ.out)
  have LB_7 := Lib.hid (LB_6.out.trans (bZ.out.mono LB_6.out.size))
  have SX_7 := Lib.hid (SX_6.out.below bZ.out)
  have XR_7 := Lib.hid (XR_6.out.below bZ.out XR_6.out.lt)
  have SP_7 := Lib.hid (SP_6.out.below bZ.out)
  have SQ_7 := Lib.hid (SQ_6.out.below bZ.out)
  have SL_7 := Lib.hid (SL0.out.below bZ.out)
  clear HL_6 LB_6 SX_6 XR_6 SP_6 SQ_6 SL0
  have SZ0 := Lib.hid OZ.out.sRow
  have lZ := OZ.out.1
  obtain ⟨GZ, lZ2, TZ⟩ := ranged_ok RZ.out GX.out GR.out TX TR (by first | omega | (simp; omega))
  have mZ := mem_both RZ.out GX.out.canon GR.out.canon
  have GZH := Lib.hid GZ
  clear OZ bZ RZ GZ
  have c0Z : w7.cell? ⟨g, 0, none⟩ = some (.int .i64 f) := XR_7.out.cell 0
  have c1Z : w7.cell? ⟨g, 1, none⟩ = some (.int .i64 t) := XR_7.out.cell 1
  have lP3 : nP ≤ 13 := by simp at lP2; omega
  go_wp2_with fail
  refine (cutW (fun _ => True) aP nP cP P (f, t) w7 SP_7.out GPH.out (by omega) hr1).mono ?_
  rintro e w8 ⟨aK, nK, cK, K, rfl, OK, bK, RK⟩
  have HL_8 := Lib.hid (HL_7.out.below bK.out)
  have LB_8 := Lib.hid (LB_7.out.trans (bK.out.mono LB_7.out.size))
  have SX_8 := Lib.hid (SX_7.out.below bK.out)
  have XR_8 := Lib.hid (XR_7.out.below bK.out XR_7.out.lt)
  have SP_8 := Lib.hid (SP_7.out.below bK.out)
  have SQ_8 := Lib.hid (SQ_7.out.below bK.out)
  have SL_8 := Lib.hid (SL_7.out.below bK.out)
  have SZ_8 := Lib.hid (SZ0.out.below bK.out)
  clear HL_7 LB_7 SX_7 XR_7 SP_7 SQ_7 SL_7 SZ0
  have SK0 := Lib.hid OK.out.sRow
  have lK := OK.out.1
  obtain ⟨GK, lK2, TK⟩ := ranged_ok RK.out GPH.out GR.out TP TR (by first | omega | (simp; omega))
  have mK := mem_cut RK.out GPH.out.canon GR.out.canon
  have GKH := Lib.hid GK
  clear OK bK RK GK
  have eK : K = Q := canon_unique K Q GKH.out.canon GQH.out.canon (fun x => by rw [mK x, mP x, mQ x]; exact ⟨fun h => ⟨h.1.elim id (fun h2 => absurd h2 h.2), h.2⟩, fun h => ⟨.inl h.1, h.2⟩⟩)
  subst eK
  have zP := sizeR_cnt P 400 GPH.out.canon (fun r hr => ⟨(GPH.out.at_ r hr).1, TP r hr⟩)
  have zQ := sizeR_cnt K 400 GKH.out.canon (fun r hr => ⟨(GKH.out.at_ r hr).1, TK r hr⟩)
  have zX := sizeR_cnt X 400 GX.out.canon (fun r hr => ⟨(GX.out.at_ r hr).1, TX r hr⟩)
  have zZ := sizeR_cnt Z 400 GZH.out.canon (fun r hr => ⟨(GZH.out.at_ r hr).1, TZ r hr⟩)
  have zR := sizeR_cnt [(f, t)] 400 GR.out.canon (fun r hr => ⟨(GR.out.at_ r hr).1, TR r hr⟩)
  have e1 := cntP_add (p := hasB P) (q := hasB K) (s := hasB [(f, t)]) 400 (fun k _ => by rw [has_add mP, has_cut mQ]; cases hasB X k <;> cases hasB [(f, t)] k <;> decide)
  have e2 := cntP_add (p := hasB X) (q := hasB K) (s := hasB Z) 400 (fun k _ => by rw [has_both mZ, has_cut mQ]; cases hasB X k <;> cases hasB [(f, t)] k <;> decide)
  have u1 := cntP_le (hasB X) 400
  have u2 := cntP_le (hasB P) 400
  have u3 := cntP_le (hasB K) 400
  have u4 := cntP_le (hasB Z) 400
  rw [← zP, ← zQ, ← zR] at e1
  rw [← zX, ← zQ, ← zZ] at e2
  rw [← zX] at u1
  rw [← zP] at u2
  rw [← zQ] at u3
  rw [← zZ] at u4
  have e3 : sizeR [(f, t)] = t - f := by show (t - f) + 0 = _; omega
  rw [e3] at e1
  clear zP zQ zX zZ zR mP mQ mZ mK e3
  obtain ⟨sX, hsX⟩ : ∃ n, Hid (sizeR X = n) := ⟨_, rfl⟩
  obtain ⟨sP, hsP⟩ : ∃ n, Hid (sizeR P = n) := ⟨_, rfl⟩
  obtain ⟨sQ, hsQ⟩ : ∃ n, Hid (sizeR K = n) := ⟨_, rfl⟩
  obtain ⟨sZ, hsZ⟩ : ∃ n, Hid (sizeR Z = n) := ⟨_, rfl⟩
  rw [hsP.out, hsQ.out] at e1
  rw [hsX.out, hsQ.out, hsZ.out] at e2
  rw [hsX.out] at u1
  rw [hsP.out] at u2
  rw [hsQ.out] at u3
  rw [hsZ.out] at u4
  have E1 := Lib.hid e1
  have E2 := Lib.hid e2
  clear e1 e2
  go_wp2_with fail
  refine (sizeI _ aX nX cX X w8 SX_8.out GX.out).mono ?_
  rw [hsX.out]
  rintro e w9 ⟨rfl, bs⟩
  have HL_9 := Lib.hid (HL_8.out.below bs)
  have LB_9 := Lib.hid (LB_8.out.trans (bs.mono LB_8.out.size))
  have SX_9 := Lib.hid (SX_8.out.below bs)
  have XR_9 := Lib.hid (XR_8.out.below bs XR_8.out.lt)
  have SP_9 := Lib.hid (SP_8.out.below bs)
  have SQ_9 := Lib.hid (SQ_8.out.below bs)
  have SL_9 := Lib.hid (SL_8.out.below bs)
  have SZ_9 := Lib.hid (SZ_8.out.below bs)
  have SK_9 := Lib.hid (SK0.out.below bs)
  clear HL_8 LB_8 SX_8 XR_8 SP_8 SQ_8 SL_8 SZ_8 SK0
  go_upto_region 10 with fail
  have CP : Hid (∀ d os, Calls Try.prog 14 #[.slice aP nP cP] (grow (redrawn w9 d) os) fun e w'' => e = .returned (.int .i64 sP) ∧ ∃ p : Regrown, w'' = grow (redrawn w9 p.d) p.os) := fun d os => Calls.regrown_of (by have := sizeI _ aP nP cP P (grow (redrawn w9 d) os) (SP_9.out.below (below_regrown w9 d os)) GPH.out; rw [hsP.out] at this; exact this)
  have CQ : Hid (∀ d os, Calls Try.prog 14 #[.slice aQ nQ cQ] (grow (redrawn w9 d) os) fun e w'' => e = .returned (.int .i64 sQ) ∧ ∃ p : Regrown, w'' = grow (redrawn w9 p.d) p.os) := fun d os => Calls.regrown_of (by have := sizeI _ aQ nQ cQ K (grow (redrawn w9 d) os) (SQ_9.out.below (below_regrown w9 d os)) GQH.out; rw [hsQ.out] at this; exact this)
  have CZ : Hid (∀ d os, Calls Try.prog 14 #[.slice aZ nZ cZ] (grow (redrawn w9 d) os) fun e w'' => e = .returned (.int .i64 sZ) ∧ ∃ p : Regrown, w'' = grow (redrawn w9 p.d) p.os) := fun d os => Calls.regrown_of (by have := sizeI _ aZ nZ cZ Z (grow (redrawn w9 d) os) (SZ_9.out.below (below_regrown w9 d os)) GZH.out; rw [hsZ.out] at this; exact this)
  have CS : Hid (∀ d os, Calls Try.prog 9 #[.slice aK nK cK, .slice aQ nQ cQ] (grow (redrawn w9 d) os) fun e w'' => e = .returned (.bool true) ∧ ∃ p : Regrown, w'' = grow (redrawn w9 p.d) p.os) := fun d os => Calls.regrown_of (sameRanges _ _ aK nK cK aQ nQ cQ K (grow (redrawn w9 d) os) (SK_9.out.below (below_regrown w9 d os)) (SQ_9.out.below (below_regrown w9 d os)))
  have q0 : w9.cell? ⟨g, 0, none⟩ = some (.int .i64 f) := XR_9.out.cell 0
  have q1 : w9.cell? ⟨g, 1, none⟩ = some (.int .i64 t) := XR_9.out.cell 1
  have k0 := cell_regrown q0
  have k1 := cell_regrown q1
  have d1 : decide (0 ≤ sX) = true := by simp; omega
  have d2 : decide (sX < 1048576) = true := by simp; omega
  have d3 : (sP == sQ + t - f) = true := by have := E1.out; simp; omega
  have d4 : (sQ + sZ == sX) = true := by have := E2.out; simp; omega
  have LBF := LB_9
  refine wp_region_quiet_below (by kernel_rfl) (by kernel_rfl) ?_
  repeat (go_big_quiet_step (first | (go_at_call_of 14 aP; exact CP.out _ _) | (go_at_call_of 14 aQ; exact CQ.out _ _) | (go_at_call_of 14 aZ; exact CZ.out _ _) | (go_at_call 9; exact CS.out _ _)))
  refine wpQuiet_nil ?_
  intro _ hw'
  obtain ⟨⟨dq, osq⟩, hw''⟩ := hw'
  subst hw''
  have hbq := below_regrown w9 dq osq
  obtain ⟨W2, hW2⟩ : ∃ V, V = grow (redrawn w9 dq) osq := ⟨_, rfl⟩
  change Exit.then _ _ _ _ (grow (redrawn w9 dq) osq)
  rw [← hW2] at hbq ⊢
  clear hW2 k0 k1 CP CQ CZ CS q0 q1
  go_wp2_with fail
  go_ret
  exact ⟨rfl, LBF.out.trans (hbq.mono LBF.out.size)⟩
end Go.Proofs.Ytddjkcogfpihpaa
