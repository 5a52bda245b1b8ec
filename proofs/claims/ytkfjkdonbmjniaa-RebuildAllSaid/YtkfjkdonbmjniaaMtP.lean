/- The walk of mat.Apply. -/
import Derived.Test.YtkfjkdonbmjniaaMtM
namespace Go.Proofs.Ytkfjkdonbmjniaa
open Go.RowKit
set_option linter.unusedVariables false
set_option maxRecDepth 100000

def AppPost (M : List (List Int)) (v : List Int) (r n : Nat) (w : World) (e : Ending) (w' : World) : Prop :=
  ∃ a c', e = .returned (.tuple #[.slice a r c', .int .i64 0]) ∧ Hid (SOwn (Lay.int .i64) w' w.heap.size 3 (fun _ => False) a r c' (appM M v r n)) ∧ Hid (Below w.heap.size w w')
set_option maxHeartbeats 8000000 in
theorem applyMat (a : Option Addr) (ca : Nat) (b : Option Addr) (cb : Nat) (A : List (List Int)) (v : List Int) (r n : Nat) (w : World) {F : Nat → Prop} (ha : SRow (Lay.int .i64).slice w F a r ca A) (hb : Row .i64 w b n cb v) (hA : Mat A r n) (hv : El v) :
    Calls Try.prog 27 #[.slice a r ca, .slice b n cb] w (AppPost A v r n w) := by
  have hma := ha.hmax
  have hmb := hb.hmax
  have hla := ha.hle
  have hlb := hb.hle
  unfold maxLen at hma hmb
  have HA := Lib.hid hA
  have HV := Lib.hid hv
  obtain ⟨_, ⟨r1, r2⟩, ⟨n1, n2⟩, _⟩ := hA
  have SA := Lib.hid ha
  have SB := Lib.hid hb
  clear ha hb hv
  obtain ⟨B0, hB0⟩ : ∃ B, Hid (w.heap.size = B) := ⟨_, rfl⟩
  go_enter Try.func27, Try.ntmps27
  go_wp2_with fail
  obtain ⟨V, hV⟩ : ∃ V, V = w.alloc (.cells #[.slice b n cb] 29) := ⟨_, rfl⟩
  have LV : Hid (Below B0 w V) := by rw [hV, ← hB0.out]; exact Below_alloc1 _
  have XB : Box V w.heap.size #[.slice b n cb] 29 := by rw [hV]; exact Box.new rfl
  rw [← hV]
  rw [hB0.out] at XB ⊢
  have HXB := Lib.hid XB
  have qb1 : V.cell? ⟨B0, 0, none⟩ = some (.slice b n cb) := XB.cell 0
  have SAV := Lib.hid (SA.out.below (by rw [hB0.out]; exact LV.out))
  have SBV := Lib.hid (SB.out.below (by rw [hB0.out]; exact LV.out))
  clear hV XB SA SB
  refine (mayM a r ca A r n V SAV.out HA.out).mono ?_
  rintro e w' ⟨rfl, rfl⟩
  go_wp2_with fail
  refine (allM b n cb v V SBV.out HV.out).mono ?_
  rintro e w' ⟨rfl, rfl⟩
  obtain ⟨ba, oa, aa0, la0, ca0, rfl, _, ea0, ra0⟩ := mget SAV.out 0 (by omega)
  have hla0 : n = la0 := by rw [← ra0.hlen]; exact (HA.out.get 0 (by omega)).1.symm
  subst hla0
  rw [Nat.add_zero] at ea0
  have xa0 := ra0.hmax
  have ya0 := ra0.hle
  unfold maxLen at xa0
  have hnn : ((n : Int) != (n : Int)) = false := by simp
  clear ra0
  go_wp2
  go_quiet (fail)
  go_wp2_with fail
  obtain ⟨V0, hV0⟩ : ∃ W, W = V.drewN nq := ⟨_, rfl⟩
  have LV0 : Hid (Below B0 w V0) := by rw [hV0]; exact below_drewN LV.out nq
  have SA0 : Hid (SRow (Lay.int .i64).slice V0 F (some ⟨ba, oa, none⟩) r ca A) := by rw [hV0]; exact SAV.out.drewN nq
  have SB0 : Hid (Row .i64 V0 b n cb v) := by rw [hV0]; exact SBV.out.below (below_drewN (Below.refl _ _) nq)
  have XB0 : Hid (Box V0 B0 #[.slice b n cb] 29) := by rw [hV0]; exact HXB.out.drewN nq
  rw [← hV0]
  clear hV0 LV SAV SBV HXB qb1 ea0
  have hBV : B0 ≤ V0.heap.size := by have := LV0.out.size; have := hB0.out; omega
  obtain ⟨bv, ov, rfl⟩ : ∃ b' o', b = some ⟨b', o', none⟩ := by
    rcases SB0.out.hat with h0 | ⟨b', o', h1, _⟩
    · omega
    · exact ⟨b', o', h1⟩
  go_loopw [6, 26] (fun ov iv wr => ∃ (i : Nat) (ao : Option Addr) (co : Nat), i ≤ r ∧ iv = .int .i64 i ∧ ov = .slice ao i co ∧ Hid (SOwn (Lay.int .i64) wr V0.heap.size 3 (fun _ => False) ao i co (appM A v i n)) ∧ Hid (Below V0.heap.size V0 wr)) (fun _ iv _ => r - (intOf iv).toNat)
  case atStart => exact ⟨0, none, 0, by omega, rfl, rfl, SOwn.nil .., Below.refl _ _⟩
  case round =>
    obtain ⟨i, ao, co, hi, rfl, rfl, hO, hL⟩ := hrel
    by_cases hlt : i < r
    · obtain ⟨ba', oa', ar, lr, cr, heq, hbaw, er, rr⟩ := mget (SA0.out.below hL.out) i hlt
      injection heq with heq; injection heq with e1 e2
      subst e1 e2
      have hlr : n = lr := by rw [← rr.hlen]; exact (HA.out.get i hlt).1.symm
      subst hlr
      have xr := rr.hmax
      have yr := rr.hle
      unfold maxLen at xr
      obtain ⟨br, or_, rfl, hcr⟩ : ∃ b' o', ar = some ⟨b', o', none⟩ ∧ ∀ t, t < n → wr.cell? ⟨b', o' + t, none⟩ = some (.int .i64 ((A.getD i []).getD t 0)) := by
        rcases rr.hat with h0 | ⟨b', o', h1, h2⟩
        · omega
        · exact ⟨b', o', h1, h2⟩
      have HCR := Lib.hid hcr
      have hcv : ∀ t, t < n → wr.cell? ⟨bv, ov + t, none⟩ = some (.int .i64 (v.getD t 0)) := by
        rcases (SB0.out.below hL.out).hat with h0 | ⟨b', o', h1, h2⟩
        · omega
        · injection h1 with h1; injection h1 with e1 e2
          subst e1 e2
          exact h2
      have HCV := Lib.hid hcv
      have hXo := Lib.hid (XB0.out.below hL.out XB0.out.lt)
      have qbo : wr.cell? ⟨B0, 0, none⟩ = some (.slice (some ⟨bv, ov, none⟩) n cb) := hXo.out.cell 0
      have hB0o := hXo.out.lt
      have hVo : V0.heap.size ≤ wr.heap.size := hL.out.size
      clear hcr rr hcv
      go_wp2_with fail
      obtain ⟨W, hWd⟩ : ∃ W, W = wr.alloc (.cells #[.slice (some ⟨br, or_, none⟩) n cr] 29) := ⟨_, rfl⟩
      obtain ⟨gr, hgr⟩ : ∃ g, wr.heap.size = g := ⟨_, rfl⟩
      have XR : Box W gr #[.slice (some ⟨br, or_, none⟩) n cr] 29 := by rw [hWd]; exact Box.new hgr.symm
      have LW : Hid (Below wr.heap.size wr W) := by rw [hWd]; exact Below_alloc1 _
      rw [← hWd]
      rw [hgr]
      have qr : W.cell? ⟨gr, 0, none⟩ = some (.slice (some ⟨br, or_, none⟩) n cr) := XR.cell 0
      have kw : ∀ {p : Addr} {v : Value}, wr.cell? p = some v → W.cell? p = some v := fun h => (LW.out.cell (World.block_lt_of_cell? _ _ h)).trans h
      have qbw := kw qbo
      have OW := Lib.hid (hO.out.below LW.out)
      have LVW : Hid (Below V0.heap.size V0 W) := hL.out.trans (LW.out.mono hVo)
      have hVW : V0.heap.size ≤ W.heap.size := by have := LW.out.size; omega
      have HF : Hid (∀ w', Below W.heap.size W w' → ∀ t, t < n → Calls Try.prog 47 #[.int .i64 t, .pointer (some ⟨gr, 0, none⟩), .pointer (some ⟨B0, 0, none⟩)] w' fun e w'' => e = .returned (.tuple #[.int .i64 (at_ A i t : Nat), .int .i64 ((v.getD t 0).toNat : Nat)]) ∧ ∃ q, w'' = w'.drewN q) := by
        intro w' hl t ht
        have kc : ∀ {p : Addr} {v : Value}, W.cell? p = some v → w'.cell? p = some v := fun h => (hl.cell (World.block_lt_of_cell? _ _ h)).trans h
        have e1 := kc (kw (HCR.out t ht))
        have e2 := kc (kw (HCV.out t ht))
        have p1 := (HA.out.el i).getD t
        have p2 := HV.out.getD t
        rw [show (A.getD i []).getD t 0 = ((at_ A i t : Nat) : Int) by unfold at_; omega] at e1
        rw [show v.getD t 0 = (((v.getD t 0).toNat : Nat) : Int) by omega] at e2
        exact app1 t gr B0 br or_ n cr bv ov n cb _ _ w' (kc qr) (kc qbw) e1 e2 ht ht
      obtain ⟨D, hD⟩ : ∃ D, Hid (dotN (fun t => at_ A i t) (fun t => (v.getD t 0).toNat) n = D) := ⟨_, rfl⟩
      have hDlt : D < 256 := by rw [← hD.out]; exact xs_lt (fun t => gmul_lt (at_lt HA.out i t)) n
      refine (dotApp n _ _ (fun t => at_ A i t) (fun t => (v.getD t 0).toNat) W (by omega) (fun t => at_lt HA.out i t) (fun t => by have := HV.out.getD t; omega) HF.out).mono ?_
      rintro e w2 ⟨he, hle⟩
      rw [hD.out] at he
      subst he
      have O2 := Lib.hid (OW.out.below hle)
      have L2 : Hid (Below V0.heap.size V0 w2) := LVW.out.trans (hle.mono hVW)
      have hV2 : V0.heap.size ≤ w2.heap.size := by have := hle.size; omega
      clear HF hle OW LVW hO hL XR
      go_wp2_with (at_builtin; refine wpList_append_one (L := Lay.int .i64) rfl (.tmp 30) (.tmp 35) 29 rfl V0.heap.size 3 _ 8 Try.underlying29 info_int8 rfl (fun _ => False) ao i co _ rfl O2.out #[.int .i64 (D : Int)] (D : Int) rfl (fun _ => False) ⟨rfl, El.wf (l := [(D : Int)]) (fun x hx => by rw [List.mem_singleton.1 hx]; omega) _ (List.mem_singleton.2 rfl)⟩ (fun b h => h.elim) (by unfold maxLen; omega) (by omega) hV2 ?_)
      intro a7 c7 w7 hown7 hg7
      have L7 : Hid (Below V0.heap.size V0 w7) := O2.out.grown L2.out (Nat.le_refl _) hV2 hg7
      have O7 : Hid (SOwn (Lay.int .i64) w7 V0.heap.size 3 (fun _ => False) a7 (i + 1) c7 (appM A v (i + 1) n)) := by rw [appM_succ, hD.out]; exact hown7
      clear hown7 hg7 O2 L2
      go_wp2_with fail
      go_roundw
      case rel => exact ⟨i + 1, a7, c7, by omega, by go_num, rfl, O7, L7⟩
      case measure => simp [intOf]; omega
    · obtain rfl : i = r := by omega
      go_wp2_with fail
      go_ret2
      exact ⟨ao, co, rfl, by rw [hB0.out]; exact hO.out.mono hBV (fun b hb => hb), by rw [hB0.out]; exact LV0.out.trans (hL.out.mono hBV)⟩
end Go.Proofs.Ytkfjkdonbmjniaa
