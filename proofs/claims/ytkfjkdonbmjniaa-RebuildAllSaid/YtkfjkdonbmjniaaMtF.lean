/- Package mat: reduce, walked. -/
import Derived.Test.YtkfjkdonbmjniaaMtE
namespace Go.Proofs.Ytkfjkdonbmjniaa
open Go.RowKit
set_option linter.unusedVariables false
set_option maxRecDepth 100000

def Reduced (B g r cap C n : Nat) (M : List (List Int)) (w : World) (e : Ending) (w' : World) : Prop := ∃ bs, e = .returned (.int .i64 ((redN M n).2 : Nat)) ∧ Nst w' B (some ⟨g, 0, none⟩) r cap C bs (redN M n).1 ∧ Below B w w'
set_option maxHeartbeats 8000000 in
theorem reduceW {B g r cap C : Nat} {bs : List Nat} {M : List (List Int)} (n : Nat) (w : World) (h : Nst w B (some ⟨g, 0, none⟩) r cap C bs M) (hBw : B ≤ w.heap.size) (hn : n ≤ C) (hC : C ≤ 16) (hr8 : r ≤ 8) :
    Calls Try.prog 49 #[.slice (some ⟨g, 0, none⟩) r cap, .int .i64 n] w (Reduced B g r cap C n M w) := by
  have hle := h.out.row.hle
  have hmx := h.out.row.hmax
  unfold maxLen at hmx
  have hgl := (World.ownsRow.lt h.out g rfl).2
  have hlt0 : ∀ i, i < r → bs.getD i 0 < w.heap.size := fun i hi => h.lt i hi
  have HM : Hid (Rect M r C) := h.rect
  have R0 : Hid (RS w (w.alloc (.cells #[.int .i64 (0 : Nat)] 3)) B g r cap C w.heap.size 0 bs M) := ⟨h.below (Below_alloc1 _), Box.new rfl, Nat.le_refl _, hgl, hlt0, (Below_alloc1 _).mono hBw⟩
  clear h hlt0
  go_enter Try.func49, Try.ntmps49
  go_wp2_with fail
  go_loopw [5, 6] (fun rv cv wr => ∃ (c gc : Nat) (bs' : List Nat), c ≤ n ∧ cv = .pointer (some ⟨gc, 0, none⟩) ∧ rv = .int .i64 ((redN M c).2 : Nat) ∧ Hid (RS w wr B g r cap C gc c bs' (redN M c).1)) (fun _ cv wx => n - cAt wx cv)
  case atStart => exact ⟨0, w.heap.size, bs, by omega, rfl, rfl, R0⟩
  case round =>
    obtain ⟨c, gc, bs', hc, rfl, rfl, hR⟩ := hrel
    have hE := (red_echelon HM.out c (by omega)).1
    have hrk := hE.le_r
    have hX : Hid (Rect (redN M c).1 r C) := redN_rect HM.out c
    have hnext : redN M (c + 1) = stepM c (redN M c) := rfl
    have hend : Hid ((redN M c).2 = r → redN M n = redN M c) := fun e => by
      have := redN_end HM.out e (n - c)
      rwa [show c + (n - c) = n by omega] at this
    have hcell : wr.cell? ⟨gc, 0, none⟩ = some (.int .i64 (c : Int)) := hR.out.bc.cell 0
    have hBr : B ≤ wr.heap.size := by have := hR.out.bl.size; omega
    clear hE
    by_cases hgo : c < n ∧ (redN M c).2 < r
    · obtain ⟨hcn, hrr⟩ := hgo
      have hmeas : Hid (cAt wr (.pointer (some ⟨gc, 0, none⟩)) = c) := by show _ = _; rw [cAt_eq hcell]; rfl
      obtain ⟨X, hXe⟩ : ∃ X, Hid ((redN M c).1 = X) := ⟨_, rfl⟩
      obtain ⟨rank, hrank⟩ : ∃ rk, Hid ((redN M c).2 = rk) := ⟨_, rfl⟩
      have hstep : Hid (redN M (c + 1) = stepM c (X, rank)) := by show _ = _; rw [hnext, ← hXe.out, ← hrank.out]
      rw [hrank.out] at hrr hrk ⊢
      rw [hXe.out] at hR hX
      clear hend hnext
      have i1 : (c : Int) < (n : Int) := by omega
      have i2 : (rank : Int) < (r : Int) := by omega
      have i3 : (0 : Int) ≤ (rank : Int) := by omega
      have i4 : (rank : Int) ≤ (r : Int) := by omega
      have i5 : (rank : Int) ≤ (cap : Int) := by omega
      have i6 : ¬ cap = rank := by omega
      have i7 : (rank : Int) ≤ (cap : Int) := by omega
      have hgr : g < wr.heap.size := by have := hR.out.bl.size; have := hR.out.n.out; exact (World.ownsRow.lt this g rfl).2
      go_wp2_with fail
      refine (indexLead rank c gc wr hR.out.n hcell (by omega) hC hrr hr8).mono ?_
      rintro e w1 ⟨rfl, rfl⟩
      cases hl : leader X rank c with
      | none =>
        have hst := stepM_none (c := c) hl
        have HS : Hid (redN M (c + 1) = (X, rank)) := by show _ = _; rw [hstep.out, hst]
        have HNX := Lib.hid (hR.out.next hBw)
        rw [show leadI none = -1 from rfl]
        clear hst hl hR
        go_wp2_with fail
        go_roundw
        case rel => exact ⟨c + 1, wr.heap.size, bs', by omega, rfl, by rw [HS.out], by rw [HS.out]; exact HNX⟩
        case measure =>
          rw [hmeas.out, cAt_eq (HNX.out.bc.cell 0)]
          omega
      | some a =>
        obtain ⟨ha, hne⟩ := leader_some hX.out hl
        have hst := stepM_some (c := c) hl
        rw [show leadI (some a) = (a : Int) from rfl]
        obtain ⟨X1, hX1⟩ : ∃ Y, swapR X rank (rank + a) = Y := ⟨_, rfl⟩
        obtain ⟨bs1, hbs1⟩ : ∃ b, swapB bs' rank (rank + a) = b := ⟨_, rfl⟩
        have hR1 : Rect X1 r C := by rw [← hX1]; exact swapR_rect hX.out rank (rank + a) hrr ha
        have hv1 : at_ X1 rank c = at_ X (rank + a) c := by
          rw [← hX1]; unfold at_
          rw [swapR_getD _ _ _ _ (by rw [hX.out.1]; exact hrr) (by rw [hX.out.1]; exact ha), if_pos rfl]
        obtain ⟨X2, hX2⟩ : ∃ Y, scaled X1 rank c = Y := ⟨_, rfl⟩
        have hR2 : Rect X2 r C := by rw [← hX2]; exact scaled_rect hR1 rank c hrr
        have HS : Hid (redN M (c + 1) = (elimN X2 rank c r, rank + 1)) := by
          show _ = _
          rw [hstep.out, hst, hX1, hX2, hR2.1]
        have HSW := Lib.hid (hR.out.swap rank (rank + a) hrr ha)
        have HSW' := Lib.hid (hR.out.swap' rank (rank + a) hrr ha)
        rw [hX1, hbs1] at HSW HSW'
        have j1 : IntKind.i64.wrap ((rank : Int) + (a : Int)) = (rank : Int) + (a : Int) := IntWalk.i64_in _ (by omega)
        have j2 : (0 : Int) ≤ (rank : Int) + (a : Int) := by omega
        have j3 : (rank : Int) + (a : Int) < (r : Int) := by omega
        have j4 : ((rank : Int) + (a : Int)).toNat = rank + a := by omega
        have e1 : wr.drew.cell? ⟨g, rank, none⟩ = some (.slice (some ⟨bs'.getD rank 0, 0, none⟩) C C) := hR.out.n.cell rank hrr
        have e2 : wr.drew.cell? ⟨g, rank + a, none⟩ = some (.slice (some ⟨bs'.getD (rank + a) 0, 0, none⟩) C C) := hR.out.n.cell (rank + a) ha
        have e3 : wr.drew.frozen? ⟨g, rank, none⟩ = false := World.ownsRow.frozenAt hR.out.n.out _
        have e4 : wr.drew.frozen? ⟨g, rank + a, none⟩ = false := World.ownsRow.frozenAt hR.out.n.out _
        have e7 : wr.frozen? ⟨g, rank, none⟩ = false := e3
        have e8 : wr.frozen? ⟨g, rank + a, none⟩ = false := e4
        obtain ⟨p1, hp1⟩ : ∃ p, bs'.getD rank 0 = p := ⟨_, rfl⟩
        obtain ⟨p2, hp2⟩ : ∃ p, bs'.getD (rank + a) 0 = p := ⟨_, rfl⟩
        rw [hp1, hp2] at HSW HSW'
        rw [hp1] at e1
        rw [hp2] at e2
        obtain ⟨x5, e5⟩ := hR.out.n.again rank (rank + a) (.slice (some ⟨p2, 0, none⟩) C C) ha
        obtain ⟨x6, e6⟩ := hR.out.n.again (rank + a) rank (.slice (some ⟨p1, 0, none⟩) C C) hrr
        clear hst hl hX1 hbs1 hp1 hp2
        go_upto_region 7 with fail
        go_cut [] (fun wx => Hid (RS w wx B g r cap C gc c bs1 X1))
        case first =>
          go_region
          all_goals
            go_wp2_with fail
            go_meet
            first | exact HSW.out.below hBw (Below.refl _ _).drew | exact HSW'.out.below hBw (Below.refl _ _).drew
        case rest =>
          have hR' := hcut
          clear hR HSW HSW' e1 e2 e3 e4 e5 e6 e7 e8 j1 j2 j3 j4
          obtain ⟨y, hy⟩ : ∃ y, X1.getD rank [] = y := ⟨_, rfl⟩
          obtain ⟨bt, hbt⟩ : ∃ b, bs1.getD rank 0 = b := ⟨_, rfl⟩
          obtain ⟨v, hv⟩ : ∃ v, y.getD c 0 = v := ⟨_, rfl⟩
          have hyl : y.length = C ∧ El y := by rw [← hy]; exact hR1.get rank hrr
          have hvr := hyl.2.getD c
          rw [hv] at hvr
          have hv0 : 1 ≤ v ∧ v ≤ 255 := by
            have : at_ X1 rank c ≠ 0 := by rw [hv1]; exact hne
            unfold at_ at this
            rw [hy, hv] at this
            omega
          have hX2e : X2 = X1.set rank (scaleR (ginv v.toNat) y) := by
            rw [← hX2]; unfold scaled at_; rw [hy, hv]
          have f1 : wc.cell? ⟨g, rank, none⟩ = some (.slice (some ⟨bt, 0, none⟩) C C) := by rw [hR'.out.n.cell rank hrr, hbt]
          have f2 : wc.cell? ⟨gc, 0, none⟩ = some (.int .i64 (c : Int)) := hR'.out.bc.cell 0
          have f3 : wc.cell? ⟨bt, c, none⟩ = some (.int .i64 v) := by
            have := hR'.out.n.at rank c hrr (by omega)
            rw [hy, hv, hbt] at this; exact this
          have hcC : (c : Int) < (C : Int) := by omega
          have HX2 := Lib.hid hX2e
          have HY := Lib.hid hy
          have HBT := Lib.hid hbt
          have HYL := Lib.hid hyl
          clear hX2e hy hbt hyl hv1 hne hvr hX2
          go_wp2_with fail
          refine (invG v wc hv0).mono ?_
          rintro e w2 ⟨iv, hiv, hiv0, hiv1, rfl, hb2⟩
          obtain ⟨ivn, rfl⟩ := Int.eq_ofNat_of_zero_le hiv0
          have hivn : Hid (ivn = ginv v.toNat) := by have := hiv.out; show _ = _; omega
          have R2 := Lib.hid (hR'.out.below hBw hb2)
          clear hb2 f1 f2 f3 hR' hcut hiv
          go_wp2_with fail
          go_loopw [66] (fun kv wx => ∃ k : Nat, k ≤ C ∧ kv = .int .i64 k ∧ Hid (RS w wx B g r cap C gc c bs1 (X1.set rank (scaleN ivn y k)))) (fun kv _ => C - (intOf kv).toNat)
          case atStart => exact ⟨0, by omega, rfl, by rw [scaleN_zero, ← HY.out, set_getD _ _ (by rw [hR1.1]; exact hrr)]; exact R2⟩
          case round =>
            obtain ⟨k, hk, rfl, hS⟩ := hrel
            by_cases hkC : k < C
            · have hkI : (k : Int) < (C : Int) := by omega
              have hyk := HYL.out.2.getD k
              obtain ⟨u, hu⟩ : ∃ u, y.getD k 0 = u := ⟨_, rfl⟩
              have hg1 : (X1.set rank (scaleN ivn y k)).getD rank [] = scaleN ivn y k := by rw [getD_set_eq _ _ _ _ (by rw [hR1.1]; exact hrr), if_pos rfl]
              have f1 : wr.cell? ⟨bt, k, none⟩ = some (.int .i64 u) := by
                have := hS.out.n.at rank k hrr hkC
                rw [hg1, scaleN_getD _ _ _ _ (by rw [HYL.out.1]; exact hkC), if_neg (by omega), hu, HBT.out] at this
                exact this
              rw [hu] at hyk
              have HSET : Hid (∀ W, RS w W B g r cap C gc c bs1 (X1.set rank (scaleN ivn y k)) → ∀ z : Int, z = ((gmul u.toNat ivn : Nat) : Int) → 0 ≤ z ∧ z ≤ 255 → W.cell? ⟨bt, k, none⟩ = some (.int .i64 u) ∧ W.frozen? ⟨bt, k, none⟩ = false ∧ RS w (W.setCell ⟨bt, k, none⟩ (.int .i64 z)) B g r cap C gc c bs1 (X1.set rank (scaleN ivn y (k + 1)))) := by
                intro W hW z hz hz2
                have h1 := hW.n.at rank k hrr hkC
                rw [hg1, scaleN_getD _ _ _ _ (by rw [HYL.out.1]; exact hkC), if_neg (by omega), hu, HBT.out] at h1
                have h2 := hW.put rank k hrr hkC z hz2
                rw [hg1, set_set, hz, ← hu, scaleN_set _ _ _ (by rw [HYL.out.1]; exact hkC), HBT.out, hu] at h2
                refine ⟨h1, ?_, by rw [hz]; exact h2⟩
                have := (hW.n.row rank hrr).1.free k
                rw [HBT.out] at this; exact this
              have HU := Lib.hid hu
              clear hg1 hu
              go_wp2_with fail
              refine (timesM u ivn wr hyk (by omega)).mono ?_
              rintro e w3 ⟨z, hz, hz0, hz1, rfl, hb3⟩
              obtain ⟨q1, q2, q3⟩ := HSET.out w3 (hS.out.below hBw hb3) z (by rw [hz.out]; simp) ⟨hz0, hz1⟩
              have Q3 := Lib.hid q3
              clear q3 hb3 hS f1 hz HSET
              go_wp2_with fail
              go_roundw
              case rel => exact ⟨k + 1, by omega, by go_num, Q3⟩
              case measure => simp [intOf]; omega
            · obtain rfl : k = C := by omega
              have hfin : Hid (RS w wr B g r cap k gc c bs1 X2) := by
                have := hS.out
                rw [show scaleN ivn y k = scaleR (ginv v.toNat) y by unfold scaleR; rw [HYL.out.1, hivn.out], ← HX2.out] at this
                exact this
              clear hS R2
              have hR2l := Lib.hid hR2
              have hR1l := hR1.1
              have hR2len := hR2.1
              clear HX2 HY HYL hR1 hR2 hX
              go_wp2_with fail
              go_loopw [81] (fun iv wx => ∃ i : Nat, i ≤ r ∧ iv = .int .i64 i ∧ Hid (RS w wx B g r cap k gc c bs1 (elimN X2 rank c i))) (fun iv _ => r - (intOf iv).toNat)
              case atStart => exact ⟨0, by omega, rfl, by rw [elimN_zero]; exact hfin⟩
              case round =>
                obtain ⟨i, hi, rfl, hS⟩ := hrel
                by_cases hir : i < r
                · have hiI : (i : Int) < (r : Int) := by omega
                  obtain ⟨row, hrow⟩ : ∃ y, X2.getD i [] = y := ⟨_, rfl⟩
                  obtain ⟨bi, hbi⟩ : ∃ b, bs1.getD i 0 = b := ⟨_, rfl⟩
                  obtain ⟨f, hf⟩ : ∃ v, row.getD c 0 = v := ⟨_, rfl⟩
                  have hrl : row.length = k ∧ El row := by rw [← hrow]; exact hR2l.out.get i hir
                  have hfr := hrl.2.getD c
                  rw [hf] at hfr
                  have hat : at_ X2 i c = f.toNat := by unfold at_; rw [hrow, hf]
                  have hcur : (elimN X2 rank c i).getD i [] = row := by rw [elimN_getD _ _ _ _ _ (by rw [hR2len]; exact hir), if_neg (by omega), hrow]
                  have f1 : wr.cell? ⟨g, i, none⟩ = some (.slice (some ⟨bi, 0, none⟩) k k) := by rw [hS.out.n.cell i hir, hbi]
                  have f2 : wr.cell? ⟨gc, 0, none⟩ = some (.int .i64 (c : Int)) := hS.out.bc.cell 0
                  have f3 : wr.cell? ⟨bi, c, none⟩ = some (.int .i64 f) := by
                    have := hS.out.n.at i c hir (by omega)
                    rw [hcur, hf, hbi] at this; exact this
                  have hcC : (c : Int) < (k : Int) := by omega
                  by_cases hsk : i = rank ∨ f = 0
                  · have hnx : Hid (elimN X2 rank c (i + 1) = elimN X2 rank c i) := elimN_skip _ _ _ _ (by rw [hR2len]; exact hir) (by
                      rcases hsk with h | h
                      · exact .inl h
                      · right; rw [hat, h]; rfl)
                    by_cases hir2 : i = rank
                    · have b1 : ((i : Int) == (rank : Int)) = true := by simp; omega
                      clear hsk hcur hat hir2
                      go_wp2_with fail
                      go_roundw
                      case rel => exact ⟨i + 1, by omega, by go_num, by rw [hnx.out]; exact hS⟩
                      case measure => simp [intOf]; omega
                    · have b1 : ((i : Int) == (rank : Int)) = false := by simp; omega
                      have hf0 : f = 0 := hsk.resolve_left hir2
                      have b2 : (f == 0) = true := by simp [hf0]
                      clear hsk hcur hat hf0
                      go_wp2_with fail
                      go_roundw
                      case rel => exact ⟨i + 1, by omega, by go_num, by rw [hnx.out]; exact hS⟩
                      case measure => simp [intOf]; omega
                  · have hir2 : ¬ i = rank := fun h => hsk (.inl h)
                    have hf0 : ¬ f = 0 := fun h => hsk (.inr h)
                    have b1 : ((i : Int) == (rank : Int)) = false := by simp; omega
                    have b2 : (f == 0) = false := by simp [hf0]
                    obtain ⟨top, htop⟩ : ∃ y, X2.getD rank [] = y := ⟨_, rfl⟩
                    have htl : top.length = k ∧ El top := by rw [← htop]; exact hR2l.out.get rank hrr
                    have hnx : Hid (elimN X2 rank c (i + 1) = (elimN X2 rank c i).set i (xorN f.toNat top row k)) := by
                      show _ = _
                      rw [← elimN_set _ _ _ _ (by rw [hR2len]; exact hir)]
                      unfold elimRow
                      rw [hat, if_neg (by rintro (h | h); exact hir2 h; omega), htop, hrow]
                      unfold xorR
                      rw [hrl.1]
                    have HTOP := Lib.hid htop
                    have HTL := Lib.hid htl
                    have HRL := Lib.hid hrl
                    have HCUR := Lib.hid hcur
                    have HBI := Lib.hid hbi
                    have hbi2 : Hid (bi ≠ bt) := fun e => hir2 (hS.out.n.nd i rank hir hrr (by rw [hbi, HBT.out]; exact e))
                    have f4 : wr.cell? ⟨g, rank, none⟩ = some (.slice (some ⟨bt, 0, none⟩) k k) := by rw [hS.out.n.cell rank hrr, HBT.out]
                    clear hsk hcur hat hf0 htop htl hrl hbi
                    go_wp2_with fail
                    go_loopw [102] (fun tv wx => ∃ t : Nat, t ≤ k ∧ tv = .int .i64 t ∧ Hid (RS w wx B g r cap k gc c bs1 ((elimN X2 rank c i).set i (xorN f.toNat top row t)))) (fun tv _ => k - (intOf tv).toNat)
                    case atStart => exact ⟨0, by omega, rfl, by rw [xorN_zero, ← HCUR.out, set_getD _ _ (by rw [elimN_length, hR2len]; exact hir)]; exact hS⟩
                    case round =>
                      obtain ⟨t, ht, rfl, hT⟩ := hrel
                      by_cases htk : t < k
                      · have htI : (t : Int) < (k : Int) := by omega
                        obtain ⟨rv, hrv⟩ : ∃ v, row.getD t 0 = v := ⟨_, rfl⟩
                        obtain ⟨tv, htv⟩ : ∃ v, top.getD t 0 = v := ⟨_, rfl⟩
                        have hrvr := HRL.out.2.getD t
                        have htvr := HTL.out.2.getD t
                        rw [hrv] at hrvr
                        rw [htv] at htvr
                        have hil : i < (elimN X2 rank c i).length := by rw [elimN_length, hR2len]; exact hir
                        have HSET : Hid (∀ W, RS w W B g r cap k gc c bs1 ((elimN X2 rank c i).set i (xorN f.toNat top row t)) → W.cell? ⟨bi, t, none⟩ = some (.int .i64 rv) ∧ W.cell? ⟨bt, t, none⟩ = some (.int .i64 tv) ∧ W.frozen? ⟨bi, t, none⟩ = false ∧ ∀ z : Int, z = ((rv.toNat ^^^ gmul f.toNat tv.toNat : Nat) : Int) → RS w (W.setCell ⟨bi, t, none⟩ (.int .i64 z)) B g r cap k gc c bs1 ((elimN X2 rank c i).set i (xorN f.toNat top row (t + 1)))) := by
                          intro W hW
                          have h1 := hW.n.at i t hir htk
                          rw [getD_set_eq _ _ _ _ hil, if_pos rfl, xorN_getD _ _ _ _ _ (by rw [HRL.out.1]; exact htk), if_neg (by omega), hrv, HBI.out] at h1
                          have h2 := hW.n.at rank t hrr htk
                          rw [getD_set_eq _ _ _ _ hil, if_neg (by omega), elimN_at _ _ _ _ (by rw [hR2len]; exact hrr), HTOP.out, htv, HBT.out] at h2
                          have h3 := (hW.n.row i hir).1.free t
                          rw [HBI.out] at h3
                          refine ⟨h1, h2, h3, fun z hz => ?_⟩
                          have hz2 : rv.toNat ^^^ gmul f.toNat tv.toNat < 256 := xor_lt (by omega) (gmul_lt (by omega))
                          have h4 := hW.put i t hir htk z (by rw [hz]; omega)
                          rw [getD_set_eq _ _ _ _ hil, if_pos rfl, set_set, hz, ← hrv, ← htv, xorN_set _ _ _ _ (by rw [HRL.out.1]; exact htk), HBI.out, hrv, htv] at h4
                          rw [hz]; exact h4
                        have HTW : Hid (∀ W', Below wr.heap.size wr W' → Calls Try.prog 58 #[.int .i64 f, .int .i64 tv] W' fun e w' => ∃ z : Int, Hid (z = ((gmul f.toNat tv.toNat : Nat) : Int)) ∧ 0 ≤ z ∧ z ≤ 255 ∧ e = .returned (.int .i64 z) ∧ RS w w' B g r cap k gc c bs1 ((elimN X2 rank c i).set i (xorN f.toNat top row t))) := by
                          intro W' hb
                          refine (timesM f tv W' hfr htvr).mono ?_
                          rintro e w' ⟨z, hz, hz0, hz1, rfl, hb'⟩
                          exact ⟨z, hz, hz0, hz1, rfl, hT.out.below hBw (hb.trans (hb'.mono hb.size))⟩
                        have hB0' : Below wr.heap.size wr wr.drew := (Below.refl _ _).drew
                        obtain ⟨g1, g2, g3, _⟩ := HSET.out wr hT.out
                        have HRV := Lib.hid hrvr
                        clear hrv htv f1 f2 f3 f4 hrvr
                        go_upto_region 23 with fail
                        go_region_law (go_simp; go_at_call 58; refine (HTW.out _ ?_).mono ?_; (exact hB0'); rintro e w' ⟨z, hz, hz0, hz1, rfl, hS2⟩; have s1 := (HSET.out _ hS2).1; have s2 := (HSET.out _ hS2).2.1; have s3 := (HSET.out _ hS2).2.2.1)
                        all_goals
                          have hzz : bits .xor .i64 rv z = ((rv.toNat ^^^ gmul f.toNat tv.toNat : Nat) : Int) := by
                            have h1 := HRV.out
                            have h2 := hz.out
                            have h3 : gmul f.toNat tv.toNat < 256 := gmul_lt (by omega)
                            obtain ⟨rn, rfl⟩ := Int.eq_ofNat_of_zero_le h1.1
                            rw [h2]
                            rw [xor_out rn _ (by omega) (by omega)]; simp
                          have HQ := Lib.hid ((HSET.out _ hS2).2.2.2 _ hzz)
                          clear s1 s2 s3 hS2 hzz HSET HTW hT g1 g2 g3
                          go_wp2_with fail
                          go_roundw
                          case rel => exact ⟨t + 1, by omega, by go_num, HQ⟩
                          case measure => simp [intOf]; omega
                      · obtain rfl : t = k := by omega
                        go_wp2_with fail
                        go_roundw
                        case rel => exact ⟨i + 1, by omega, by go_num, by rw [hnx.out]; exact hT⟩
                        case measure => simp [intOf]; omega
                · obtain rfl : i = r := by omega
                  have f2 : wr.cell? ⟨gc, 0, none⟩ = some (.int .i64 (c : Int)) := hS.out.bc.cell 0
                  have HNX := Lib.hid (hS.out.next hBw)
                  go_wp2_with fail
                  go_roundw
                  case rel => exact ⟨c + 1, wr.heap.size, bs1, by omega, rfl, by rw [HS.out]; go_num, by rw [HS.out]; exact HNX⟩
                  case measure =>
                    rw [hmeas.out, cAt_eq (HNX.out.bc.cell 0)]
                    omega
    · have hfin : redN M n = redN M c := by
        by_cases h1 : c < n
        · exact hend.out (by omega)
        · obtain rfl : c = n := by omega
          rfl
      have HF := Lib.hid hfin
      have HRR := Lib.hid hR.out
      obtain ⟨rank, hrank⟩ : ∃ rk, Hid ((redN M c).2 = rk) := ⟨_, rfl⟩
      rw [hrank.out] at hgo hrk ⊢
      have hfr : Hid ((redN M n).2 = rank) := by show _ = _; rw [HF.out, hrank.out]
      clear hend hnext hX hfin hR
      by_cases h1 : c < n
      · have b1 : decide ((c : Int) < (n : Int)) = true := decide_eq_true (by omega)
        have b2 : decide ((rank : Int) < (r : Int)) = false := decide_eq_false (by omega)
        have i1 : (c : Int) < (n : Int) := by omega
        go_wp2_with fail
        go_ret
        exact ⟨bs', by rw [hfr.out]; rfl, by rw [HF.out]; exact HRR.out.n, HRR.out.bl⟩
      · have b1 : decide ((c : Int) < (n : Int)) = false := decide_eq_false (by omega)
        go_wp2_with fail
        go_ret
        exact ⟨bs', by rw [hfr.out]; rfl, by rw [HF.out]; exact HRR.out.n, HRR.out.bl⟩
end Go.Proofs.Ytkfjkdonbmjniaa
