/- The walk of take. -/
import Derived.Test.YteidmdakglkkfaaSpK
namespace Go.Proofs.Yteidmdakglkkfaa
open Go.RowKit
set_option linter.unusedVariables false

theorem info_rec : (Try.prog.info? 106).map (fun i => (i.zero, i.size, i.bytes)) = some (some (.agg #[.bool false, .int .i64 0, .int .i64 0]), 3, 24) := by kernel_rfl
/-- What a method that tells a Found leaves. -/
def Finds (B g gu : Nat) (r : Sp × Nat × Nat) (w : World) (e : Ending) (w' : World) : Prop :=
  ∃ (code from_ : Int) (a : Option Addr) (l c : Nat), e = .returned (.agg #[.int .i64 code, .int .i64 from_, .int .i64 0]) ∧ Hid (code = (r.2.1 : Int)) ∧ Hid (from_ = (r.2.2 : Int)) ∧ Hid (Spc B w' g gu r.1 a l c) ∧ Hid (SpKeep B g gu w w')
set_option maxHeartbeats 4000000 in
theorem sp_take (B g gu : Nat) (s : Sp) (a : Option Addr) (l c : Nat) (w : World) (hs : Spc B w g gu s a l c) (count : Int) (hn : s.us.length ≤ 4096) (hleft : -1000000 ≤ s.left ∧ s.left ≤ 1000000) (hlog : s.log.length ≤ 10000000) :
    Calls Try.prog 51 #[.pointer (some ⟨g, 0, none⟩), .int .i64 count] w (Finds B g gu (s.take count) w) := by
  have hgl : g < w.heap.size := hs.hb.lt
  have hul : gu < w.heap.size := hs.hu.lt
  have hB : B ≤ w.heap.size := by have := hs.h1; omega
  have hne : g ≠ gu := hs.hb.ne hs.hu (by decide)
  have c0 : w.cell? ⟨g, 0, none⟩ = some (.slice (some ⟨gu, 0, none⟩) s.us.length s.us.length) := hs.hb.cell 0
  have HS := Lib.hid hs
  obtain ⟨us, left, log⟩ := s
  simp only at *
  obtain ⟨n, hnn⟩ : ∃ n, Hid (us.length = n) := ⟨_, rfl⟩
  rw [hnn.out] at c0 hn
  clear hs
  have HB := Lib.hid hB
  by_cases h1 : count < 1
  · have hres : Hid (Sp.take ⟨us, left, log⟩ count = (⟨us, left, log⟩, 2, 0)) := by show _ = _; rw [Sp.take, if_pos (.inl h1)]
    go_enter Try.func51, Try.ntmps51
    go_wp2_with fail
    rw [hres.out]
    exact bodyPost_ret (v := .agg #[.int .i64 2, .int .i64 0, .int .i64 0]) (by simp [results, Try.results51, go_sem]) rfl
      ⟨2, 0, a, l, c, rfl, rfl, rfl, ⟨HS.out.hb.alloc _, HS.out.hu.alloc _, HS.out.ho.alloc _, HS.out.h1, HS.out.h2⟩, (SpKeep.refl _ _ _ _).alloc HB.out _⟩
  · by_cases h2 : (n : Int) < count
    · have hres : Hid (Sp.take ⟨us, left, log⟩ count = (⟨us, left, log⟩, 2, 0)) := by show _ = _; rw [Sp.take, if_pos (.inr (by show ((us.length : Nat) : Int) < count; rw [hnn.out]; exact h2))]
      go_enter Try.func51, Try.ntmps51
      go_wp2_with fail
      rw [hres.out]
      exact bodyPost_ret (v := .agg #[.int .i64 2, .int .i64 0, .int .i64 0]) (by simp [results, Try.results51, go_sem]) rfl
        ⟨2, 0, a, l, c, rfl, rfl, rfl, ⟨HS.out.hb.alloc _, HS.out.hu.alloc _, HS.out.ho.alloc _, HS.out.h1, HS.out.h2⟩, (SpKeep.refl _ _ _ _).alloc HB.out _⟩
    · obtain ⟨cnt, rfl⟩ := Int.eq_ofNat_of_zero_le (show 0 ≤ count by omega)
      have hres : Hid (Sp.take ⟨us, left, log⟩ cnt = match findRow cnt 0 0 us with
          | none => (⟨us, left, log⟩, 8, 0)
          | some f => (⟨setR us f (f + cnt) 1, left - cnt, log ++ [(false, f, f + cnt)]⟩, 0, f)) := by
        show _ = _
        rw [Sp.take, if_neg (by show ¬ (_ ∨ ((us.length : Nat) : Int) < _); rw [hnn.out]; omega), Int.toNat_natCast]
        rfl
      obtain ⟨R, hR⟩ : ∃ R, Hid (Sp.take ⟨us, left, log⟩ cnt = R) := ⟨_, rfl⟩
      rw [hR.out]
      rw [hR.out] at hres
      clear hR
      obtain ⟨FR, hFR⟩ : ∃ FR, Hid (findRow cnt 0 0 us = FR) := ⟨_, rfl⟩
      rw [hFR.out] at hres
      go_enter Try.func51, Try.ntmps51
      go_wp2_with fail
      obtain ⟨W, hW⟩ : ∃ W, W = w.alloc (.cells #[.int .i64 0, .int .i64 0, .int .i64 0] 34) := ⟨_, rfl⟩
      rw [← hW]
      have hbW : Box W w.heap.size #[.int .i64 0, .int .i64 0, .int .i64 0] 34 := by rw [hW]; exact Box.new rfl
      have hK := (SpKeep.refl B g gu w).alloc hB (.cells #[.int .i64 0, .int .i64 0, .int .i64 0] 34)
      rw [← hW] at hK
      have hSW : Spc B W g gu ⟨us, left, log⟩ a l c := by rw [hW]; exact ⟨HS.out.hb.alloc _, HS.out.hu.alloc _, HS.out.ho.alloc _, HS.out.h1, HS.out.h2⟩
      obtain ⟨h, hh⟩ : ∃ h, Hid (w.heap.size = h) := ⟨_, rfl⟩
      rw [hh.out] at hbW
      rw [hh.out]
      have hhW : h < W.heap.size := hbW.lt
      have HBW := Lib.hid hbW
      have HK := Lib.hid hK
      have HSW := Lib.hid hSW
      have HBs : Hid (B ≤ W.heap.size) := by have := hK.below.size; have := HB.out; show _ ≤ _; omega
      clear hW hbW hK hSW c0 HS hgl hul hB
      have c0 : W.cell? ⟨g, 0, none⟩ = some (.slice (some ⟨gu, 0, none⟩) n n) := by rw [← hnn.out]; exact HSW.out.hb.cell 0
      have hgl : g < W.heap.size := HSW.out.hb.lt
      have hul : gu < W.heap.size := HSW.out.hu.lt
      go_loop [5, 26] (fun rv iv => ∃ (k row : Nat), k ≤ n ∧ row ≤ k ∧ iv = .int .i64 k ∧ rv = .int .i64 row ∧ Hid (findRow cnt k row (us.drop k) = FR)) (fun _ iv => n - (intOf iv).toNat)
      case atStart => exact ⟨0, 0, by omega, by omega, rfl, rfl, hFR.out⟩
      case round =>
        obtain ⟨k, row, hk, hrow, rfl, rfl, hfr⟩ := hrel
        by_cases hlt : k < n
        · have hkl : k < us.length := by have := hnn.out; omega
          have e1 : W.cell? ⟨gu, k, none⟩ = some (.int .u8 (us.getD k 0 : Nat)) := by rw [HSW.out.hu.cell k, us8_get _ _ hkl]
          have hfr2 := hfr.out
          rw [drop_cons hkl, findRow] at hfr2
          obtain ⟨u, hu⟩ : ∃ u, Hid (us.getD k 0 = u) := ⟨_, rfl⟩
          rw [hu.out] at e1 hfr2
          by_cases hu0 : u = 0
          · subst hu0
            rw [if_pos rfl] at hfr2
            have hb1 : ((0 : Nat) : Int) = 0 := rfl
            rw [hb1] at e1
            clear hb1
            by_cases hc : row + 1 = cnt
            · rw [if_pos hc] at hfr2
              have HFR2 := Lib.hid hfr2
              have b1 : ((row : Int) + 1 == (cnt : Int)) = true := by simp; omega
              have HC := Lib.hid hc
              have hcnt1 : cnt ≤ k + 1 := by omega
              clear hfr2 hc hfr
              go_wp2_with fail
              refine (sp_set _ g gu us left a l c (HSW.out.hb.alloc _) (HSW.out.hu.alloc _) _ _ 1 (by omega) (by omega) (by have := hnn.out; omega) (by have := hnn.out; omega)).mono ?_
              rintro e w3 ⟨rfl, hbu3, hg3⟩
              rw [show ((k : Int) + 1 - (cnt : Int)).toNat = k + 1 - cnt by omega, show ((k : Int) + 1).toNat = k + 1 by omega] at hbu3
              have hg3' : W.grownBy w3 (some gu) := (World.grownBy_alloc _ _ _).trans hg3
              have hlen : (setR us (k + 1 - cnt) (k + 1) 1).length = us.length := setR_length _ _ _ _ (by omega) (by omega)
              have S3 := Lib.hid (HSW.out.setu hg3' hbu3.out hlen)
              have hhu : h ≠ gu := HBW.out.ne HSW.out.hu (by decide)
              have hBh := Lib.hid (HBW.out.grown hg3' (by intro e; exact hhu (by injection e)))
              have hBr := Lib.hid ((Box.new (w := W) (vs := #[.int .i64 ((k : Int) + 1 - (cnt : Int)), .int .i64 ((k : Int) + 1)]) (t := 95) rfl).grown hg3 (by intro e; injection e with e; omega))
              have K3 := Lib.hid (HK.out.grown_u hg3' HSW.out.h2 HBs.out)
              have hgr : g ≠ W.heap.size := by omega
              have hgh : g ≠ h := HSW.out.hb.ne HBW.out (by decide)
              have hs3 := hg3'.size
              have hs3' := hg3.size
              obtain ⟨r, hr⟩ : ∃ r, Hid (W.heap.size = r) := ⟨_, rfl⟩
              have hrW : r < w3.heap.size := by have := hr.out; simp at hs3'; omega
              rw [hr.out] at hBr hgr ⊢
              have c1 : w3.cell? ⟨g, 1, none⟩ = some (.int .i64 left) := S3.out.hb.cell 1
              have f1 : w3.frozen? ⟨g, 1, none⟩ = false := S3.out.hb.free 1
              have hl1 := hleft.1
              have hl2 := hleft.2
              clear hbu3 hg3 hg3' c0 hs3 hs3'
              go_wp2_with fail
              obtain ⟨W4, hW4⟩ : ∃ V, V = w3.setCell ⟨g, 1, none⟩ (.int .i64 (left - (cnt : Int))) := ⟨_, rfl⟩
              rw [← hW4]
              have S4 := Lib.hid (S3.out.setleft (left - (cnt : Int)))
              have K4 := Lib.hid (K3.out.set_g HSW.out.h1 1 (.int .i64 (left - (cnt : Int))))
              have B4h := Lib.hid (hBh.out.other ⟨g, 1, none⟩ hgh (.int .i64 (left - (cnt : Int))))
              have B4r := Lib.hid (hBr.out.other ⟨g, 1, none⟩ hgr (.int .i64 (left - (cnt : Int))))
              rw [← hW4] at S4 K4 B4h B4r
              clear hW4 c1 f1 S3 K3 hBh hBr
              simp only at S4
              obtain ⟨us', hus⟩ : ∃ us', Hid (setR us (k + 1 - cnt) (k + 1) 1 = us') := ⟨_, rfl⟩
              rw [hus.out] at S4 hlen
              obtain ⟨f, hf⟩ : ∃ f, Hid (k + 1 - cnt = f) := ⟨_, rfl⟩
              obtain ⟨t, ht⟩ : ∃ t, Hid (k + 1 = t) := ⟨_, rfl⟩
              have ef : (k : Int) + 1 - (cnt : Int) = (f : Int) := by have := hf.out; omega
              have et : (k : Int) + 1 = (t : Int) := by have := ht.out; omega
              have hln : us'.length = n := by have := hnn.out; omega
              rw [ef, et] at B4r
              have HLN := Lib.hid hln
              have SD := Lib.hid (S4.out.below ((Below.refl _ _).drew))
              have KD := Lib.hid (K4.out.drewN 1)
              have c2 : W4.cell? ⟨g, 2, none⟩ = some (.slice a l c) := S4.out.hb.cell 2
              have r0 : W4.cell? ⟨r, 0, none⟩ = some (.int .i64 f) := B4r.out.cell 0
              have r1 : W4.cell? ⟨r, 1, none⟩ = some (.int .i64 t) := B4r.out.cell 1
              have hll : log.length = l := S4.out.ho.1
              have hl3 : l ≤ 10000000 := by omega
              have hBW : B ≤ W4.drew.heap.size := by have := S4.out.h1; have := S4.out.hb.lt; show B ≤ W4.heap.size; omega
              have HEF := Lib.hid ef
              have hgl4 : g < W4.heap.size := S4.out.hb.lt
              have hrl4 : r < W4.heap.size := B4r.out.lt
              clear hlen hll hln ef et
              go_region_law (refine step_append_one (L := recL) (wr := W4.drew) rfl (.tmp 60) (.tmp 63) 26 rfl B 106 _ 24 Try.underlying26 info_rec rfl (fun _ => False) a l c log (by simp [Act.eval]) SD.out.ho #[.bool false, .int .i64 f, .int .i64 t] (false, f, t) (by simp [Act.eval]) (fun _ => False) rfl (fun b h => h.elim) (by unfold maxLen; omega) (by omega) hBW ?_; intro a5 c5 w5 hown5 hg5; have hlg := SD.out.logged hown5 hg5; have c5g : w5.cell? ⟨g, 2, none⟩ = some (.slice a l c) := hlg.1.cell 2; have f5g : w5.frozen? ⟨g, 2, none⟩ = false := hlg.1.free 2; have HLG := Lib.hid hlg; have HO5 := Lib.hid hown5; have HG5 := Lib.hid hg5; clear hlg hown5 hg5)
              all_goals
                have B6r := (Box.logged SD.out.ho HG5.out B4r.out.drew (by decide)).other ⟨g, 2, none⟩ hgr (.slice a5 (l + 1) c5)
                have B6h := (Box.logged SD.out.ho HG5.out B4h.out.drew (by decide)).other ⟨g, 2, none⟩ hgh (.slice a5 (l + 1) c5)
                have K6 := ((KD.out.grown_log SD.out.ho HG5.out hBW).set_g SD.out.h1 2 (.slice a5 (l + 1) c5))
                have S6 := HLG.out.2
                obtain ⟨W6, hW6⟩ : ∃ V, V = w5.setCell ⟨g, 2, none⟩ (.slice a5 (l + 1) c5) := ⟨_, rfl⟩
                rw [← hW6] at B6r B6h K6 S6 ⊢
                have q0 : W6.cell? ⟨h, 0, none⟩ = some (.int .i64 0) := B6h.cell 0
                have q1 : W6.cell? ⟨h, 1, none⟩ = some (.int .i64 0) := B6h.cell 1
                have q2 : W6.cell? ⟨h, 2, none⟩ = some (.int .i64 0) := B6h.cell 2
                have z0 : W6.frozen? ⟨h, 0, none⟩ = false := B6h.free 0
                have z1 : W6.frozen? ⟨h, 1, none⟩ = false := B6h.free 1
                have z2 : W6.frozen? ⟨h, 2, none⟩ = false := B6h.free 2
                have y0 : W6.cell? ⟨r, 0, none⟩ = some (.int .i64 f) := B6r.cell 0
                have HBh := Lib.hid B6h
                have HK6 := Lib.hid K6
                have HS6 := Lib.hid S6
                have hfn : Hid (R = (⟨us', left - cnt, log ++ [(false, f, t)]⟩, 0, f)) := by
                  have h1 := HFR2.out
                  have h2 := hres.out
                  rw [← h1] at h2
                  have e1 := hf.out
                  have e2 := ht.out
                  have e3 : k + 1 - cnt + cnt = k + 1 := by omega
                  simp only [e3] at h2
                  rw [hus.out, e1, e2] at h2; exact h2
                clear hW6 B6r B6h K6 S6 c2 r0 r1 c5g f5g HLG hres HFR2
                go_wp2_with fail
                rw [hfn.out]
                have HBx := ((HBh.out.set 0 (.int .i64 0)).set 1 (.int .i64 f)).set 2 (.int .i64 0)
                refine bodyPost_ret (v := .agg #[.int .i64 0, .int .i64 f, .int .i64 0]) ?_ rfl ⟨0, f, a5, l + 1, c5, rfl, rfl, rfl, ?_, ?_⟩
                · have p0 := HBx.cell 0
                  have p1 := HBx.cell 1
                  have p2 := HBx.cell 2
                  simp at p0 p1 p2
                  simp [results, Try.results51, go_sem, p0, p1, p2]
                · exact ((HS6.out.far HBh.out (by decide) (by decide) (by decide) 0 _).far (HBh.out.set 0 _) (by decide) (by decide) (by decide) 1 _).far ((HBh.out.set 0 _).set 1 _) (by decide) (by decide) (by decide) 2 _
                · have e1 : w.heap.size ≤ h := by have := hh.out; omega
                  exact ((HK6.out.set_new (p := ⟨h, 0, none⟩) e1 (Nat.le_trans HB.out e1) _).set_new (p := ⟨h, 1, none⟩) e1 (Nat.le_trans HB.out e1) _).set_new (p := ⟨h, 2, none⟩) e1 (Nat.le_trans HB.out e1) _
            · have b1 : ((row : Int) + 1 == (cnt : Int)) = false := by simp; omega
              rw [if_neg hc] at hfr2
              have HFR2 := Lib.hid hfr2
              clear hfr2 hc hfr
              go_wp2_with fail
              go_round
              case rel => exact ⟨k + 1, row + 1, by omega, by omega, by go_num, by go_num, HFR2.out⟩
              case measure => (simp [intOf]; try omega)
          · have b1 : ((u : Int) != 0) = true := by simp; omega
            rw [if_neg hu0, if_neg (by omega)] at hfr2
            have b2 : ((0 : Int) == (cnt : Int)) = false := by simp; omega
            have HFR2 := Lib.hid hfr2
            clear hfr2 hu0 hfr
            go_wp2_with fail
            go_round
            case rel => exact ⟨k + 1, 0, by omega, by omega, by go_num, rfl, HFR2.out⟩
            case measure => (simp [intOf]; try omega)
        · obtain rfl : k = n := by omega
          have hfn : Hid (R = (⟨us, left, log⟩, 8, 0)) := by
            have h1 := hfr.out
            rw [List.drop_of_length_le (by have := hnn.out; omega), findRow] at h1
            have h2 := hres.out
            rw [← h1] at h2; exact h2
          clear hres hfr hFR
          have HBx := Lib.hid (((HBW.out.set 0 (.int .i64 8)).set 1 (.int .i64 0)).set 2 (.int .i64 0))
          have q0 : W.cell? ⟨h, 0, none⟩ = some (.int .i64 0) := HBW.out.cell 0
          have q1 : W.cell? ⟨h, 1, none⟩ = some (.int .i64 0) := HBW.out.cell 1
          have q2 : W.cell? ⟨h, 2, none⟩ = some (.int .i64 0) := HBW.out.cell 2
          have f0 : W.frozen? ⟨h, 0, none⟩ = false := HBW.out.free 0
          have f1 : W.frozen? ⟨h, 1, none⟩ = false := HBW.out.free 1
          have f2 : W.frozen? ⟨h, 2, none⟩ = false := HBW.out.free 2
          go_wp2_with fail
          rw [hfn.out]
          refine bodyPost_ret (v := .agg #[.int .i64 8, .int .i64 0, .int .i64 0]) ?_ rfl ⟨8, 0, a, l, c, rfl, rfl, rfl, ?_, ?_⟩
          · have p0 := HBx.out.cell 0
            have p1 := HBx.out.cell 1
            have p2 := HBx.out.cell 2
            simp at p0 p1 p2
            simp [results, Try.results51, go_sem, p0, p1, p2]
          · exact ((HSW.out.far HBW.out (by decide) (by decide) (by decide) 0 _).far (HBW.out.set 0 _) (by decide) (by decide) (by decide) 1 _).far ((HBW.out.set 0 _).set 1 _) (by decide) (by decide) (by decide) 2 _
          · have e1 : w.heap.size ≤ h := by have := hh.out; omega
            have e2 : B ≤ h := Nat.le_trans HB.out e1
            exact ((HK.out.set_new (p := ⟨h, 0, none⟩) e1 e2 _).set_new (p := ⟨h, 1, none⟩) e1 e2 _).set_new (p := ⟨h, 2, none⟩) e1 e2 _
end Go.Proofs.Yteidmdakglkkfaa
