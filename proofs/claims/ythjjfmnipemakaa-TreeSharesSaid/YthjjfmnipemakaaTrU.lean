/- A resize and a read as steps, walked. -/
import Derived.Test.YthjjfmnipemakaaTrT
namespace Go.Proofs.Ythjjfmnipemakaa
open Go.RowKit
set_option linter.unusedVariables false
set_option maxRecDepth 100000

set_option maxHeartbeats 8000000 in
theorem stepResize (W0 : World) (B k : Nat) (f : Fo) (t : Thing) (ver count : Nat) (off : Int) (ad : Option Addr) (ld cd : Nat) (v : Ver) (w : World)
    (ht : IsFo W0 B k f t) (hw : t.holds w) (hv : f.vers[ver]? = some v) (hg : v.Good) (hcm : count ≤ 4096) (hm : f.made ≤ 800000) (hn : f.vers.length ≤ 400) (hB : B ≤ w.heap.size) :
    Calls Try.prog 26 #[.pointer (some ⟨k, 0, none⟩), .agg (stepV 2 ver off count ad ld cd)] w (StepEnd W0 B k t (f.push (f.resized v count), ⟨0, f.vers.length, count, []⟩) w) := by
  obtain ⟨av, cv, vs, W, G, hvs, hG, hold, rfl⟩ := ht
  have hcur : f.vers.length = vs.length := by rw [← hvs, List.length_map]
  obtain ⟨x, hx, hxe⟩ : ∃ x, vs[ver]? = some x ∧ Ver.er x = v := by
    rw [← hvs, List.getElem?_map] at hv
    cases hq : vs[ver]? with
    | none => rw [hq] at hv; cases hv
    | some x => rw [hq] at hv; exact ⟨x, rfl, Option.some.inj hv⟩
  obtain ⟨xr, xs⟩ := x
  obtain ⟨cur, hc⟩ : ∃ cur, vs.length = cur := ⟨_, rfl⟩
  have hvl : ver < cur := by rw [← hc]; exact (List.getElem?_eq_some_iff.1 hx).1
  obtain ⟨made, hmd⟩ : ∃ made, f.made = made := ⟨_, rfl⟩
  have hxs : xs ≤ 4096 := by have := hg.small; rw [← hxe] at this; exact this
  have hxr : ∀ q, xr = some q → q.1 = levelOf xs := fun q hq => by
    have := hg.level (PRt.er q) (by rw [← hxe]; show xr.map PRt.er = _; rw [hq]; rfl)
    rw [← hxe] at this
    exact this
  have hxl : ∀ q, xr = some q → q.1 ≤ 4 := fun q hq => by rw [hxr q hq]; have := levelOf_le xs; omega
  have HXE := Lib.hid hxe
  rw [hc, hmd] at hw
  have T1 := Turns.boxed hw (stepV 2 ver off count ad ld cd) 29
  have T2 := T1.trans (Turns.boxed T1.now (shownC 0 0 0 none 0 0) 68)
  rw [show (w.alloc (.cells (stepV 2 ver off count ad ld cd) 29)).heap.size = w.heap.size + 1 by simp] at T2
  have T3 := T2.trans (Turns.inside (i := 1) T2.now rfl (Turns.unhead1 (T2.now.all 1 _ rfl)))
  obtain ⟨b, hb⟩ : ∃ b, Hid (w.heap.size = b) := ⟨_, rfl⟩
  obtain ⟨V, hV⟩ : ∃ V, (w.alloc (.cells #[.int .i64 2, .int .i64 ver, .int .i64 off, .int .i64 count, .slice ad ld cd] 29)).alloc (.cells #[.int .i64 0, .int .i64 0, .int .i64 0, .slice none 0 0] 68) = V := ⟨_, rfl⟩
  have T4 := T3.trans (Turns.unhead1 T3.now)
  rw [show stepV 2 ver off count ad ld cd = #[.int .i64 2, .int .i64 ver, .int .i64 off, .int .i64 count, .slice ad ld cd] from rfl, show shownC 0 0 0 none 0 0 = #[.int .i64 0, .int .i64 0, .int .i64 0, .slice none 0 0] from rfl, hV, hb.out] at T4
  have T5 := Lib.hid T4
  obtain ⟨ST, hST⟩ : ∃ ST, Hid (thAll [thBox k (forV av cur cv made) 74, thOwn verL B 78 av cur cv vs, thOld W G, thSince W0] = ST) := ⟨_, rfl⟩
  rw [hST.out] at T5
  have est : thAll [thBox k (forV av vs.length cv f.made) 74, thOwn verL B 78 av vs.length cv vs, thOld W G, thSince W0] = ST := by rw [hc, hmd]; exact hST.out
  rw [est, hcur, hc]
  have bS : Box V b #[.int .i64 2, .int .i64 ver, .int .i64 off, .int .i64 count, .slice ad ld cd] 29 := T5.out.now.all 1 _ rfl
  have bF : Box V k (forV av cur cv made) 74 := T5.out.now.all 2 _ rfl
  obtain ⟨p, hp⟩ : ∃ p, Hid (xr.map (fun r => (⟨PT.gOf r.2, 0, none⟩ : Addr)) = p) := ⟨_, rfl⟩
  have ep : rptr xr = .pointer p := by rw [← hp.out]; rfl
  have EP := Lib.hid ep
  obtain ⟨gv, rfl, hgv, _, v0, v1⟩ := verCell (T5.out.now.all 3 _ rfl) ver (xr, xs) hx
  simp only [ep] at v0
  have s0 : V.cell? ⟨b, 0, none⟩ = some (.int .i64 2) := bS.cell 0
  have s1 : V.cell? ⟨b, 1, none⟩ = some (.int .i64 ver) := bS.cell 1
  have s2 : V.cell? ⟨b, 2, none⟩ = some (.int .i64 off) := bS.cell 2
  have s4 : V.cell? ⟨b, 4, none⟩ = some (.slice ad ld cd) := bS.cell 4
  have k0 : V.cell? ⟨k, 0, none⟩ = some (.slice (some ⟨gv, 0, none⟩) cur cv) := bF.cell 0
  have hbV : b < V.heap.size := bS.lt
  have hkV : k < V.heap.size := bF.lt
  have hvi : (ver : Int) < (cur : Int) := by omega
  have HG := Lib.hid hG
  have HOLD := Lib.hid hold
  have HX := Lib.hid hx
  have HVS := Lib.hid hvs
  have HXL := Lib.hid hxl
  have HC := Lib.hid hc
  have HMD := Lib.hid hmd
  have HCUR := Lib.hid hcur
  have HB := Lib.hid hB
  have HBV : Hid (V.heap.size = b + 2) := by show _ = _; rw [← hV, ← hb.out]; simp
  have hcl : cur ≤ 400 := by omega
  have hml : made ≤ 800000 := by omega
  clear hw hv hg hG hold hvs hx hxe hxr hxl T1 T2 T3 T4 bS bF ep est hc hmd hcur hB hn hm
  clear hST
  have qv0 : decide ((ver : Int) < 0) = false := by simp
  have qv1 : decide (cur ≤ ver) = false := by simp; omega
  have qv2 : decide ((cur : Int) ≤ (ver : Int)) = false := by simp; omega
  unfold stepV
  have hb1 : w.heap.size = b := hb.out
  go_enter Try.func26, Try.ntmps26
  go_wp2_with fail
  clear hV hb1
  go_quiet (fail)
  go_upto_region 5 with fail
  have T6 := Lib.hid (T5.out.stays (below_drewN (Below.refl _ _) nq : Below V.heap.size V (V.drewN nq)))
  have v0' : (V.drewN nq).cell? ⟨gv, ver * 2, none⟩ = some (.pointer p) := v0
  have v1' : (V.drewN nq).cell? ⟨gv, ver * 2 + 1, none⟩ = some (.int .i64 (xs : Int)) := v1
  have s1' : (V.drewN nq).cell? ⟨b, 1, none⟩ = some (.int .i64 ver) := s1
  have k0' : (V.drewN nq).cell? ⟨k, 0, none⟩ = some (.slice (some ⟨gv, 0, none⟩) cur cv) := k0
  have hbV' : b < (V.drewN nq).heap.size := hbV
  have hkV' : k < (V.drewN nq).heap.size := hkV
  have hgV' : gv < (V.drewN nq).heap.size := hgv
  have HBV' : Hid ((V.drewN nq).heap.size = b + 2) := HBV
  obtain ⟨V2, hV2⟩ : ∃ V2, V2 = V.drewN nq := ⟨_, rfl⟩
  rw [← hV2] at T6 v0' v1' s1' k0' hbV' hkV' hgV' HBV' ⊢
  clear hV2 v0 v1 s0 s1 s2 s4 k0 hbV hkV hgv HBV T5
  go_cut [5] from 30 to 37 (fun v5 wx => v5 = .pointer (some ⟨b + 2, 0, none⟩) ∧ Hid (Turns ST (thAll [thBox (b + 2) #[.pointer p, .int .i64 (xs : Int)] 78, thBox (b + 1) #[.int .i64 0, .int .i64 0, .int .i64 0, .slice none 0 0] 68, thBox b #[.int .i64 2, .int .i64 ver, .int .i64 off, .int .i64 count, .slice ad ld cd] 29, thBox k (forV (some ⟨gv, 0, none⟩) cur cv made) 74, thOwn verL B 78 (some ⟨gv, 0, none⟩) cur cv vs, thOld W G, thSince W0]) w wx))
  case first =>
    go_region_held3 (fun w' => w'.cell? ⟨k, 0, none⟩ = some (.slice (some ⟨gv, 0, none⟩) cur cv) ∧ w'.cell? ⟨b, 1, none⟩ = some (.int .i64 ver) ∧ w'.cell? ⟨gv, ver * 2, none⟩ = some (.pointer p) ∧ w'.cell? ⟨gv, ver * 2 + 1, none⟩ = some (.int .i64 (xs : Int))) ((go_keep; done)) (fail)
    all_goals
      go_wp2_with fail
      go_meet
      refine ⟨by rw [HBV'.out], ?_⟩
      have T7 := T6.out.trans (Turns.beside T6.out.now (Below_alloc1 (.cells #[.pointer p, .int .i64 (xs : Int)] 78)) (t := thBox (b + 2) #[.pointer p, .int .i64 (xs : Int)] 78) (Box.new HBV'.out.symm) (fun b' hb' => by have h1 : b' = b + 2 := hb'; have := HBV'.out; omega))
      exact T7.stays (below_drewN (Below.refl _ _) 1)
  case rest =>
    obtain ⟨rfl, T7⟩ := hcut
    have T9 : Hid (Turns ST (thAll (thStep W0 W G B k b #[.pointer p, .int .i64 (xs : Int)] #[.int .i64 2, .int .i64 ver, .int .i64 off, .int .i64 count, .slice ad ld cd] (some ⟨gv, 0, none⟩) cur cv made vs)) w wc) := T7
    have hF := (rest_facts ((step_rest (xr := none) trivial T9.out.now).now.all 1 _ rfl)).1
    have y0 : wc.cell? ⟨b + 2, 0, none⟩ = some (.pointer p) := hF.1.cell 0
    have y1 : wc.cell? ⟨b + 2, 1, none⟩ = some (.int .i64 (xs : Int)) := hF.1.cell 1
    have s0 : wc.cell? ⟨b, 0, none⟩ = some (.int .i64 2) := hF.2.1.cell 0
    have s2 : wc.cell? ⟨b, 2, none⟩ = some (.int .i64 off) := hF.2.1.cell 2
    have s3 : wc.cell? ⟨b, 3, none⟩ = some (.int .i64 count) := hF.2.1.cell 3
    have hb5 : b + 2 < wc.heap.size := hF.1.lt
    have hb3 : b < wc.heap.size := hF.2.1.lt
    have hxo := HOLD.out _ (List.mem_of_getElem? HX.out)
    clear k0' v0' v1' s1' hbV' hkV' hgV' HBV' T6 T7
    have hCH := resizeChain W0 W G B k b #[.pointer p, .int .i64 (xs : Int)] #[.int .i64 2, .int .i64 ver, .int .i64 off, .int .i64 count, .slice ad ld cd] (some ⟨gv, 0, none⟩) cur cv made vs xr xs count wc HG.out (by have := HOLD.out; rw [HC.out] at this; exact this) (by rw [HC.out] at hxo; exact hxo) HXL.out HC.out (Nat.le_trans HB.out T9.out.mv.size) (by omega) hml (by omega) T9.out.now
    rw [EP.out] at hCH
    unfold shownC at hCH
    have HCH := Lib.hid hCH
    have qc0 : decide ((count : Int) < 0) = false := by simp
    have qc1 : decide (4096 < (count : Int)) = false := by simp; omega
    have qc2 : decide (4096 < count) = false := by simp; omega
    clear hCH hxo hF
    go_wp2_with fail
    refine HCH.out.mono ?_
    rintro e w2 ⟨p2, rfl, SF2, HA2⟩
    go_wp2_with fail
    refine HA2.out.mono ?_
    rintro e w3 ⟨rfl, SF3, t', hI, hT3⟩
    have T11 := Lib.hid (T9.out.trans hT3.out)
    clear hT3 y0 y1 s0 s2 s3 hb5 hb3
    go_wp2_with (refine wpList_store_box rfl 68 (.tmp 4) (.tmp 106) rfl (b + 1) (shownC 0 (cur : Int) (count : Nat) none 0 0) rfl rfl 68 _ SF3.out.2.2 (by kernel_rfl) rfl rfl ?_; intro w9 hb9 hg9)
    have hrs := resizedO_eq f v count
    have hro : v.root = xr.map PRt.er := by rw [← HXE.out]; rfl
    rw [hro, HCUR.out, HC.out, HMD.out] at hrs
    exact bodyPost_ret (results_box0 Try.results26 _ _ (b + 1) _ _ hb9 _ rfl Try.underlying68 rfl (by kernel_rfl)) rfl ⟨t', none, 0, 0, rfl, by show IsFo _ _ _ _ _; rw [hrs]; unfold Fo.push; rw [← HVS.out]; exact hI.out, ((Turns.headBox T11.out hb9 hg9).tail.one).withNil⟩
set_option maxHeartbeats 8000000 in
theorem stepRead (W0 : World) (B k : Nat) (f : Fo) (t : Thing) (ver off count : Nat) (ad : Option Addr) (ld cd : Nat) (v : Ver) (w : World)
    (ht : IsFo W0 B k f t) (hw : t.holds w) (hv : f.vers[ver]? = some v) (hg : v.Good)  (hm : f.made ≤ 800000) (hn : f.vers.length ≤ 400) (hB : B ≤ w.heap.size) :
    Calls Try.prog 26 #[.pointer (some ⟨k, 0, none⟩), .agg (stepV 3 ver off count ad ld cd)] w (StepEnd W0 B k t (f, ⟨0, 0, v.size, readO v off count⟩) w) := by
  obtain ⟨av, cv, vs, W, G, hvs, hG, hold, rfl⟩ := ht
  have hcur : f.vers.length = vs.length := by rw [← hvs, List.length_map]
  obtain ⟨x, hx, hxe⟩ : ∃ x, vs[ver]? = some x ∧ Ver.er x = v := by
    rw [← hvs, List.getElem?_map] at hv
    cases hq : vs[ver]? with
    | none => rw [hq] at hv; cases hv
    | some x => rw [hq] at hv; exact ⟨x, rfl, Option.some.inj hv⟩
  obtain ⟨xr, xs⟩ := x
  obtain ⟨cur, hc⟩ : ∃ cur, vs.length = cur := ⟨_, rfl⟩
  have hvl : ver < cur := by rw [← hc]; exact (List.getElem?_eq_some_iff.1 hx).1
  obtain ⟨made, hmd⟩ : ∃ made, f.made = made := ⟨_, rfl⟩
  have hxs : xs ≤ 4096 := by have := hg.small; rw [← hxe] at this; exact this
  have hxr : ∀ q, xr = some q → q.1 = levelOf xs := fun q hq => by
    have := hg.level (PRt.er q) (by rw [← hxe]; show xr.map PRt.er = _; rw [hq]; rfl)
    rw [← hxe] at this
    exact this
  have hxl : ∀ q, xr = some q → q.1 ≤ 4 := fun q hq => by rw [hxr q hq]; have := levelOf_le xs; omega
  have HXE := Lib.hid hxe
  rw [hc, hmd] at hw
  have T1 := Turns.boxed hw (stepV 3 ver off count ad ld cd) 29
  have T2 := T1.trans (Turns.boxed T1.now (shownC 0 0 0 none 0 0) 68)
  rw [show (w.alloc (.cells (stepV 3 ver off count ad ld cd) 29)).heap.size = w.heap.size + 1 by simp] at T2
  have T3 := T2.trans (Turns.inside (i := 1) T2.now rfl (Turns.unhead1 (T2.now.all 1 _ rfl)))
  obtain ⟨b, hb⟩ : ∃ b, Hid (w.heap.size = b) := ⟨_, rfl⟩
  obtain ⟨V, hV⟩ : ∃ V, (w.alloc (.cells #[.int .i64 3, .int .i64 ver, .int .i64 off, .int .i64 count, .slice ad ld cd] 29)).alloc (.cells #[.int .i64 0, .int .i64 0, .int .i64 0, .slice none 0 0] 68) = V := ⟨_, rfl⟩
  have T4 := T3.trans (Turns.unhead1 T3.now)
  rw [show stepV 3 ver off count ad ld cd = #[.int .i64 3, .int .i64 ver, .int .i64 off, .int .i64 count, .slice ad ld cd] from rfl, show shownC 0 0 0 none 0 0 = #[.int .i64 0, .int .i64 0, .int .i64 0, .slice none 0 0] from rfl, hV, hb.out] at T4
  have T5 := Lib.hid T4
  obtain ⟨ST, hST⟩ : ∃ ST, Hid (thAll [thBox k (forV av cur cv made) 74, thOwn verL B 78 av cur cv vs, thOld W G, thSince W0] = ST) := ⟨_, rfl⟩
  rw [hST.out] at T5
  have est : thAll [thBox k (forV av vs.length cv f.made) 74, thOwn verL B 78 av vs.length cv vs, thOld W G, thSince W0] = ST := by rw [hc, hmd]; exact hST.out
  rw [est]
  have bS : Box V b #[.int .i64 3, .int .i64 ver, .int .i64 off, .int .i64 count, .slice ad ld cd] 29 := T5.out.now.all 1 _ rfl
  have bF : Box V k (forV av cur cv made) 74 := T5.out.now.all 2 _ rfl
  obtain ⟨p, hp⟩ : ∃ p, Hid (xr.map (fun r => (⟨PT.gOf r.2, 0, none⟩ : Addr)) = p) := ⟨_, rfl⟩
  have ep : rptr xr = .pointer p := by rw [← hp.out]; rfl
  have EP := Lib.hid ep
  obtain ⟨gv, rfl, hgv, _, v0, v1⟩ := verCell (T5.out.now.all 3 _ rfl) ver (xr, xs) hx
  simp only [ep] at v0
  have s0 : V.cell? ⟨b, 0, none⟩ = some (.int .i64 3) := bS.cell 0
  have s1 : V.cell? ⟨b, 1, none⟩ = some (.int .i64 ver) := bS.cell 1
  have s2 : V.cell? ⟨b, 2, none⟩ = some (.int .i64 off) := bS.cell 2
  have s4 : V.cell? ⟨b, 4, none⟩ = some (.slice ad ld cd) := bS.cell 4
  have k0 : V.cell? ⟨k, 0, none⟩ = some (.slice (some ⟨gv, 0, none⟩) cur cv) := bF.cell 0
  have hbV : b < V.heap.size := bS.lt
  have hkV : k < V.heap.size := bF.lt
  have hvi : (ver : Int) < (cur : Int) := by omega
  have HG := Lib.hid hG
  have HOLD := Lib.hid hold
  have HX := Lib.hid hx
  have HVS := Lib.hid hvs
  have HXL := Lib.hid hxl
  have HC := Lib.hid hc
  have HMD := Lib.hid hmd
  have HCUR := Lib.hid hcur
  have HB := Lib.hid hB
  have HBV : Hid (V.heap.size = b + 2) := by show _ = _; rw [← hV, ← hb.out]; simp
  have hcl : cur ≤ 400 := by omega
  have hml : made ≤ 800000 := by omega
  clear hw hv hg hG hold hvs hx hxe hxr hxl T1 T2 T3 T4 bS bF ep est hc hmd hcur hB hn hm
  have HST := Lib.hid hST.out
  clear hST
  have qv0 : decide ((ver : Int) < 0) = false := by simp
  have qv1 : decide (cur ≤ ver) = false := by simp; omega
  have qv2 : decide ((cur : Int) ≤ (ver : Int)) = false := by simp; omega
  unfold stepV
  have hb1 : w.heap.size = b := hb.out
  go_enter Try.func26, Try.ntmps26
  go_wp2_with fail
  clear hV hb1
  go_quiet (fail)
  go_upto_region 5 with fail
  have T6 := Lib.hid (T5.out.stays (below_drewN (Below.refl _ _) nq : Below V.heap.size V (V.drewN nq)))
  have v0' : (V.drewN nq).cell? ⟨gv, ver * 2, none⟩ = some (.pointer p) := v0
  have v1' : (V.drewN nq).cell? ⟨gv, ver * 2 + 1, none⟩ = some (.int .i64 (xs : Int)) := v1
  have s1' : (V.drewN nq).cell? ⟨b, 1, none⟩ = some (.int .i64 ver) := s1
  have k0' : (V.drewN nq).cell? ⟨k, 0, none⟩ = some (.slice (some ⟨gv, 0, none⟩) cur cv) := k0
  have hbV' : b < (V.drewN nq).heap.size := hbV
  have hkV' : k < (V.drewN nq).heap.size := hkV
  have hgV' : gv < (V.drewN nq).heap.size := hgv
  have HBV' : Hid ((V.drewN nq).heap.size = b + 2) := HBV
  obtain ⟨V2, hV2⟩ : ∃ V2, V2 = V.drewN nq := ⟨_, rfl⟩
  rw [← hV2] at T6 v0' v1' s1' k0' hbV' hkV' hgV' HBV' ⊢
  clear hV2 v0 v1 s0 s1 s2 s4 k0 hbV hkV hgv HBV T5
  go_cut [5] from 30 to 37 (fun v5 wx => v5 = .pointer (some ⟨b + 2, 0, none⟩) ∧ Hid (Turns ST (thAll [thBox (b + 2) #[.pointer p, .int .i64 (xs : Int)] 78, thBox (b + 1) #[.int .i64 0, .int .i64 0, .int .i64 0, .slice none 0 0] 68, thBox b #[.int .i64 3, .int .i64 ver, .int .i64 off, .int .i64 count, .slice ad ld cd] 29, thBox k (forV (some ⟨gv, 0, none⟩) cur cv made) 74, thOwn verL B 78 (some ⟨gv, 0, none⟩) cur cv vs, thOld W G, thSince W0]) w wx))
  case first =>
    go_region_held3 (fun w' => w'.cell? ⟨k, 0, none⟩ = some (.slice (some ⟨gv, 0, none⟩) cur cv) ∧ w'.cell? ⟨b, 1, none⟩ = some (.int .i64 ver) ∧ w'.cell? ⟨gv, ver * 2, none⟩ = some (.pointer p) ∧ w'.cell? ⟨gv, ver * 2 + 1, none⟩ = some (.int .i64 (xs : Int))) ((go_keep; done)) (fail)
    all_goals
      go_wp2_with fail
      go_meet
      refine ⟨by rw [HBV'.out], ?_⟩
      have T7 := T6.out.trans (Turns.beside T6.out.now (Below_alloc1 (.cells #[.pointer p, .int .i64 (xs : Int)] 78)) (t := thBox (b + 2) #[.pointer p, .int .i64 (xs : Int)] 78) (Box.new HBV'.out.symm) (fun b' hb' => by have h1 : b' = b + 2 := hb'; have := HBV'.out; omega))
      exact T7.stays (below_drewN (Below.refl _ _) 1)
  case rest =>
    obtain ⟨rfl, T7⟩ := hcut
    have T9 : Hid (Turns ST (thAll (thStep W0 W G B k b #[.pointer p, .int .i64 (xs : Int)] #[.int .i64 3, .int .i64 ver, .int .i64 off, .int .i64 count, .slice ad ld cd] (some ⟨gv, 0, none⟩) cur cv made vs)) w wc) := T7
    have hF := (rest_facts ((step_rest (xr := none) trivial T9.out.now).now.all 1 _ rfl)).1
    have y0 : wc.cell? ⟨b + 2, 0, none⟩ = some (.pointer p) := hF.1.cell 0
    have y1 : wc.cell? ⟨b + 2, 1, none⟩ = some (.int .i64 (xs : Int)) := hF.1.cell 1
    have s0 : wc.cell? ⟨b, 0, none⟩ = some (.int .i64 3) := hF.2.1.cell 0
    have s2 : wc.cell? ⟨b, 2, none⟩ = some (.int .i64 off) := hF.2.1.cell 2
    have s3 : wc.cell? ⟨b, 3, none⟩ = some (.int .i64 count) := hF.2.1.cell 3
    have hb5 : b + 2 < wc.heap.size := hF.1.lt
    have hb3 : b < wc.heap.size := hF.2.1.lt
    have hxo := HOLD.out _ (List.mem_of_getElem? HX.out)
    clear k0' v0' v1' s1' hbV' hkV' hgV' HBV' T6 T7
    have qc0 : decide ((count : Int) < 0) = false := by simp
    have qo0 : decide ((off : Int) < 0) = false := by simp
    have T10 := Lib.hid (T9.out.stays (below_drewN (Below.refl _ _) 1 : Below wc.heap.size wc wc.drew))
    have hoh : (thOld W G).holds wc.drew := T10.out.now.all 5 _ rfl
    have hCH := readW W G cur xr xs off count wc.drew (by rw [HC.out] at hxo; exact hxo) hoh (fun b hb => (hoh b hb).1) HXL.out hxs
    rw [EP.out] at hCH
    have HCH := Lib.hid hCH
    have HSH : Hid (Box wc (b + 1) show0 68) := hF.2.2
    clear hCH hxo hoh
    go_wp2_with fail
    go_region_held3 (fun w' => w'.cell? ⟨b + 2, 0, none⟩ = some (.pointer p) ∧ w'.cell? ⟨b + 2, 1, none⟩ = some (.int .i64 (xs : Int)) ∧ w'.cell? ⟨b, 2, none⟩ = some (.int .i64 off) ∧ w'.cell? ⟨b, 3, none⟩ = some (.int .i64 count))
      (first | (go_keep; done) | exact ⟨SF1.out.1.cell 0, SF1.out.1.cell 1, SF1.out.2.1.cell 2, SF1.out.2.1.cell 3⟩)
      (first
        | (go_at_call 34; refine HCH.out.mono ?_; rintro e w3 ⟨a5, n5, c5, rfl, hT3⟩; have HB3 : Below wc.drew.heap.size wc.drew w3 := hT3.out.nilBelowT; have SF1 : Hid (StepFacts b #[.pointer p, .int .i64 (xs : Int)] #[.int .i64 3, .int .i64 ver, .int .i64 off, .int .i64 count, .slice ad ld cd] w3) := (⟨Box.below (w := wc.drew) hF.1 HB3 hF.1.lt, Box.below (w := wc.drew) hF.2.1 HB3 hF.2.1.lt, Box.below (w := wc.drew) hF.2.2 HB3 hF.2.2.lt⟩ : StepFacts b #[.pointer p, .int .i64 (xs : Int)] #[.int .i64 3, .int .i64 ver, .int .i64 off, .int .i64 count, .slice ad ld cd] w3); have d0 : w3.cell? ⟨b + 1, 0, none⟩ = some (.int .i64 0) := SF1.out.2.2.cell 0; have d1 : w3.cell? ⟨b + 1, 1, none⟩ = some (.int .i64 0) := SF1.out.2.2.cell 1; have d2 : w3.cell? ⟨b + 1, 2, none⟩ = some (.int .i64 0) := SF1.out.2.2.cell 2; have d3 : w3.cell? ⟨b + 1, 3, none⟩ = some (.slice none 0 0) := SF1.out.2.2.cell 3; have f0 : w3.frozen? ⟨b + 1, 0, none⟩ = false := SF1.out.2.2.free 0; have f1 : w3.frozen? ⟨b + 1, 1, none⟩ = false := SF1.out.2.2.free 1; have f2 : w3.frozen? ⟨b + 1, 2, none⟩ = false := SF1.out.2.2.free 2; have f3 : w3.frozen? ⟨b + 1, 3, none⟩ = false := SF1.out.2.2.free 3))
    all_goals
      have T11 := T10.out.trans (Turns.single T10.out.now)
      have T12 := T11.trans (Turns.beside T11.now (hT3.out.nilBelowT) hT3.out.now (fun b' hb' => by
        rcases hT3.out.own b' hb' with ⟨t, ht, _⟩ | h1
        · cases ht
        · exact h1))
      have T13 := T12.trans (Turns.pick [1, 0] T12.now (by decide) (by intro i hi; show i < 2; revert i; decide))
      have T14 := T13.trans (Turns.inside (i := 0) T13.now rfl (Turns.pick [1, 3, 4, 5, 6] (T13.now.all 0 _ rfl) (by decide) (by intro i hi; show i < 7; revert i; decide)))
      have T15 := T14.trans (Turns.inside (i := 0) T14.now rfl (Turns.head1 (T14.now.all 0 _ rfl)))
      have T16 : Turns ST (thAll [thBox (b + 1) show0 68, thAll [thAll [thBox k (forV (some ⟨gv, 0, none⟩) cur cv made) 74, thOwn verL B 78 (some ⟨gv, 0, none⟩) cur cv vs, thOld W G, thSince W0], thOwn (Lay.int .u8) wc.drew.heap.size 5 a5 n5 c5 (readO (Ver.er (xr, xs)) off count)]]) w w3 := by
        have A := T15.trans (Turns.inside (i := 0) T15.now rfl (Turns.pick [0, 1] (T15.now.all 0 _ rfl) (by decide) (by intro i hi; show i < 2; revert i; decide)))
        have A2 := A.trans (Turns.join (l := [_, _]) (m := [_]) (A.trans (Turns.inside (i := 1) A.now rfl (Turns.single (A.now.all 1 _ rfl)))).now |> fun j => (Turns.inside (i := 1) A.now rfl (Turns.single (A.now.all 1 _ rfl))).trans j)
        exact A2.trans (Turns.head1 A2.now)
      have T17 := Lib.hid (T16.trans (Turns.inside (i := 0) T16.now rfl (show_set 0 0 (xs : Int) a5 n5 c5 SF1.out.2.2)))
      obtain ⟨WF, hWF⟩ : ∃ WF, WF = (((w3.setCell ⟨b + 1, 0, none⟩ (.int .i64 0)).setCell ⟨b + 1, 1, none⟩ (.int .i64 0)).setCell ⟨b + 1, 2, none⟩ (.int .i64 (xs : Int))).setCell ⟨b + 1, 3, none⟩ (.slice a5 n5 c5) := ⟨_, rfl⟩
      rw [← hWF] at T17 ⊢
      clear hWF d0 d1 d2 d3 f0 f1 f2 f3 y0 y1 s0 s2 s3 hb5 hb3 T11 T12 T13 T14 T15 T16
      go_wp2_with fail
      have hIF : Hid (IsFo W0 B k f ST) := ⟨_, cv, vs, W, G, HVS.out, HG.out, by rw [HC.out]; have := HOLD.out; rw [HC.out] at this; exact this, by rw [HC.out, HMD.out]; exact HST.out.symm⟩
      have T18 : Turns ST (thAll [ST, thOwn (Lay.int .u8) B 5 a5 n5 c5 (readO (Ver.er (xr, xs)) off count)]) w WF := by
        have A := T17.out.tail.one
        rw [← HST.out]
        rw [← HST.out] at A
        refine A.trans (Turns.inside (i := 1) A.now rfl ⟨SOwn.mono (A.now.all 1 _ rfl) (Nat.le_trans HB.out T10.out.mv.size) (fun _ h => h), Mv.refl _ _, fun b hb => .inl hb⟩)
      exact bodyPost_ret (results_box0 Try.results26 _ _ (b + 1) _ _ (T17.out.now.all 0 _ rfl) _ rfl Try.underlying68 rfl (by kernel_rfl)) rfl ⟨ST, a5, n5, c5, by rw [← HXE.out]; rfl, hIF, by show Turns _ _ _ _; rw [← HXE.out]; exact T18⟩
end Go.Proofs.Ythjjfmnipemakaa
