/- A write as a step, walked. -/
import Derived.Test.YthjjfmnipemakaaTrT
namespace Go.Proofs.Ythjjfmnipemakaa
open Go.RowKit
set_option linter.unusedVariables false
set_option maxRecDepth 100000

set_option maxHeartbeats 8000000 in
theorem stepWrite (W0 : World) (B k : Nat) (f : Fo) (t : Thing) (ver off : Nat) (count : Int) (ad : Option Addr) (ld cd : Nat) (data : List Int) (v : Ver) (w : World)
    (ht : IsFo W0 B k f t) (hw : t.holds w) (hv : f.vers[ver]? = some v) (hg : v.Good) (hD : ∀ w, (thSince W0).holds w → Row .u8 w ad ld cd data) (hd : 0 < data.length) (hoff : off + data.length ≤ 4096) (hm : f.made ≤ 800000) (hn : f.vers.length ≤ 400) (hB : B ≤ w.heap.size) :
    Calls Try.prog 26 #[.pointer (some ⟨k, 0, none⟩), .agg (stepV 1 ver off count ad ld cd)] w (StepEnd W0 B k t (f.push (f.wrote v off data), ⟨0, f.vers.length, (f.wrote v off data).1.size, []⟩) w) := by
  obtain ⟨av, cv, vs, W, G, hvs, hG, hold, rfl⟩ := ht
  have hcur : f.vers.length = vs.length := by rw [← hvs, List.length_map]
  obtain ⟨x, hx, hxe⟩ : ∃ x, vs[ver]? = some x ∧ Ver.er x = v := by
    rw [← hvs, List.getElem?_map] at hv
    cases hq : vs[ver]? with
    | none => rw [hq] at hv; cases hv
    | some x => rw [hq] at hv; exact ⟨x, rfl, Option.some.inj hv⟩
  obtain ⟨xr, xs⟩ := x
  have hld : data.length = ld := (hD w (hw.all 3 _ rfl)).hlen
  obtain ⟨cur, hc⟩ : ∃ cur, vs.length = cur := ⟨_, rfl⟩
  have hvl : ver < cur := by rw [← hc]; exact (List.getElem?_eq_some_iff.1 hx).1
  obtain ⟨made, hmd⟩ : ∃ made, f.made = made := ⟨_, rfl⟩
  have hxs : xs ≤ 4096 := by have := hg.small; rw [← hxe] at this; exact this
  have hxr : ∀ q, xr = some q → q.1 = levelOf xs := fun q hq => by
    have := hg.level (PRt.er q) (by rw [← hxe]; show xr.map PRt.er = _; rw [hq]; rfl)
    rw [← hxe] at this
    exact this
  obtain ⟨NS, hNS⟩ : ∃ NS, max xs (off + ld) = NS := ⟨_, rfl⟩
  have hNS4 : NS ≤ 4096 := by omega
  obtain ⟨L, hL⟩ : ∃ L, levelOf NS = L := ⟨_, rfl⟩
  have hL3 : L ≤ 3 := by rw [← hL]; exact levelOf_le NS
  have hxl : ∀ q, xr = some q → q.1 ≤ L := fun q hq => by rw [hxr q hq, ← hL]; exact levelOf_mono (by omega)
  have hwr : f.wrote v off data = (⟨(wrote cur L off data (xr.map PRt.er) made).1, NS⟩, (wrote cur L off data (xr.map PRt.er) made).2) := by
    unfold Fo.wrote newSize
    rw [← hxe, hld, hcur, hc, hmd]
    show ((⟨(wrote cur (levelOf (max xs (off + ld))) off data (xr.map PRt.er) made).1, max xs (off + ld)⟩, _) : Ver × Nat) = _
    rw [hNS, hL]
    show ((⟨_, _⟩, (wrote cur (levelOf (max xs (off + ld))) off data (xr.map PRt.er) made).2) : Ver × Nat) = _
    rw [hNS, hL]
  have HWR := Lib.hid hwr
  rw [hc, hmd] at hw
  have hDl : Hid (data.length = ld) := hld
  have T1 := Turns.boxed hw (stepV 1 ver off count ad ld cd) 29
  have T2 := T1.trans (Turns.boxed T1.now (shownC 0 0 0 none 0 0) 68)
  rw [show (w.alloc (.cells (stepV 1 ver off count ad ld cd) 29)).heap.size = w.heap.size + 1 by simp] at T2
  have T3 := T2.trans (Turns.inside (i := 1) T2.now rfl (Turns.unhead1 (T2.now.all 1 _ rfl)))
  obtain ⟨b, hb⟩ : ∃ b, Hid (w.heap.size = b) := ⟨_, rfl⟩
  obtain ⟨V, hV⟩ : ∃ V, (w.alloc (.cells #[.int .i64 1, .int .i64 ver, .int .i64 off, .int .i64 count, .slice ad ld cd] 29)).alloc (.cells #[.int .i64 0, .int .i64 0, .int .i64 0, .slice none 0 0] 68) = V := ⟨_, rfl⟩
  have T4 := T3.trans (Turns.unhead1 T3.now)
  rw [show stepV 1 ver off count ad ld cd = #[.int .i64 1, .int .i64 ver, .int .i64 off, .int .i64 count, .slice ad ld cd] from rfl, show shownC 0 0 0 none 0 0 = #[.int .i64 0, .int .i64 0, .int .i64 0, .slice none 0 0] from rfl, hV, hb.out] at T4
  have T5 := Lib.hid T4
  obtain ⟨ST, hST⟩ : ∃ ST, Hid (thAll [thBox k (forV av cur cv made) 74, thOwn verL B 78 av cur cv vs, thOld W G, thSince W0] = ST) := ⟨_, rfl⟩
  rw [hST.out] at T5
  have est : thAll [thBox k (forV av vs.length cv f.made) 74, thOwn verL B 78 av vs.length cv vs, thOld W G, thSince W0] = ST := by rw [hc, hmd]; exact hST.out
  rw [est, hcur, hc]
  have bS : Box V b #[.int .i64 1, .int .i64 ver, .int .i64 off, .int .i64 count, .slice ad ld cd] 29 := T5.out.now.all 1 _ rfl
  have bF : Box V k (forV av cur cv made) 74 := T5.out.now.all 2 _ rfl
  obtain ⟨p, hp⟩ : ∃ p, Hid (xr.map (fun r => (⟨PT.gOf r.2, 0, none⟩ : Addr)) = p) := ⟨_, rfl⟩
  have ep : rptr xr = .pointer p := by rw [← hp.out]; rfl
  have EP := Lib.hid ep
  obtain ⟨gv, rfl, hgv, _, v0, v1⟩ := verCell (T5.out.now.all 3 _ rfl) ver (xr, xs) hx
  simp only [ep] at v0
  have s0 : V.cell? ⟨b, 0, none⟩ = some (.int .i64 1) := bS.cell 0
  have s1 : V.cell? ⟨b, 1, none⟩ = some (.int .i64 ver) := bS.cell 1
  have s2 : V.cell? ⟨b, 2, none⟩ = some (.int .i64 off) := bS.cell 2
  have s4 : V.cell? ⟨b, 4, none⟩ = some (.slice ad ld cd) := bS.cell 4
  have k0 : V.cell? ⟨k, 0, none⟩ = some (.slice (some ⟨gv, 0, none⟩) cur cv) := bF.cell 0
  have hbV : b < V.heap.size := bS.lt
  have hkV : k < V.heap.size := bF.lt
  have hvi : (ver : Int) < (cur : Int) := by omega
  have HD := Lib.hid hD
  have HG := Lib.hid hG
  have HOLD := Lib.hid hold
  have HX := Lib.hid hx
  have HVS := Lib.hid hvs
  have HXL := Lib.hid hxl
  have HC := Lib.hid hc
  have HMD := Lib.hid hmd
  have HCUR := Lib.hid hcur
  have HNS := Lib.hid hNS
  have HB := Lib.hid hB
  have HBV : Hid (V.heap.size = b + 2) := by show _ = _; rw [← hV, ← hb.out]; simp
  have hl1 : ((ld : Int) == 0) = false := by simp; omega
  have w1 : IntKind.i64.wrap (4096 - (ld : Int)) = 4096 - (ld : Int) := IntWalk.i64_in _ (by omega)
  have ho1 : ¬ (4096 - (ld : Int) < (off : Int)) := by omega
  have ho2 : decide (4096 - (ld : Int) < (off : Int)) = false := by simp; omega
  have hcl : cur ≤ 400 := by omega
  have hml : made ≤ 800000 := by omega
  have HLL := Lib.hid hL
  clear hw hv hg hD hd hG hold hvs hx hxe hxr hxl hwr T1 T2 T3 T4 bS bF ep est hc hmd hcur hNS hB hL hn hm hld
  clear hST
  have qv0 : decide ((ver : Int) < 0) = false := by simp
  have qv1 : decide (cur ≤ ver) = false := by simp; omega
  have qv2 : decide ((cur : Int) ≤ (ver : Int)) = false := by simp; omega
  have qo0 : decide ((off : Int) < 0) = false := by simp
  unfold stepV
  have hb1 : w.heap.size = b := hb.out
  go_enter Try.func26, Try.ntmps26
  go_wp2_with fail
  clear hV hb1
  go_quiet (fail)
  go_upto_region 5 with fail
  have T6 := Lib.hid (T5.out.stays (below_drewN (Below.refl _ _) nq : Below V.heap.size V (V.drewN nq)))
  have v0' : (V.drewN nq).cell? ⟨gv, ver * 2, none⟩ = some (.pointer p) := v0
  have v1' : (V.drewN nq).cell? ⟨gv, ver * 2 + 1, none⟩ = some (.int .i64 (xs : Int)) := v1
  have s1' : (V.drewN nq).cell? ⟨b, 1, none⟩ = some (.int .i64 ver) := s1
  have k0' : (V.drewN nq).cell? ⟨k, 0, none⟩ = some (.slice (some ⟨gv, 0, none⟩) cur cv) := k0
  have hbV' : b < (V.drewN nq).heap.size := hbV
  have hkV' : k < (V.drewN nq).heap.size := hkV
  have hgV' : gv < (V.drewN nq).heap.size := hgv
  have HBV' : Hid ((V.drewN nq).heap.size = b + 2) := HBV
  obtain ⟨V2, hV2⟩ : ∃ V2, V2 = V.drewN nq := ⟨_, rfl⟩
  rw [← hV2] at T6 v0' v1' s1' k0' hbV' hkV' hgV' HBV' ⊢
  clear hV2 v0 v1 s0 s1 s2 s4 k0 hbV hkV hgv HBV T5
  go_cut [5] from 30 to 37 (fun v5 wx => v5 = .pointer (some ⟨b + 2, 0, none⟩) ∧ Hid (Turns ST (thAll [thBox (b + 2) #[.pointer p, .int .i64 (xs : Int)] 78, thBox (b + 1) #[.int .i64 0, .int .i64 0, .int .i64 0, .slice none 0 0] 68, thBox b #[.int .i64 1, .int .i64 ver, .int .i64 off, .int .i64 count, .slice ad ld cd] 29, thBox k (forV (some ⟨gv, 0, none⟩) cur cv made) 74, thOwn verL B 78 (some ⟨gv, 0, none⟩) cur cv vs, thOld W G, thSince W0]) w wx))
  case first =>
    go_region_held3 (fun w' => w'.cell? ⟨k, 0, none⟩ = some (.slice (some ⟨gv, 0, none⟩) cur cv) ∧ w'.cell? ⟨b, 1, none⟩ = some (.int .i64 ver) ∧ w'.cell? ⟨gv, ver * 2, none⟩ = some (.pointer p) ∧ w'.cell? ⟨gv, ver * 2 + 1, none⟩ = some (.int .i64 (xs : Int))) ((go_keep; done)) (fail)
    all_goals
      go_wp2_with fail
      go_meet
      refine ⟨by rw [HBV'.out], ?_⟩
      have T7 := T6.out.trans (Turns.beside T6.out.now (Below_alloc1 (.cells #[.pointer p, .int .i64 (xs : Int)] 78)) (t := thBox (b + 2) #[.pointer p, .int .i64 (xs : Int)] 78) (Box.new HBV'.out.symm) (fun b' hb' => by have h1 : b' = b + 2 := hb'; have := HBV'.out; omega))
      exact T7.stays (below_drewN (Below.refl _ _) 1)
  case rest =>
    obtain ⟨rfl, T7⟩ := hcut
    have b5 : Box wc (b + 2) #[.pointer p, .int .i64 (xs : Int)] 78 := T7.out.now.all 0 _ rfl
    have b3 : Box wc b #[.int .i64 1, .int .i64 ver, .int .i64 off, .int .i64 count, .slice ad ld cd] 29 := T7.out.now.all 2 _ rfl
    have y1 : wc.cell? ⟨b + 2, 1, none⟩ = some (.int .i64 (xs : Int)) := b5.cell 1
    have yf : wc.frozen? ⟨b + 2, 1, none⟩ = false := b5.free 1
    have s0 : wc.cell? ⟨b, 0, none⟩ = some (.int .i64 1) := b3.cell 0
    have s2 : wc.cell? ⟨b, 2, none⟩ = some (.int .i64 off) := b3.cell 2
    have s4 : wc.cell? ⟨b, 4, none⟩ = some (.slice ad ld cd) := b3.cell 4
    have hb5 : b + 2 < wc.heap.size := b5.lt
    have hb3 : b < wc.heap.size := b3.lt
    have TN := T7.out.trans (Turns.inside (i := 0) T7.out.now rfl (Turns.cell (T7.out.now.all 0 _ rfl) 1 (.int .i64 (NS : Int))))
    have T8 : Hid (Turns ST (thAll [thBox (b + 2) #[.pointer p, .int .i64 (NS : Int)] 78, thBox (b + 1) #[.int .i64 0, .int .i64 0, .int .i64 0, .slice none 0 0] 68, thBox b #[.int .i64 1, .int .i64 ver, .int .i64 off, .int .i64 count, .slice ad ld cd] 29, thBox k (forV (some ⟨gv, 0, none⟩) cur cv made) 74, thOwn verL B 78 (some ⟨gv, 0, none⟩) cur cv vs, thOld W G, thSince W0]) w (wc.setCell ⟨b + 2, 1, none⟩ (.int .i64 (NS : Int)))) := TN
    have w2 : IntKind.i64.wrap ((off : Int) + (ld : Int)) = (off : Int) + (ld : Int) := IntWalk.i64_in _ (by omega)
    clear TN b5 b3 k0' v0' v1' s1' hbV' hkV' hgV' HBV' T6
    go_upto_region 12 with fail
    go_cut [5] from 60 to 69 (fun v5 wx => v5 = .pointer (some ⟨b + 2, 0, none⟩) ∧ wx = wc.setCell ⟨b + 2, 1, none⟩ (.int .i64 (NS : Int)))
    case first =>
      by_cases hmx : off + ld ≤ xs
      · have e : (xs : Int) = (NS : Int) := by have := HNS.out; omega
        have q1 : ¬ ((xs : Int) < (off : Int) + (ld : Int)) := by omega
        have q2 : (off : Int) + (ld : Int) ≤ (xs : Int) := by omega
        have E := Lib.hid e
        clear e hmx
        go_wp2_with fail
        go_meet
        exact ⟨rfl, by rw [E.out]⟩
      · have e : (off : Int) + (ld : Int) = (NS : Int) := by have := HNS.out; omega
        have q1 : (xs : Int) < (off : Int) + (ld : Int) := by omega
        have q2 : ¬ ((off : Int) + (ld : Int) ≤ (xs : Int)) := by omega
        have E := Lib.hid e
        clear e hmx
        go_wp2_with fail
        go_meet
        exact ⟨rfl, by rw [E.out]⟩
    case rest =>
      obtain ⟨rfl, hwx⟩ := hcut
      rw [← hwx] at T8
      clear hwx y1 yf s0 s2 s4 hb5 hb3 T7
      have T9 : Hid (Turns ST (thAll (thStep W0 W G B k b #[.pointer p, .int .i64 (NS : Int)] #[.int .i64 1, .int .i64 ver, .int .i64 off, .int .i64 count, .slice ad ld cd] (some ⟨gv, 0, none⟩) cur cv made vs)) w wc) := T8.out
      have hF := (rest_facts ((step_rest (xr := none) trivial T9.out.now).now.all 1 _ rfl)).1
      have y0 : wc.cell? ⟨b + 2, 0, none⟩ = some (.pointer p) := hF.1.cell 0
      have y1 : wc.cell? ⟨b + 2, 1, none⟩ = some (.int .i64 (NS : Int)) := hF.1.cell 1
      have s2 : wc.cell? ⟨b, 2, none⟩ = some (.int .i64 off) := hF.2.1.cell 2
      have s4 : wc.cell? ⟨b, 4, none⟩ = some (.slice ad ld cd) := hF.2.1.cell 4
      have hb5 : b + 2 < wc.heap.size := hF.1.lt
      have hb3 : b < wc.heap.size := hF.2.1.lt
      have T10 := Lib.hid (T9.out.stays (below_drewN (Below.refl _ _) 1 : Below wc.heap.size wc wc.drew))
      have hxo := HOLD.out _ (List.mem_of_getElem? HX.out)
      have hCH := writeChain W0 W G B k b #[.pointer p, .int .i64 (NS : Int)] #[.int .i64 1, .int .i64 ver, .int .i64 off, .int .i64 count, .slice ad ld cd] (some ⟨gv, 0, none⟩) cur cv made vs xr NS L off ad ld cd data wc.drew HG.out (by have := HOLD.out; rw [HC.out] at this; exact this) (by rw [HC.out] at hxo; exact hxo) HXL.out HC.out HD.out (Nat.le_trans HB.out T10.out.mv.size) (by omega) hml hL3 hNS4 (by omega) (by have := hDl.out; omega) T10.out.now
      rw [EP.out] at hCH
      unfold shownC at hCH
      have HCH := Lib.hid hCH
      have hLW := Lib.hid (levelW NS hNS4 wc)
      rw [HLL.out] at hLW
      clear hCH hxo hF T8 T9
      go_wp2_with fail
      refine hLW.out.mono ?_
      rintro e w' ⟨rfl, rfl⟩
      go_upto_region 14 with fail
      go_region_held3 (fun w' => w'.cell? ⟨b + 2, 0, none⟩ = some (.pointer p) ∧ w'.cell? ⟨b + 2, 1, none⟩ = some (.int .i64 (NS : Int)) ∧ w'.cell? ⟨b, 2, none⟩ = some (.int .i64 off) ∧ w'.cell? ⟨b, 4, none⟩ = some (.slice ad ld cd))
        (first | (go_keep; done) | exact ⟨SF1.out.1.cell 0, SF1.out.1.cell 1, SF1.out.2.1.cell 2, SF1.out.2.1.cell 4⟩ | exact ⟨SF2.out.1.cell 0, SF2.out.1.cell 1, SF2.out.2.1.cell 2, SF2.out.2.1.cell 4⟩ | exact ⟨SF3.out.1.cell 0, SF3.out.1.cell 1, SF3.out.2.1.cell 2, SF3.out.2.1.cell 4⟩ | exact ⟨SFx.out.1.cell 0, SFx.out.1.cell 1, SFx.out.2.1.cell 2, SFx.out.2.1.cell 4⟩)
        (first
          | (go_at_call 32; refine HCH.out.mono ?_; rintro e w1 ⟨p1, rfl, SF1, HW1⟩)
          | (go_at_call 31; refine HW1.out.mono ?_; rintro e w2 ⟨p2, rfl, SF2, HA2⟩)
          | (go_at_call 30; refine HA2.out.mono ?_; rintro e w3 ⟨rfl, SF3, t', hI, hT3⟩; have d0 : w3.cell? ⟨b + 1, 0, none⟩ = some (.int .i64 0) := SF3.out.2.2.cell 0; have d1 : w3.cell? ⟨b + 1, 1, none⟩ = some (.int .i64 0) := SF3.out.2.2.cell 1; have d2 : w3.cell? ⟨b + 1, 2, none⟩ = some (.int .i64 0) := SF3.out.2.2.cell 2; have d3 : w3.cell? ⟨b + 1, 3, none⟩ = some (.slice none 0 0) := SF3.out.2.2.cell 3; have f0 : w3.frozen? ⟨b + 1, 0, none⟩ = false := SF3.out.2.2.free 0; have f1 : w3.frozen? ⟨b + 1, 1, none⟩ = false := SF3.out.2.2.free 1; have f2 : w3.frozen? ⟨b + 1, 2, none⟩ = false := SF3.out.2.2.free 2; have f3 : w3.frozen? ⟨b + 1, 3, none⟩ = false := SF3.out.2.2.free 3))
      all_goals
        have T11 := Lib.hid (T10.out.trans (hT3.out.trans (Turns.inside (i := 0) hT3.out.now rfl (show_set 0 (cur : Int) (NS : Int) none 0 0 SF3.out.2.2))))
        obtain ⟨WF, hWF⟩ : ∃ WF, WF = (((w3.setCell ⟨b + 1, 0, none⟩ (.int .i64 0)).setCell ⟨b + 1, 1, none⟩ (.int .i64 (cur : Int))).setCell ⟨b + 1, 2, none⟩ (.int .i64 (NS : Int))).setCell ⟨b + 1, 3, none⟩ (.slice none 0 0) := ⟨_, rfl⟩
        rw [← hWF] at T11 ⊢
        clear hWF d0 d1 d2 d3 f0 f1 f2 f3 y0 y1 s2 s4 hb5 hb3 hT3
        go_wp2_with fail
        exact bodyPost_ret (results_box0 Try.results26 _ _ (b + 1) _ _ (T11.out.now.all 0 _ rfl) _ rfl Try.underlying68 rfl (by kernel_rfl)) rfl ⟨t', none, 0, 0, by rw [HWR.out], by show IsFo _ _ _ _ _; rw [HWR.out]; unfold Fo.push; rw [← HVS.out]; exact hI.out, T11.out.tail.one.withNil⟩
end Go.Proofs.Ythjjfmnipemakaa
