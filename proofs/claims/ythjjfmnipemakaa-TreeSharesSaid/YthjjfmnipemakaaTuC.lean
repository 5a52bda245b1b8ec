/- The walk of Nodes. -/
import Derived.Test.YthjjfmnipemakaaTuB
namespace Go.Proofs.Ythjjfmnipemakaa
open Go.RowKit
set_option linter.unusedVariables false
set_option maxRecDepth 100000

theorem wf64 {x : Int} (h : -1 ≤ x ∧ x ≤ 100000) : (Lit.int .i64 x).wf = true := by
  simp [Lit.wf, IntKind.min, IntKind.max, IntKind.signed, IntKind.bits]; omega
theorem filter_take_succ {α : Type} (l : List (Option α)) (j : Nat) (q : Option α) (h : l[j]? = some q) : (l.take (j + 1)).filterMap id = (l.take j).filterMap id ++ q.toList := by
  have h' := List.getElem?_eq_some_iff.1 h
  rw [List.take_succ_eq_append_getElem h'.1, h'.2, List.filterMap_append]
  cases q <;> rfl
theorem kidsIdx_take_succ {α : Type} (l : List (Option α)) (s j : Nat) (q : Option α) (h : l[j]? = some q) : kidsIdx s (l.take (j + 1)) = kidsIdx s (l.take j) ++ [if q.isSome then ((s + ((l.take j).filterMap id).length : Nat) : Int) else -1] := by
  have h' := List.getElem?_eq_some_iff.1 h
  rw [List.take_succ_eq_append_getElem h'.1, h'.2, kidsIdx_append]
  cases q <;> rfl
theorem asR_toList {n : Nat} (q : Option (PT n)) : (asR q).toList = q.toList.map fun k => (⟨n, k⟩ : PRt) := by cases q <;> rfl
theorem filter_asR {n : Nat} : ∀ (l : List (Option (PT n))), ((l.map asR).filterMap id).length = (l.filterMap id).length
  | [] => rfl
  | none :: l => filter_asR l
  | some k :: l => by show ((l.map asR).filterMap id).length + 1 = (l.filterMap id).length + 1; rw [filter_asR l]
theorem Turns.nilTo {α : Type} {L : Lay α} {B : Nat} {e : TypeId} {o : Thing} {w w' : World} (k : Turns (thAll []) o w w') : Turns (thOwn L B e none 0 0 []) o w w' :=
  ⟨k.now, k.mv.mono (fun b ⟨t, ht, _⟩ => by cases ht), fun b hb => by
    rcases k.own b hb with ⟨s, hs, _⟩ | h
    · cases hs
    · exact .inr h⟩
set_option maxHeartbeats 8000000 in
theorem nodesW (F : Nat → Prop) (a : Option Addr) (len cap : Nat) (ss : List St) (ver : Nat) (w : World) (ha : SRow stL w F a len cap ss) (hok : fo0.Okays ss) (hn : len ≤ 150) (hv : ver < (fo0.fin ss).vers.length) :
    Calls Try.prog 14 #[.slice a len cap, .int .i64 ver] w fun e w' => ∃ a' l' c', e = .returned (.tuple #[.slice a' l' c', .int .i64 0]) ∧ Hid (SRow ndL w' (fun _ => True) a' l' c' (nodesP (verAt ss ver).root)) ∧ Below w.heap.size w w' := by
  have hP := Lib.hid (playW F a len cap ss w ha hok (by omega))
  have hgood := verAt_good ss hok ver
  obtain ⟨root, hroot⟩ : ∃ root, (verAt ss ver).root = root := ⟨_, rfl⟩
  have hR85 : (allT root).length ≤ 85 := allT_length root (by rw [← hroot]; exact hgood.ok) (fun r hr => by rw [hgood.level r (by rw [hroot]; exact hr)]; exact levelOf_le _)
  have hrt : Hid (((fo0.fin ss).vers.getD ver ver0).root = root) := hroot
  have hvl : Hid (ver < (fo0.fin ss).vers.length) := hv
  have hcnt := (Fo.fin_good ss fo0 fo0_good hok).2.2
  have hsl : ss.length = len := ha.1
  have hv300 : (fo0.fin ss).vers.length ≤ 200 := by have : fo0.vers.length = 1 := rfl; omega
  rw [hroot]
  clear ha hok hgood hroot hv hcnt hsl
  go_enter Try.func14, Try.ntmps14
  go_wp2_with fail
  refine hP.out.mono ?_
  rintro e w1 ⟨a1, c1, k, t, G1, rfl, hI, hT1⟩
  obtain ⟨B, hB⟩ : ∃ B, Hid (w.heap.size = B) := ⟨_, rfl⟩
  rw [hB.out] at hI hT1
  obtain ⟨av, cv, vs, W, G, hvs, hG, hold, ht⟩ := hI.out
  obtain ⟨x, hx, hxe⟩ : ∃ x, vs[ver]? = some x ∧ x.1.map PRt.er = root := by
    have h1 := hvl.out
    have h2 := hrt.out
    rw [← hvs, List.length_map] at h1
    rw [← hvs, List.getD_eq_getElem?_getD, List.getElem?_map, List.getElem?_eq_getElem h1] at h2
    exact ⟨vs[ver], List.getElem?_eq_getElem h1, h2⟩
  obtain ⟨xr, xs⟩ := x
  obtain ⟨cur, hcur⟩ : ∃ cur, vs.length = cur := ⟨_, rfl⟩
  rw [hcur] at hold ht
  have hcl : cur ≤ 200 := by have h := congrArg List.length hvs; rw [List.length_map] at h; omega
  have hvc : ver < cur := by rw [← hcur]; exact (List.getElem?_eq_some_iff.1 hx).1
  -- the forest's things, the nodes told of, the nodes found
  have A0 : Apt [t, thRow shnL B 68 G1 a1 len c1 (fo0.outs ss)] w1 := hT1.out.now
  have T2 := hT1.out.trans (Turns.pick [0] A0 (by decide) (by intro i hi; show i < 2; revert i; decide))
  have T3 := T2.trans (Turns.pads (m := [thRow ndL B 42 (fun _ => False) none 0 0 [], thOwn ptrL B 76 none 0 0 []]) T2.now (fun u hu => by
    rcases List.mem_cons.1 hu with rfl | hu
    · exact ⟨⟨SOwn.nil .., fun b hb => hb.elim⟩, fun b hb => by
        rcases hb with h | h
        · exact h
        · cases (show (none : Option Nat) = some b from h)⟩
    · obtain rfl := List.mem_singleton.1 hu
      exact ⟨SOwn.nil .., fun b hb => by cases (show (none : Option Nat) = some b from hb)⟩))
  have hTf : t.holds w1 := A0.all 0 _ rfl
  rw [ht] at hTf
  have bF : Box w1 k (forV av cur cv (fo0.fin ss).made) 74 := Apt.all hTf 0 _ rfl
  obtain ⟨gv, rfl, hgv, _, v0, v1⟩ := verCell (Apt.all hTf 1 _ rfl) ver (xr, xs) hx
  have k0 : w1.cell? ⟨k, 0, none⟩ = some (.slice (some ⟨gv, 0, none⟩) cur cv) := bF.cell 0
  have hkl : k < w1.heap.size := bF.lt
  have hox := hold _ (List.mem_of_getElem? hx)
  have HTW : Hid (∀ w', t.holds w' → (thOld W G).holds w') := fun w' h => by rw [ht] at h; exact Apt.all h 2 _ rfl
  have hvi : (ver : Int) < (cur : Int) := by omega
  have qv0 : decide ((ver : Int) < 0) = false := by simp
  have qv1 : decide (cur ≤ ver) = false := by simp; omega
  have qv2 : decide ((cur : Int) ≤ (ver : Int)) = false := by simp; omega
  have HT3 : Hid (Turns (thSince w) (thAll [t, thRow ndL B 42 (fun _ => False) none 0 0 [], thOwn ptrL B 76 none 0 0 []]) w w1) := T3
  obtain ⟨p, hp⟩ : ∃ p, Hid (rptr xr = p) := ⟨_, rfl⟩
  simp only at v0
  rw [hp.out] at v0
  have HXE := Lib.hid hxe
  have HOX := Lib.hid hox
  have hBw1 : B ≤ w1.heap.size := by have := HT3.out.mv.size; have := hB.out; omega
  have HTt := Lib.hid ht
  clear T2 T3 A0 hTf bF ht hold hvs hG hx hI hT1 hxe hox hP hcur
  go_upto_region 9 with fail
  clear v0 v1 k0 hkl qv0 qv1 qv2 hvi hvc hgv
  cases xr with
  | none =>
    obtain rfl : p = .pointer none := hp.out.symm
    obtain rfl : root = none := HXE.out.symm
    have HBe : Hid (Below w.heap.size w w1) := Apt.all (by have := HT3.out.now.all 0 _ rfl; rw [HTt.out] at this; exact this) 3 _ rfl
    go_wp2_with fail
    go_loopw [9, 10, 12] (fun ov rv iv wr => ov = .slice none 0 0 ∧ rv = .slice none 0 0 ∧ iv = .int .i64 0 ∧ wr = w1) (fun _ _ _ _ => 0)
    case atStart => exact ⟨rfl, rfl, rfl, rfl⟩
    case round =>
      obtain ⟨rfl, rfl, rfl, rfl⟩ := hrel
      go_wp2_with fail
      exact bodyPost_ret (results_tmp2 Try.results14 _ _ _) rfl ⟨none, 0, 0, rfl, SRow.nil .., HBe.out⟩
  | some r0 =>
    obtain ⟨g0, hg0⟩ : ∃ g0, Hid (PT.gOf r0.2 = g0) := ⟨_, rfl⟩
    obtain rfl : p = .pointer (some ⟨g0, 0, none⟩) := by rw [← hp.out, ← hg0.out]; rfl
    have hroot : Hid (some (PRt.er r0) = root) := HXE.out
    have OP := Lib.hid (HT3.out.now.all 2 _ rfl)
    have F0 : Hid (Found W G cur root 0 [r0]) := ⟨by rw [← hroot.out]; simp [flatK], fun x hx => by rw [List.mem_singleton.1 hx]; exact HOX.out, Nat.zero_le _⟩
    clear hrt hvl
    go_wp2_with (at_builtin; refine wpList_append_T1 (L := ptrL) (wr := w1) rfl (.tmp 48) (.tmp 50) 75 rfl B 76 _ 8 Try.underlying75 info_ptr rfl none 0 0 [] rfl OP.out #[.pointer (some ⟨g0, 0, none⟩)] r0 rfl (by show _ = [rptr (some r0)]; show _ = [Value.pointer (some ⟨PT.gOf r0.2, 0, none⟩)]; rw [hg0.out]) (by unfold maxLen; omega) (by omega) hBw1 ?_; intro a2 c2 w2 T2; rw [Nat.zero_add] at T2; have T4 := Lib.hid (HT3.out.trans (Turns.inside (i := 2) HT3.out.now rfl T2)); clear T2)
    go_loopw [9, 10, 12] (fun ov rv iv wr => ∃ (i m : Nat) (ar : Option Addr) (cr : Nat) (ao : Option Addr) (co : Nat) (G' : Nat → Prop) (row : List PRt), iv = .int .i64 i ∧ ov = .slice ao i co ∧ rv = .slice ar m cr ∧ i ≤ m ∧ m ≤ 85 ∧ Hid (row.length = m) ∧ Hid (Found W G cur root i row) ∧ Hid (Turns (thSince w) (thAll [t, thRow ndL B 42 G' ao i co (nodesUpTo (allT root) i), thOwn ptrL B 76 ar m cr row]) w wr)) (fun _ _ iv _ => 86 - (intOf iv).toNat)
    case atStart => exact ⟨0, 1, a2, c2, none, 0, _, [r0], rfl, rfl, rfl, by omega, by omega, rfl, F0, T4.out⟩
    case round =>
      obtain ⟨i, m, ar, cr, ao, co, G', row, rfl, rfl, rfl, him, hm85, hml, hF, hT⟩ := hrel
      by_cases hlt : i < m
      · have ii : (i : Int) < (m : Int) := by omega
        obtain ⟨x, hx⟩ : ∃ x, row[i]? = some x := ⟨row[i]'(by rw [hml.out]; exact hlt), List.getElem?_eq_getElem (by rw [hml.out]; exact hlt)⟩
        have hFn := Lib.hid (hF.out.next x hx)
        have hRx := Lib.hid (hF.out.get i x hx)
        have hox := hF.out.old x (List.mem_of_getElem? hx)
        obtain ⟨n, tt⟩ := x
        obtain ⟨g, hg⟩ : ∃ g, Hid (PT.gOf tt = g) := ⟨_, rfl⟩
        obtain ⟨gr, rfl, hgr, _, cr0⟩ := ptrCell (hT.out.now.all 2 _ rfl) i ⟨n, tt⟩ hx
        have hB1 : Box wr (PT.gOf tt) (PT.cells tt) 82 := OldT.now (n := n) (t := tt) hox (HTW.out wr (hT.out.now.all 0 _ rfl))
        simp only [hg.out] at cr0
        rw [hg.out] at hB1
        have HB1 := Lib.hid hB1
        have n0 : wr.cell? ⟨g, 0, none⟩ = some (.int .i64 (idOfP ⟨n, tt⟩ : Nat)) := (hB1.cell 0).trans (cells_id tt)
        have n1 : wr.cell? ⟨g, 1, none⟩ = some (.int .i64 (birthOfP ⟨n, tt⟩ : Nat)) := (hB1.cell 1).trans (cells_birth tt)
        have n2 : wr.cell? ⟨g, 2, none⟩ = some (.int .i64 (n : Nat)) := (hB1.cell 2).trans (cells_level tt)
        have hgl : g < wr.heap.size := hB1.lt
        have HOX2 := Lib.hid hox
        obtain ⟨id, hid⟩ : ∃ id, Hid (idOfP ⟨n, tt⟩ = id) := ⟨_, rfl⟩
        obtain ⟨bi, hbi⟩ : ∃ bi, Hid (birthOfP ⟨n, tt⟩ = bi) := ⟨_, rfl⟩
        rw [hid.out] at n0
        rw [hbi.out] at n1
        clear hB1 hx hox
        go_upto_region 15 with fail
        go_cut [14] from 62 to 74 (fun v14 wx => v14 = .pointer (some ⟨wr.heap.size, 0, none⟩) ∧ wx = (wr.alloc (.cells (ndV id bi n none 0 0 none 0 0) 42)).drew)
        case first =>
          go_region_held3 (fun w' => w'.cell? ⟨g, 0, none⟩ = some (.int .i64 (id : Nat)) ∧ w'.cell? ⟨g, 1, none⟩ = some (.int .i64 (bi : Nat)) ∧ w'.cell? ⟨g, 2, none⟩ = some (.int .i64 (n : Nat))) ((go_keep; done)) (fail)
          go_wp2_with fail
          go_meet
          exact ⟨rfl, rfl⟩
        case rest =>
          obtain ⟨rfl, hwc⟩ := hcut
          have TA := hT.out.putBox (ndV id bi n none 0 0 none 0 0) 42
          have TB : Turns (thSince w) (thAll [thBox wr.heap.size (ndV id bi n none 0 0 none 0 0) 42, t, thRow ndL B 42 G' ao i co (nodesUpTo (allT root) i), thOwn ptrL B 76 (some ⟨gr, 0, none⟩) m cr row]) w wc := by
            rw [hwc]
            exact TA.stays (below_drewN (Below.refl _ _) 1)
          have TC := TB.trans (Turns.pads (m := [thOwn (Lay.int .i64) B 3 none 0 0 [], thOwn (Lay.int .u8) B 5 none 0 0 []]) TB.now (fun u hu => by
            rcases List.mem_cons.1 hu with rfl | hu
            · exact ⟨SOwn.nil .., fun b hb => by cases (show (none : Option Nat) = some b from hb)⟩
            · obtain rfl := List.mem_singleton.1 hu
              exact ⟨SOwn.nil .., fun b hb => by cases (show (none : Option Nat) = some b from hb)⟩))
          have hbel : Below wr.heap.size wr wc := by rw [hwc]; exact (Below_alloc1 _).drew
          obtain ⟨gx, hgx⟩ : ∃ gx, Hid (wr.heap.size = gx) := ⟨_, rfl⟩
          rw [hgx.out] at TC ⊢
          have TD : Hid (Turns (thSince w) (thAll [thBox gx (ndV id bi n none 0 0 none 0 0) 42, thOwn (Lay.int .i64) B 3 none 0 0 [], thOwn (Lay.int .u8) B 5 none 0 0 [], t, thRow ndL B 42 G' ao i co (nodesUpTo (allT root) i), thOwn ptrL B 76 (some ⟨gr, 0, none⟩) m cr row]) w wc) := TC.trans (Turns.pick [0, 4, 5, 1, 2, 3] TC.now (by decide) (by intro i hi; show i < 6; revert i; decide))
          have hB2 : Box wc g (PT.cells tt) 82 := Box.below HB1.out hbel HB1.out.lt
          have n2' : wc.cell? ⟨g, 2, none⟩ = some (.int .i64 (n : Nat)) := (hB2.cell 2).trans (cells_level tt)
          have hglc : g < wc.heap.size := hB2.lt
          have BX := Lib.hid (show Box wc gx (ndV id bi n none 0 0 none 0 0) 42 from TD.out.now.all 0 _ rfl)
          have hup : Hid (nodesUpTo (allT root) (i + 1) = nodesUpTo (allT root) i ++ [ndAt (allT root) i (PRt.er ⟨n, tt⟩)]) := by
            show nodesUpTo (allT root) i ++ _ = _
            rw [hRx.out]
          have hBwc : B ≤ wc.heap.size := by have := TD.out.mv.size; have := hB.out; omega
          clear TA TB TC hbel n0 n1 n2 hgl cr0 hgr hwc
          cases n with
          | zero =>
            obtain ⟨g', ⟨id', bi', ds⟩⟩ := tt
            have hds : Hid (ds.length = 64 ∧ ∀ x ∈ ds, (Lit.int .u8 x).wf = true) := HOX2.out.2.2.1
            have hrow : Row .u8 wc (some ⟨g, 7, none⟩) 64 64 ds := by
              refine ⟨hds.out.1, Nat.le_refl _, by unfold maxLen; omega, (fun h => by cases h), hds.out.2, .inr ⟨g, 7, rfl, fun j hj => ?_⟩⟩
              have h1 := hB2.cell (7 + j)
              rw [show PT.cells (show PT 0 from (⟨g', ⟨id', bi', ds⟩⟩ : LfP)) = nodeV id' bi' 0 nils ds from rfl, nodeV_data _ _ _ _ _ rfl, List.getElem?_eq_getElem (by have := hds.out.1; omega)] at h1
              rw [h1]
              simp [List.getD, show j < ds.length by have := hds.out.1; omega]
            have HCL := Lib.hid (cloneT g 7 64 64 ds wc hrow (by decide))
            have bx0 : wc.cell? ⟨gx, 4, none⟩ = some (.slice none 0 0) := BX.out.cell 4
            have hgx2 : gx < wc.heap.size := BX.out.lt
            have hnd : Hid (ndAt (allT root) i (PRt.er ⟨0, (⟨g', ⟨id', bi', ds⟩⟩ : LfP)⟩) = ⟨id, bi, 0, [], ds⟩) := by
              show _ = _
              rw [← hid.out, ← hbi.out]; rfl
            clear hrow hB2
            go_wp2_with fail
            refine HCL.out.mono ?_
            rintro e w5 ⟨a5, c5, rfl, hT5⟩
            have TE := TD.out.trans (Turns.inside (i := 2) TD.out.now rfl (Turns.nilTo hT5.out))
            have TE2 := TE.trans (Turns.inside (i := 2) TE.now rfl (t' := thOwn (Lay.int .u8) B 5 a5 64 c5 ds) ⟨SOwn.mono (TE.now.all 2 _ rfl) hBwc (fun _ h => h), Mv.refl _ _, fun b hb => .inl hb⟩)
            have TF := Lib.hid (TE2.trans (Turns.inside (i := 0) TE2.now rfl (Turns.cell (TE2.now.all 0 _ rfl) 4 (.slice a5 64 c5))))
            have BX5 := Lib.hid (show Box w5 gx (ndV id bi (0 : Nat) none 0 0 none 0 0) 42 from TE2.now.all 0 _ rfl)
            obtain ⟨w6, hw6⟩ : ∃ w6, Hid (w5.setCell ⟨gx, 4, none⟩ (.slice a5 64 c5) = w6) := ⟨_, rfl⟩
            rw [hw6.out] at TF
            have TG := Lib.hid (TF.out.trans (six_in TF.out.now))
            have BX6 := Lib.hid (show Box w6 gx (ndV id bi (0 : Nat) none 0 0 a5 64 c5) 42 from TF.out.now.all 0 _ rfl)
            have OWN := Lib.hid (show Apt [thOwn (Lay.int .i64) B 3 none 0 0 [], thOwn (Lay.int .u8) B 5 a5 64 c5 ds] w6 from Apt.all (TG.out.now.all 0 _ rfl) 1 _ rfl)
            have c4 : w5.cell? ⟨gx, 4, none⟩ = some (.slice none 0 0) := BX5.out.cell 4
            have f4 : w5.frozen? ⟨gx, 4, none⟩ = false := BX5.out.free 4
            have hgx5 : gx < w5.heap.size := BX5.out.lt
            have y0 : w6.cell? ⟨gx, 0, none⟩ = some (.int .i64 id) := BX6.out.cell 0
            have y1 : w6.cell? ⟨gx, 1, none⟩ = some (.int .i64 bi) := BX6.out.cell 1
            have y2 : w6.cell? ⟨gx, 2, none⟩ = some (.int .i64 0) := BX6.out.cell 2
            have y3 : w6.cell? ⟨gx, 3, none⟩ = some (.slice none 0 0) := BX6.out.cell 3
            have y4 : w6.cell? ⟨gx, 4, none⟩ = some (.slice a5 64 c5) := BX6.out.cell 4
            have hgx6 : gx < w6.heap.size := BX6.out.lt
            have hBW : B ≤ w6.heap.size := by have := TF.out.mv.size; have := hB.out; omega
            have hw6' := hw6.out
            have hfn : Hid (Found W G cur root (i + 1) row) := by
              have := hFn.out
              show Found _ _ _ _ _ _
              rw [show (kidsP ⟨0, (⟨g', ⟨id', bi', ds⟩⟩ : LfP)⟩).filterMap _root_.id = [] from rfl, List.append_nil] at this
              exact this
            clear TE TE2 hT5 n2' bx0 hgx2 hglc
            go_wp2_with (at_builtin; refine wpList_append_RT (L := ndL) (wr := w6) rfl (.tmp 86) (.tmp 88) 33 rfl B 42 _ 72 Try.underlying33 info_node rfl G' ao i co _ rfl _ _ TG.out.now (ndV id bi (0 : Nat) none 0 0 a5 64 c5) ⟨id, bi, 0, [], ds⟩ rfl (nd_at ⟨id, bi, 0, [], ds⟩ OWN.out) (by unfold maxLen; omega) (by omega) hBW ?_; intro a7 c7 w7 G7 T7; have T8 := TG.out.trans T7; have T9 := Lib.hid (T8.trans (six_out T8.now)))
            go_roundw
            case rel => exact ⟨i + 1, m, some ⟨gr, 0, none⟩, cr, a7, c7, G7, row, by go_num, rfl, rfl, by omega, by omega, hml, hfn, by show Turns _ _ _ _; rw [hup.out, hnd.out]; exact T9.out⟩
            case measure => (simp [intOf]; try omega)
          | succ n =>
            obtain ⟨g', id', bi', ks⟩ := tt
            have hk4 : ks.length = 4 := HOX2.out.2.2.1
            obtain ⟨s, hs⟩ : ∃ s, 1 + (flatK kidsT ((allT root).take i)).length = s := ⟨_, rfl⟩
            have hsm : s = m := by
              have h1 := congrArg List.length hF.out.er
              rw [List.length_map, hml.out, ← hroot.out, List.length_append] at h1
              rw [← hroot.out] at hs
              have h2 : (some (PRt.er r0)).toList.length = 1 := rfl
              omega
            have hnd : Hid (ndAt (allT root) i (PRt.er ⟨n + 1, (⟨g', id', bi', ks⟩ : InP (PT n))⟩) = ⟨id, bi, n + 1, kidsIdx m ks, []⟩) := by
              show ndT (1 + (flatK kidsT ((allT root).take i)).length) _ = _
              rw [hs, hsm, ← hid.out, ← hbi.out]
              show (⟨_, _, n + 1, kidsIdx m (ks.map (Option.map (PT.er n))), []⟩ : Nd) = _
              rw [kidsIdx_map]; rfl
            obtain ⟨p0, p1, p2, p3, rfl⟩ : ∃ p0 p1 p2 p3, ks = [p0, p1, p2, p3] := by
              match ks, hk4 with
              | [a, b, c, d], _ => exact ⟨a, b, c, d, rfl⟩
            obtain ⟨x0, h0⟩ : ∃ x, Hid (p0.map (fun t => (⟨PT.gOf t, 0, none⟩ : Addr)) = x) := ⟨_, rfl⟩
            obtain ⟨x1, h1⟩ : ∃ x, Hid (p1.map (fun t => (⟨PT.gOf t, 0, none⟩ : Addr)) = x) := ⟨_, rfl⟩
            obtain ⟨x2, h2⟩ : ∃ x, Hid (p2.map (fun t => (⟨PT.gOf t, 0, none⟩ : Addr)) = x) := ⟨_, rfl⟩
            obtain ⟨x3, h3⟩ : ∃ x, Hid (p3.map (fun t => (⟨PT.gOf t, 0, none⟩ : Addr)) = x) := ⟨_, rfl⟩
            have c3 : wc.cell? ⟨g, 3, none⟩ = some (.pointer x0) := by rw [← h0.out]; exact hB2.cell 3
            have c4 : wc.cell? ⟨g, 4, none⟩ = some (.pointer x1) := by rw [← h1.out]; exact hB2.cell 4
            have c5 : wc.cell? ⟨g, 5, none⟩ = some (.pointer x2) := by rw [← h2.out]; exact hB2.cell 5
            have c6 : wc.cell? ⟨g, 6, none⟩ = some (.pointer x3) := by rw [← h3.out]; exact hB2.cell 6
            obtain ⟨ks, hks⟩ : ∃ ks, Hid ([p0, p1, p2, p3] = ks) := ⟨_, rfl⟩
            have TD2 : Hid (Turns (thSince w) (thAll [thBox gx (ndV id bi ((n : Int) + 1) none 0 0 none 0 0) 42, thOwn (Lay.int .i64) B 3 none 0 0 [], thOwn (Lay.int .u8) B 5 none 0 0 [], t, thRow ndL B 42 G' ao i co (nodesUpTo (allT root) i), thOwn ptrL B 76 (some ⟨gr, 0, none⟩) m cr row]) w wc) := TD.out
            have hkp : Hid (kidsP ⟨n + 1, (⟨g', id', bi', [p0, p1, p2, p3]⟩ : InP (PT n))⟩ = ks.map asR) := by show _ = _; rw [← hks.out]; rfl
            have en : ((n + 1 : Nat) : Int) = (n : Int) + 1 := by push_cast; rfl
            rw [en] at n2'
            rw [hks.out] at hnd
            have hn0 : ((n : Int) + 1 == 0) = false := by simp; omega
            have HN85 : Hid (∀ row', Found W G cur root (i + 1) row' → row'.length ≤ 85) := fun row' h => Nat.le_trans h.len hR85
            clear hB2 hs TD hsm hk4
            go_wp2_with fail
            go_loopw [10, 94] (fun rv jv wx => ∃ (j mj : Nat) (ar : Option Addr) (cr : Nat) (ak : Option Addr) (ck : Nat), rv = .slice ar mj cr ∧ jv = .int .i64 j ∧ j ≤ 4 ∧ mj ≤ m + j ∧ Hid ((row ++ ((ks.map asR).take j).filterMap _root_.id).length = mj) ∧ Hid (m + ((ks.take j).filterMap _root_.id).length = mj) ∧ Hid (Turns (thSince w) (thAll [thBox gx (ndV id bi ((n : Int) + 1) ak j ck none 0 0) 42, thOwn (Lay.int .i64) B 3 ak j ck (kidsIdx m (ks.take j)), thOwn (Lay.int .u8) B 5 none 0 0 [], t, thRow ndL B 42 G' ao i co (nodesUpTo (allT root) i), thOwn ptrL B 76 ar mj cr (row ++ ((ks.map asR).take j).filterMap _root_.id)]) w wx)) (fun _ jv _ => 4 - (intOf jv).toNat)
            case atStart => exact ⟨0, m, _, cr, none, 0, rfl, rfl, by omega, by omega, by show _ = _; simp; exact hml.out, by show _ = _; simp, by show Turns _ _ _ _; simp only [List.take_zero, List.filterMap_nil, List.append_nil]; exact TD2.out⟩
            case round =>
              obtain ⟨j, mj, ar, crj, ak, ck, rfl, rfl, hj4, hmj, hlen, hcnt, hTj⟩ := hrel
              by_cases hjl : j < 4
              · have ij : (j : Int) < 4 := by omega
                obtain ⟨q, hq⟩ : ∃ q, Hid ([p0, p1, p2, p3][j]? = some q) := ⟨([p0, p1, p2, p3].get ⟨j, hjl⟩), by show _ = _; rw [List.getElem?_eq_getElem hjl]; rfl⟩
                obtain ⟨x, hx⟩ : ∃ x, Hid (q.map (fun t => (⟨PT.gOf t, 0, none⟩ : Addr)) = x) := ⟨_, rfl⟩
                have hv : Hid ((#[Value.pointer x0, .pointer x1, .pointer x2, .pointer x3] : Array Value)[j]? = some (.pointer x)) := by
                  have hi4 : j = 0 ∨ j = 1 ∨ j = 2 ∨ j = 3 := by omega
                  have hqq := hq.out
                  rcases hi4 with rfl | rfl | rfl | rfl
                  · obtain rfl : p0 = q := by simpa using hqq
                    obtain rfl : x0 = x := h0.out.symm.trans hx.out
                    rfl
                  · obtain rfl : p1 = q := by simpa using hqq
                    obtain rfl : x1 = x := h1.out.symm.trans hx.out
                    rfl
                  · obtain rfl : p2 = q := by simpa using hqq
                    obtain rfl : x2 = x := h2.out.symm.trans hx.out
                    rfl
                  · obtain rfl : p3 = q := by simpa using hqq
                    obtain rfl : x3 = x := h3.out.symm.trans hx.out
                    rfl
                have hkq : ks[j]? = some q := by rw [← hks.out]; exact hq.out
                have hki := Lib.hid (kidsIdx_take_succ ks m j q hkq)
                have hfl := Lib.hid (filter_take_succ ks j q hkq)
                have hfr := Lib.hid (filter_take_succ (ks.map asR) j (asR q) (by rw [List.getElem?_map, hkq]; rfl))
                rw [hcnt.out] at hki
                have BXj := Lib.hid (show Box wr gx (ndV id bi ((n : Int) + 1) ak j ck none 0 0) 42 from hTj.out.now.all 0 _ rfl)
                have b3 : wr.cell? ⟨gx, 3, none⟩ = some (.slice ak j ck) := BXj.out.cell 3
                have hgxw : gx < wr.heap.size := BXj.out.lt
                have hBwr : B ≤ wr.heap.size := by have := hTj.out.mv.size; have := hB.out; omega
                clear hkq c3 c4 c5 c6
                cases q with
                | none =>
                  obtain rfl : x = none := hx.out.symm
                  have OK := Lib.hid (hTj.out.now.all 1 _ rfl)
                  have hnt : Hid (kidsIdx m (ks.take (j + 1)) = kidsIdx m (ks.take j) ++ [-1]) := hki.out
                  have hrw : Hid (row ++ ((ks.map asR).take (j + 1)).filterMap _root_.id = row ++ ((ks.map asR).take j).filterMap _root_.id) := by show _ = _; rw [hfr.out]; simp [asR]
                  have hcn : Hid (m + ((ks.take (j + 1)).filterMap _root_.id).length = mj) := by show _ = _; rw [hfl.out]; simp; exact hcnt.out
                  go_wp2_with (first
                    | (refine wpList_index_at rfl 79 (.tmp 93) (.tmp 94) rfl #[Value.pointer x0, .pointer x1, .pointer x2, .pointer x3] rfl j rfl 4 76 rfl hjl _ rfl rfl rfl (.pointer none) hv.out ?_)
                    | (at_builtin; refine wpList_append_T1 (L := Lay.int .i64) (wr := wr) rfl (.tmp 106) (.tmp 108) 40 rfl B 3 _ 8 Try.underlying40 info_int0 rfl ak j ck _ rfl OK.out #[.int .i64 (-1)] (-1) rfl ⟨rfl, by decide⟩ (by unfold maxLen; omega) (by omega) hBwr ?_; intro a5 c5 w5 T5; have TK := Lib.hid (hTj.out.trans (Turns.inside (i := 1) hTj.out.now rfl T5)); have BX5 := Lib.hid (show Box w5 gx (ndV id bi ((n : Int) + 1) ak j ck none 0 0) 42 from TK.out.now.all 0 _ rfl); have b35 : w5.cell? ⟨gx, 3, none⟩ = some (.slice ak j ck) := BX5.out.cell 3; have f35 : w5.frozen? ⟨gx, 3, none⟩ = false := BX5.out.free 3; have hgx5 : gx < w5.heap.size := BX5.out.lt; have TL := Lib.hid (TK.out.trans (Turns.inside (i := 0) TK.out.now rfl (Turns.cell BX5.out 3 (.slice a5 (j + 1) c5)))); clear T5))
                  go_roundw
                  case rel => exact ⟨j + 1, mj, ar, crj, a5, c5, rfl, by go_num, by omega, by omega, by show _ = _; rw [hrw.out]; exact hlen.out, hcn, by show Turns _ _ _ _; rw [hrw.out, hnt.out]; exact TL.out⟩
                  case measure => (simp [intOf]; try omega)
                | some kk =>
                  obtain ⟨gk, hgk⟩ : ∃ gk, Hid (PT.gOf kk = gk) := ⟨_, rfl⟩
                  obtain rfl : x = some ⟨gk, 0, none⟩ := by rw [← hx.out, ← hgk.out]; rfl
                  have OR := Lib.hid (hTj.out.now.all 5 _ rfl)
                  have hnt : Hid (kidsIdx m (ks.take (j + 1)) = kidsIdx m (ks.take j) ++ [(mj : Int)]) := hki.out
                  have hrw : Hid (row ++ ((ks.map asR).take (j + 1)).filterMap _root_.id = (row ++ ((ks.map asR).take j).filterMap _root_.id) ++ [(⟨n, kk⟩ : PRt)]) := by show _ = _; rw [hfr.out, List.append_assoc]; rfl
                  have hcn : Hid (m + ((ks.take (j + 1)).filterMap _root_.id).length = mj + 1) := by show _ = _; rw [hfl.out]; have := hcnt.out; simp; omega
                  have hmj2 : mj ≤ 200 := by omega
                  go_wp2_with (first
                    | (refine wpList_index_at rfl 79 (.tmp 93) (.tmp 94) rfl #[Value.pointer x0, .pointer x1, .pointer x2, .pointer x3] rfl j rfl 4 76 rfl hjl _ rfl rfl rfl (.pointer (some ⟨gk, 0, none⟩)) hv.out ?_)
                    | (at_builtin; refine wpList_append_T1 (L := ptrL) (wr := wr) rfl (.tmp 101) (.tmp 103) 75 rfl B 76 _ 8 Try.underlying75 info_ptr rfl ar mj crj _ rfl OR.out #[.pointer (some ⟨gk, 0, none⟩)] (⟨n, kk⟩ : PRt) rfl (by show _ = [Value.pointer (some ⟨PT.gOf kk, 0, none⟩)]; rw [hgk.out]) (by unfold maxLen; omega) (by omega) hBwr ?_; intro a8 c8 w8 T8; have TR := Lib.hid (hTj.out.trans (Turns.inside (i := 5) hTj.out.now rfl T8)); have OK := Lib.hid (TR.out.now.all 1 _ rfl); have BX8 := Lib.hid (show Box w8 gx (ndV id bi ((n : Int) + 1) ak j ck none 0 0) 42 from TR.out.now.all 0 _ rfl); have b38 : w8.cell? ⟨gx, 3, none⟩ = some (.slice ak j ck) := BX8.out.cell 3; have hgx8 : gx < w8.heap.size := BX8.out.lt; have hBw8 : B ≤ w8.heap.size := (by have := TR.out.mv.size; have := hB.out; omega); clear T8)
                    | (at_builtin; refine wpList_append_T1 (L := Lay.int .i64) (wr := w8) rfl (.tmp 106) (.tmp 108) 40 rfl B 3 _ 8 Try.underlying40 info_int0 rfl ak j ck _ rfl OK.out #[.int .i64 (mj : Int)] (mj : Int) rfl ⟨rfl, wf64 ⟨by omega, by omega⟩⟩ (by unfold maxLen; omega) (by omega) hBw8 ?_; intro a5 c5 w5 T5; have TK := Lib.hid (TR.out.trans (Turns.inside (i := 1) TR.out.now rfl T5)); have BX5 := Lib.hid (show Box w5 gx (ndV id bi ((n : Int) + 1) ak j ck none 0 0) 42 from TK.out.now.all 0 _ rfl); have b35 : w5.cell? ⟨gx, 3, none⟩ = some (.slice ak j ck) := BX5.out.cell 3; have f35 : w5.frozen? ⟨gx, 3, none⟩ = false := BX5.out.free 3; have hgx5 : gx < w5.heap.size := BX5.out.lt; have TL := Lib.hid (TK.out.trans (Turns.inside (i := 0) TK.out.now rfl (Turns.cell BX5.out 3 (.slice a5 (j + 1) c5)))); clear T5))
                  go_roundw
                  case rel => exact ⟨j + 1, mj + 1, a8, c8, a5, c5, rfl, by go_num, by omega, by omega, by show _ = _; rw [hrw.out, List.length_append, hlen.out]; rfl, hcn, by show Turns _ _ _ _; rw [hrw.out, hnt.out]; exact TL.out⟩
                  case measure => (simp [intOf]; try omega)
              · obtain rfl : j = 4 := by omega
                have hks4 : ks.length = 4 := by rw [← hks.out]; rfl
                have e1 : ks.take 4 = ks := List.take_of_length_le (by omega)
                have e2 : (ks.map asR).take 4 = ks.map asR := List.take_of_length_le (by rw [List.length_map]; omega)
                rw [e1, e2] at hTj
                rw [e2] at hlen
                have hfn : Hid (Found W G cur root (i + 1) (row ++ (ks.map asR).filterMap _root_.id)) := by
                  have := hFn.out
                  rw [hkp.out] at this
                  exact this
                have hm85' : mj ≤ 85 := by rw [← hlen.out]; exact HN85.out _ hfn.out
                have hile : i + 1 ≤ mj := by rw [← hlen.out]; exact hfn.out.le
                have TG := Lib.hid (hTj.out.trans (six_in hTj.out.now))
                have BX6 := Lib.hid (show Box wr gx (ndV id bi ((n : Int) + 1) ak 4 ck none 0 0) 42 from hTj.out.now.all 0 _ rfl)
                have OWN := Lib.hid (show Apt [thOwn (Lay.int .i64) B 3 ak 4 ck (kidsIdx m ks), thOwn (Lay.int .u8) B 5 none 0 0 []] wr from Apt.all (TG.out.now.all 0 _ rfl) 1 _ rfl)
                have y0 : wr.cell? ⟨gx, 0, none⟩ = some (.int .i64 id) := BX6.out.cell 0
                have y1 : wr.cell? ⟨gx, 1, none⟩ = some (.int .i64 bi) := BX6.out.cell 1
                have y2 : wr.cell? ⟨gx, 2, none⟩ = some (.int .i64 ((n : Int) + 1)) := BX6.out.cell 2
                have y3 : wr.cell? ⟨gx, 3, none⟩ = some (.slice ak 4 ck) := BX6.out.cell 3
                have y4 : wr.cell? ⟨gx, 4, none⟩ = some (.slice none 0 0) := BX6.out.cell 4
                have hgx6 : gx < wr.heap.size := BX6.out.lt
                have hBW : B ≤ wr.heap.size := by have := hTj.out.mv.size; have := hB.out; omega
                have ein : (i : Int) < (m : Int) := by omega
                clear e1 e2 hks4 hTj hFn c3 c4 c5 c6 n2' hglc
                go_wp2_with (at_builtin; refine wpList_append_RT (L := ndL) (wr := wr) rfl (.tmp 112) (.tmp 114) 33 rfl B 42 _ 72 Try.underlying33 info_node rfl G' ao i co _ rfl _ _ TG.out.now (ndV id bi ((n : Int) + 1) ak 4 ck none 0 0) ⟨id, bi, n + 1, kidsIdx m ks, []⟩ rfl (nd_at ⟨id, bi, n + 1, kidsIdx m ks, []⟩ OWN.out) (by unfold maxLen; omega) (by omega) hBW ?_; intro a7 c7 w7 G7 T7; have T8 := TG.out.trans T7; have T9 := Lib.hid (T8.trans (six_out T8.now)))
                go_roundw
                case rel => exact ⟨i + 1, mj, ar, crj, a7, c7, G7, row ++ (ks.map asR).filterMap _root_.id, by go_num, rfl, rfl, hile, hm85', hlen, hfn, by show Turns _ _ _ _; rw [hup.out, hks.out, hnd.out]; exact T9.out⟩
                case measure => (simp [intOf]; try omega)
      · obtain rfl : i = m := by omega
        have hdone : (allT root).length = i := by
          have := hF.out
          rw [← hml.out] at this
          have := this.done
          rw [← hml.out]; exact this.symm
        have hBe : Hid (Below w.heap.size w wr) := Apt.all (by have := hT.out.now.all 0 _ rfl; rw [HTt.out] at this; exact this) 3 _ rfl
        go_wp2_with fail
        exact bodyPost_ret (results_tmp2 Try.results14 _ _ _) rfl ⟨ao, i, co, rfl, by
          show SRow _ _ _ _ _ _ _
          unfold nodesP
          rw [hdone]
          exact SOwn.sRow (hT.out.now.all 1 _ rfl : (thRow ndL B 42 G' ao i co (nodesUpTo (allT root) i)).holds wr).1, hBe.out⟩
end Go.Proofs.Ythjjfmnipemakaa
