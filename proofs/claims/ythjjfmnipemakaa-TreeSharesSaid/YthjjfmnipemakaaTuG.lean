/- The walk of spread. -/
import Derived.Test.YthjjfmnipemakaaTuF
namespace Go.Proofs.Ythjjfmnipemakaa
open Go.RowKit
set_option linter.unusedVariables false
set_option maxRecDepth 100000

theorem kidsT_get {n : Nat} {t : T (n + 1)} {i : Nat} {q : Option (T n)} (h : (In.kids t)[i]? = some q) : (kidsT ⟨n + 1, t⟩)[i]? = some (q.map fun k => (⟨n, k⟩ : Rt)) := by
  show ((In.kids t).map _)[i]? = _
  rw [List.getElem?_map, h]; rfl
theorem filter_mapR {n : Nat} : ∀ (l : List (Option (T n))), ((l.map (Option.map fun k => (⟨n, k⟩ : Rt))).filterMap id).length = (l.filterMap id).length
  | [] => rfl
  | none :: l => filter_mapR l
  | some k :: l => by show ((l.map _).filterMap id).length + 1 = (l.filterMap id).length + 1; rw [filter_mapR l]
theorem kidNo_eq (R : List Rt) (a n : Nat) (t : T (n + 1)) (i : Nat) : kidNo R a ⟨n + 1, t⟩ i = first R a + (((In.kids t).take i).filterMap id).length := by
  unfold kidNo
  show first R a + ((((In.kids t).map (Option.map fun k => (⟨n, k⟩ : Rt))).take i).filterMap id).length = _
  rw [← List.map_take, filter_mapR]
theorem ndAt_level (R : List Rt) (j n : Nat) (y : T n) : (ndAt R j ⟨n, y⟩).level = n := by cases n <;> rfl
theorem ndAt_birth (R : List Rt) (j n : Nat) (y : T n) : (ndAt R j ⟨n, y⟩).birth = T.birthOf y := by cases n <;> rfl
theorem Turns.rest1 {b : Thing} {l l' : List Thing} {w w' : World} (h : Apt (b :: l) w) (k : Turns (thAll l) (thAll l') w w') : Turns (thAll (b :: l)) (thAll (b :: l')) w w' := by
  have T1 := Turns.head1 h
  have T2 := T1.trans (Turns.inside (i := 1) T1.now rfl k)
  exact T2.trans (Turns.unhead1 T2.now)
set_option maxHeartbeats 16000000 in
theorem spreadInner (n : Nat) (ih : SpreadAt n) (hn : n ≤ 3) : SpreadAt (n + 1) := by
  intro R r W0 F al ll cl base o sb lo a t b xs sn w tr hrow hat hbir hok hsin ho hsb hA hlo hln hroom hlo2 hll2 hz hsn
  have hget := nodesUpTo_get R R.length a _ (List.getElem?_eq_some_iff.1 hat).1 (Nat.le_refl _) hat
  have hnd : ndAt R a ⟨n + 1, t⟩ = ⟨In.id t, In.birth t, n + 1, kidsIdx (first R a) (In.kids t), []⟩ := rfl
  rw [hnd] at hget
  obtain ⟨b', off', ak, nk, ck, ad, nd, cd, rfl, hb', hi, n0, n1, n2, n3, n4, hk, hd⟩ := ndRow hrow a _ hget
  have hk4 : (In.kids t).length = 4 := hok.1
  have hnk : nk = 4 := by have h1 := hk.1; simp only [kidsIdx_length] at h1; omega
  have hnd0 : nd = 0 := hd.1.symm
  subst hnk hnd0
  simp only at n0 n1 n2
  have hRl : R.length = ll := by have h1 := hrow.1; rw [nodesUpTo_length R R.length (Nat.le_refl _)] at h1; exact h1
  have HK := Lib.hid hk
  have HS := Lib.hid hsin
  have HROW := Lib.hid hrow
  have m0 := (hsin.cell hb').trans n0
  have m1 := (hsin.cell hb').trans n1
  have m2 := (hsin.cell hb').trans n2
  have m3 := (hsin.cell hb').trans n3
  have m4 := (hsin.cell hb').trans n4
  have hbw : b' < w.heap.size := by have := hsin.size; omega
  have en : ((n + 1 : Nat) : Int) = (n : Int) + 1 := by push_cast; rfl
  rw [en] at m2
  have TA := (Turns.refl (t := thAll [thBox o (u8s xs) 5, thBox sb (i64s sn) 3]) hA).putBox (ndV (In.id t) (In.birth t) ((n : Int) + 1) ak 4 ck ad 0 cd) 42
  obtain ⟨gx, hgx⟩ : ∃ gx, Hid (w.heap.size = gx) := ⟨_, rfl⟩
  rw [hgx.out] at TA
  obtain ⟨V, hV⟩ : ∃ V, w.alloc (.cells #[.int .i64 (In.id t : Nat), .int .i64 (In.birth t : Nat), .int .i64 ((n : Int) + 1), .slice ak 4 ck, .slice ad 0 cd] 42) = V := ⟨_, rfl⟩
  unfold ndV at TA
  rw [hV] at TA
  have HTA := Lib.hid TA
  have HO : Hid (∀ b, (thAll [thBox o (u8s xs) 5, thBox sb (i64s sn) 3]).foot b → W0.heap.size ≤ b) := fun b ⟨u, hu, hb⟩ => by
    rcases List.mem_cons.1 hu with rfl | hu
    · have : b = o := hb; omega
    · obtain rfl := List.mem_singleton.1 hu
      have : b = sb := hb; omega
  have HL := Lib.hid hlo
  have HLN := Lib.hid hln
  have HBIR := Lib.hid hbir
  have HOKK := Lib.hid hok
  have HZ := Lib.hid hz
  have HSN := Lib.hid hsn
  have HAT := Lib.hid hat
  have HRL := Lib.hid hRl
  have hrs := room_succ n
  have hrp := room_pos n
  obtain ⟨rm, hrm⟩ : ∃ rm, Hid (room n = rm) := ⟨_, rfl⟩
  have hrml : rm ≤ 4096 := by rw [← hrm.out]; exact room_mono (a := n) (b := 3) hn
  have hroom2 : base + 4 * rm ≤ lo := by have := hrm.out; omega
  have hai : (a : Int) < (ll : Int) := by omega
  obtain ⟨x, hx⟩ : ∃ x : Rt, Hid ((⟨n + 1, t⟩ : Rt) = x) := ⟨_, rfl⟩
  have hgx1 : w.heap.size = gx := hgx.out
  have B11 : Box V gx _ 42 := HTA.out.now.all 0 _ rfl
  have q2 : V.cell? ⟨gx, 2, none⟩ = some (.int .i64 ((n : Int) + 1)) := B11.cell 2
  have q3 : V.cell? ⟨gx, 3, none⟩ = some (.slice ak 4 ck) := B11.cell 3
  have q4 : V.cell? ⟨gx, 4, none⟩ = some (.slice ad 0 cd) := B11.cell 4
  have hgxV : gx < V.heap.size := B11.lt
  have hlv6 : decide (6 < (n : Int) + 1) = false := by simp; omega
  have hlv0 : decide ((n : Int) + 1 < 0) = false := by simp; omega
  have hne0 : ((n : Int) + 1 == 0) = false := by simp; omega
  have HST : Hid (SnI R a x 0 sn sn) := SnI.start ..
  clear TA hA hrow hat hbir hok hsin hz hsn hget hnd n0 n1 n2 n3 n4 hk hd hlo hln B11 en hroom hRl
  go_enter Try.func24, Try.ntmps24
  go_wp2_with fail
  clear m0 m1 m2 m3 m4 q2 q3 q4 hgx1 hV hgxV hbw
  go_loopw [13] (fun iv wr => ∃ (i : Nat) (sni : List Int), i ≤ 4 ∧ iv = .int .i64 i ∧ Hid (SnI R a x i sn sni) ∧ Hid (Turns (thAll [thBox o (u8s xs) 5, thBox sb (i64s sn) 3]) (thAll [thBox gx #[.int .i64 (In.id t : Nat), .int .i64 (In.birth t : Nat), .int .i64 ((n : Int) + 1), .slice ak 4 ck, .slice ad 0 cd] 42, thBox o (u8s (putU (i * room n) (n + 1) (some t) base 0 xs)) 5, thBox sb (i64s sni) 3]) w wr)) (fun iv _ => 4 - (intOf iv).toNat)
  case atStart => exact ⟨0, sn, by omega, rfl, HST, by show Turns _ _ _ _; rw [Nat.zero_mul, putU_zero]; exact HTA.out⟩
  case round =>
    obtain ⟨i, sni, hi4, rfl, hSI, hT⟩ := hrel
    have B11 : Box wr gx _ 42 := hT.out.now.all 0 _ rfl
    have r1 : wr.cell? ⟨gx, 1, none⟩ = some (.int .i64 (In.birth t : Nat)) := B11.cell 1
    have r2 : wr.cell? ⟨gx, 2, none⟩ = some (.int .i64 ((n : Int) + 1)) := B11.cell 2
    have r3 : wr.cell? ⟨gx, 3, none⟩ = some (.slice ak 4 ck) := B11.cell 3
    have hgxw : gx < wr.heap.size := B11.lt
    by_cases hlt : i < 4
    · have ii : (i : Int) < 4 := by omega
      have hsw := since_kept HS.out hT.out HO.out
      obtain ⟨q, hq⟩ : ∃ q, (In.kids t)[i]? = some q := ⟨_, List.getElem?_eq_getElem (by omega)⟩
      have hkg := kidsIdx_get (In.kids t) (first R a) i q hq
      rw [← kidNo_eq] at hkg
      have hxq : (kidsT x)[i]? = some (q.map fun k => (⟨n, k⟩ : Rt)) := by rw [← hx.out]; exact kidsT_get hq
      have hkrow := HK.out.since hsw
      obtain ⟨bK, oK, vs, hak, _, hbK, hvv, hcK⟩ := hkrow.get i hlt
      obtain ⟨hvs, _⟩ := hvv _ hkg
      subst hvs
      have cK := hcK 0 (by decide)
      rw [show oK + (i * (Lay.int IntKind.i64).size + 0) = oK + i by show oK + (i * 1 + 0) = _; omega] at cK
      subst hak
      cases q with
      | none =>
        have cK' : wr.cell? ⟨bK, oK + i, none⟩ = some (.int .i64 (-1)) := cK
        have hps : Hid (putU ((i + 1) * room n) (n + 1) (some t) base 0 xs = putU (i * room n) (n + 1) (some t) base 0 xs) := by
          show _ = _
          rw [← innerU_step n i base 0 t none xs hq]
          have hz' := innerU_zero n i base 0 t xs hlt HZ.out
          exact putU_out _ _ _ _ _ _ (fun p hp h1 h2 => by rw [hz' p hp h1 h2, T.get_none])
        have hsi : Hid (SnI R a x (i + 1) sn sni) := hSI.out.hole hxq
        clear hcK hvv hkrow hkg hxq hq cK hsw B11 r1 r2
        go_wp2_with fail
        go_roundw
        case rel => exact ⟨i + 1, sni, by omega, by go_num, hsi, by show Turns _ _ _ _; rw [hps.out]; exact hT.out⟩
        case measure => (simp [intOf]; try omega)
      | some y =>
        have hat2 : R[a]? = some x := by rw [← hx.out]; exact HAT.out
        obtain ⟨hIK, hRj⟩ := tr.kid a x hat2 i ⟨n, y⟩ hxq
        have hjk : first R a + (((kidsT x).take i).filterMap id).length = kidNo R a x i := rfl
        rw [hjk] at hIK hRj
        have hjlt := hIK.lt tr
        obtain ⟨j, hj⟩ : ∃ j, kidNo R a x i = j := ⟨_, rfl⟩
        have cK' : wr.cell? ⟨bK, oK + i, none⟩ = some (.int .i64 (j : Int)) := by
          have : (Option.isSome (some y)) = true := rfl
          rw [hx.out] at cK
          rw [hj] at cK
          exact cK
        have hjn := not_done tr hat2 hxq (k := kidNo R a x i) .refl
        rw [hj] at hIK hRj hjlt hjn
        have hjll : j < ll := by rw [← HRL.out]; exact hjlt.2
        have hju : Up R a j := .kid .refl hIK
        have hs0 : sni.getD j 0 = 0 := by
          rw [hSI.out.rest j (by rw [HLN.out]; exact hjll) hjn]
          exact HSN.out j hju (by omega)
        have hgj := nodesUpTo_get R R.length j _ hjlt.2 (Nat.le_refl _) hRj
        obtain ⟨b2, off2, _, _, _, _, _, _, e2, hb2, _, _, l1, l2, _, _, _, _⟩ := ndRow HROW.out j _ hgj
        obtain ⟨rfl, rfl⟩ : b' = b2 ∧ off' = off2 := by simpa using e2
        rw [ndAt_birth] at l1
        rw [ndAt_level] at l2
        have l1w := (hsw.cell hb2).trans l1
        have l2w := (hsw.cell hb2).trans l2
        have hb2w : b' < wr.heap.size := by have := hsw.size; omega
        have hbk : T.Bir (In.birth t) n (some y) := HBIR.out.2 _ (List.mem_of_getElem? hq)
        have hyb := bir_le hbk
        have hoky : T.Ok n (some y) := HOKK.out.2 _ (List.mem_of_getElem? hq)
        have qa : decide ((j : Int) ≤ (a : Int)) = false := by simp; omega
        have qb : decide ((ll : Int) ≤ (j : Int)) = false := by simp; omega
        have qb' : decide (ll ≤ j) = false := by simp; omega
        have qa' : decide (j ≤ a) = false := by simp; omega
        have qc : decide (((In.birth t : Nat) : Int) < ((T.birthOf y : Nat) : Int)) = false := by simp; omega
        have qc' : decide (In.birth t < T.birthOf y) = false := by simp; omega
        have hjm : ((j : Int) == -1) = false := by simp
        have hji : (j : Int) < (ll : Int) := by omega
        have wn : IntKind.i64.wrap (n : Int) = (n : Int) := IntWalk.i64_in _ (by omega)
        obtain ⟨ir, hir⟩ : ∃ ir, i * rm = ir := ⟨_, rfl⟩
        have hir3 : i * rm ≤ 3 * rm := Nat.mul_le_mul_right _ (by omega)
        have w3 : IntKind.i64.wrap ((i : Int) * (rm : Int)) = (ir : Int) := by
          have : (i : Int) * (rm : Int) = (ir : Int) := by rw [← hir]; push_cast; rfl
          rw [this]; exact IntWalk.i64_in _ (by omega)
        have w4 : IntKind.i64.wrap ((base : Int) + (ir : Int)) = (base : Int) + (ir : Int) := IntWalk.i64_in _ (by omega)
        have BS := Lib.hid (show Box wr sb (i64s sni) 3 from hT.out.now.all 2 _ rfl)
        have hgs : gx ≠ sb := fun e => hT.out.now.apart 0 2 _ _ rfl rfl (by decide) gx rfl e
        have hsg : sb ≠ gx := fun e => hgs e.symm
        have hsl : sni.length = ll := by rw [hSI.out.len]; exact HLN.out
        have T2 := hT.out.trans (Turns.inside (i := 2) hT.out.now rfl (Turns.cell BS.out j (.int .i64 1)))
        rw [i64s_set] at T2
        have H19 := Lib.hid hT.out
        have hirn : i * room n = ir := by rw [hrm.out]; exact hir
        have hIH : ∀ V2, Hid (V2 = wr.setCell ⟨sb, j, none⟩ (.int .i64 1) → True) := fun _ _ => trivial
        have hpre : ∀ k, Up R j k → k ≠ j → (sni.set j 1).getD k 0 = 0 := fun k hu hne => by
          rw [List.getD_eq_getElem?_getD, List.getElem?_set_ne (fun e => hne e.symm), ← List.getD_eq_getElem?_getD]
          by_cases hkl : k < sn.length
          · rw [hSI.out.rest k hkl (not_done tr hat2 hxq (by rw [hj]; exact hu))]
            refine HSN.out k (Up.cons hIK hu) (fun e => ?_)
            have := hu.le tr
            omega
          · rw [List.getD_eq_getElem?_getD, List.getElem?_eq_none (by rw [hsl]; have := HLN.out; omega)]; rfl
        have h4r : (i + 1) * room n ≤ 4 * room n := Nat.mul_le_mul_right _ hlt
        rw [Nat.add_mul, Nat.one_mul] at h4r
        have hIH2 := Lib.hid (fun (V2 : World) (hs2 : (thSince W0).holds V2) (hA2 : Apt [thBox o (u8s (putU (i * room n) (n + 1) (some t) base 0 xs)) 5, thBox sb (i64s (sni.set j 1)) 3] V2) =>
          ih R r W0 F (some ⟨b', off', none⟩) ll cl (base + i * room n) o sb lo j y (In.birth t) (putU (i * room n) (n + 1) (some t) base 0 xs) (sni.set j 1) V2 tr HROW.out hRj hbk hoky hs2 ho hsb hA2 (by rw [putU_length]; exact HL.out) (by rw [List.length_set]; exact hsl) (by have := hrm.out; omega) hlo2 hll2 (innerU_zero n i base 0 t xs hlt HZ.out) hpre)
        have hstep := Lib.hid (innerU_step n i base 0 t (some y) xs hq)
        have hsik := Lib.hid (fun sn'' h => SnI.kid tr hat2 hxq hSI.out (by rw [hj, HLN.out]; exact hjll) (sn'' := sn'') h)
        rw [hj, hs0] at hsik
        have hRW := Lib.hid (fun w => keepRoomW n (by omega) w)
        rw [hrm.out] at hRW
        have cS : wr.cell? ⟨sb, j, none⟩ = some (.int .i64 0) := by rw [BS.out.cell j, i64s_get _ _ (by rw [hsl]; exact hjll), hs0]
        have fS : wr.frozen? ⟨sb, j, none⟩ = false := BS.out.free j
        have hslw : sb < wr.heap.size := BS.out.lt
        have HSW := Lib.hid hsw
        have HT2 := Lib.hid T2
        have HIRN := Lib.hid hirn
        have HIR := Lib.hid hir
        clear hIH hpre h4r T2 hir hirn hir3 hcK hvv hkrow hkg hxq hq cK hsw B11 hat2 hIK hRj hju hgj e2 l1 l2 hbk hoky hyb hs0 hjn hjk hjlt hsl
        go_upto_region 19 with fail
        go_quiet (fail)
        obtain ⟨V1, hV1⟩ : ∃ V1, V1 = wr.drewN nq := ⟨_, rfl⟩
        have cS1 : V1.cell? ⟨sb, j, none⟩ = some (.int .i64 0) := by rw [hV1]; exact cS
        have fS1 : V1.frozen? ⟨sb, j, none⟩ = false := by rw [hV1]; exact fS
        have r21 : V1.cell? ⟨gx, 2, none⟩ = some (.int .i64 ((n : Int) + 1)) := by rw [hV1]; exact r2
        have hsl1 : sb < V1.heap.size := by rw [hV1]; exact hslw
        have hgx1 : gx < V1.heap.size := by rw [hV1]; exact hgxw
        have T3 : Hid (Turns (thAll [thBox o (u8s xs) 5, thBox sb (i64s sn) 3]) (thAll [thBox gx #[.int .i64 (In.id t : Nat), .int .i64 (In.birth t : Nat), .int .i64 ((n : Int) + 1), .slice (some ⟨bK, oK, none⟩) 4 ck, .slice ad 0 cd] 42, thBox o (u8s (putU (i * room n) (n + 1) (some t) base 0 xs)) 5, thBox sb (i64s (sni.set j 1)) 3]) w (V1.setCell ⟨sb, j, none⟩ (.int .i64 1))) := by
          have T1 := H19.out.stays (below_drewN (Below.refl _ _) nq : Below wr.heap.size wr (wr.drewN nq))
          rw [← hV1] at T1
          have := T1.trans (Turns.inside (i := 2) T1.now rfl (Turns.cell (T1.now.all 2 _ rfl) j (.int .i64 1)))
          rw [i64s_set] at this
          exact this
        have hs2 := since_kept HS.out T3.out HO.out
        have HIH := Lib.hid (hIH2.out (V1.setCell ⟨sb, j, none⟩ (.int .i64 1)) hs2 T3.out.now.tail)
        rw [hstep.out, HIRN.out] at HIH
        push_cast at HIH
        rw [← hV1]
        clear hV1 cS fS r1 r2 r3 hgxw hslw l1w l2w hs2
        go_wp2_with fail
        refine (hRW.out _).mono ?_
        rintro e w' ⟨rfl, rfl⟩
        go_wp2_with fail
        refine HIH.out.mono ?_
        rintro e w5 ⟨rfl, sn2, hsn2, hT5⟩
        rw [← HIRN.out] at hT5
        have T6 := Lib.hid (T3.out.trans (Turns.rest1 T3.out.now hT5))
        have hsi := Lib.hid (hsik.out sn2 (by rw [Int.zero_add]; exact hsn2))
        clear hT5 hsn2
        go_wp2_with fail
        go_roundw
        case rel => exact ⟨i + 1, sn2, by omega, by go_num, hsi, T6⟩
        case measure => (simp [intOf]; try omega)
    · obtain rfl : i = 4 := by omega
      have e4 : 4 * room n = room (n + 1) := by rw [room_succ]
      rw [e4] at hT
      have hfin := hSI.out.done tr (by rw [← hx.out]; exact HAT.out) (by rw [← hx.out]; show ((In.kids t).map _).length = 4; rw [List.length_map]; exact hk4)
      have HF := Lib.hid hfin
      clear B11 r1 r2 r3 hgxw
      go_wp2_with fail
      go_ret
      exact ⟨rfl, sni, HF.out, hT.out.tail⟩
theorem spreadAt : ∀ (n : Nat), n ≤ 4 → SpreadAt n
  | 0, _ => spreadLeaf
  | n + 1, h => spreadInner n (spreadAt n (by omega)) (by omega)
end Go.Proofs.Ythjjfmnipemakaa
