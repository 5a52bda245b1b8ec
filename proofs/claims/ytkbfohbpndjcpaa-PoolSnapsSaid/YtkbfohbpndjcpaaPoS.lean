/- The walk of snap. -/
import Derived.Test.YtkbfohbpndjcpaaPoO
import Derived.Test.YtkbfohbpndjcpaaPoK5
import Derived.OrdersHeld
namespace Go.Proofs.Ytkbfohbpndjcpaa
open Go.RowKit
set_option linter.unusedVariables false
set_option maxRecDepth 100000
set_option linter.unusedSimpArgs false

theorem cloneM (b : Nat) (m : PM Ob) (w : World) (h : OM obV w b m) : Calls Try.prog 33 #[.map (some b)] w fun e w' => e = .returned (.map (some w.heap.size)) ∧ OM obV w' w.heap.size m ∧ Below w.heap.size w w' :=
  (AnyW.maps_Clone_owns laidClone 9 RV b _ _ w h).mono (fun e w' ⟨h1, h2, h3, h4⟩ => ⟨h1, h2, h4⟩)
theorem cell_same {w w' : World} {g o : Nat} (h : w'.heap[g]? = w.heap[g]?) : w'.cell? ⟨g, o, none⟩ = w.cell? ⟨g, o, none⟩ := by simp only [World.cell?, h]
theorem look_val {α : Type} {f : α → Value} {m : PM α} {n : Nm} {z v : Value} {q : List MemPlace} (hv : RV v = some ((datP f m).atKey (.string n) (.held z), q)) : v = (match getP n m with | some x => f x | none => z) := by
  rw [dat_at] at hv
  unfold RV at hv
  simp only [Option.some.injEq, Prod.mk.injEq, DataW.held.injEq] at hv
  exact hv.1
theorem has_get {α : Type} {f : α → Value} (m : PM α) (n : Nm) : Maps.has (datP f m) (.string n) = (getP n m).isSome := by rw [dat_has, hasP_get]
set_option maxHeartbeats 8000000 in
theorem snap7 (hs mo ms : Nat) (Fz : Nat → Prop) (po : PM Ob) (ps : PM (Nat × PM Ob)) (c : Cm) (ad : Option Addr) (ld cd : Nat) (w : World) (hS : StOk hs mo ms Fz po ps w) (hc : c.Ok) (hk : c.kind = 7) (s : Pl) (hpo : erO po = s.objs) (hps : erS ps = s.snaps) (hok : s.Ok) :
    Calls Try.prog 26 #[.pointer (some ⟨hs, 0, none⟩), .agg (cmV c ad ld cd)] w (Done hs (thSt hs mo ms Fz po ps) (snapP s c) w) := by
  have hpl : po.length ≤ 4 := by have := hok.objs; rw [← hpo] at this; unfold erO at this; rwa [mapP_length] at this
  have hpsl : ps.length ≤ 3 := by have := hok.snaps; rw [← hps] at this; unfold erS at this; rwa [mapP_length] at this
  have hol := hc.olen
  have hnl := hc.nlen
  obtain ⟨kind, name, other, off, count, data⟩ := c
  obtain rfl : kind = 7 := hk
  simp only at hol hnl
  have HS := Lib.hid hS
  have hsl := hS.box.lt
  have hne : hs ≠ w.heap.size := by omega
  have hne1 : hs ≠ w.heap.size + 1 := by omega
  obtain ⟨W, hW⟩ : ∃ W, W = (w.alloc (.cells #[.int .i64 7, encStr name, encStr other, .int .i64 (off : Int), .int .i64 (count : Int), .int .i64 0, .int .i64 0, .slice ad ld cd] 30)).alloc (.cells #[.int .i64 0, .bool false, .int .i64 0, .slice none 0 0, .slice none 0 0] 41) := ⟨_, rfl⟩
  have hB : Hid (Below w.heap.size w W) := by rw [hW]; exact Below_alloc2 _ _
  have hBox : Hid (Box W (w.heap.size + 1) #[.int .i64 0, .bool false, .int .i64 0, .slice none 0 0, .slice none 0 0] 41) := by rw [hW]; exact Box.new (by simp)
  have hBoc : Hid (Box W w.heap.size #[.int .i64 7, encStr name, encStr other, .int .i64 (off : Int), .int .i64 (count : Int), .int .i64 0, .int .i64 0, .slice ad ld cd] 30) := by rw [hW]; exact Box.alloc (Box.new rfl) _
  have hsz : Hid (W.heap.size = w.heap.size + 2) := by rw [hW]; show _ = _; simp
  obtain ⟨r, hr⟩ : ∃ r, Hid (roomP ps other 3 = r) := ⟨_, rfl⟩
  have hrs : Hid (roomP s.snaps other 3 = r) := by show _ = _; rw [← hr.out, ← hps]; unfold roomP erS; rw [hasP_map, mapP_length]
  have HPL : Hid (snapP s ⟨7, name, other, off, count, data⟩ = (noP r, if r = 0 then { s with snaps := putP other s.objs s.snaps } else s)) := by
    show _ = _; unfold snapP; rw [if_pos rfl]; show (noP (roomP s.snaps other 3), if roomP s.snaps other 3 = 0 then _ else _) = _; rw [hrs.out]
  have hr8 : r ≤ 8 := by rw [← hr.out]; unfold roomP; split; omega; split; omega; split <;> omega
  have HSd := Lib.hid (Thing.below (t := thSt hs mo ms Fz po ps) HS.out hB.out.drew)
  have HR := Lib.hid (roomS ms ps other 3 W.drew (StOk.snaps HSd.out) hol (by omega) (by omega))
  rw [hr.out] at HR
  clear hS hc hrs
  have b0 : W.cell? ⟨hs, 1, none⟩ = some (.map (some ms)) := (HS.out.box.below hB.out hsl).cell 1
  have k1 : W.cell? ⟨w.heap.size, 2, none⟩ = some (encStr other) := hBoc.out.cell 2
  by_cases hr0 : r = 0
  · subst hr0
    rw [HPL.out, if_pos rfl]
    clear HPL
    unfold cmV
    go_enter Try.func26, Try.ntmps26
    go_wp2_with fail
    rw [← hW]
    clear hW
    go_still_tail 6, (by kernel_rfl)
    change wpList _ _ _ _ _ W.drew
    go_wp2_with (first
      | (go_at_call 32; refine HR.out.mono ?_; rintro e w2 ⟨rfl, hb⟩; have HB2 := Lib.hid hb; clear hb)
      | fail)
    have hB2 : Hid (Below w.heap.size w w2) := hB.out.drew.trans (HB2.out.mono (by have := hsz.out; show w.heap.size ≤ W.heap.size; omega))
    have hbw : Hid (Below W.heap.size W w2) := ((Below.refl _ _).drew).trans HB2.out
    have hBox2 : Hid (Box w2 (w.heap.size + 1) #[.int .i64 0, .bool false, .int .i64 0, .slice none 0 0, .slice none 0 0] 41) := hBox.out.below hbw.out (by have := hsz.out; omega)
    have b1 : w2.cell? ⟨hs, 1, none⟩ = some (.map (some ms)) := (HS.out.box.below hB2.out hsl).cell 1
    have b2 : w2.cell? ⟨hs, 0, none⟩ = some (.map (some mo)) := (HS.out.box.below hB2.out hsl).cell 0
    have k2 : w2.cell? ⟨w.heap.size, 2, none⟩ = some (encStr other) := (hBoc.out.below hbw.out (by have := hsz.out; omega)).cell 2
    have hszb := hbw.out.size
    clear b0 k1
    refine wp_region_held_drew (S := fun w' => w'.cell? ⟨hs, 0, none⟩ = some (.map (some mo)) ∧ w'.cell? ⟨hs, 1, none⟩ = some (.map (some ms)) ∧ w'.cell? ⟨w.heap.size, 2, none⟩ = some (encStr other)) (by kernel_rfl) ⟨b2, b1, k2⟩ (fun hHeld => ?_)
    have HBB := Lib.hid b2
    have HBB1 := Lib.hid b1
    have HKK := Lib.hid k2
    refine wpAnyH_take (i := 0) (v := .pointer (some ⟨hs, 0, none⟩)) rfl (by kernel_rfl) (by kernel_rfl) (by kernel_rfl) (fun _ _ _ h => h) (Or.inl ⟨by rfl, ?_⟩) (by assumption) ?_
    · intro w' hS
      obtain ⟨u0, u1, u2⟩ := hS
      go_simp
      done
    try simp only [Act.put, List.getElem_toArray, List.getElem_cons_zero, List.getElem_cons_succ, List.setIfInBounds_toArray, List.set_cons_zero, List.set_cons_succ]
    refine wpAnyH_take (i := 1) (v := .pointer (some ⟨hs, 0, none⟩)) rfl (by kernel_rfl) (by kernel_rfl) (by kernel_rfl) (fun _ _ _ h => h) (Or.inl ⟨by rfl, ?_⟩) (by assumption) ?_
    · intro w' hS
      obtain ⟨u0, u1, u2⟩ := hS
      go_simp
      done
    try simp only [Act.put, List.getElem_toArray, List.getElem_cons_zero, List.getElem_cons_succ, List.setIfInBounds_toArray, List.set_cons_zero, List.set_cons_succ]
    refine wpAnyH_take (i := 2) (v := .pointer (some ⟨hs, 1, none⟩)) rfl (by kernel_rfl) (by kernel_rfl) (by kernel_rfl) (fun _ _ _ h => h) (Or.inl ⟨by rfl, ?_⟩) (by assumption) ?_
    · intro w' hS
      obtain ⟨u0, u1, u2⟩ := hS
      go_simp
      done
    try simp only [Act.put, List.getElem_toArray, List.getElem_cons_zero, List.getElem_cons_succ, List.setIfInBounds_toArray, List.set_cons_zero, List.set_cons_succ]
    refine wpAnyH_take (i := 3) (v := .map (some ms)) rfl (by kernel_rfl) (by kernel_rfl) (by kernel_rfl) (fun _ _ _ h => h) (Or.inl ⟨by rfl, ?_⟩) (by assumption) ?_
    · intro w' hS
      obtain ⟨u0, u1, u2⟩ := hS
      go_simp
      done
    try simp only [Act.put, List.getElem_toArray, List.getElem_cons_zero, List.getElem_cons_succ, List.setIfInBounds_toArray, List.set_cons_zero, List.set_cons_succ]
    refine wpAnyH_take (i := 4) (v := .pointer (some ⟨w.heap.size, 2, none⟩)) rfl (by kernel_rfl) (by kernel_rfl) (by kernel_rfl) (fun _ _ _ h => h) (Or.inl ⟨by rfl, ?_⟩) (by assumption) ?_
    · intro w' hS
      obtain ⟨u0, u1, u2⟩ := hS
      go_simp
      done
    try simp only [Act.put, List.getElem_toArray, List.getElem_cons_zero, List.getElem_cons_succ, List.setIfInBounds_toArray, List.set_cons_zero, List.set_cons_succ]
    refine wpAnyH_take (i := 5) (v := encStr other) rfl (by kernel_rfl) (by kernel_rfl) (by kernel_rfl) (fun _ _ _ h => h) (Or.inl ⟨by rfl, ?_⟩) (by assumption) ?_
    · intro w' hS
      obtain ⟨u0, u1, u2⟩ := hS
      go_simp
      done
    try simp only [Act.put, List.getElem_toArray, List.getElem_cons_zero, List.getElem_cons_succ, List.setIfInBounds_toArray, List.set_cons_zero, List.set_cons_succ]
    refine wpAnyH_take (i := 6) (v := .pointer (some ⟨hs, 0, none⟩)) rfl (by kernel_rfl) (by kernel_rfl) (by kernel_rfl) (fun _ _ _ h => h) (Or.inl ⟨by rfl, ?_⟩) (by assumption) ?_
    · intro w' hS
      obtain ⟨u0, u1, u2⟩ := hS
      go_simp
      done
    try simp only [Act.put, List.getElem_toArray, List.getElem_cons_zero, List.getElem_cons_succ, List.setIfInBounds_toArray, List.set_cons_zero, List.set_cons_succ]
    refine wpAnyH_take (i := 7) (v := .pointer (some ⟨hs, 0, none⟩)) rfl (by kernel_rfl) (by kernel_rfl) (by kernel_rfl) (fun _ _ _ h => h) (Or.inl ⟨by rfl, ?_⟩) (by assumption) ?_
    · intro w' hS
      obtain ⟨u0, u1, u2⟩ := hS
      go_simp
      done
    try simp only [Act.put, List.getElem_toArray, List.getElem_cons_zero, List.getElem_cons_succ, List.setIfInBounds_toArray, List.set_cons_zero, List.set_cons_succ]
    refine wpAnyH_take (i := 8) (v := .pointer (some ⟨hs, 0, none⟩)) rfl (by kernel_rfl) (by kernel_rfl) (by kernel_rfl) (fun _ _ _ h => h) (Or.inl ⟨by rfl, ?_⟩) (by assumption) ?_
    · intro w' hS
      obtain ⟨u0, u1, u2⟩ := hS
      go_simp
      done
    try simp only [Act.put, List.getElem_toArray, List.getElem_cons_zero, List.getElem_cons_succ, List.setIfInBounds_toArray, List.set_cons_zero, List.set_cons_succ]
    refine wpAnyH_take (i := 9) (v := .map (some mo)) rfl (by kernel_rfl) (by kernel_rfl) (by kernel_rfl) (fun _ _ _ h => h) (Or.inl ⟨by rfl, ?_⟩) (by assumption) ?_
    · intro w' hS
      obtain ⟨u0, u1, u2⟩ := hS
      go_simp
      done
    try simp only [Act.put, List.getElem_toArray, List.getElem_cons_zero, List.getElem_cons_succ, List.setIfInBounds_toArray, List.set_cons_zero, List.set_cons_succ]
    have HS2 := Lib.hid (Thing.below (t := thSt hs mo ms Fz po ps) HS.out hB2.out.drew)
    have HC := Lib.hid (cloneM mo po w2.drew (StOk.objs HS2.out))
    refine wpAnyH_ready (rs := [10]) (by kernel_rfl) (by simp) ?_
    refine AllReadyH.cons rfl (fun K hK => ?_) AllReadyH.nil
    go_simp
    refine HC.out.mono ?_
    rintro e w3 ⟨rfl, hm, hb⟩
    have HM3 := Lib.hid hm
    have HB3' := Lib.hid hb
    clear hm hb
    have HS3 := Lib.hid (StOk.snaps (Thing.below (t := thSt hs mo ms Fz po ps) HS2.out HB3'.out))
    have hbw3 : Below w2.heap.size w2 w3 := ((Below.refl _ w2).drew).trans HB3'.out
    have hBox3 := Lib.hid (hBox2.out.below hbw3 (by have := hsz.out; omega))
    have lt2 : hs < w2.heap.size := by have := hsz.out; omega
    have ltg : w.heap.size < w2.heap.size := by have := hsz.out; omega
    go_wp2_with fail
    refine hK _ _ ⟨(hbw3.cell lt2).trans HBB.out, (hbw3.cell lt2).trans HBB1.out, (hbw3.cell ltg).trans HKK.out⟩ (fun hHeld3 => ?_)
    clear hK K
    try simp only [Act.put, List.getElem_toArray, List.getElem_cons_zero, List.getElem_cons_succ, List.setIfInBounds_toArray, List.set_cons_zero, List.set_cons_succ]
    obtain ⟨w4, hrun, hown4, hturn4⟩ := World.ownsMap.store HS3.out keyS Try.underlying58 (by unfold maxLen; omega) (keyN other hol) (show RV (smV (w2.heap.size, po)) = some (.held (smV (w2.heap.size, po)), []) from rfl)
    rw [dat_put] at hown4
    have HO4 := Lib.hid (OM.of hown4)
    have HG4 := Lib.hid hturn4.grown
    have hBox4 := Lib.hid (show Box w4 (w.heap.size + 1) #[.int .i64 0, .bool false, .int .i64 0, .slice none 0 0, .slice none 0 0] 41 from (grown_block HG4.out hBox3.out.lt (by have := HS.out.snaps.lt; omega)).trans hBox3.out)
    have hg4c : ∀ (g o : Nat), g < w3.heap.size → g ≠ ms → w4.cell? ⟨g, o, none⟩ = w3.cell? ⟨g, o, none⟩ := fun g o h1 h2 => cell_same (grown_block HG4.out h1 h2)
    refine wpAnyH_ready (rs := [11]) (by kernel_rfl) (by simp) ?_
    refine AllReadyH.cons rfl (fun K hK => ?_) AllReadyH.nil
    have hrun' : (Instr.mapUpdate 58 (.map (some ms)) (encStr other) (.map (some w2.heap.size))).run Try.prog w3 = .ok () w4 := hrun
    clear hrun
    go_simp
    refine hK _ _ ⟨(hg4c hs 0 (Nat.lt_of_lt_of_le lt2 hbw3.size) HS.out.ne.2.2).trans ((hbw3.cell lt2).trans HBB.out), (hg4c hs 1 (Nat.lt_of_lt_of_le lt2 hbw3.size) HS.out.ne.2.2).trans ((hbw3.cell lt2).trans HBB1.out), (hg4c w.heap.size 2 (Nat.lt_of_lt_of_le ltg hbw3.size) (by have := HS.out.snaps.lt; omega)).trans ((hbw3.cell ltg).trans HKK.out)⟩ (fun hHeld4 => ?_)
    clear hK K
    try simp only [Act.put, List.getElem_toArray, List.getElem_cons_zero, List.getElem_cons_succ, List.setIfInBounds_toArray, List.set_cons_zero, List.set_cons_succ]
    refine wpAnyH_done (by kernel_rfl) ?_ _
    clear hHeld hHeld3 hHeld4 hrun' hg4c hbw3 b1 b2 k2
    go_wp2_with (first
      | (go_at_call 23; refine (noW 0 _).mono ?_; rintro e w5 ⟨rfl, hb⟩; have HB5 := Lib.hid hb; clear hb; have hBox5 := Lib.hid (hBox4.out.below HB5.out hBox4.out.lt))
      | (refine wpList_store_box rfl 41 (.tmp 4) (.tmp 34) rfl (w.heap.size + 1) _ rfl rfl 41 _ hBox5.out (by kernel_rfl) rfl (by rfl) ?_; intro w6 hb6 hg6; have HB3 := Lib.hid hb6; have HG6 := Lib.hid hg6; clear hb6 hg6)
      | fail)
    refine bodyPost_ret (results_boxP Try.results26 _ _ (w.heap.size + 1) _ _ HB3.out _ rfl Try.underlying41 rfl (by kernel_rfl)) rfl ?_
    have hB3 : Below w.heap.size w w3 := hB2.out.drew.trans (HB3'.out.mono (by have := hsz.out; show w.heap.size ≤ w2.heap.size; omega))
    have T1 := StOk.grow HS.out hB3 (fun b => b = w2.heap.size) (fun b hb => by subst hb; exact ⟨by have := hsz.out; omega, HM3.out.lt⟩)
    have hnow := T1.now
    have T2 := T1.trans (StOk.turnS hnow (putP other (w2.heap.size, po) ps) HG4.out HO4.out (fun p hp => by
      rcases mem_putP hp with rfl | hp
      · exact ⟨.inr rfl, HM3.out, StOk.obs hnow⟩
      · exact StOk.shots hnow p hp))
    have T3 := T2.trans (Turns.still T2.now HB5.out)
    refine ⟨none, 0, 0, none, 0, 0, fun _ => False, mo, ms, _, po, putP other (w2.heap.size, po) ps, rfl, T3.told _ (noP 0) _ (no_at _ _ 0) (fun b hb => hb.elim) HG6.out (by omega) (fun hf => ?_), ⟨hpo, ?_⟩⟩
    · rcases hf with hf | hf | hf | hf | hf
      · omega
      · exact notFoot (po' := po) (ps' := ps) HS.out (g := w.heap.size + 1) (by omega) (.inr (.inl hf))
      · exact notFoot (po' := po) (ps' := ps) HS.out (g := w.heap.size + 1) (by omega) (.inr (.inr (.inl hf)))
      · exact notFoot (po' := po) (ps' := ps) HS.out (g := w.heap.size + 1) (by omega) (.inr (.inr (.inr hf)))
      · have := hsz.out; omega
    · show erS (putP other (w2.heap.size, po) ps) = putP other s.objs s.snaps
      rw [← hps, ← hpo]; exact mapP_put (fun k : Nat × PM Ob => erO k.2) other (w2.heap.size, po) ps
  · rw [HPL.out, if_neg hr0]
    clear HPL
    have q1 : ¬ ((r : Int) = 0) := by omega
    unfold cmV
    go_enter Try.func26, Try.ntmps26
    go_wp2_with fail
    rw [← hW]
    clear hW
    go_still_tail 6, (by kernel_rfl)
    change wpList _ _ _ _ _ W.drew
    go_wp2_with (first
      | (go_at_call 32; refine HR.out.mono ?_; rintro e w2 ⟨rfl, hb⟩; have HB2 := Lib.hid hb; clear hb; have hBox2 := Lib.hid (hBox.out.below (((Below.refl _ W).drew).trans HB2.out) (by show _ < W.heap.size; have := hsz.out; omega)))
      | (go_at_call 23; refine (noW r _).mono ?_; rintro e w5 ⟨rfl, hb⟩; have HB5 := Lib.hid hb; clear hb; have hBox5 := Lib.hid (hBox2.out.below HB5.out hBox2.out.lt))
      | (refine wpList_store_box rfl 41 (.tmp 4) (.tmp 34) rfl (w.heap.size + 1) _ rfl rfl 41 _ hBox5.out (by kernel_rfl) rfl (by rfl) ?_; intro w6 hb6 hg6; have HB3 := Lib.hid hb6; have HG6 := Lib.hid hg6; clear hb6 hg6)
      | fail)
    have hB2 : Hid (Below w.heap.size w w2) := hB.out.drew.trans (HB2.out.mono (by have := hsz.out; show w.heap.size ≤ W.heap.size; omega))
    refine bodyPost_ret (results_boxP Try.results26 _ _ (w.heap.size + 1) _ _ HB3.out _ rfl Try.underlying41 rfl (by kernel_rfl)) rfl ?_
    exact done_no HS.out (hB2.out.trans (HB5.out.mono hB2.out.size)) HG6.out (by omega) r s hpo hps rfl
end Go.Proofs.Ytkbfohbpndjcpaa
