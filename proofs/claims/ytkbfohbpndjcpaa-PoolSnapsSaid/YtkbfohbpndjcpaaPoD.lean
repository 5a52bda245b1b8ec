/- The walk of Do. -/
import Derived.Test.YtkbfohbpndjcpaaPoT
namespace Go.Proofs.Ytkbfohbpndjcpaa
open Go.RowKit
set_option linter.unusedVariables false
set_option maxRecDepth 100000
set_option linter.unusedSimpArgs false

/-- Names told: in a block of their own. -/
theorem done_names {hs mo ms : Nat} {Fz : Nat → Prop} {po : PM Ob} {ps : PM (Nat × PM Ob)} {w W w2 w3 : World} {g : Nat} {a : Option Addr} {l c : Nat} {xs : List Nm} (h : StOk hs mo ms Fz po ps w) (hB : Below w.heap.size w W) (hN : NewN W w2 a l c xs) (hg : w2.grownBy w3 (some g)) (h2 : g < W.heap.size) (h1 : w.heap.size ≤ g)
    (s : Pl) (hpo : erO po = s.objs) (hps : erS ps = s.snaps) {ys : List Nm} (hr : ys = xs) {v : Value} (hv : v = .agg (tdV 0 0 none 0 0 a l c)) : Done hs (thSt hs mo ms Fz po ps) (⟨0, 0, [], ys⟩, s) w (.returned v) w3 := by
  subst hr hv
  refine ⟨none, 0, 0, a, l, c, fun b => W.heap.size ≤ b ∧ b < w2.heap.size, mo, ms, Fz, po, ps, rfl, ?_, ⟨hpo, hps⟩⟩
  have T : Turns (thSt hs mo ms Fz po ps) (thSt hs mo ms Fz po ps) w w2 := (Turns.still h hB).trans (Turns.still (Thing.below (t := thSt hs mo ms Fz po ps) h hB) hN.below)
  exact T.told _ ⟨0, 0, [], ys⟩ _ (td_at (SRow.nil ..) hN.row) (fun b hb => ⟨Nat.le_trans hB.size hb.1, hb.2, notFoot h (Nat.le_trans hB.size hb.1), by omega⟩) hg h1 (notFoot h h1)
/-- What a callee has done, and then a box of the call's own is written. -/
theorem Done.after {hs : Nat} {t : Thing} {r : Td × Pl} {w W w2 w3 : World} {e : Ending} {g : Nat} (h : Done hs t r W e w2) (ht : t.holds w) (hB : Below w.heap.size w W) (hg : w2.grownBy w3 (some g)) (h2 : g < W.heap.size) (h1 : w.heap.size ≤ g) : Done hs t r w e w3 := by
  obtain ⟨ad, ld, cd, an, ln, cn, F, mo, ms, Fz, po, ps, he, hT, hE⟩ := h
  refine ⟨ad, ld, cd, an, ln, cn, F, mo, ms, Fz, po, ps, he, ?_, hE⟩
  have T := (Turns.still ht hB).trans hT.out
  have hm : Mv (fun b => b = g) w2 w3 := Mv.grown hg (fun k e => by injection e with e; exact e.symm)
  have hng : ∀ b, (thAll [thSt hs mo ms Fz po ps, thAt tdL F r.1 (tdV r.1.code r.1.size ad ld cd an ln cn).toList]).foot b → ¬ b = g := fun b hb e => by
    subst e
    rcases hT.out.own _ hb with h3 | h3
    · have := t.lt ht _ h3; omega
    · omega
  exact ⟨Thing.keep _ T.now hm hng, T.mv.trans' hm (fun b hb => .inr (by subst hb; exact h1)), T.own⟩
theorem Done.box {t t' : Thing} {w W w2 : World} {g : Nat} {cs : Array Value} {ty : TypeId} (ht : t.holds w) (hB : Below w.heap.size w W) (hT : Turns t t' W w2) (hb : Box W g cs ty) (h1 : w.heap.size ≤ g) : Box w2 g cs ty :=
  (hT.mv.block g hb.lt (fun hf => by have := t.lt ht g hf; omega)).trans hb
set_option maxHeartbeats 8000000 in
theorem do1 (hs mo ms : Nat) (Fz : Nat → Prop) (po : PM Ob) (ps : PM (Nat × PM Ob)) (c : Cm) (ad : Option Addr) (ld cd : Nat) (w : World) (hS : StOk hs mo ms Fz po ps w) (hc : c.Ok) (hd : Row .u8 w ad ld cd c.data) (hk : c.kind = 1) (s : Pl) (hpo : erO po = s.objs) (hps : erS ps = s.snaps) (hok : s.Ok) :
    Calls Try.prog 21 #[.pointer (some ⟨hs, 0, none⟩), .agg (cmV c ad ld cd)] w (Done hs (thSt hs mo ms Fz po ps) (doP s c) w) := by
  have hol := hc.olen
  have hnl := hc.nlen
  have hpl : po.length ≤ 4 := by have := hok.objs; rw [← hpo] at this; unfold erO at this; rwa [mapP_length] at this
  have hpsl : ps.length ≤ 3 := by have := hok.snaps; rw [← hps] at this; unfold erS at this; rwa [mapP_length] at this
  obtain ⟨r, hr⟩ : ∃ r, Hid (roomP po c.name 4 = r) := ⟨_, rfl⟩
  have hrs : roomP s.objs c.name 4 = r := by rw [← hr.out, ← hpo]; unfold roomP erO; rw [hasP_map, mapP_length]
  have HPL : Hid (doP s c = (noP r, if r = 0 then { s with objs := putP c.name [] s.objs } else s)) := by show _ = _; unfold doP; rw [if_pos hk, hrs]
  have hr8 : r ≤ 8 := by rw [← hr.out]; unfold roomP; split; omega; split; omega; split <;> omega
  obtain ⟨kind, name, other, off, count, data⟩ := c
  obtain rfl : kind = 1 := hk
  simp only at hol hnl
  have HS := Lib.hid hS
  have hsl := hS.box.lt
  have hne : hs ≠ w.heap.size := by omega
  have hne1 : hs ≠ w.heap.size + 1 := by omega
  obtain ⟨W, hW⟩ : ∃ W, W = (w.alloc (.cells #[.int .i64 1, encStr name, encStr other, .int .i64 (off : Int), .int .i64 (count : Int), .int .i64 0, .int .i64 0, .slice ad ld cd] 30)).alloc (.cells #[.int .i64 0, .bool false, .int .i64 0, .slice none 0 0, .slice none 0 0] 41) := ⟨_, rfl⟩
  have hB : Hid (Below w.heap.size w W) := by rw [hW]; exact Below_alloc2 _ _
  have hBox : Hid (Box W (w.heap.size + 1) #[.int .i64 0, .bool false, .int .i64 0, .slice none 0 0, .slice none 0 0] 41) := by rw [hW]; exact Box.new (by simp)
  have hBoc : Hid (Box W w.heap.size #[.int .i64 1, encStr name, encStr other, .int .i64 (off : Int), .int .i64 (count : Int), .int .i64 0, .int .i64 0, .slice ad ld cd] 30) := by rw [hW]; exact Box.alloc (Box.new rfl) _
  have hsz : Hid (W.heap.size = w.heap.size + 2) := by rw [hW]; show _ = _; simp
  have hslW : hs < W.heap.size := by have := hsz.out; omega
  have HSd := Lib.hid (Thing.below (t := thSt hs mo ms Fz po ps) HS.out hB.out.drew)
  have HR := Lib.hid (roomO mo po name 4 W.drew (StOk.objs HSd.out) hnl (by omega) (by omega))
  rw [hr.out] at HR
  clear hS hc hd hrs
  have b0 : W.cell? ⟨hs, 0, none⟩ = some (.map (some mo)) := (HS.out.box.below hB.out hsl).cell 0
  have k1 : W.cell? ⟨w.heap.size, 1, none⟩ = some (encStr name) := hBoc.out.cell 1
  by_cases hr0 : r = 0
  · subst hr0
    rw [HPL.out, if_pos rfl]
    clear HPL
    unfold cmV
    go_enter Try.func21, Try.ntmps21
    go_wp2_with fail
    rw [← hW]
    clear hW
    go_still_tail 6, (by kernel_rfl)
    change wpList _ _ _ _ _ W.drew
    go_wp2_with (first
      | (go_at_call 22; refine HR.out.mono ?_; rintro e w2 ⟨rfl, hb⟩; have HB2 := Lib.hid hb; clear hb)
      | fail)
    have hB2 : Hid (Below w.heap.size w w2) := hB.out.drew.trans (HB2.out.mono (by have := hsz.out; show w.heap.size ≤ W.heap.size; omega))
    have hbw : Hid (Below W.heap.size W w2) := ((Below.refl _ _).drew).trans HB2.out
    have hBox2 : Hid (Box w2 (w.heap.size + 1) #[.int .i64 0, .bool false, .int .i64 0, .slice none 0 0, .slice none 0 0] 41) := hBox.out.below hbw.out (by have := hsz.out; omega)
    have b1 : w2.cell? ⟨hs, 0, none⟩ = some (.map (some mo)) := (HS.out.box.below hB2.out hsl).cell 0
    have b2 : w2.cell? ⟨hs, 2, none⟩ = some (.slice none 0 0) := (HS.out.box.below hB2.out hsl).cell 2
    have k2 : w2.cell? ⟨w.heap.size, 1, none⟩ = some (encStr name) := (hBoc.out.below hbw.out (by have := hsz.out; omega)).cell 1
    have hszb := hbw.out.size
    clear b0 k1
    go_still_tail 10, (by kernel_rfl)
    change wpList _ _ _ _ _ w2.drew
    have HS2 := Lib.hid (Thing.below (t := thSt hs mo ms Fz po ps) HS.out hB2.out.drew)
    have HOb := Lib.hid (show OM obV w2.drew mo po from StOk.objs HS2.out)
    go_wp2_with (first
      | (at_mapUpdate; refine wpList_mapUpdate_own _ rfl (.tmp 27) (.tmp 29) (.tmp 33) 57 rfl 9 54 keyS Try.underlying57 RV mo _ _ rfl HOb.out (by unfold maxLen; omega) _ _ _ rfl rfl (keyN name hnl) (.held (obV ⟨none, 0, 0, []⟩)) [] rfl ?_; intro w4 hown4 hg4; rw [dat_put] at hown4; have HO4 := Lib.hid (OM.of hown4); have HG4 := Lib.hid hg4; clear hown4 hg4; have hBox4 := Lib.hid (show Box w4 (w.heap.size + 1) #[.int .i64 0, .bool false, .int .i64 0, .slice none 0 0, .slice none 0 0] 41 from (grown_block HG4.out hBox2.out.drew.lt (by have := HS.out.objs.lt; omega)).trans hBox2.out))
      | (refine wpList_store_box rfl 41 (.tmp 4) (.tmp 82) rfl (w.heap.size + 1) _ rfl rfl 41 _ hBox4.out (by kernel_rfl) rfl (by rfl) ?_; intro w6 hb6 hg6; have HB3 := Lib.hid hb6; have HG6 := Lib.hid hg6; clear hb6 hg6)
      | fail)
    refine bodyPost_ret (results_boxP Try.results21 _ _ (w.heap.size + 1) _ _ HB3.out _ rfl Try.underlying41 rfl (by kernel_rfl)) rfl ?_
    have T1 : Turns (thSt hs mo ms Fz po ps) (thSt hs mo ms Fz po ps) w w2.drew := Turns.still HS.out hB2.out.drew
    have T2 := T1.trans (StOk.turnO HS2.out (putP name ⟨none, 0, 0, []⟩ po) HG4.out HO4.out (fun p hp => by
      rcases mem_putP hp with rfl | hp
      · exact ⟨(NewB.nil w).row.below (w := w) hB2.out.drew, fun q hq => by cases (show (none : Option Addr) = some q from hq)⟩
      · exact StOk.obs HS2.out p hp))
    refine ⟨none, 0, 0, none, 0, 0, fun _ => False, mo, ms, Fz, putP name ⟨none, 0, 0, []⟩ po, ps, rfl, T2.told _ (noP 0) _ (no_at _ _ 0) (fun b hb => hb.elim) HG6.out (by omega) (notFoot HS.out (by omega)), ⟨?_, hps⟩⟩
    show erO (putP name ⟨none, 0, 0, []⟩ po) = putP name [] s.objs
    rw [← hpo]; exact mapP_put Ob.bs name ⟨none, 0, 0, []⟩ po
  · rw [HPL.out, if_neg hr0]
    clear HPL
    have q1 : ¬ ((r : Int) = 0) := by omega
    unfold cmV
    go_enter Try.func21, Try.ntmps21
    go_wp2_with fail
    rw [← hW]
    clear hW
    go_still_tail 6, (by kernel_rfl)
    change wpList _ _ _ _ _ W.drew
    go_wp2_with (first
      | (go_at_call 22; refine HR.out.mono ?_; rintro e w2 ⟨rfl, hb⟩; have HB2 := Lib.hid hb; clear hb; have hBox2 := Lib.hid (hBox.out.below (((Below.refl _ W).drew).trans HB2.out) (by show _ < W.heap.size; have := hsz.out; omega)))
      | (go_at_call 23; refine (noW r _).mono ?_; rintro e w5 ⟨rfl, hb⟩; have HB5 := Lib.hid hb; clear hb; have hBox5 := Lib.hid (hBox2.out.below HB5.out hBox2.out.lt))
      | (refine wpList_store_box rfl 41 (.tmp 4) (.tmp 23) rfl (w.heap.size + 1) _ rfl rfl 41 _ hBox5.out (by kernel_rfl) rfl (by rfl) ?_; intro w6 hb6 hg6; have HB3 := Lib.hid hb6; have HG6 := Lib.hid hg6; clear hb6 hg6)
      | fail)
    have hB2 : Hid (Below w.heap.size w w2) := hB.out.drew.trans (HB2.out.mono (by have := hsz.out; show w.heap.size ≤ W.heap.size; omega))
    refine bodyPost_ret (results_boxP Try.results21 _ _ (w.heap.size + 1) _ _ HB3.out _ rfl Try.underlying41 rfl (by kernel_rfl)) rfl ?_
    exact done_no HS.out (hB2.out.trans (HB5.out.mono hB2.out.size)) HG6.out (by omega) r s hpo hps rfl
set_option maxHeartbeats 8000000 in
theorem do12 (hs mo ms : Nat) (Fz : Nat → Prop) (po : PM Ob) (ps : PM (Nat × PM Ob)) (c : Cm) (ad : Option Addr) (ld cd : Nat) (w : World) (hS : StOk hs mo ms Fz po ps w) (hc : c.Ok) (hd : Row .u8 w ad ld cd c.data) (hk : c.kind = 12) (s : Pl) (hpo : erO po = s.objs) (hps : erS ps = s.snaps) (hok : s.Ok) :
    Calls Try.prog 21 #[.pointer (some ⟨hs, 0, none⟩), .agg (cmV c ad ld cd)] w (Done hs (thSt hs mo ms Fz po ps) (doP s c) w) := by
  have hol := hc.olen
  have hnl := hc.nlen
  have hpl : po.length ≤ 4 := by have := hok.objs; rw [← hpo] at this; unfold erO at this; rwa [mapP_length] at this
  have hpsl : ps.length ≤ 3 := by have := hok.snaps; rw [← hps] at this; unfold erS at this; rwa [mapP_length] at this
  have HPL : Hid (doP s c = (noP 0, s)) := by show _ = _; unfold doP; rw [if_neg (by omega), if_neg (by omega), if_neg (by omega), if_neg (by omega), if_pos hk]
  rw [HPL.out]
  clear HPL
  obtain ⟨kind, name, other, off, count, data⟩ := c
  obtain rfl : kind = 12 := hk
  simp only at hol hnl
  have HS := Lib.hid hS
  have hsl := hS.box.lt
  have hne : hs ≠ w.heap.size := by omega
  have hne1 : hs ≠ w.heap.size + 1 := by omega
  obtain ⟨W, hW⟩ : ∃ W, W = (w.alloc (.cells #[.int .i64 12, encStr name, encStr other, .int .i64 (off : Int), .int .i64 (count : Int), .int .i64 0, .int .i64 0, .slice ad ld cd] 30)).alloc (.cells #[.int .i64 0, .bool false, .int .i64 0, .slice none 0 0, .slice none 0 0] 41) := ⟨_, rfl⟩
  have hB : Hid (Below w.heap.size w W) := by rw [hW]; exact Below_alloc2 _ _
  have hBox : Hid (Box W (w.heap.size + 1) #[.int .i64 0, .bool false, .int .i64 0, .slice none 0 0, .slice none 0 0] 41) := by rw [hW]; exact Box.new (by simp)
  have hBoc : Hid (Box W w.heap.size #[.int .i64 12, encStr name, encStr other, .int .i64 (off : Int), .int .i64 (count : Int), .int .i64 0, .int .i64 0, .slice ad ld cd] 30) := by rw [hW]; exact Box.alloc (Box.new rfl) _
  have hsz : Hid (W.heap.size = w.heap.size + 2) := by rw [hW]; show _ = _; simp
  have hslW : hs < W.heap.size := by have := hsz.out; omega
  clear hS hc hd
  unfold cmV
  go_enter Try.func21, Try.ntmps21
  have hB1 := Lib.hid hBox.out
  go_wp2_with (first
    | (rw [← hW]; refine wpList_store_box rfl 41 (.tmp 4) (.tmp 82) rfl (w.heap.size + 1) _ rfl rfl 41 _ hBox.out (by kernel_rfl) rfl (by rfl) ?_; intro w6 hb6 hg6; have HB3 := Lib.hid hb6; have HG6 := Lib.hid hg6; clear hb6 hg6)
    | fail)
  refine bodyPost_ret (results_boxP Try.results21 _ _ (w.heap.size + 1) _ _ HB3.out _ rfl Try.underlying41 rfl (by kernel_rfl)) rfl ?_
  exact done_no HS.out hB.out HG6.out (by omega) 0 s hpo hps rfl
set_option maxHeartbeats 8000000 in
theorem do6 (hs mo ms : Nat) (Fz : Nat → Prop) (po : PM Ob) (ps : PM (Nat × PM Ob)) (c : Cm) (ad : Option Addr) (ld cd : Nat) (w : World) (hS : StOk hs mo ms Fz po ps w) (hc : c.Ok) (hd : Row .u8 w ad ld cd c.data) (hk : c.kind = 6) (s : Pl) (hpo : erO po = s.objs) (hps : erS ps = s.snaps) (hok : s.Ok) :
    Calls Try.prog 21 #[.pointer (some ⟨hs, 0, none⟩), .agg (cmV c ad ld cd)] w (Done hs (thSt hs mo ms Fz po ps) (doP s c) w) := by
  have hol := hc.olen
  have hnl := hc.nlen
  have hpl : po.length ≤ 4 := by have := hok.objs; rw [← hpo] at this; unfold erO at this; rwa [mapP_length] at this
  have hpsl : ps.length ≤ 3 := by have := hok.snaps; rw [← hps] at this; unfold erS at this; rwa [mapP_length] at this
  have HPL : Hid (doP s c = (⟨0, 0, [], namesP s.objs⟩, s)) := by show _ = _; unfold doP; rw [if_neg (by omega), if_pos hk]
  rw [HPL.out]
  clear HPL
  obtain ⟨kind, name, other, off, count, data⟩ := c
  obtain rfl : kind = 6 := hk
  simp only at hol hnl
  have HS := Lib.hid hS
  have hsl := hS.box.lt
  have hne : hs ≠ w.heap.size := by omega
  have hne1 : hs ≠ w.heap.size + 1 := by omega
  obtain ⟨W, hW⟩ : ∃ W, W = (w.alloc (.cells #[.int .i64 6, encStr name, encStr other, .int .i64 (off : Int), .int .i64 (count : Int), .int .i64 0, .int .i64 0, .slice ad ld cd] 30)).alloc (.cells #[.int .i64 0, .bool false, .int .i64 0, .slice none 0 0, .slice none 0 0] 41) := ⟨_, rfl⟩
  have hB : Hid (Below w.heap.size w W) := by rw [hW]; exact Below_alloc2 _ _
  have hBox : Hid (Box W (w.heap.size + 1) #[.int .i64 0, .bool false, .int .i64 0, .slice none 0 0, .slice none 0 0] 41) := by rw [hW]; exact Box.new (by simp)
  have hBoc : Hid (Box W w.heap.size #[.int .i64 6, encStr name, encStr other, .int .i64 (off : Int), .int .i64 (count : Int), .int .i64 0, .int .i64 0, .slice ad ld cd] 30) := by rw [hW]; exact Box.alloc (Box.new rfl) _
  have hsz : Hid (W.heap.size = w.heap.size + 2) := by rw [hW]; show _ = _; simp
  have hslW : hs < W.heap.size := by have := hsz.out; omega
  have hN0 := Lib.hid (namesO mo po W (StOk.objs (Thing.below (t := thSt hs mo ms Fz po ps) HS.out hB.out)) (by omega))
  have b0 : w.cell? ⟨hs, 0, none⟩ = some (.map (some mo)) := HS.out.box.cell 0
  clear hS hc hd
  unfold cmV
  go_enter Try.func21, Try.ntmps21
  go_wp2_with (first
    | (go_at_call 24; rw [← hW]; refine hN0.out.mono ?_; rintro e w2 ⟨a, l, c', rfl, hN⟩; have hBox2 := Lib.hid (hBox.out.below hN.out.below (by have := hsz.out; omega)))
    | (refine wpList_store_box rfl 41 (.tmp 4) (.tmp 41) rfl (w.heap.size + 1) _ rfl rfl 41 _ hBox2.out (by kernel_rfl) rfl (by rfl) ?_; intro w6 hb6 hg6; have HB3 := Lib.hid hb6; have HG6 := Lib.hid hg6; clear hb6 hg6)
    | fail)
  refine bodyPost_ret (results_boxP Try.results21 _ _ (w.heap.size + 1) _ _ HB3.out _ rfl Try.underlying41 rfl (by kernel_rfl)) rfl ?_
  exact done_names HS.out hB.out hN.out HG6.out (by have := hsz.out; omega) (by omega) s hpo hps (by rw [← hpo]; unfold erO; rw [namesP_map]) rfl
set_option maxHeartbeats 8000000 in
theorem do11 (hs mo ms : Nat) (Fz : Nat → Prop) (po : PM Ob) (ps : PM (Nat × PM Ob)) (c : Cm) (ad : Option Addr) (ld cd : Nat) (w : World) (hS : StOk hs mo ms Fz po ps w) (hc : c.Ok) (hd : Row .u8 w ad ld cd c.data) (hk : c.kind = 11) (s : Pl) (hpo : erO po = s.objs) (hps : erS ps = s.snaps) (hok : s.Ok) :
    Calls Try.prog 21 #[.pointer (some ⟨hs, 0, none⟩), .agg (cmV c ad ld cd)] w (Done hs (thSt hs mo ms Fz po ps) (doP s c) w) := by
  have hol := hc.olen
  have hnl := hc.nlen
  have hpl : po.length ≤ 4 := by have := hok.objs; rw [← hpo] at this; unfold erO at this; rwa [mapP_length] at this
  have hpsl : ps.length ≤ 3 := by have := hok.snaps; rw [← hps] at this; unfold erS at this; rwa [mapP_length] at this
  have HPL : Hid (doP s c = (⟨0, 0, [], namesP s.snaps⟩, s)) := by show _ = _; unfold doP; rw [if_neg (by omega), if_neg (by omega), if_pos hk]
  rw [HPL.out]
  clear HPL
  obtain ⟨kind, name, other, off, count, data⟩ := c
  obtain rfl : kind = 11 := hk
  simp only at hol hnl
  have HS := Lib.hid hS
  have hsl := hS.box.lt
  have hne : hs ≠ w.heap.size := by omega
  have hne1 : hs ≠ w.heap.size + 1 := by omega
  obtain ⟨W, hW⟩ : ∃ W, W = (w.alloc (.cells #[.int .i64 11, encStr name, encStr other, .int .i64 (off : Int), .int .i64 (count : Int), .int .i64 0, .int .i64 0, .slice ad ld cd] 30)).alloc (.cells #[.int .i64 0, .bool false, .int .i64 0, .slice none 0 0, .slice none 0 0] 41) := ⟨_, rfl⟩
  have hB : Hid (Below w.heap.size w W) := by rw [hW]; exact Below_alloc2 _ _
  have hBox : Hid (Box W (w.heap.size + 1) #[.int .i64 0, .bool false, .int .i64 0, .slice none 0 0, .slice none 0 0] 41) := by rw [hW]; exact Box.new (by simp)
  have hBoc : Hid (Box W w.heap.size #[.int .i64 11, encStr name, encStr other, .int .i64 (off : Int), .int .i64 (count : Int), .int .i64 0, .int .i64 0, .slice ad ld cd] 30) := by rw [hW]; exact Box.alloc (Box.new rfl) _
  have hsz : Hid (W.heap.size = w.heap.size + 2) := by rw [hW]; show _ = _; simp
  have hslW : hs < W.heap.size := by have := hsz.out; omega
  have hN0 := Lib.hid (namesS ms ps W (StOk.snaps (Thing.below (t := thSt hs mo ms Fz po ps) HS.out hB.out)) (by omega))
  have b0 : w.cell? ⟨hs, 1, none⟩ = some (.map (some ms)) := HS.out.box.cell 1
  clear hS hc hd
  unfold cmV
  go_enter Try.func21, Try.ntmps21
  go_wp2_with (first
    | (go_at_call 25; rw [← hW]; refine hN0.out.mono ?_; rintro e w2 ⟨a, l, c', rfl, hN⟩; have hBox2 := Lib.hid (hBox.out.below hN.out.below (by have := hsz.out; omega)))
    | (refine wpList_store_box rfl 41 (.tmp 4) (.tmp 49) rfl (w.heap.size + 1) _ rfl rfl 41 _ hBox2.out (by kernel_rfl) rfl (by rfl) ?_; intro w6 hb6 hg6; have HB3 := Lib.hid hb6; have HG6 := Lib.hid hg6; clear hb6 hg6)
    | fail)
  refine bodyPost_ret (results_boxP Try.results21 _ _ (w.heap.size + 1) _ _ HB3.out _ rfl Try.underlying41 rfl (by kernel_rfl)) rfl ?_
  exact done_names HS.out hB.out hN.out HG6.out (by have := hsz.out; omega) (by omega) s hpo hps (by rw [← hps]; unfold erS; rw [namesP_map]) rfl
set_option maxHeartbeats 8000000 in
theorem doSnap7 (hs mo ms : Nat) (Fz : Nat → Prop) (po : PM Ob) (ps : PM (Nat × PM Ob)) (c : Cm) (ad : Option Addr) (ld cd : Nat) (w : World) (hS : StOk hs mo ms Fz po ps w) (hc : c.Ok) (hd : Row .u8 w ad ld cd c.data) (hk : c.kind = 7) (s : Pl) (hpo : erO po = s.objs) (hps : erS ps = s.snaps) (hok : s.Ok) :
    Calls Try.prog 21 #[.pointer (some ⟨hs, 0, none⟩), .agg (cmV c ad ld cd)] w (Done hs (thSt hs mo ms Fz po ps) (doP s c) w) := by
  have hol := hc.olen
  have hnl := hc.nlen
  have hpl : po.length ≤ 4 := by have := hok.objs; rw [← hpo] at this; unfold erO at this; rwa [mapP_length] at this
  have hpsl : ps.length ≤ 3 := by have := hok.snaps; rw [← hps] at this; unfold erS at this; rwa [mapP_length] at this
  have HPL : Hid (doP s c = snapP s c) := by show _ = _; unfold doP; rw [if_neg (by omega), if_neg (by omega), if_neg (by omega), if_pos (by omega)]
  rw [HPL.out]
  clear HPL
  have HSN : Hid (∀ W, Below w.heap.size w W → Calls Try.prog 26 #[.pointer (some ⟨hs, 0, none⟩), .agg (cmV c ad ld cd)] W (Done hs (thSt hs mo ms Fz po ps) (snapP s c) W)) :=
    fun W hb => snapW hs mo ms Fz po ps c ad ld cd W (Thing.below (t := thSt hs mo ms Fz po ps) hS hb) hc (by omega) (by omega) s hpo hps hok
  obtain ⟨kind, name, other, off, count, data⟩ := c
  obtain rfl : kind = 7 := hk
  simp only at hol hnl
  have HS := Lib.hid hS
  have hsl := hS.box.lt
  have hne : hs ≠ w.heap.size := by omega
  have hne1 : hs ≠ w.heap.size + 1 := by omega
  obtain ⟨W, hW⟩ : ∃ W, W = (w.alloc (.cells #[.int .i64 7, encStr name, encStr other, .int .i64 (off : Int), .int .i64 (count : Int), .int .i64 0, .int .i64 0, .slice ad ld cd] 30)).alloc (.cells #[.int .i64 0, .bool false, .int .i64 0, .slice none 0 0, .slice none 0 0] 41) := ⟨_, rfl⟩
  have hB : Hid (Below w.heap.size w W) := by rw [hW]; exact Below_alloc2 _ _
  have hBox : Hid (Box W (w.heap.size + 1) #[.int .i64 0, .bool false, .int .i64 0, .slice none 0 0, .slice none 0 0] 41) := by rw [hW]; exact Box.new (by simp)
  have hBoc : Hid (Box W w.heap.size #[.int .i64 7, encStr name, encStr other, .int .i64 (off : Int), .int .i64 (count : Int), .int .i64 0, .int .i64 0, .slice ad ld cd] 30) := by rw [hW]; exact Box.alloc (Box.new rfl) _
  have hsz : Hid (W.heap.size = w.heap.size + 2) := by rw [hW]; show _ = _; simp
  have hslW : hs < W.heap.size := by have := hsz.out; omega
  have HD0 := Lib.hid (HSN.out W hB.out)
  unfold cmV at HD0
  obtain ⟨r, hr⟩ : ∃ r, Hid (snapP s ⟨7, name, other, off, count, data⟩ = r) := ⟨_, rfl⟩
  rw [hr.out] at HD0 ⊢
  clear hS hc hd HSN
  unfold cmV
  go_enter Try.func21, Try.ntmps21
  go_wp2_with (first
    | (go_at_call 26; rw [← hW]; refine HD0.out.mono ?_; intro e w2 hD; have HD := Lib.hid hD; obtain ⟨rad, rld, rcd, ran, rln, rcn, _, _, _, _, _, _, rfl, hT1, _⟩ := hD; have hBox2 := Lib.hid (Done.box HS.out hB.out hT1.out hBox.out (by omega)); clear hT1)
    | (refine wpList_store_box rfl 41 (.tmp 4) (.tmp 57) rfl (w.heap.size + 1) _ rfl rfl 41 _ hBox2.out (by kernel_rfl) rfl (by rfl) ?_; intro w6 hb6 hg6; have HB3 := Lib.hid hb6; have HG6 := Lib.hid hg6; clear hb6 hg6)
    | fail)
  refine bodyPost_ret (results_boxP Try.results21 _ _ (w.heap.size + 1) _ _ HB3.out _ rfl Try.underlying41 rfl (by kernel_rfl)) rfl ?_
  exact Done.after HD.out HS.out hB.out HG6.out (by have := hsz.out; omega) (by omega)
set_option maxHeartbeats 8000000 in
theorem doSnap8 (hs mo ms : Nat) (Fz : Nat → Prop) (po : PM Ob) (ps : PM (Nat × PM Ob)) (c : Cm) (ad : Option Addr) (ld cd : Nat) (w : World) (hS : StOk hs mo ms Fz po ps w) (hc : c.Ok) (hd : Row .u8 w ad ld cd c.data) (hk : c.kind = 8) (s : Pl) (hpo : erO po = s.objs) (hps : erS ps = s.snaps) (hok : s.Ok) :
    Calls Try.prog 21 #[.pointer (some ⟨hs, 0, none⟩), .agg (cmV c ad ld cd)] w (Done hs (thSt hs mo ms Fz po ps) (doP s c) w) := by
  have hol := hc.olen
  have hnl := hc.nlen
  have hpl : po.length ≤ 4 := by have := hok.objs; rw [← hpo] at this; unfold erO at this; rwa [mapP_length] at this
  have hpsl : ps.length ≤ 3 := by have := hok.snaps; rw [← hps] at this; unfold erS at this; rwa [mapP_length] at this
  have HPL : Hid (doP s c = snapP s c) := by show _ = _; unfold doP; rw [if_neg (by omega), if_neg (by omega), if_neg (by omega), if_pos (by omega)]
  rw [HPL.out]
  clear HPL
  have HSN : Hid (∀ W, Below w.heap.size w W → Calls Try.prog 26 #[.pointer (some ⟨hs, 0, none⟩), .agg (cmV c ad ld cd)] W (Done hs (thSt hs mo ms Fz po ps) (snapP s c) W)) :=
    fun W hb => snapW hs mo ms Fz po ps c ad ld cd W (Thing.below (t := thSt hs mo ms Fz po ps) hS hb) hc (by omega) (by omega) s hpo hps hok
  obtain ⟨kind, name, other, off, count, data⟩ := c
  obtain rfl : kind = 8 := hk
  simp only at hol hnl
  have HS := Lib.hid hS
  have hsl := hS.box.lt
  have hne : hs ≠ w.heap.size := by omega
  have hne1 : hs ≠ w.heap.size + 1 := by omega
  obtain ⟨W, hW⟩ : ∃ W, W = (w.alloc (.cells #[.int .i64 8, encStr name, encStr other, .int .i64 (off : Int), .int .i64 (count : Int), .int .i64 0, .int .i64 0, .slice ad ld cd] 30)).alloc (.cells #[.int .i64 0, .bool false, .int .i64 0, .slice none 0 0, .slice none 0 0] 41) := ⟨_, rfl⟩
  have hB : Hid (Below w.heap.size w W) := by rw [hW]; exact Below_alloc2 _ _
  have hBox : Hid (Box W (w.heap.size + 1) #[.int .i64 0, .bool false, .int .i64 0, .slice none 0 0, .slice none 0 0] 41) := by rw [hW]; exact Box.new (by simp)
  have hBoc : Hid (Box W w.heap.size #[.int .i64 8, encStr name, encStr other, .int .i64 (off : Int), .int .i64 (count : Int), .int .i64 0, .int .i64 0, .slice ad ld cd] 30) := by rw [hW]; exact Box.alloc (Box.new rfl) _
  have hsz : Hid (W.heap.size = w.heap.size + 2) := by rw [hW]; show _ = _; simp
  have hslW : hs < W.heap.size := by have := hsz.out; omega
  have HD0 := Lib.hid (HSN.out W hB.out)
  unfold cmV at HD0
  obtain ⟨r, hr⟩ : ∃ r, Hid (snapP s ⟨8, name, other, off, count, data⟩ = r) := ⟨_, rfl⟩
  rw [hr.out] at HD0 ⊢
  clear hS hc hd HSN
  unfold cmV
  go_enter Try.func21, Try.ntmps21
  go_wp2_with (first
    | (go_at_call 26; rw [← hW]; refine HD0.out.mono ?_; intro e w2 hD; have HD := Lib.hid hD; obtain ⟨rad, rld, rcd, ran, rln, rcn, _, _, _, _, _, _, rfl, hT1, _⟩ := hD; have hBox2 := Lib.hid (Done.box HS.out hB.out hT1.out hBox.out (by omega)); clear hT1)
    | (refine wpList_store_box rfl 41 (.tmp 4) (.tmp 57) rfl (w.heap.size + 1) _ rfl rfl 41 _ hBox2.out (by kernel_rfl) rfl (by rfl) ?_; intro w6 hb6 hg6; have HB3 := Lib.hid hb6; have HG6 := Lib.hid hg6; clear hb6 hg6)
    | fail)
  refine bodyPost_ret (results_boxP Try.results21 _ _ (w.heap.size + 1) _ _ HB3.out _ rfl Try.underlying41 rfl (by kernel_rfl)) rfl ?_
  exact Done.after HD.out HS.out hB.out HG6.out (by have := hsz.out; omega) (by omega)
set_option maxHeartbeats 8000000 in
theorem doSnap9 (hs mo ms : Nat) (Fz : Nat → Prop) (po : PM Ob) (ps : PM (Nat × PM Ob)) (c : Cm) (ad : Option Addr) (ld cd : Nat) (w : World) (hS : StOk hs mo ms Fz po ps w) (hc : c.Ok) (hd : Row .u8 w ad ld cd c.data) (hk : c.kind = 9) (s : Pl) (hpo : erO po = s.objs) (hps : erS ps = s.snaps) (hok : s.Ok) :
    Calls Try.prog 21 #[.pointer (some ⟨hs, 0, none⟩), .agg (cmV c ad ld cd)] w (Done hs (thSt hs mo ms Fz po ps) (doP s c) w) := by
  have hol := hc.olen
  have hnl := hc.nlen
  have hpl : po.length ≤ 4 := by have := hok.objs; rw [← hpo] at this; unfold erO at this; rwa [mapP_length] at this
  have hpsl : ps.length ≤ 3 := by have := hok.snaps; rw [← hps] at this; unfold erS at this; rwa [mapP_length] at this
  have HPL : Hid (doP s c = snapP s c) := by show _ = _; unfold doP; rw [if_neg (by omega), if_neg (by omega), if_neg (by omega), if_pos (by omega)]
  rw [HPL.out]
  clear HPL
  have HSN : Hid (∀ W, Below w.heap.size w W → Calls Try.prog 26 #[.pointer (some ⟨hs, 0, none⟩), .agg (cmV c ad ld cd)] W (Done hs (thSt hs mo ms Fz po ps) (snapP s c) W)) :=
    fun W hb => snapW hs mo ms Fz po ps c ad ld cd W (Thing.below (t := thSt hs mo ms Fz po ps) hS hb) hc (by omega) (by omega) s hpo hps hok
  obtain ⟨kind, name, other, off, count, data⟩ := c
  obtain rfl : kind = 9 := hk
  simp only at hol hnl
  have HS := Lib.hid hS
  have hsl := hS.box.lt
  have hne : hs ≠ w.heap.size := by omega
  have hne1 : hs ≠ w.heap.size + 1 := by omega
  obtain ⟨W, hW⟩ : ∃ W, W = (w.alloc (.cells #[.int .i64 9, encStr name, encStr other, .int .i64 (off : Int), .int .i64 (count : Int), .int .i64 0, .int .i64 0, .slice ad ld cd] 30)).alloc (.cells #[.int .i64 0, .bool false, .int .i64 0, .slice none 0 0, .slice none 0 0] 41) := ⟨_, rfl⟩
  have hB : Hid (Below w.heap.size w W) := by rw [hW]; exact Below_alloc2 _ _
  have hBox : Hid (Box W (w.heap.size + 1) #[.int .i64 0, .bool false, .int .i64 0, .slice none 0 0, .slice none 0 0] 41) := by rw [hW]; exact Box.new (by simp)
  have hBoc : Hid (Box W w.heap.size #[.int .i64 9, encStr name, encStr other, .int .i64 (off : Int), .int .i64 (count : Int), .int .i64 0, .int .i64 0, .slice ad ld cd] 30) := by rw [hW]; exact Box.alloc (Box.new rfl) _
  have hsz : Hid (W.heap.size = w.heap.size + 2) := by rw [hW]; show _ = _; simp
  have hslW : hs < W.heap.size := by have := hsz.out; omega
  have HD0 := Lib.hid (HSN.out W hB.out)
  unfold cmV at HD0
  obtain ⟨r, hr⟩ : ∃ r, Hid (snapP s ⟨9, name, other, off, count, data⟩ = r) := ⟨_, rfl⟩
  rw [hr.out] at HD0 ⊢
  clear hS hc hd HSN
  unfold cmV
  go_enter Try.func21, Try.ntmps21
  go_wp2_with (first
    | (go_at_call 26; rw [← hW]; refine HD0.out.mono ?_; intro e w2 hD; have HD := Lib.hid hD; obtain ⟨rad, rld, rcd, ran, rln, rcn, _, _, _, _, _, _, rfl, hT1, _⟩ := hD; have hBox2 := Lib.hid (Done.box HS.out hB.out hT1.out hBox.out (by omega)); clear hT1)
    | (refine wpList_store_box rfl 41 (.tmp 4) (.tmp 57) rfl (w.heap.size + 1) _ rfl rfl 41 _ hBox2.out (by kernel_rfl) rfl (by rfl) ?_; intro w6 hb6 hg6; have HB3 := Lib.hid hb6; have HG6 := Lib.hid hg6; clear hb6 hg6)
    | fail)
  refine bodyPost_ret (results_boxP Try.results21 _ _ (w.heap.size + 1) _ _ HB3.out _ rfl Try.underlying41 rfl (by kernel_rfl)) rfl ?_
  exact Done.after HD.out HS.out hB.out HG6.out (by have := hsz.out; omega) (by omega)
set_option maxHeartbeats 8000000 in
theorem doSnap10 (hs mo ms : Nat) (Fz : Nat → Prop) (po : PM Ob) (ps : PM (Nat × PM Ob)) (c : Cm) (ad : Option Addr) (ld cd : Nat) (w : World) (hS : StOk hs mo ms Fz po ps w) (hc : c.Ok) (hd : Row .u8 w ad ld cd c.data) (hk : c.kind = 10) (s : Pl) (hpo : erO po = s.objs) (hps : erS ps = s.snaps) (hok : s.Ok) :
    Calls Try.prog 21 #[.pointer (some ⟨hs, 0, none⟩), .agg (cmV c ad ld cd)] w (Done hs (thSt hs mo ms Fz po ps) (doP s c) w) := by
  have hol := hc.olen
  have hnl := hc.nlen
  have hpl : po.length ≤ 4 := by have := hok.objs; rw [← hpo] at this; unfold erO at this; rwa [mapP_length] at this
  have hpsl : ps.length ≤ 3 := by have := hok.snaps; rw [← hps] at this; unfold erS at this; rwa [mapP_length] at this
  have HPL : Hid (doP s c = snapP s c) := by show _ = _; unfold doP; rw [if_neg (by omega), if_neg (by omega), if_neg (by omega), if_pos (by omega)]
  rw [HPL.out]
  clear HPL
  have HSN : Hid (∀ W, Below w.heap.size w W → Calls Try.prog 26 #[.pointer (some ⟨hs, 0, none⟩), .agg (cmV c ad ld cd)] W (Done hs (thSt hs mo ms Fz po ps) (snapP s c) W)) :=
    fun W hb => snapW hs mo ms Fz po ps c ad ld cd W (Thing.below (t := thSt hs mo ms Fz po ps) hS hb) hc (by omega) (by omega) s hpo hps hok
  obtain ⟨kind, name, other, off, count, data⟩ := c
  obtain rfl : kind = 10 := hk
  simp only at hol hnl
  have HS := Lib.hid hS
  have hsl := hS.box.lt
  have hne : hs ≠ w.heap.size := by omega
  have hne1 : hs ≠ w.heap.size + 1 := by omega
  obtain ⟨W, hW⟩ : ∃ W, W = (w.alloc (.cells #[.int .i64 10, encStr name, encStr other, .int .i64 (off : Int), .int .i64 (count : Int), .int .i64 0, .int .i64 0, .slice ad ld cd] 30)).alloc (.cells #[.int .i64 0, .bool false, .int .i64 0, .slice none 0 0, .slice none 0 0] 41) := ⟨_, rfl⟩
  have hB : Hid (Below w.heap.size w W) := by rw [hW]; exact Below_alloc2 _ _
  have hBox : Hid (Box W (w.heap.size + 1) #[.int .i64 0, .bool false, .int .i64 0, .slice none 0 0, .slice none 0 0] 41) := by rw [hW]; exact Box.new (by simp)
  have hBoc : Hid (Box W w.heap.size #[.int .i64 10, encStr name, encStr other, .int .i64 (off : Int), .int .i64 (count : Int), .int .i64 0, .int .i64 0, .slice ad ld cd] 30) := by rw [hW]; exact Box.alloc (Box.new rfl) _
  have hsz : Hid (W.heap.size = w.heap.size + 2) := by rw [hW]; show _ = _; simp
  have hslW : hs < W.heap.size := by have := hsz.out; omega
  have HD0 := Lib.hid (HSN.out W hB.out)
  unfold cmV at HD0
  obtain ⟨r, hr⟩ : ∃ r, Hid (snapP s ⟨10, name, other, off, count, data⟩ = r) := ⟨_, rfl⟩
  rw [hr.out] at HD0 ⊢
  clear hS hc hd HSN
  unfold cmV
  go_enter Try.func21, Try.ntmps21
  go_wp2_with (first
    | (go_at_call 26; rw [← hW]; refine HD0.out.mono ?_; intro e w2 hD; have HD := Lib.hid hD; obtain ⟨rad, rld, rcd, ran, rln, rcn, _, _, _, _, _, _, rfl, hT1, _⟩ := hD; have hBox2 := Lib.hid (Done.box HS.out hB.out hT1.out hBox.out (by omega)); clear hT1)
    | (refine wpList_store_box rfl 41 (.tmp 4) (.tmp 57) rfl (w.heap.size + 1) _ rfl rfl 41 _ hBox2.out (by kernel_rfl) rfl (by rfl) ?_; intro w6 hb6 hg6; have HB3 := Lib.hid hb6; have HG6 := Lib.hid hg6; clear hb6 hg6)
    | fail)
  refine bodyPost_ret (results_boxP Try.results21 _ _ (w.heap.size + 1) _ _ HB3.out _ rfl Try.underlying41 rfl (by kernel_rfl)) rfl ?_
  exact Done.after HD.out HS.out hB.out HG6.out (by have := hsz.out; omega) (by omega)
end Go.Proofs.Ytkbfohbpndjcpaa
