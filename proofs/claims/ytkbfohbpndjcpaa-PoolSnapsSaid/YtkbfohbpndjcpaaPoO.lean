/- The walk of object. -/
import Derived.Test.YtkbfohbpndjcpaaPoB
namespace Go.Proofs.Ytkbfohbpndjcpaa
open Go.RowKit
set_option linter.unusedVariables false
set_option maxRecDepth 100000

theorem keyS : Maps.Keyed Try.prog 9 := Maps.string_keyed Try.underlying9
theorem keyN (n : Nm) (h : n.length ≤ 100) : keyOf Try.prog 9 (encStr n) = some (.string n) := WideMaps.keyOf_string_mk (P := Try.prog) (k := 9) (s := ⟨n.toArray⟩) Try.underlying9 (by show n.length ≤ maxLen; unfold maxLen; omega)
theorem notFoot {hs mo ms : Nat} {Fz : Nat → Prop} {po po' : PM Ob} {ps ps' : PM (Nat × PM Ob)} {w : World} (h : StOk hs mo ms Fz po ps w) {g : Nat} (hg : w.heap.size ≤ g) : ¬ (thSt hs mo ms Fz po' ps').foot g := fun hf => by
  have := (thSt hs mo ms Fz po ps).lt h g hf
  omega
set_option maxHeartbeats 4000000 in
theorem object5 (hs mo ms : Nat) (Fz : Nat → Prop) (po : PM Ob) (ps : PM (Nat × PM Ob)) (x : Ob) (c : Cm) (ad : Option Addr) (ld cd : Nat) (w : World) (hS : StOk hs mo ms Fz po ps w) (hc : c.Ok) (hk : c.kind = 5) (s : Pl) (hpo : erO po = s.objs) (hps : erS ps = s.snaps) :
    Calls Try.prog 27 #[.pointer (some ⟨hs, 0, none⟩), obV x, .agg (cmV c ad ld cd)] w (Done hs (thSt hs mo ms Fz po ps) (noP 0, { s with objs := delP c.name s.objs }) w) := by
  obtain ⟨kind, name, other, off, count, data⟩ := c
  obtain rfl : kind = 5 := hk
  have hnl := hc.nlen
  have b0 : w.cell? ⟨hs, 0, none⟩ = some (.map (some mo)) := hS.box.cell 0
  have hsl := hS.box.lt
  have HS := Lib.hid hS
  have hne : hs ≠ w.heap.size := by omega
  have hne1 : hs ≠ w.heap.size + 1 := by omega
  clear hS hc
  unfold cmV obV
  go_enter Try.func27, Try.ntmps27
  obtain ⟨W, hW⟩ : ∃ W, W = (w.alloc (.cells #[.int .i64 5, encStr name, encStr other, .int .i64 (off : Int), .int .i64 (count : Int), .int .i64 0, .int .i64 0, .slice ad ld cd] 30)).alloc (.cells #[.int .i64 0, .bool false, .int .i64 0, .slice none 0 0, .slice none 0 0] 41) := ⟨_, rfl⟩
  have hB : Hid (Below w.heap.size w W) := by rw [hW]; exact Below_alloc2 _ _
  have hBox : Hid (Box W (w.heap.size + 1) #[.int .i64 0, .bool false, .int .i64 0, .slice none 0 0, .slice none 0 0] 41) := by rw [hW]; exact Box.new (by simp)
  have hBoc : Hid (Box W w.heap.size #[.int .i64 5, encStr name, encStr other, .int .i64 (off : Int), .int .i64 (count : Int), .int .i64 0, .int .i64 0, .slice ad ld cd] 30) := by rw [hW]; exact Box.alloc (Box.new rfl) _
  have hsz : Hid (W.heap.size = w.heap.size + 2) := by rw [hW]; show _ = _; simp
  go_wp2_with fail
  rw [← hW]
  clear hW b0
  have b0 : W.cell? ⟨hs, 0, none⟩ = some (.map (some mo)) := (HS.out.box.below hB.out hsl).cell 0
  have k1 : W.cell? ⟨w.heap.size, 1, none⟩ = some (encStr name) := hBoc.out.cell 1
  go_still_tail 6, (by kernel_rfl)
  change wpList _ _ _ _ _ W.drew
  have hBd : Hid (Below w.heap.size w W.drew) := hB.out.drew
  have HSd := Lib.hid (Thing.below (t := thSt hs mo ms Fz po ps) HS.out hBd.out)
  have HOb := Lib.hid (show OM obV W.drew mo po from StOk.objs HSd.out)
  go_wp2_with (first
    | (at_delete; refine wpList_delete_own _ rfl (.tmp 21) (.tmp 23) 57 9 rfl 54 keyS Try.underlying57 RV mo _ _ rfl HOb.out _ _ rfl (keyN name hnl) ?_; intro w2 hown2 hturn2; rw [dat_del] at hown2; have HO2 := Lib.hid (OM.of hown2); have HG2 := Lib.hid hturn2.grown; clear hown2 hturn2; have hBox2 := Lib.hid (show Box w2 (w.heap.size + 1) #[.int .i64 0, .bool false, .int .i64 0, .slice none 0 0, .slice none 0 0] 41 from (grown_block HG2.out hBox.out.drew.lt (by have := HS.out.objs.lt; omega)).trans hBox.out))
    | (refine wpList_store_box rfl 41 (.tmp 6) (.tmp 24) rfl (w.heap.size + 1) _ rfl rfl 41 _ hBox2.out (by kernel_rfl) rfl (by rfl) ?_; intro w3 hb3 hg3; have HB3 := Lib.hid hb3; have HG3 := Lib.hid hg3; clear hb3 hg3)
    | fail)
  refine bodyPost_ret (results_boxP Try.results27 _ _ (w.heap.size + 1) _ _ HB3.out _ rfl Try.underlying41 rfl (by kernel_rfl)) rfl ?_
  have T1 : Turns (thSt hs mo ms Fz po ps) (thSt hs mo ms Fz po ps) w W.drew := Turns.still HS.out hBd.out
  have T2 := T1.trans (StOk.turnO HSd.out (delP name po) HG2.out HO2.out (fun p hp => HSd.out.obs p (mem_delP hp)))
  refine ⟨none, 0, 0, none, 0, 0, fun _ => False, mo, ms, Fz, delP name po, ps, rfl, ?_, ?_⟩
  · exact T2.told (fun _ => False) (noP 0) _ (no_at _ _ 0) (fun b hb => hb.elim) HG3.out (by omega) (notFoot HS.out (by omega))
  · exact ⟨by show erO (delP name po) = delP name s.objs; rw [← hpo]; exact mapP_del _ _ _, hps⟩
/-- What was read, told: bytes in a block of their own. -/
theorem done_fetch {hs mo ms : Nat} {Fz : Nat → Prop} {po : PM Ob} {ps : PM (Nat × PM Ob)} {w W w2 w3 : World} {g : Nat} {a : Option Addr} {l c : Nat} {xs : List Int} (h : StOk hs mo ms Fz po ps w) (hB : Below w.heap.size w W) (hN : NewB W w2 a l c xs) (hg : w2.grownBy w3 (some g)) (h2 : g < W.heap.size) (h1 : w.heap.size ≤ g)
    (sz : Nat) (r : Td) (s : Pl) (hpo : erO po = s.objs) (hps : erS ps = s.snaps) (hr : r = ⟨0, sz, xs, []⟩) {v : Value} (hv : v = .agg (tdV 0 sz a l c none 0 0)) : Done hs (thSt hs mo ms Fz po ps) (r, s) w (.returned v) w3 := by
  subst hr hv
  refine ⟨a, l, c, none, 0, 0, fun b => a.map Addr.block = some b, mo, ms, Fz, po, ps, rfl, ?_, ⟨hpo, hps⟩⟩
  have T : Turns (thSt hs mo ms Fz po ps) (thSt hs mo ms Fz po ps) w w2 := (Turns.still h hB).trans (Turns.still (Thing.below (t := thSt hs mo ms Fz po ps) h hB) hN.below)
  refine T.told _ ⟨0, sz, xs, []⟩ _ (td_at (hN.row.toS (fun x hx _ => by rw [hx]; rfl)) (SRow.nil ..)) (fun b hb => ?_) hg h1 (notFoot h h1)
  cases a with
  | none => cases hb
  | some p =>
    obtain rfl : p.block = b := by simpa using hb
    have hn := hN.new p rfl
    exact ⟨Nat.le_trans hB.size hn.1, hn.2, notFoot h (Nat.le_trans hB.size hn.1), by omega⟩
/-- A refusal. -/
theorem done_no {hs mo ms : Nat} {Fz : Nat → Prop} {po : PM Ob} {ps : PM (Nat × PM Ob)} {w w2 w3 : World} {g : Nat} (h : StOk hs mo ms Fz po ps w) (hB : Below w.heap.size w w2) (hg : w2.grownBy w3 (some g)) (h1 : w.heap.size ≤ g)
    (e : Nat) (s : Pl) (hpo : erO po = s.objs) (hps : erS ps = s.snaps) {v : Value} (hv : v = .agg (noV e)) : Done hs (thSt hs mo ms Fz po ps) (noP e, s) w (.returned v) w3 := by
  subst hv
  exact ⟨none, 0, 0, none, 0, 0, fun _ => False, mo, ms, Fz, po, ps, rfl, (Turns.still h hB).told _ (noP e) _ (no_at _ _ e) (fun b hb => hb.elim) hg h1 (notFoot h h1), ⟨hpo, hps⟩⟩
set_option maxHeartbeats 8000000 in
theorem object3 (hs mo ms : Nat) (Fz : Nat → Prop) (po : PM Ob) (ps : PM (Nat × PM Ob)) (x : Ob) (c : Cm) (ad : Option Addr) (ld cd : Nat) (w : World) (hS : StOk hs mo ms Fz po ps w) (hx : ObOk w Fz x) (hxl : x.bs.length ≤ 1024) (hd : Row .u8 w ad ld cd c.data) (hc : c.Ok) (hk : c.kind = 3) (s : Pl) (hpo : erO po = s.objs) (hps : erS ps = s.snaps) (hpl : po.length ≤ 100) :
    Calls Try.prog 27 #[.pointer (some ⟨hs, 0, none⟩), obV x, .agg (cmV c ad ld cd)] w (Done hs (thSt hs mo ms Fz po ps) (objectP s x.bs c) w) := by
  have hF := fun W hB => fetchW x c ad ld cd W (Row.below hx.1 (hB : Below w.heap.size w W)) (by rw [← hx.1.hlen]; exact hxl) hc
  have hpl' : Hid (objectP s x.bs c = (fetchP x.bs c, s)) := by show _ = _; unfold objectP; rw [if_pos hk]
  rw [hpl'.out]
  have hlen : Hid (x.bs.length = x.len) := hx.1.hlen
  obtain ⟨kind, name, other, off, count, data⟩ := c
  obtain rfl : kind = 3 := hk
  have HS := Lib.hid hS
  have hsl := hS.box.lt
  have HF := Lib.hid hF
  unfold cmV obV at hF HF
  clear hS hc hx hd hF hpl'
  unfold cmV obV
  go_enter Try.func27, Try.ntmps27
  obtain ⟨W, hW⟩ : ∃ W, W = (w.alloc (.cells #[.int .i64 3, encStr name, encStr other, .int .i64 (off : Int), .int .i64 (count : Int), .int .i64 0, .int .i64 0, .slice ad ld cd] 30)).alloc (.cells #[.int .i64 0, .bool false, .int .i64 0, .slice none 0 0, .slice none 0 0] 41) := ⟨_, rfl⟩
  have hB : Hid (Below w.heap.size w W) := by rw [hW]; exact Below_alloc2 _ _
  have hBox : Hid (Box W (w.heap.size + 1) #[.int .i64 0, .bool false, .int .i64 0, .slice none 0 0, .slice none 0 0] 41) := by rw [hW]; exact Box.new (by simp)
  have hBoc : Hid (Box W w.heap.size #[.int .i64 3, encStr name, encStr other, .int .i64 (off : Int), .int .i64 (count : Int), .int .i64 0, .int .i64 0, .slice ad ld cd] 30) := by rw [hW]; exact Box.alloc (Box.new rfl) _
  have hsz : Hid (W.heap.size = w.heap.size + 2) := by rw [hW]; show _ = _; simp
  have hC := Lib.hid (HF.out W hB.out)
  go_wp2_with (first
    | (go_at_call 34; rw [← hW]; refine hC.out.mono ?_; rintro e w2 ⟨a', l', c', rfl, hN⟩; have hBox2 := Lib.hid (hBox.out.below hN.out.below (by have := hsz.out; omega)))
    | (refine wpList_store_box rfl 41 (.tmp 6) (.tmp 15) rfl (w.heap.size + 1) _ rfl rfl 41 _ hBox2.out (by kernel_rfl) rfl (by rfl) ?_; intro w3 hb3 hg3; have HB3 := Lib.hid hb3; have HG3 := Lib.hid hg3; clear hb3 hg3)
    | fail)
  refine bodyPost_ret (results_boxP Try.results27 _ _ (w.heap.size + 1) _ _ HB3.out _ rfl Try.underlying41 rfl (by kernel_rfl)) rfl ?_
  exact done_fetch HS.out hB.out hN.out HG3.out (by have := hsz.out; omega) (by omega) _ _ s hpo hps (by rw [← hlen.out]; rfl) rfl
/-- An object's bytes anew, told with their number. -/
theorem done_put {hs mo ms : Nat} {Fz : Nat → Prop} {po : PM Ob} {ps : PM (Nat × PM Ob)} {w W w2 w4 w5 : World} {g : Nat} {a : Option Addr} {l c : Nat} {xs : List Int} (h : StOk hs mo ms Fz po ps w) (hB : Below w.heap.size w W) (hN : NewB W w2 a l c xs) (n : Nm)
    (hO : OM obV w4 mo (putP n ⟨a, l, c, xs⟩ po)) (hG : w2.drew.grownBy w4 (some mo)) (hg : w4.grownBy w5 (some g)) (h2 : g < W.heap.size) (h1 : w.heap.size ≤ g)
    (r : Td) (s s' : Pl) (hpo : erO po = s.objs) (hps : erS ps = s.snaps) (hr : r = ⟨0, l, [], []⟩) (hs' : s' = { s with objs := putP n xs s.objs }) {v : Value} (hv : v = .agg (tdV 0 l none 0 0 none 0 0)) : Done hs (thSt hs mo ms Fz po ps) (r, s') w (.returned v) w5 := by
  subst hr hv hs'
  have hWsz := hB.size
  have hB2 : Below w.heap.size w w2.drew := (hB.trans (hN.below.mono hB.size)).drew
  have T1 := StOk.grow h hB2 (fun b => a.map Addr.block = some b) (fun b hb => by
    cases a with
    | none => cases hb
    | some p =>
      obtain rfl : p.block = b := by simpa using hb
      have hn := hN.new p rfl
      exact ⟨Nat.le_trans hB.size hn.1, hn.2⟩)
  have hnow := T1.now
  have T2 := T1.trans (StOk.turnO hnow (putP n ⟨a, l, c, xs⟩ po) hG hO (fun p hp => by
    rcases mem_putP hp with rfl | hp
    · exact ⟨hN.row.drewN 1, fun q hq => .inr (by rw [show a = some q from hq]; rfl)⟩
    · exact StOk.obs hnow p hp))
  refine ⟨none, 0, 0, none, 0, 0, fun _ => False, mo, ms, _, putP n ⟨a, l, c, xs⟩ po, ps, rfl, T2.told _ ⟨0, l, [], []⟩ _ (td_at (SRow.nil ..) (SRow.nil ..)) (fun b hb => hb.elim) hg h1 (fun hf => ?_), ⟨?_, hps⟩⟩
  · rcases hf with hf | hf | hf | hf | hf
    · exact notFoot (po' := po) (ps' := ps) h h1 (.inl hf)
    · exact notFoot (po' := po) (ps' := ps) h h1 (.inr (.inl hf))
    · exact notFoot (po' := po) (ps' := ps) h h1 (.inr (.inr (.inl hf)))
    · exact notFoot (po' := po) (ps' := ps) h h1 (.inr (.inr (.inr hf)))
    · cases a with
      | none => cases hf
      | some p =>
        obtain rfl : p.block = g := by simpa using hf
        have := (hN.new p rfl).1
        omega
  · show erO (putP n ⟨a, l, c, xs⟩ po) = putP n xs s.objs
    rw [← hpo]; exact mapP_put Ob.bs n ⟨a, l, c, xs⟩ po
set_option maxHeartbeats 8000000 in
theorem object2 (hs mo ms : Nat) (Fz : Nat → Prop) (po : PM Ob) (ps : PM (Nat × PM Ob)) (x : Ob) (c : Cm) (ad : Option Addr) (ld cd : Nat) (w : World) (hS : StOk hs mo ms Fz po ps w) (hx : ObOk w Fz x) (hxl : x.bs.length ≤ 1024) (hd : Row .u8 w ad ld cd c.data) (hc : c.Ok) (hk : c.kind = 2) (s : Pl) (hpo : erO po = s.objs) (hps : erS ps = s.snaps) (hpl : po.length ≤ 100) :
    Calls Try.prog 27 #[.pointer (some ⟨hs, 0, none⟩), obV x, .agg (cmV c ad ld cd)] w (Done hs (thSt hs mo ms Fz po ps) (objectP s x.bs c) w) := by
  have hxn := hx.1.hlen
  have hdn := hd.hlen
  have hdl := hc.data hk
  obtain ⟨xa, xl, xc, xs⟩ := x
  simp only at hxn hxl
  have hF : ∀ W, Below w.heap.size w W → c.off + ld ≤ 1024 → Calls Try.prog 80 #[.slice xa xl xc, .int .i64 (c.off : Int), .slice ad ld cd] W fun e w' => ∃ a' l' c', e = .returned (.tuple #[.slice a' l' c', .int .i64 0]) ∧ Hid (NewB W w' a' l' c' (writeP xs c.off c.data)) :=
    fun W hB ho => writeF xa xl xc xs c.off ad ld cd c.data W (Row.below hx.1 hB) (hd.below hB) (by rw [← hxn]; exact hxl) ho (by omega)
  have hoo := hc.off
  have hnl := hc.nlen
  obtain ⟨kind, name, other, off, count, data⟩ := c
  obtain rfl : kind = 2 := hk
  simp only at hdl hoo hnl hdn
  have HS := Lib.hid hS
  have hsl := hS.box.lt
  have HF := Lib.hid hF
  have q0 : ¬ ((ld : Int) = 0) := by omega
  have q4 : ¬ ((400 : Int) < (ld : Int)) := by omega
  have q5 : ¬ ((off : Int) < 0) := by omega
  have ws : IntKind.i64.wrap ((1024 : Int) - (ld : Int)) = (1024 : Int) - (ld : Int) := IntWalk.i64_in _ (by omega)
  have hne : hs ≠ w.heap.size := by omega
  have hne1 : hs ≠ w.heap.size + 1 := by omega
  obtain ⟨W, hW⟩ : ∃ W, W = (w.alloc (.cells #[.int .i64 2, encStr name, encStr other, .int .i64 (off : Int), .int .i64 (count : Int), .int .i64 0, .int .i64 0, .slice ad ld cd] 30)).alloc (.cells #[.int .i64 0, .bool false, .int .i64 0, .slice none 0 0, .slice none 0 0] 41) := ⟨_, rfl⟩
  have hB : Hid (Below w.heap.size w W) := by rw [hW]; exact Below_alloc2 _ _
  have hBox : Hid (Box W (w.heap.size + 1) #[.int .i64 0, .bool false, .int .i64 0, .slice none 0 0, .slice none 0 0] 41) := by rw [hW]; exact Box.new (by simp)
  have hBoc : Hid (Box W w.heap.size #[.int .i64 2, encStr name, encStr other, .int .i64 (off : Int), .int .i64 (count : Int), .int .i64 0, .int .i64 0, .slice ad ld cd] 30) := by rw [hW]; exact Box.alloc (Box.new rfl) _
  have hsz : Hid (W.heap.size = w.heap.size + 2) := by rw [hW]; show _ = _; simp
  by_cases hfit : off + ld ≤ 1024
  · have q6 : ¬ ((1024 : Int) - (ld : Int) < (off : Int)) := by omega
    have HPL : Hid (objectP s xs ⟨2, name, other, off, count, data⟩ = (⟨0, (writeP xs off data).length, [], []⟩, { s with objs := putP name (writeP xs off data) s.objs })) := by
      show _ = _; unfold objectP; rw [if_neg (by show ¬ (2 : Nat) = 3; decide), if_neg (by show ¬ (2 : Nat) = 5; decide), if_pos rfl, if_neg (by show ¬ off + data.length > 1024; omega)]
    rw [HPL.out]
    have hC := Lib.hid (HF.out W hB.out hfit)
    clear hS hc hx hd hF HPL
    unfold cmV obV
    go_enter Try.func27, Try.ntmps27
    go_wp2_with (first
      | (go_at_call 80; rw [← hW]; refine hC.out.mono ?_; rintro e w2 ⟨a', l', c', rfl, hN⟩)
      | fail)
    have hB2 : Hid (Below w.heap.size w w2) := hB.out.trans (hN.out.below.mono hB.out.size)
    have hBox2 : Hid (Box w2 (w.heap.size + 1) #[.int .i64 0, .bool false, .int .i64 0, .slice none 0 0, .slice none 0 0] 41) := hBox.out.below hN.out.below (by have := hsz.out; omega)
    have HSd := Lib.hid (Thing.below (t := thSt hs mo ms Fz po ps) HS.out hB2.out.drew)
    have HOb := Lib.hid (show OM obV w2.drew mo po from StOk.objs HSd.out)
    have b0 : w2.cell? ⟨hs, 0, none⟩ = some (.map (some mo)) := (HS.out.box.below hB2.out hsl).cell 0
    have k1 : w2.cell? ⟨w.heap.size, 1, none⟩ = some (encStr name) := (hBoc.out.below hN.out.below (by have := hsz.out; omega)).cell 1
    have hsz2 := hN.out.below.size
    go_still_tail 7, (by kernel_rfl)
    change wpList _ _ _ _ _ w2.drew
    go_wp2_with (first
      | (at_mapUpdate; refine wpList_mapUpdate_own _ rfl (.tmp 86) (.tmp 88) (.tmp 89) 57 rfl 9 54 keyS Try.underlying57 RV mo _ _ rfl HOb.out (by unfold maxLen; omega) _ _ _ rfl rfl (keyN name hnl) (.held (obV ⟨a', l', c', writeP xs off data⟩)) [] rfl ?_; intro w4 hown4 hg4; rw [dat_put] at hown4; have HO4 := Lib.hid (OM.of hown4); have HG4 := Lib.hid hg4; clear hown4 hg4; have hBox4 := Lib.hid (show Box w4 (w.heap.size + 1) #[.int .i64 0, .bool false, .int .i64 0, .slice none 0 0, .slice none 0 0] 41 from (grown_block HG4.out hBox2.out.drew.lt (by have := HS.out.objs.lt; omega)).trans hBox2.out))
      | (refine wpList_store_box rfl 41 (.tmp 6) (.tmp 93) rfl (w.heap.size + 1) _ rfl rfl 41 _ hBox4.out (by kernel_rfl) rfl (by rfl) ?_; intro w5 hb5 hg5; have HB3 := Lib.hid hb5; have HG5 := Lib.hid hg5; clear hb5 hg5)
      | (go_at_call 79; refine (sizeF _ _ _ _).mono ?_; rintro e w' ⟨rfl, rfl⟩)
      | fail)
    refine bodyPost_ret (results_boxP Try.results27 _ _ (w.heap.size + 1) _ _ HB3.out _ rfl Try.underlying41 rfl (by kernel_rfl)) rfl ?_
    exact done_put HS.out hB.out hN.out name HO4.out HG4.out HG5.out (by have := hsz.out; omega) (by omega) _ s _ hpo hps (by rw [show (writeP xs off data).length = l' from hN.out.row.hlen]) rfl rfl
  · have q6 : (1024 : Int) - (ld : Int) < (off : Int) := by omega
    have HPL : Hid (objectP s xs ⟨2, name, other, off, count, data⟩ = (noP 2, s)) := by
      show _ = _; unfold objectP; rw [if_neg (by show ¬ (2 : Nat) = 3; decide), if_neg (by show ¬ (2 : Nat) = 5; decide), if_pos rfl, if_pos (by show off + data.length > 1024; omega)]
    rw [HPL.out]
    clear hS hc hx hd hF HPL
    unfold cmV obV
    go_enter Try.func27, Try.ntmps27
    go_wp2_with (first
      | (go_at_call 23; rw [← hW]; refine (noW 2 W).mono ?_; rintro e w2 ⟨rfl, hb⟩; have HB2 := Lib.hid hb; clear hb; have hBox2 := Lib.hid (hBox.out.below HB2.out (by have := hsz.out; omega)))
      | (refine wpList_store_box rfl 41 (.tmp 6) (.tmp 49) rfl (w.heap.size + 1) _ rfl rfl 41 _ hBox2.out (by kernel_rfl) rfl (by rfl) ?_; intro w3 hb3 hg3; have HB3 := Lib.hid hb3; have HG3 := Lib.hid hg3; clear hb3 hg3)
      | fail)
    refine bodyPost_ret (results_boxP Try.results27 _ _ (w.heap.size + 1) _ _ HB3.out _ rfl Try.underlying41 rfl (by kernel_rfl)) rfl ?_
    exact done_no HS.out (hB.out.trans (HB2.out.mono hB.out.size)) HG3.out (by omega) 2 s hpo hps rfl
set_option maxHeartbeats 8000000 in
theorem object4 (hs mo ms : Nat) (Fz : Nat → Prop) (po : PM Ob) (ps : PM (Nat × PM Ob)) (x : Ob) (c : Cm) (ad : Option Addr) (ld cd : Nat) (w : World) (hS : StOk hs mo ms Fz po ps w) (hx : ObOk w Fz x) (hxl : x.bs.length ≤ 1024) (hd : Row .u8 w ad ld cd c.data) (hc : c.Ok) (hk : c.kind = 4) (s : Pl) (hpo : erO po = s.objs) (hps : erS ps = s.snaps) (hpl : po.length ≤ 100) :
    Calls Try.prog 27 #[.pointer (some ⟨hs, 0, none⟩), obV x, .agg (cmV c ad ld cd)] w (Done hs (thSt hs mo ms Fz po ps) (objectP s x.bs c) w) := by
  have hxn := hx.1.hlen
  have hdn := hd.hlen
  obtain ⟨xa, xl, xc, xs⟩ := x
  simp only at hxn hxl
  have hF : ∀ W, Below w.heap.size w W → c.count ≤ 1024 → Calls Try.prog 78 #[.slice xa xl xc, .int .i64 (c.count : Int)] W fun e w' => ∃ a' l' c', e = .returned (.tuple #[.slice a' l' c', .int .i64 0]) ∧ Hid (NewB W w' a' l' c' (sizeP xs c.count)) :=
    fun W hB ho => resizeF xa xl xc xs c.count W (Row.below hx.1 hB) (by rw [← hxn]; exact hxl) ho
  have hoo := hc.count
  have hnl := hc.nlen
  obtain ⟨kind, name, other, off, count, data⟩ := c
  obtain rfl : kind = 4 := hk
  simp only at hoo hnl
  have HS := Lib.hid hS
  have hsl := hS.box.lt
  have HF := Lib.hid hF
  have q5 : ¬ ((count : Int) < 0) := by omega
  have hne : hs ≠ w.heap.size := by omega
  have hne1 : hs ≠ w.heap.size + 1 := by omega
  obtain ⟨W, hW⟩ : ∃ W, W = (w.alloc (.cells #[.int .i64 4, encStr name, encStr other, .int .i64 (off : Int), .int .i64 (count : Int), .int .i64 0, .int .i64 0, .slice ad ld cd] 30)).alloc (.cells #[.int .i64 0, .bool false, .int .i64 0, .slice none 0 0, .slice none 0 0] 41) := ⟨_, rfl⟩
  have hB : Hid (Below w.heap.size w W) := by rw [hW]; exact Below_alloc2 _ _
  have hBox : Hid (Box W (w.heap.size + 1) #[.int .i64 0, .bool false, .int .i64 0, .slice none 0 0, .slice none 0 0] 41) := by rw [hW]; exact Box.new (by simp)
  have hBoc : Hid (Box W w.heap.size #[.int .i64 4, encStr name, encStr other, .int .i64 (off : Int), .int .i64 (count : Int), .int .i64 0, .int .i64 0, .slice ad ld cd] 30) := by rw [hW]; exact Box.alloc (Box.new rfl) _
  have hsz : Hid (W.heap.size = w.heap.size + 2) := by rw [hW]; show _ = _; simp
  by_cases hfit : count ≤ 1024
  · have q6 : ¬ ((1024 : Int) < (count : Int)) := by omega
    have HPL : Hid (objectP s xs ⟨4, name, other, off, count, data⟩ = (⟨0, (sizeP xs count).length, [], []⟩, { s with objs := putP name (sizeP xs count) s.objs })) := by
      show _ = _; unfold objectP; rw [if_neg (by show ¬ (4 : Nat) = 3; decide), if_neg (by show ¬ (4 : Nat) = 5; decide), if_neg (by show ¬ (4 : Nat) = 2; decide), if_neg (by show ¬ count > 1024; omega)]
    rw [HPL.out]
    have hC := Lib.hid (HF.out W hB.out hfit)
    clear hS hc hx hd hF HPL
    unfold cmV obV
    go_enter Try.func27, Try.ntmps27
    go_wp2_with (first
      | (go_at_call 78; rw [← hW]; refine hC.out.mono ?_; rintro e w2 ⟨a', l', c', rfl, hN⟩)
      | fail)
    have hB2 : Hid (Below w.heap.size w w2) := hB.out.trans (hN.out.below.mono hB.out.size)
    have hBox2 : Hid (Box w2 (w.heap.size + 1) #[.int .i64 0, .bool false, .int .i64 0, .slice none 0 0, .slice none 0 0] 41) := hBox.out.below hN.out.below (by have := hsz.out; omega)
    have HSd := Lib.hid (Thing.below (t := thSt hs mo ms Fz po ps) HS.out hB2.out.drew)
    have HOb := Lib.hid (show OM obV w2.drew mo po from StOk.objs HSd.out)
    have b0 : w2.cell? ⟨hs, 0, none⟩ = some (.map (some mo)) := (HS.out.box.below hB2.out hsl).cell 0
    have k1 : w2.cell? ⟨w.heap.size, 1, none⟩ = some (encStr name) := (hBoc.out.below hN.out.below (by have := hsz.out; omega)).cell 1
    have hsz2 := hN.out.below.size
    go_still_tail 7, (by kernel_rfl)
    change wpList _ _ _ _ _ w2.drew
    go_wp2_with (first
      | (at_mapUpdate; refine wpList_mapUpdate_own _ rfl (.tmp 86) (.tmp 88) (.tmp 89) 57 rfl 9 54 keyS Try.underlying57 RV mo _ _ rfl HOb.out (by unfold maxLen; omega) _ _ _ rfl rfl (keyN name hnl) (.held (obV ⟨a', l', c', sizeP xs count⟩)) [] rfl ?_; intro w4 hown4 hg4; rw [dat_put] at hown4; have HO4 := Lib.hid (OM.of hown4); have HG4 := Lib.hid hg4; clear hown4 hg4; have hBox4 := Lib.hid (show Box w4 (w.heap.size + 1) #[.int .i64 0, .bool false, .int .i64 0, .slice none 0 0, .slice none 0 0] 41 from (grown_block HG4.out hBox2.out.drew.lt (by have := HS.out.objs.lt; omega)).trans hBox2.out))
      | (refine wpList_store_box rfl 41 (.tmp 6) (.tmp 93) rfl (w.heap.size + 1) _ rfl rfl 41 _ hBox4.out (by kernel_rfl) rfl (by rfl) ?_; intro w5 hb5 hg5; have HB3 := Lib.hid hb5; have HG5 := Lib.hid hg5; clear hb5 hg5)
      | (go_at_call 79; refine (sizeF _ _ _ _).mono ?_; rintro e w' ⟨rfl, rfl⟩)
      | fail)
    refine bodyPost_ret (results_boxP Try.results27 _ _ (w.heap.size + 1) _ _ HB3.out _ rfl Try.underlying41 rfl (by kernel_rfl)) rfl ?_
    exact done_put HS.out hB.out hN.out name HO4.out HG4.out HG5.out (by have := hsz.out; omega) (by omega) _ s _ hpo hps (by rw [show (sizeP xs count).length = l' from hN.out.row.hlen]) rfl rfl
  · have q6 : (1024 : Int) < (count : Int) := by omega
    have HPL : Hid (objectP s xs ⟨4, name, other, off, count, data⟩ = (noP 2, s)) := by
      show _ = _; unfold objectP; rw [if_neg (by show ¬ (4 : Nat) = 3; decide), if_neg (by show ¬ (4 : Nat) = 5; decide), if_neg (by show ¬ (4 : Nat) = 2; decide), if_pos (by show count > 1024; omega)]
    rw [HPL.out]
    clear hS hc hx hd hF HPL
    unfold cmV obV
    go_enter Try.func27, Try.ntmps27
    go_wp2_with (first
      | (go_at_call 23; rw [← hW]; refine (noW 2 W).mono ?_; rintro e w2 ⟨rfl, hb⟩; have HB2 := Lib.hid hb; clear hb; have hBox2 := Lib.hid (hBox.out.below HB2.out (by have := hsz.out; omega)))
      | (refine wpList_store_box rfl 41 (.tmp 6) (.tmp 70) rfl (w.heap.size + 1) _ rfl rfl 41 _ hBox2.out (by kernel_rfl) rfl (by rfl) ?_; intro w3 hb3 hg3; have HB3 := Lib.hid hb3; have HG3 := Lib.hid hg3; clear hb3 hg3)
      | fail)
    refine bodyPost_ret (results_boxP Try.results27 _ _ (w.heap.size + 1) _ _ HB3.out _ rfl Try.underlying41 rfl (by kernel_rfl)) rfl ?_
    exact done_no HS.out (hB.out.trans (HB2.out.mono hB.out.size)) HG3.out (by omega) 2 s hpo hps rfl
theorem objectW (hs mo ms : Nat) (Fz : Nat → Prop) (po : PM Ob) (ps : PM (Nat × PM Ob)) (x : Ob) (c : Cm) (ad : Option Addr) (ld cd : Nat) (w : World) (hS : StOk hs mo ms Fz po ps w) (hx : ObOk w Fz x) (hxl : x.bs.length ≤ 1024) (hd : Row .u8 w ad ld cd c.data) (hc : c.Ok) (h2 : 2 ≤ c.kind) (h5 : c.kind ≤ 5) (s : Pl) (hpo : erO po = s.objs) (hps : erS ps = s.snaps) (hpl : po.length ≤ 100) :
    Calls Try.prog 27 #[.pointer (some ⟨hs, 0, none⟩), obV x, .agg (cmV c ad ld cd)] w (Done hs (thSt hs mo ms Fz po ps) (objectP s x.bs c) w) := by
  have hk : c.kind = 2 ∨ c.kind = 3 ∨ c.kind = 4 ∨ c.kind = 5 := by omega
  rcases hk with hk | hk | hk | hk
  · exact object2 hs mo ms Fz po ps x c ad ld cd w hS hx hxl hd hc hk s hpo hps hpl
  · exact object3 hs mo ms Fz po ps x c ad ld cd w hS hx hxl hd hc hk s hpo hps hpl
  · exact object4 hs mo ms Fz po ps x c ad ld cd w hS hx hxl hd hc hk s hpo hps hpl
  · have e : objectP s x.bs c = (noP 0, { s with objs := delP c.name s.objs }) := by unfold objectP; rw [if_neg (by omega), if_pos hk]
    rw [e]
    exact object5 hs mo ms Fz po ps x c ad ld cd w hS hc hk s hpo hps
end Go.Proofs.Ytkbfohbpndjcpaa
