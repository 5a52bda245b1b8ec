/- The walk of snap: what looks at a snapshot. -/
import Derived.Test.YtkbfohbpndjcpaaPoS
namespace Go.Proofs.Ytkbfohbpndjcpaa
open Go.RowKit
set_option linter.unusedVariables false
set_option maxRecDepth 100000
set_option linter.unusedSimpArgs false

set_option maxHeartbeats 8000000 in
theorem snap9 (hs mo ms : Nat) (Fz : Nat → Prop) (po : PM Ob) (ps : PM (Nat × PM Ob)) (c : Cm) (ad : Option Addr) (ld cd : Nat) (w : World) (hS : StOk hs mo ms Fz po ps w) (hc : c.Ok) (hk : c.kind = 9) (s : Pl) (hpo : erO po = s.objs) (hps : erS ps = s.snaps) (hok : s.Ok) :
    Calls Try.prog 26 #[.pointer (some ⟨hs, 0, none⟩), .agg (cmV c ad ld cd)] w (Done hs (thSt hs mo ms Fz po ps) (snapP s c) w) := by
  have hol := hc.olen
  have hnl := hc.nlen
  have HFE : Hid (∀ (k : Nat) (m : PM Ob) (x : Ob) (W : World), getP c.other ps = some (k, m) → getP c.name m = some x → Below w.heap.size w W → Calls Try.prog 34 #[.slice x.a x.len x.cap, .agg (cmV c ad ld cd)] W fun e w' => ∃ a l c', e = .returned (.agg (tdV 0 x.len a l c' none 0 0)) ∧ Hid (NewB W w' a l c' (readP x.bs c.off c.count))) := by
    intro k m x W h1 h2 hb
    obtain ⟨p, hp, _, hp2⟩ := mem_getP h1
    obtain ⟨q, hq, _, hq2⟩ := mem_getP h2
    have hx := ((hS.shots p hp).2.2) q (by rw [hp2]; exact hq)
    rw [hq2] at hx
    have hlen := ((hok.shots (p.1, erO p.2.2) (by rw [← hps]; exact List.mem_map_of_mem hp)).2) (q.1, q.2.bs) (by rw [hp2]; exact List.mem_map_of_mem hq)
    rw [hq2] at hlen
    exact fetchW x c ad ld cd W (hx.1.below hb) (by rw [← hx.1.hlen]; exact hlen) hc
  have HG : Hid (snapP s c = match getP c.other ps with
    | none => (noP 6, s)
    | some l => if c.kind = 9 then (noP 0, { s with objs := erO l.2 }) else if c.kind = 10 then (noP 0, { s with snaps := delP c.other s.snaps }) else match getP c.name l.2 with
      | none => (noP 6, s)
      | some x => (fetchP x.bs c, s)) := by
    show _ = _
    unfold snapP
    rw [if_neg (by omega), ← hps, erS_get]
    cases getP c.other ps with
    | none => rfl
    | some l =>
      simp only [Option.map_some, erO_get]
      cases getP c.name l.2 <;> rfl
  have HLEN : Hid (∀ (k : Nat) (m : PM Ob) (x : Ob), getP c.other ps = some (k, m) → getP c.name m = some x → x.bs.length = x.len) := by
    intro k m x h1 h2
    obtain ⟨p, hp, _, hp2⟩ := mem_getP h1
    obtain ⟨q, hq, _, hq2⟩ := mem_getP h2
    have hx := ((hS.shots p hp).2.2) q (by rw [hp2]; exact hq)
    rw [hq2] at hx
    exact hx.1.hlen
  obtain ⟨kind, name, other, off, count, data⟩ := c
  obtain rfl : kind = 9 := hk
  simp only at hol hnl
  have HS := Lib.hid hS
  have hsl := hS.box.lt
  have hne : hs ≠ w.heap.size := by omega
  have hne1 : hs ≠ w.heap.size + 1 := by omega
  obtain ⟨W, hW⟩ : ∃ W, W = (w.alloc (.cells #[.int .i64 9, encStr name, encStr other, .int .i64 (off : Int), .int .i64 (count : Int), .int .i64 0, .int .i64 0, .slice ad ld cd] 30)).alloc (.cells #[.int .i64 0, .bool false, .int .i64 0, .slice none 0 0, .slice none 0 0] 41) := ⟨_, rfl⟩
  have hB : Hid (Below w.heap.size w W) := by rw [hW]; exact Below_alloc2 _ _
  have hBox : Hid (Box W (w.heap.size + 1) #[.int .i64 0, .bool false, .int .i64 0, .slice none 0 0, .slice none 0 0] 41) := by rw [hW]; exact Box.new (by simp)
  have hBoc : Hid (Box W w.heap.size #[.int .i64 9, encStr name, encStr other, .int .i64 (off : Int), .int .i64 (count : Int), .int .i64 0, .int .i64 0, .slice ad ld cd] 30) := by rw [hW]; exact Box.alloc (Box.new rfl) _
  have hsz : Hid (W.heap.size = w.heap.size + 2) := by rw [hW]; show _ = _; simp
  have HSd := Lib.hid (Thing.below (t := thSt hs mo ms Fz po ps) HS.out hB.out.drew)
  have HOS := Lib.hid (StOk.snaps HSd.out)
  have b0 : W.cell? ⟨hs, 1, none⟩ = some (.map (some ms)) := (HS.out.box.below hB.out hsl).cell 1
  have k1 : W.cell? ⟨w.heap.size, 2, none⟩ = some (encStr other) := hBoc.out.cell 2
  have kk0 : W.cell? ⟨w.heap.size, 0, none⟩ = some (.int .i64 9) := hBoc.out.cell 0
  have kk1 : W.cell? ⟨w.heap.size, 1, none⟩ = some (encStr name) := hBoc.out.cell 1
  have bo : W.cell? ⟨hs, 0, none⟩ = some (.map (some mo)) := (HS.out.box.below hB.out hsl).cell 0
  have bf : W.frozen? ⟨hs, 0, none⟩ = false := (HS.out.box.below hB.out hsl).free 0
  have hslW : hs < W.heap.size := by have := hsz.out; omega
  clear hS hc
  obtain ⟨g, hg⟩ : ∃ g, Hid (getP other ps = g) := ⟨_, rfl⟩
  have HH : Hid (Maps.has (datP smV ps) (.string other) = g.isSome) := by show _ = _; rw [has_get, hg.out]
  rw [HG.out]
  simp only [hg.out]
  clear HG
  cases g with
  | none =>
    have HH2 : Hid (Maps.has (datP smV ps) (.string other) = false) := HH.out
    simp only
    have HLQ : Hid (∀ w' : World, OM smV w' ms ps → (Instr.lookup 58 (.map (some ms)) (encStr other) true).run Try.prog w' = .ok (.tuple #[.map none, .bool false]) w') := fun w' h => by
      obtain ⟨v, q, h1, h2⟩ := World.ownsMap.look_ok h keyS Try.underlying58 (zeroS _) (show RV (.map none) = some (.held (.map none), []) from rfl) (keyN other hol)
      have e := look_val h2
      rw [hg.out] at e
      rw [HH2.out] at h1
      rw [h1, e]
      try rfl
    unfold cmV
    go_enter Try.func26, Try.ntmps26
    go_wp2_with fail
    rw [← hW]
    clear hW
    have HSS : Hid (W.drew.cell? ⟨hs, 1, none⟩ = some (.map (some ms)) ∧ W.drew.cell? ⟨w.heap.size, 2, none⟩ = some (encStr other) ∧ OM smV W.drew ms ps) := ⟨b0, k1, HOS.out⟩
    refine wp_region_held_drew (S := fun w' => w'.cell? ⟨hs, 1, none⟩ = some (.map (some ms)) ∧ w'.cell? ⟨w.heap.size, 2, none⟩ = some (encStr other) ∧ OM smV w' ms ps) (by kernel_rfl) HSS.out (fun hHeld => ?_)
    refine wpAnyH_take (i := 0) (v := .pointer (some ⟨hs, 0, none⟩)) rfl (by kernel_rfl) (by kernel_rfl) (by kernel_rfl) (fun _ _ _ h => h) (Or.inl ⟨by rfl, ?_⟩) (by assumption) ?_
    · intro w' hS
      obtain ⟨u1, u2, u3⟩ := hS
      go_simp
      done
    try simp only [Act.put, List.getElem_toArray, List.getElem_cons_zero, List.getElem_cons_succ, List.setIfInBounds_toArray, List.set_cons_zero, List.set_cons_succ]
    refine wpAnyH_take (i := 1) (v := .pointer (some ⟨hs, 0, none⟩)) rfl (by kernel_rfl) (by kernel_rfl) (by kernel_rfl) (fun _ _ _ h => h) (Or.inl ⟨by rfl, ?_⟩) (by assumption) ?_
    · intro w' hS
      obtain ⟨u1, u2, u3⟩ := hS
      go_simp
      done
    try simp only [Act.put, List.getElem_toArray, List.getElem_cons_zero, List.getElem_cons_succ, List.setIfInBounds_toArray, List.set_cons_zero, List.set_cons_succ]
    refine wpAnyH_take (i := 2) (v := .pointer (some ⟨hs, 1, none⟩)) rfl (by kernel_rfl) (by kernel_rfl) (by kernel_rfl) (fun _ _ _ h => h) (Or.inl ⟨by rfl, ?_⟩) (by assumption) ?_
    · intro w' hS
      obtain ⟨u1, u2, u3⟩ := hS
      go_simp
      done
    try simp only [Act.put, List.getElem_toArray, List.getElem_cons_zero, List.getElem_cons_succ, List.setIfInBounds_toArray, List.set_cons_zero, List.set_cons_succ]
    refine wpAnyH_take (i := 3) (v := .map (some ms)) rfl (by kernel_rfl) (by kernel_rfl) (by kernel_rfl) (fun _ _ _ h => h) (Or.inl ⟨by rfl, ?_⟩) (by assumption) ?_
    · intro w' hS
      obtain ⟨u1, u2, u3⟩ := hS
      go_simp
      done
    try simp only [Act.put, List.getElem_toArray, List.getElem_cons_zero, List.getElem_cons_succ, List.setIfInBounds_toArray, List.set_cons_zero, List.set_cons_succ]
    refine wpAnyH_take (i := 4) (v := .pointer (some ⟨w.heap.size, 2, none⟩)) rfl (by kernel_rfl) (by kernel_rfl) (by kernel_rfl) (fun _ _ _ h => h) (Or.inl ⟨by rfl, ?_⟩) (by assumption) ?_
    · intro w' hS
      obtain ⟨u1, u2, u3⟩ := hS
      go_simp
      done
    try simp only [Act.put, List.getElem_toArray, List.getElem_cons_zero, List.getElem_cons_succ, List.setIfInBounds_toArray, List.set_cons_zero, List.set_cons_succ]
    refine wpAnyH_take (i := 5) (v := encStr other) rfl (by kernel_rfl) (by kernel_rfl) (by kernel_rfl) (fun _ _ _ h => h) (Or.inl ⟨by rfl, ?_⟩) (by assumption) ?_
    · intro w' hS
      obtain ⟨u1, u2, u3⟩ := hS
      go_simp
      done
    try simp only [Act.put, List.getElem_toArray, List.getElem_cons_zero, List.getElem_cons_succ, List.setIfInBounds_toArray, List.set_cons_zero, List.set_cons_succ]
    refine wpAnyH_take (i := 6) (v := .tuple #[.map none, .bool false]) rfl (by kernel_rfl) (by kernel_rfl) (by kernel_rfl) (fun _ _ _ h => h) (Or.inl ⟨by rfl, ?_⟩) (by assumption) ?_
    · intro w' hS
      obtain ⟨u1, u2, u3⟩ := hS
      have hlk := HLQ.out w' u3
      clear HLQ
      go_simp
      done
    try simp only [Act.put, List.getElem_toArray, List.getElem_cons_zero, List.getElem_cons_succ, List.setIfInBounds_toArray, List.set_cons_zero, List.set_cons_succ]
    refine wpAnyH_take (i := 7) (v := .tuple #[.map none, .bool false]) rfl (by kernel_rfl) (by kernel_rfl) (by kernel_rfl) (fun _ _ _ h => h) (Or.inl ⟨by rfl, ?_⟩) (by assumption) ?_
    · intro w' hS
      obtain ⟨u1, u2, u3⟩ := hS
      go_simp
      done
    try simp only [Act.put, List.getElem_toArray, List.getElem_cons_zero, List.getElem_cons_succ, List.setIfInBounds_toArray, List.set_cons_zero, List.set_cons_succ]
    refine wpAnyH_take (i := 8) (v := .map none) rfl (by kernel_rfl) (by kernel_rfl) (by kernel_rfl) (fun _ _ _ h => h) (Or.inl ⟨by rfl, ?_⟩) (by assumption) ?_
    · intro w' hS
      obtain ⟨u1, u2, u3⟩ := hS
      go_simp
      done
    try simp only [Act.put, List.getElem_toArray, List.getElem_cons_zero, List.getElem_cons_succ, List.setIfInBounds_toArray, List.set_cons_zero, List.set_cons_succ]
    refine wpAnyH_take (i := 9) (v := .bool false) rfl (by kernel_rfl) (by kernel_rfl) (by kernel_rfl) (fun _ _ _ h => h) (Or.inl ⟨by rfl, ?_⟩) (by assumption) ?_
    · intro w' hS
      obtain ⟨u1, u2, u3⟩ := hS
      go_simp
      done
    try simp only [Act.put, List.getElem_toArray, List.getElem_cons_zero, List.getElem_cons_succ, List.setIfInBounds_toArray, List.set_cons_zero, List.set_cons_succ]
    refine wpAnyH_take (i := 10) (v := .map none) rfl (by kernel_rfl) (by kernel_rfl) (by kernel_rfl) (fun _ _ _ h => h) (Or.inl ⟨by rfl, ?_⟩) (by assumption) ?_
    · intro w' hS
      obtain ⟨u1, u2, u3⟩ := hS
      go_simp
      done
    try simp only [Act.put, List.getElem_toArray, List.getElem_cons_zero, List.getElem_cons_succ, List.setIfInBounds_toArray, List.set_cons_zero, List.set_cons_succ]
    refine wpAnyH_take (i := 11) (v := .bool false) rfl (by kernel_rfl) (by kernel_rfl) (by kernel_rfl) (fun _ _ _ h => h) (Or.inl ⟨by rfl, ?_⟩) (by assumption) ?_
    · intro w' hS
      obtain ⟨u1, u2, u3⟩ := hS
      go_simp
      done
    try simp only [Act.put, List.getElem_toArray, List.getElem_cons_zero, List.getElem_cons_succ, List.setIfInBounds_toArray, List.set_cons_zero, List.set_cons_succ]
    refine wpAnyH_done (by kernel_rfl) ?_ _
    clear hHeld
    go_wp2_with (first
      | (go_at_call 23; refine (noW 6 _).mono ?_; rintro e w5 ⟨rfl, hb⟩; have HB5 := Lib.hid hb; clear hb; have hBox5 := Lib.hid (Box.below hBox.out (((Below.refl _ W).drew).trans HB5.out) (by show _ < W.heap.size; have := hsz.out; omega)))
      | (refine wpList_store_box rfl 41 (.tmp 4) (.tmp 47) rfl (w.heap.size + 1) _ rfl rfl 41 _ hBox5.out (by kernel_rfl) rfl (by rfl) ?_; intro w6 hb6 hg6; have HB3 := Lib.hid hb6; have HG6 := Lib.hid hg6; clear hb6 hg6)
      | fail)
    refine bodyPost_ret (results_boxP Try.results26 _ _ (w.heap.size + 1) _ _ HB3.out _ rfl Try.underlying41 rfl (by kernel_rfl)) rfl ?_
    exact done_no HS.out (hB.out.drew.trans (HB5.out.mono (by show w.heap.size ≤ W.heap.size; have := hsz.out; omega))) HG6.out (by omega) 6 s hpo hps rfl
  | some g =>
    obtain ⟨k, m⟩ := g
    have HH2 : Hid (Maps.has (datP smV ps) (.string other) = true) := HH.out
    have HLK : Hid (∀ v q, RV v = some ((datP smV ps).atKey (.string other) (.held (.map none)), q) → v = .map (some k)) := fun v q hv => by
      have := look_val hv
      rw [hg.out] at this
      exact this
    have HSH : Hid (Fz k ∧ OM obV w k m ∧ ∀ q ∈ m, ObOk w Fz q.2) := by
      obtain ⟨p, hp, _, hp2⟩ := mem_getP hg.out
      have := HS.out.shots p hp
      rw [hp2] at this
      exact this
    simp only
    rw [if_pos trivial]
    have HLQ : Hid (∀ w' : World, OM smV w' ms ps → (Instr.lookup 58 (.map (some ms)) (encStr other) true).run Try.prog w' = .ok (.tuple #[.map (some k), .bool true]) w') := fun w' h => by
      obtain ⟨v, q, h1, h2⟩ := World.ownsMap.look_ok h keyS Try.underlying58 (zeroS _) (show RV (.map none) = some (.held (.map none), []) from rfl) (keyN other hol)
      have e := look_val h2
      rw [hg.out] at e
      rw [HH2.out] at h1
      rw [h1, e]
      try rfl
    unfold cmV
    go_enter Try.func26, Try.ntmps26
    go_wp2_with fail
    rw [← hW]
    clear hW
    have HSS : Hid (W.drew.cell? ⟨hs, 1, none⟩ = some (.map (some ms)) ∧ W.drew.cell? ⟨w.heap.size, 2, none⟩ = some (encStr other) ∧ OM smV W.drew ms ps) := ⟨b0, k1, HOS.out⟩
    refine wp_region_held_drew (S := fun w' => w'.cell? ⟨hs, 1, none⟩ = some (.map (some ms)) ∧ w'.cell? ⟨w.heap.size, 2, none⟩ = some (encStr other) ∧ OM smV w' ms ps) (by kernel_rfl) HSS.out (fun hHeld => ?_)
    refine wpAnyH_take (i := 0) (v := .pointer (some ⟨hs, 0, none⟩)) rfl (by kernel_rfl) (by kernel_rfl) (by kernel_rfl) (fun _ _ _ h => h) (Or.inl ⟨by rfl, ?_⟩) (by assumption) ?_
    · intro w' hS
      obtain ⟨u1, u2, u3⟩ := hS
      go_simp
      done
    try simp only [Act.put, List.getElem_toArray, List.getElem_cons_zero, List.getElem_cons_succ, List.setIfInBounds_toArray, List.set_cons_zero, List.set_cons_succ]
    refine wpAnyH_take (i := 1) (v := .pointer (some ⟨hs, 0, none⟩)) rfl (by kernel_rfl) (by kernel_rfl) (by kernel_rfl) (fun _ _ _ h => h) (Or.inl ⟨by rfl, ?_⟩) (by assumption) ?_
    · intro w' hS
      obtain ⟨u1, u2, u3⟩ := hS
      go_simp
      done
    try simp only [Act.put, List.getElem_toArray, List.getElem_cons_zero, List.getElem_cons_succ, List.setIfInBounds_toArray, List.set_cons_zero, List.set_cons_succ]
    refine wpAnyH_take (i := 2) (v := .pointer (some ⟨hs, 1, none⟩)) rfl (by kernel_rfl) (by kernel_rfl) (by kernel_rfl) (fun _ _ _ h => h) (Or.inl ⟨by rfl, ?_⟩) (by assumption) ?_
    · intro w' hS
      obtain ⟨u1, u2, u3⟩ := hS
      go_simp
      done
    try simp only [Act.put, List.getElem_toArray, List.getElem_cons_zero, List.getElem_cons_succ, List.setIfInBounds_toArray, List.set_cons_zero, List.set_cons_succ]
    refine wpAnyH_take (i := 3) (v := .map (some ms)) rfl (by kernel_rfl) (by kernel_rfl) (by kernel_rfl) (fun _ _ _ h => h) (Or.inl ⟨by rfl, ?_⟩) (by assumption) ?_
    · intro w' hS
      obtain ⟨u1, u2, u3⟩ := hS
      go_simp
      done
    try simp only [Act.put, List.getElem_toArray, List.getElem_cons_zero, List.getElem_cons_succ, List.setIfInBounds_toArray, List.set_cons_zero, List.set_cons_succ]
    refine wpAnyH_take (i := 4) (v := .pointer (some ⟨w.heap.size, 2, none⟩)) rfl (by kernel_rfl) (by kernel_rfl) (by kernel_rfl) (fun _ _ _ h => h) (Or.inl ⟨by rfl, ?_⟩) (by assumption) ?_
    · intro w' hS
      obtain ⟨u1, u2, u3⟩ := hS
      go_simp
      done
    try simp only [Act.put, List.getElem_toArray, List.getElem_cons_zero, List.getElem_cons_succ, List.setIfInBounds_toArray, List.set_cons_zero, List.set_cons_succ]
    refine wpAnyH_take (i := 5) (v := encStr other) rfl (by kernel_rfl) (by kernel_rfl) (by kernel_rfl) (fun _ _ _ h => h) (Or.inl ⟨by rfl, ?_⟩) (by assumption) ?_
    · intro w' hS
      obtain ⟨u1, u2, u3⟩ := hS
      go_simp
      done
    try simp only [Act.put, List.getElem_toArray, List.getElem_cons_zero, List.getElem_cons_succ, List.setIfInBounds_toArray, List.set_cons_zero, List.set_cons_succ]
    refine wpAnyH_take (i := 6) (v := .tuple #[.map (some k), .bool true]) rfl (by kernel_rfl) (by kernel_rfl) (by kernel_rfl) (fun _ _ _ h => h) (Or.inl ⟨by rfl, ?_⟩) (by assumption) ?_
    · intro w' hS
      obtain ⟨u1, u2, u3⟩ := hS
      have hlk := HLQ.out w' u3
      clear HLQ
      go_simp
      done
    try simp only [Act.put, List.getElem_toArray, List.getElem_cons_zero, List.getElem_cons_succ, List.setIfInBounds_toArray, List.set_cons_zero, List.set_cons_succ]
    refine wpAnyH_take (i := 7) (v := .tuple #[.map (some k), .bool true]) rfl (by kernel_rfl) (by kernel_rfl) (by kernel_rfl) (fun _ _ _ h => h) (Or.inl ⟨by rfl, ?_⟩) (by assumption) ?_
    · intro w' hS
      obtain ⟨u1, u2, u3⟩ := hS
      go_simp
      done
    try simp only [Act.put, List.getElem_toArray, List.getElem_cons_zero, List.getElem_cons_succ, List.setIfInBounds_toArray, List.set_cons_zero, List.set_cons_succ]
    refine wpAnyH_take (i := 8) (v := .map (some k)) rfl (by kernel_rfl) (by kernel_rfl) (by kernel_rfl) (fun _ _ _ h => h) (Or.inl ⟨by rfl, ?_⟩) (by assumption) ?_
    · intro w' hS
      obtain ⟨u1, u2, u3⟩ := hS
      go_simp
      done
    try simp only [Act.put, List.getElem_toArray, List.getElem_cons_zero, List.getElem_cons_succ, List.setIfInBounds_toArray, List.set_cons_zero, List.set_cons_succ]
    refine wpAnyH_take (i := 9) (v := .bool true) rfl (by kernel_rfl) (by kernel_rfl) (by kernel_rfl) (fun _ _ _ h => h) (Or.inl ⟨by rfl, ?_⟩) (by assumption) ?_
    · intro w' hS
      obtain ⟨u1, u2, u3⟩ := hS
      go_simp
      done
    try simp only [Act.put, List.getElem_toArray, List.getElem_cons_zero, List.getElem_cons_succ, List.setIfInBounds_toArray, List.set_cons_zero, List.set_cons_succ]
    refine wpAnyH_take (i := 10) (v := .map (some k)) rfl (by kernel_rfl) (by kernel_rfl) (by kernel_rfl) (fun _ _ _ h => h) (Or.inl ⟨by rfl, ?_⟩) (by assumption) ?_
    · intro w' hS
      obtain ⟨u1, u2, u3⟩ := hS
      go_simp
      done
    try simp only [Act.put, List.getElem_toArray, List.getElem_cons_zero, List.getElem_cons_succ, List.setIfInBounds_toArray, List.set_cons_zero, List.set_cons_succ]
    refine wpAnyH_take (i := 11) (v := .bool true) rfl (by kernel_rfl) (by kernel_rfl) (by kernel_rfl) (fun _ _ _ h => h) (Or.inl ⟨by rfl, ?_⟩) (by assumption) ?_
    · intro w' hS
      obtain ⟨u1, u2, u3⟩ := hS
      go_simp
      done
    try simp only [Act.put, List.getElem_toArray, List.getElem_cons_zero, List.getElem_cons_succ, List.setIfInBounds_toArray, List.set_cons_zero, List.set_cons_succ]
    refine wpAnyH_done (by kernel_rfl) ?_ _
    clear hHeld
    have HC := Lib.hid (cloneM k m W.drew (HSH.out.2.1.keep ((hB.out.drew).block k HSH.out.2.1.lt)))
    go_wp2_with (first
      | (go_at_call 33; refine HC.out.mono ?_; rintro e w3 ⟨rfl, hm, hb⟩; have HM3 := Lib.hid hm; have HB3' := Lib.hid hb; clear hm hb; have bo3 : w3.cell? ⟨hs, 0, none⟩ = some (.map (some mo)) := ((((Below.refl _ W).drew).trans HB3'.out).cell (by show _ < W.heap.size; exact hslW)).trans bo; have bf3 : w3.frozen? ⟨hs, 0, none⟩ = false := (HS.out.box.below (hB.out.drew.trans (HB3'.out.mono (by show w.heap.size ≤ W.heap.size; have := hsz.out; omega))) hsl).free 0; have hs3 := HB3'.out.size; have hBox3 := Lib.hid (Box.other (hBox.out.below (((Below.refl _ W).drew).trans HB3'.out) (by show _ < W.heap.size; have := hsz.out; omega)) ⟨hs, 0, none⟩ (by show hs ≠ w.heap.size + 1; omega) (.map (some W.heap.size))))
      | (refine wpList_store_box rfl 41 (.tmp 4) (.tmp 80) rfl (w.heap.size + 1) _ rfl rfl 41 _ hBox3.out (by kernel_rfl) rfl (by rfl) ?_; intro w6 hb6 hg6; have HB3 := Lib.hid hb6; have HG6 := Lib.hid hg6; clear hb6 hg6)
      | fail)
    refine bodyPost_ret (results_boxP Try.results26 _ _ (w.heap.size + 1) _ _ HB3.out _ rfl Try.underlying41 rfl (by kernel_rfl)) rfl ?_
    have hB3 : Below w.heap.size w w3 := hB.out.drew.trans (HB3'.out.mono (by show w.heap.size ≤ W.heap.size; have := hsz.out; omega))
    have T := StOk.turnB HS.out m hB3 W.heap.size (by have := hsz.out; omega) HM3.out HSH.out.2.2
    refine ⟨none, 0, 0, none, 0, 0, fun _ => False, W.heap.size, ms, Fz, m, ps, rfl, T.told _ (noP 0) _ (no_at _ _ 0) (fun b hb => hb.elim) HG6.out (by omega) (fun hf => ?_), ⟨rfl, hps⟩⟩
    rcases hf with hf | hf | hf | hf
    · omega
    · have := hsz.out; omega
    · have := HS.out.snaps.lt; omega
    · have := HS.out.lt _ hf; omega
set_option maxHeartbeats 8000000 in
theorem snap10 (hs mo ms : Nat) (Fz : Nat → Prop) (po : PM Ob) (ps : PM (Nat × PM Ob)) (c : Cm) (ad : Option Addr) (ld cd : Nat) (w : World) (hS : StOk hs mo ms Fz po ps w) (hc : c.Ok) (hk : c.kind = 10) (s : Pl) (hpo : erO po = s.objs) (hps : erS ps = s.snaps) (hok : s.Ok) :
    Calls Try.prog 26 #[.pointer (some ⟨hs, 0, none⟩), .agg (cmV c ad ld cd)] w (Done hs (thSt hs mo ms Fz po ps) (snapP s c) w) := by
  have hol := hc.olen
  have hnl := hc.nlen
  have HFE : Hid (∀ (k : Nat) (m : PM Ob) (x : Ob) (W : World), getP c.other ps = some (k, m) → getP c.name m = some x → Below w.heap.size w W → Calls Try.prog 34 #[.slice x.a x.len x.cap, .agg (cmV c ad ld cd)] W fun e w' => ∃ a l c', e = .returned (.agg (tdV 0 x.len a l c' none 0 0)) ∧ Hid (NewB W w' a l c' (readP x.bs c.off c.count))) := by
    intro k m x W h1 h2 hb
    obtain ⟨p, hp, _, hp2⟩ := mem_getP h1
    obtain ⟨q, hq, _, hq2⟩ := mem_getP h2
    have hx := ((hS.shots p hp).2.2) q (by rw [hp2]; exact hq)
    rw [hq2] at hx
    have hlen := ((hok.shots (p.1, erO p.2.2) (by rw [← hps]; exact List.mem_map_of_mem hp)).2) (q.1, q.2.bs) (by rw [hp2]; exact List.mem_map_of_mem hq)
    rw [hq2] at hlen
    exact fetchW x c ad ld cd W (hx.1.below hb) (by rw [← hx.1.hlen]; exact hlen) hc
  have HG : Hid (snapP s c = match getP c.other ps with
    | none => (noP 6, s)
    | some l => if c.kind = 9 then (noP 0, { s with objs := erO l.2 }) else if c.kind = 10 then (noP 0, { s with snaps := delP c.other s.snaps }) else match getP c.name l.2 with
      | none => (noP 6, s)
      | some x => (fetchP x.bs c, s)) := by
    show _ = _
    unfold snapP
    rw [if_neg (by omega), ← hps, erS_get]
    cases getP c.other ps with
    | none => rfl
    | some l =>
      simp only [Option.map_some, erO_get]
      cases getP c.name l.2 <;> rfl
  have HLEN : Hid (∀ (k : Nat) (m : PM Ob) (x : Ob), getP c.other ps = some (k, m) → getP c.name m = some x → x.bs.length = x.len) := by
    intro k m x h1 h2
    obtain ⟨p, hp, _, hp2⟩ := mem_getP h1
    obtain ⟨q, hq, _, hq2⟩ := mem_getP h2
    have hx := ((hS.shots p hp).2.2) q (by rw [hp2]; exact hq)
    rw [hq2] at hx
    exact hx.1.hlen
  obtain ⟨kind, name, other, off, count, data⟩ := c
  obtain rfl : kind = 10 := hk
  simp only at hol hnl
  have HS := Lib.hid hS
  have hsl := hS.box.lt
  have hne : hs ≠ w.heap.size := by omega
  have hne1 : hs ≠ w.heap.size + 1 := by omega
  obtain ⟨W, hW⟩ : ∃ W, W = (w.alloc (.cells #[.int .i64 10, encStr name, encStr other, .int .i64 (off : Int), .int .i64 (count : Int), .int .i64 0, .int .i64 0, .slice ad ld cd] 30)).alloc (.cells #[.int .i64 0, .bool false, .int .i64 0, .slice none 0 0, .slice none 0 0] 41) := ⟨_, rfl⟩
  have hB : Hid (Below w.heap.size w W) := by rw [hW]; exact Below_alloc2 _ _
  have hBox : Hid (Box W (w.heap.size + 1) #[.int .i64 0, .bool false, .int .i64 0, .slice none 0 0, .slice none 0 0] 41) := by rw [hW]; exact Box.new (by simp)
  have hBoc : Hid (Box W w.heap.size #[.int .i64 10, encStr name, encStr other, .int .i64 (off : Int), .int .i64 (count : Int), .int .i64 0, .int .i64 0, .slice ad ld cd] 30) := by rw [hW]; exact Box.alloc (Box.new rfl) _
  have hsz : Hid (W.heap.size = w.heap.size + 2) := by rw [hW]; show _ = _; simp
  have HSd := Lib.hid (Thing.below (t := thSt hs mo ms Fz po ps) HS.out hB.out.drew)
  have HOS := Lib.hid (StOk.snaps HSd.out)
  have b0 : W.cell? ⟨hs, 1, none⟩ = some (.map (some ms)) := (HS.out.box.below hB.out hsl).cell 1
  have k1 : W.cell? ⟨w.heap.size, 2, none⟩ = some (encStr other) := hBoc.out.cell 2
  have kk0 : W.cell? ⟨w.heap.size, 0, none⟩ = some (.int .i64 10) := hBoc.out.cell 0
  have kk1 : W.cell? ⟨w.heap.size, 1, none⟩ = some (encStr name) := hBoc.out.cell 1
  have bo : W.cell? ⟨hs, 0, none⟩ = some (.map (some mo)) := (HS.out.box.below hB.out hsl).cell 0
  have bf : W.frozen? ⟨hs, 0, none⟩ = false := (HS.out.box.below hB.out hsl).free 0
  have hslW : hs < W.heap.size := by have := hsz.out; omega
  clear hS hc
  obtain ⟨g, hg⟩ : ∃ g, Hid (getP other ps = g) := ⟨_, rfl⟩
  have HH : Hid (Maps.has (datP smV ps) (.string other) = g.isSome) := by show _ = _; rw [has_get, hg.out]
  rw [HG.out]
  simp only [hg.out]
  clear HG
  cases g with
  | none =>
    have HH2 : Hid (Maps.has (datP smV ps) (.string other) = false) := HH.out
    simp only
    have HLQ : Hid (∀ w' : World, OM smV w' ms ps → (Instr.lookup 58 (.map (some ms)) (encStr other) true).run Try.prog w' = .ok (.tuple #[.map none, .bool false]) w') := fun w' h => by
      obtain ⟨v, q, h1, h2⟩ := World.ownsMap.look_ok h keyS Try.underlying58 (zeroS _) (show RV (.map none) = some (.held (.map none), []) from rfl) (keyN other hol)
      have e := look_val h2
      rw [hg.out] at e
      rw [HH2.out] at h1
      rw [h1, e]
      try rfl
    unfold cmV
    go_enter Try.func26, Try.ntmps26
    go_wp2_with fail
    rw [← hW]
    clear hW
    have HSS : Hid (W.drew.cell? ⟨hs, 1, none⟩ = some (.map (some ms)) ∧ W.drew.cell? ⟨w.heap.size, 2, none⟩ = some (encStr other) ∧ OM smV W.drew ms ps) := ⟨b0, k1, HOS.out⟩
    refine wp_region_held_drew (S := fun w' => w'.cell? ⟨hs, 1, none⟩ = some (.map (some ms)) ∧ w'.cell? ⟨w.heap.size, 2, none⟩ = some (encStr other) ∧ OM smV w' ms ps) (by kernel_rfl) HSS.out (fun hHeld => ?_)
    refine wpAnyH_take (i := 0) (v := .pointer (some ⟨hs, 0, none⟩)) rfl (by kernel_rfl) (by kernel_rfl) (by kernel_rfl) (fun _ _ _ h => h) (Or.inl ⟨by rfl, ?_⟩) (by assumption) ?_
    · intro w' hS
      obtain ⟨u1, u2, u3⟩ := hS
      go_simp
      done
    try simp only [Act.put, List.getElem_toArray, List.getElem_cons_zero, List.getElem_cons_succ, List.setIfInBounds_toArray, List.set_cons_zero, List.set_cons_succ]
    refine wpAnyH_take (i := 1) (v := .pointer (some ⟨hs, 0, none⟩)) rfl (by kernel_rfl) (by kernel_rfl) (by kernel_rfl) (fun _ _ _ h => h) (Or.inl ⟨by rfl, ?_⟩) (by assumption) ?_
    · intro w' hS
      obtain ⟨u1, u2, u3⟩ := hS
      go_simp
      done
    try simp only [Act.put, List.getElem_toArray, List.getElem_cons_zero, List.getElem_cons_succ, List.setIfInBounds_toArray, List.set_cons_zero, List.set_cons_succ]
    refine wpAnyH_take (i := 2) (v := .pointer (some ⟨hs, 1, none⟩)) rfl (by kernel_rfl) (by kernel_rfl) (by kernel_rfl) (fun _ _ _ h => h) (Or.inl ⟨by rfl, ?_⟩) (by assumption) ?_
    · intro w' hS
      obtain ⟨u1, u2, u3⟩ := hS
      go_simp
      done
    try simp only [Act.put, List.getElem_toArray, List.getElem_cons_zero, List.getElem_cons_succ, List.setIfInBounds_toArray, List.set_cons_zero, List.set_cons_succ]
    refine wpAnyH_take (i := 3) (v := .map (some ms)) rfl (by kernel_rfl) (by kernel_rfl) (by kernel_rfl) (fun _ _ _ h => h) (Or.inl ⟨by rfl, ?_⟩) (by assumption) ?_
    · intro w' hS
      obtain ⟨u1, u2, u3⟩ := hS
      go_simp
      done
    try simp only [Act.put, List.getElem_toArray, List.getElem_cons_zero, List.getElem_cons_succ, List.setIfInBounds_toArray, List.set_cons_zero, List.set_cons_succ]
    refine wpAnyH_take (i := 4) (v := .pointer (some ⟨w.heap.size, 2, none⟩)) rfl (by kernel_rfl) (by kernel_rfl) (by kernel_rfl) (fun _ _ _ h => h) (Or.inl ⟨by rfl, ?_⟩) (by assumption) ?_
    · intro w' hS
      obtain ⟨u1, u2, u3⟩ := hS
      go_simp
      done
    try simp only [Act.put, List.getElem_toArray, List.getElem_cons_zero, List.getElem_cons_succ, List.setIfInBounds_toArray, List.set_cons_zero, List.set_cons_succ]
    refine wpAnyH_take (i := 5) (v := encStr other) rfl (by kernel_rfl) (by kernel_rfl) (by kernel_rfl) (fun _ _ _ h => h) (Or.inl ⟨by rfl, ?_⟩) (by assumption) ?_
    · intro w' hS
      obtain ⟨u1, u2, u3⟩ := hS
      go_simp
      done
    try simp only [Act.put, List.getElem_toArray, List.getElem_cons_zero, List.getElem_cons_succ, List.setIfInBounds_toArray, List.set_cons_zero, List.set_cons_succ]
    refine wpAnyH_take (i := 6) (v := .tuple #[.map none, .bool false]) rfl (by kernel_rfl) (by kernel_rfl) (by kernel_rfl) (fun _ _ _ h => h) (Or.inl ⟨by rfl, ?_⟩) (by assumption) ?_
    · intro w' hS
      obtain ⟨u1, u2, u3⟩ := hS
      have hlk := HLQ.out w' u3
      clear HLQ
      go_simp
      done
    try simp only [Act.put, List.getElem_toArray, List.getElem_cons_zero, List.getElem_cons_succ, List.setIfInBounds_toArray, List.set_cons_zero, List.set_cons_succ]
    refine wpAnyH_take (i := 7) (v := .tuple #[.map none, .bool false]) rfl (by kernel_rfl) (by kernel_rfl) (by kernel_rfl) (fun _ _ _ h => h) (Or.inl ⟨by rfl, ?_⟩) (by assumption) ?_
    · intro w' hS
      obtain ⟨u1, u2, u3⟩ := hS
      go_simp
      done
    try simp only [Act.put, List.getElem_toArray, List.getElem_cons_zero, List.getElem_cons_succ, List.setIfInBounds_toArray, List.set_cons_zero, List.set_cons_succ]
    refine wpAnyH_take (i := 8) (v := .map none) rfl (by kernel_rfl) (by kernel_rfl) (by kernel_rfl) (fun _ _ _ h => h) (Or.inl ⟨by rfl, ?_⟩) (by assumption) ?_
    · intro w' hS
      obtain ⟨u1, u2, u3⟩ := hS
      go_simp
      done
    try simp only [Act.put, List.getElem_toArray, List.getElem_cons_zero, List.getElem_cons_succ, List.setIfInBounds_toArray, List.set_cons_zero, List.set_cons_succ]
    refine wpAnyH_take (i := 9) (v := .bool false) rfl (by kernel_rfl) (by kernel_rfl) (by kernel_rfl) (fun _ _ _ h => h) (Or.inl ⟨by rfl, ?_⟩) (by assumption) ?_
    · intro w' hS
      obtain ⟨u1, u2, u3⟩ := hS
      go_simp
      done
    try simp only [Act.put, List.getElem_toArray, List.getElem_cons_zero, List.getElem_cons_succ, List.setIfInBounds_toArray, List.set_cons_zero, List.set_cons_succ]
    refine wpAnyH_take (i := 10) (v := .map none) rfl (by kernel_rfl) (by kernel_rfl) (by kernel_rfl) (fun _ _ _ h => h) (Or.inl ⟨by rfl, ?_⟩) (by assumption) ?_
    · intro w' hS
      obtain ⟨u1, u2, u3⟩ := hS
      go_simp
      done
    try simp only [Act.put, List.getElem_toArray, List.getElem_cons_zero, List.getElem_cons_succ, List.setIfInBounds_toArray, List.set_cons_zero, List.set_cons_succ]
    refine wpAnyH_take (i := 11) (v := .bool false) rfl (by kernel_rfl) (by kernel_rfl) (by kernel_rfl) (fun _ _ _ h => h) (Or.inl ⟨by rfl, ?_⟩) (by assumption) ?_
    · intro w' hS
      obtain ⟨u1, u2, u3⟩ := hS
      go_simp
      done
    try simp only [Act.put, List.getElem_toArray, List.getElem_cons_zero, List.getElem_cons_succ, List.setIfInBounds_toArray, List.set_cons_zero, List.set_cons_succ]
    refine wpAnyH_done (by kernel_rfl) ?_ _
    clear hHeld
    go_wp2_with (first
      | (go_at_call 23; refine (noW 6 _).mono ?_; rintro e w5 ⟨rfl, hb⟩; have HB5 := Lib.hid hb; clear hb; have hBox5 := Lib.hid (Box.below hBox.out (((Below.refl _ W).drew).trans HB5.out) (by show _ < W.heap.size; have := hsz.out; omega)))
      | (refine wpList_store_box rfl 41 (.tmp 4) (.tmp 47) rfl (w.heap.size + 1) _ rfl rfl 41 _ hBox5.out (by kernel_rfl) rfl (by rfl) ?_; intro w6 hb6 hg6; have HB3 := Lib.hid hb6; have HG6 := Lib.hid hg6; clear hb6 hg6)
      | fail)
    refine bodyPost_ret (results_boxP Try.results26 _ _ (w.heap.size + 1) _ _ HB3.out _ rfl Try.underlying41 rfl (by kernel_rfl)) rfl ?_
    exact done_no HS.out (hB.out.drew.trans (HB5.out.mono (by show w.heap.size ≤ W.heap.size; have := hsz.out; omega))) HG6.out (by omega) 6 s hpo hps rfl
  | some g =>
    obtain ⟨k, m⟩ := g
    have HH2 : Hid (Maps.has (datP smV ps) (.string other) = true) := HH.out
    have HLK : Hid (∀ v q, RV v = some ((datP smV ps).atKey (.string other) (.held (.map none)), q) → v = .map (some k)) := fun v q hv => by
      have := look_val hv
      rw [hg.out] at this
      exact this
    have HSH : Hid (Fz k ∧ OM obV w k m ∧ ∀ q ∈ m, ObOk w Fz q.2) := by
      obtain ⟨p, hp, _, hp2⟩ := mem_getP hg.out
      have := HS.out.shots p hp
      rw [hp2] at this
      exact this
    simp only
    rw [if_neg (by decide), if_pos trivial]
    have HLQ : Hid (∀ w' : World, OM smV w' ms ps → (Instr.lookup 58 (.map (some ms)) (encStr other) true).run Try.prog w' = .ok (.tuple #[.map (some k), .bool true]) w') := fun w' h => by
      obtain ⟨v, q, h1, h2⟩ := World.ownsMap.look_ok h keyS Try.underlying58 (zeroS _) (show RV (.map none) = some (.held (.map none), []) from rfl) (keyN other hol)
      have e := look_val h2
      rw [hg.out] at e
      rw [HH2.out] at h1
      rw [h1, e]
      try rfl
    unfold cmV
    go_enter Try.func26, Try.ntmps26
    go_wp2_with fail
    rw [← hW]
    clear hW
    have HSS : Hid (W.drew.cell? ⟨hs, 1, none⟩ = some (.map (some ms)) ∧ W.drew.cell? ⟨w.heap.size, 2, none⟩ = some (encStr other) ∧ OM smV W.drew ms ps) := ⟨b0, k1, HOS.out⟩
    refine wp_region_held_drew (S := fun w' => w'.cell? ⟨hs, 1, none⟩ = some (.map (some ms)) ∧ w'.cell? ⟨w.heap.size, 2, none⟩ = some (encStr other) ∧ OM smV w' ms ps) (by kernel_rfl) HSS.out (fun hHeld => ?_)
    refine wpAnyH_take (i := 0) (v := .pointer (some ⟨hs, 0, none⟩)) rfl (by kernel_rfl) (by kernel_rfl) (by kernel_rfl) (fun _ _ _ h => h) (Or.inl ⟨by rfl, ?_⟩) (by assumption) ?_
    · intro w' hS
      obtain ⟨u1, u2, u3⟩ := hS
      go_simp
      done
    try simp only [Act.put, List.getElem_toArray, List.getElem_cons_zero, List.getElem_cons_succ, List.setIfInBounds_toArray, List.set_cons_zero, List.set_cons_succ]
    refine wpAnyH_take (i := 1) (v := .pointer (some ⟨hs, 0, none⟩)) rfl (by kernel_rfl) (by kernel_rfl) (by kernel_rfl) (fun _ _ _ h => h) (Or.inl ⟨by rfl, ?_⟩) (by assumption) ?_
    · intro w' hS
      obtain ⟨u1, u2, u3⟩ := hS
      go_simp
      done
    try simp only [Act.put, List.getElem_toArray, List.getElem_cons_zero, List.getElem_cons_succ, List.setIfInBounds_toArray, List.set_cons_zero, List.set_cons_succ]
    refine wpAnyH_take (i := 2) (v := .pointer (some ⟨hs, 1, none⟩)) rfl (by kernel_rfl) (by kernel_rfl) (by kernel_rfl) (fun _ _ _ h => h) (Or.inl ⟨by rfl, ?_⟩) (by assumption) ?_
    · intro w' hS
      obtain ⟨u1, u2, u3⟩ := hS
      go_simp
      done
    try simp only [Act.put, List.getElem_toArray, List.getElem_cons_zero, List.getElem_cons_succ, List.setIfInBounds_toArray, List.set_cons_zero, List.set_cons_succ]
    refine wpAnyH_take (i := 3) (v := .map (some ms)) rfl (by kernel_rfl) (by kernel_rfl) (by kernel_rfl) (fun _ _ _ h => h) (Or.inl ⟨by rfl, ?_⟩) (by assumption) ?_
    · intro w' hS
      obtain ⟨u1, u2, u3⟩ := hS
      go_simp
      done
    try simp only [Act.put, List.getElem_toArray, List.getElem_cons_zero, List.getElem_cons_succ, List.setIfInBounds_toArray, List.set_cons_zero, List.set_cons_succ]
    refine wpAnyH_take (i := 4) (v := .pointer (some ⟨w.heap.size, 2, none⟩)) rfl (by kernel_rfl) (by kernel_rfl) (by kernel_rfl) (fun _ _ _ h => h) (Or.inl ⟨by rfl, ?_⟩) (by assumption) ?_
    · intro w' hS
      obtain ⟨u1, u2, u3⟩ := hS
      go_simp
      done
    try simp only [Act.put, List.getElem_toArray, List.getElem_cons_zero, List.getElem_cons_succ, List.setIfInBounds_toArray, List.set_cons_zero, List.set_cons_succ]
    refine wpAnyH_take (i := 5) (v := encStr other) rfl (by kernel_rfl) (by kernel_rfl) (by kernel_rfl) (fun _ _ _ h => h) (Or.inl ⟨by rfl, ?_⟩) (by assumption) ?_
    · intro w' hS
      obtain ⟨u1, u2, u3⟩ := hS
      go_simp
      done
    try simp only [Act.put, List.getElem_toArray, List.getElem_cons_zero, List.getElem_cons_succ, List.setIfInBounds_toArray, List.set_cons_zero, List.set_cons_succ]
    refine wpAnyH_take (i := 6) (v := .tuple #[.map (some k), .bool true]) rfl (by kernel_rfl) (by kernel_rfl) (by kernel_rfl) (fun _ _ _ h => h) (Or.inl ⟨by rfl, ?_⟩) (by assumption) ?_
    · intro w' hS
      obtain ⟨u1, u2, u3⟩ := hS
      have hlk := HLQ.out w' u3
      clear HLQ
      go_simp
      done
    try simp only [Act.put, List.getElem_toArray, List.getElem_cons_zero, List.getElem_cons_succ, List.setIfInBounds_toArray, List.set_cons_zero, List.set_cons_succ]
    refine wpAnyH_take (i := 7) (v := .tuple #[.map (some k), .bool true]) rfl (by kernel_rfl) (by kernel_rfl) (by kernel_rfl) (fun _ _ _ h => h) (Or.inl ⟨by rfl, ?_⟩) (by assumption) ?_
    · intro w' hS
      obtain ⟨u1, u2, u3⟩ := hS
      go_simp
      done
    try simp only [Act.put, List.getElem_toArray, List.getElem_cons_zero, List.getElem_cons_succ, List.setIfInBounds_toArray, List.set_cons_zero, List.set_cons_succ]
    refine wpAnyH_take (i := 8) (v := .map (some k)) rfl (by kernel_rfl) (by kernel_rfl) (by kernel_rfl) (fun _ _ _ h => h) (Or.inl ⟨by rfl, ?_⟩) (by assumption) ?_
    · intro w' hS
      obtain ⟨u1, u2, u3⟩ := hS
      go_simp
      done
    try simp only [Act.put, List.getElem_toArray, List.getElem_cons_zero, List.getElem_cons_succ, List.setIfInBounds_toArray, List.set_cons_zero, List.set_cons_succ]
    refine wpAnyH_take (i := 9) (v := .bool true) rfl (by kernel_rfl) (by kernel_rfl) (by kernel_rfl) (fun _ _ _ h => h) (Or.inl ⟨by rfl, ?_⟩) (by assumption) ?_
    · intro w' hS
      obtain ⟨u1, u2, u3⟩ := hS
      go_simp
      done
    try simp only [Act.put, List.getElem_toArray, List.getElem_cons_zero, List.getElem_cons_succ, List.setIfInBounds_toArray, List.set_cons_zero, List.set_cons_succ]
    refine wpAnyH_take (i := 10) (v := .map (some k)) rfl (by kernel_rfl) (by kernel_rfl) (by kernel_rfl) (fun _ _ _ h => h) (Or.inl ⟨by rfl, ?_⟩) (by assumption) ?_
    · intro w' hS
      obtain ⟨u1, u2, u3⟩ := hS
      go_simp
      done
    try simp only [Act.put, List.getElem_toArray, List.getElem_cons_zero, List.getElem_cons_succ, List.setIfInBounds_toArray, List.set_cons_zero, List.set_cons_succ]
    refine wpAnyH_take (i := 11) (v := .bool true) rfl (by kernel_rfl) (by kernel_rfl) (by kernel_rfl) (fun _ _ _ h => h) (Or.inl ⟨by rfl, ?_⟩) (by assumption) ?_
    · intro w' hS
      obtain ⟨u1, u2, u3⟩ := hS
      go_simp
      done
    try simp only [Act.put, List.getElem_toArray, List.getElem_cons_zero, List.getElem_cons_succ, List.setIfInBounds_toArray, List.set_cons_zero, List.set_cons_succ]
    refine wpAnyH_done (by kernel_rfl) ?_ _
    clear hHeld
    have b0d : W.drew.cell? ⟨hs, 1, none⟩ = some (.map (some ms)) := b0
    have k1d : W.drew.cell? ⟨w.heap.size, 2, none⟩ = some (encStr other) := k1
    have kk0d : W.drew.cell? ⟨w.heap.size, 0, none⟩ = some (.int .i64 10) := kk0
    obtain ⟨Y, hY⟩ : ∃ Y, Y = W.drew := ⟨_, rfl⟩
    have HY := Lib.hid hY
    rw [← hY] at b0d k1d kk0d ⊢
    clear hY
    go_wp2_with fail
    go_still_tail 6, (by kernel_rfl)
    change wpList _ _ _ _ _ Y.drew
    obtain rfl := HY.out
    have hBd : Hid (Below w.heap.size w W.drew.drew) := hB.out.drew.drew
    have HSe := Lib.hid (Thing.below (t := thSt hs mo ms Fz po ps) HS.out hBd.out)
    have HOb := Lib.hid (show OM smV W.drew.drew ms ps from StOk.snaps HSe.out)
    go_wp2_with (first
      | (at_delete; refine wpList_delete_own _ rfl (.tmp 62) (.tmp 64) 58 9 rfl 57 keyS Try.underlying58 RV ms _ _ rfl HOb.out _ _ rfl (keyN other hol) ?_; intro w2 hown2 hturn2; rw [dat_del] at hown2; have HO2 := Lib.hid (OM.of hown2); have HG2 := Lib.hid hturn2.grown; clear hown2 hturn2; have hBox2 := Lib.hid (show Box w2 (w.heap.size + 1) #[.int .i64 0, .bool false, .int .i64 0, .slice none 0 0, .slice none 0 0] 41 from (grown_block HG2.out hBox.out.drew.drew.lt (by have := HS.out.snaps.lt; omega)).trans hBox.out))
      | (refine wpList_store_box rfl 41 (.tmp 4) (.tmp 80) rfl (w.heap.size + 1) _ rfl rfl 41 _ hBox2.out (by kernel_rfl) rfl (by rfl) ?_; intro w3 hb3 hg3; have HB3 := Lib.hid hb3; have HG3 := Lib.hid hg3; clear hb3 hg3)
      | fail)
    refine bodyPost_ret (results_boxP Try.results26 _ _ (w.heap.size + 1) _ _ HB3.out _ rfl Try.underlying41 rfl (by kernel_rfl)) rfl ?_
    have T1 : Turns (thSt hs mo ms Fz po ps) (thSt hs mo ms Fz po ps) w W.drew.drew := Turns.still HS.out hBd.out
    have T2 := T1.trans (StOk.turnS HSe.out (delP other ps) HG2.out HO2.out (fun p hp => HSe.out.shots p (mem_delP hp)))
    refine ⟨none, 0, 0, none, 0, 0, fun _ => False, mo, ms, Fz, po, delP other ps, rfl, T2.told (fun _ => False) (noP 0) _ (no_at _ _ 0) (fun b hb => hb.elim) HG3.out (by omega) (notFoot HS.out (by omega)), ⟨hpo, ?_⟩⟩
    show erS (delP other ps) = delP other s.snaps
    rw [← hps]; exact mapP_del _ _ _
set_option maxHeartbeats 8000000 in
theorem snap8 (hs mo ms : Nat) (Fz : Nat → Prop) (po : PM Ob) (ps : PM (Nat × PM Ob)) (c : Cm) (ad : Option Addr) (ld cd : Nat) (w : World) (hS : StOk hs mo ms Fz po ps w) (hc : c.Ok) (hk : c.kind = 8) (s : Pl) (hpo : erO po = s.objs) (hps : erS ps = s.snaps) (hok : s.Ok) :
    Calls Try.prog 26 #[.pointer (some ⟨hs, 0, none⟩), .agg (cmV c ad ld cd)] w (Done hs (thSt hs mo ms Fz po ps) (snapP s c) w) := by
  have hol := hc.olen
  have hnl := hc.nlen
  have HFE : Hid (∀ (k : Nat) (m : PM Ob) (x : Ob) (W : World), getP c.other ps = some (k, m) → getP c.name m = some x → Below w.heap.size w W → Calls Try.prog 34 #[.slice x.a x.len x.cap, .agg (cmV c ad ld cd)] W fun e w' => ∃ a l c', e = .returned (.agg (tdV 0 x.len a l c' none 0 0)) ∧ Hid (NewB W w' a l c' (readP x.bs c.off c.count))) := by
    intro k m x W h1 h2 hb
    obtain ⟨p, hp, _, hp2⟩ := mem_getP h1
    obtain ⟨q, hq, _, hq2⟩ := mem_getP h2
    have hx := ((hS.shots p hp).2.2) q (by rw [hp2]; exact hq)
    rw [hq2] at hx
    have hlen := ((hok.shots (p.1, erO p.2.2) (by rw [← hps]; exact List.mem_map_of_mem hp)).2) (q.1, q.2.bs) (by rw [hp2]; exact List.mem_map_of_mem hq)
    rw [hq2] at hlen
    exact fetchW x c ad ld cd W (hx.1.below hb) (by rw [← hx.1.hlen]; exact hlen) hc
  have HG : Hid (snapP s c = match getP c.other ps with
    | none => (noP 6, s)
    | some l => if c.kind = 9 then (noP 0, { s with objs := erO l.2 }) else if c.kind = 10 then (noP 0, { s with snaps := delP c.other s.snaps }) else match getP c.name l.2 with
      | none => (noP 6, s)
      | some x => (fetchP x.bs c, s)) := by
    show _ = _
    unfold snapP
    rw [if_neg (by omega), ← hps, erS_get]
    cases getP c.other ps with
    | none => rfl
    | some l =>
      simp only [Option.map_some, erO_get]
      cases getP c.name l.2 <;> rfl
  have HLEN : Hid (∀ (k : Nat) (m : PM Ob) (x : Ob), getP c.other ps = some (k, m) → getP c.name m = some x → x.bs.length = x.len) := by
    intro k m x h1 h2
    obtain ⟨p, hp, _, hp2⟩ := mem_getP h1
    obtain ⟨q, hq, _, hq2⟩ := mem_getP h2
    have hx := ((hS.shots p hp).2.2) q (by rw [hp2]; exact hq)
    rw [hq2] at hx
    exact hx.1.hlen
  obtain ⟨kind, name, other, off, count, data⟩ := c
  obtain rfl : kind = 8 := hk
  simp only at hol hnl
  have HS := Lib.hid hS
  have hsl := hS.box.lt
  have hne : hs ≠ w.heap.size := by omega
  have hne1 : hs ≠ w.heap.size + 1 := by omega
  obtain ⟨W, hW⟩ : ∃ W, W = (w.alloc (.cells #[.int .i64 8, encStr name, encStr other, .int .i64 (off : Int), .int .i64 (count : Int), .int .i64 0, .int .i64 0, .slice ad ld cd] 30)).alloc (.cells #[.int .i64 0, .bool false, .int .i64 0, .slice none 0 0, .slice none 0 0] 41) := ⟨_, rfl⟩
  have hB : Hid (Below w.heap.size w W) := by rw [hW]; exact Below_alloc2 _ _
  have hBox : Hid (Box W (w.heap.size + 1) #[.int .i64 0, .bool false, .int .i64 0, .slice none 0 0, .slice none 0 0] 41) := by rw [hW]; exact Box.new (by simp)
  have hBoc : Hid (Box W w.heap.size #[.int .i64 8, encStr name, encStr other, .int .i64 (off : Int), .int .i64 (count : Int), .int .i64 0, .int .i64 0, .slice ad ld cd] 30) := by rw [hW]; exact Box.alloc (Box.new rfl) _
  have hsz : Hid (W.heap.size = w.heap.size + 2) := by rw [hW]; show _ = _; simp
  have HSd := Lib.hid (Thing.below (t := thSt hs mo ms Fz po ps) HS.out hB.out.drew)
  have HOS := Lib.hid (StOk.snaps HSd.out)
  have b0 : W.cell? ⟨hs, 1, none⟩ = some (.map (some ms)) := (HS.out.box.below hB.out hsl).cell 1
  have k1 : W.cell? ⟨w.heap.size, 2, none⟩ = some (encStr other) := hBoc.out.cell 2
  have kk0 : W.cell? ⟨w.heap.size, 0, none⟩ = some (.int .i64 8) := hBoc.out.cell 0
  have kk1 : W.cell? ⟨w.heap.size, 1, none⟩ = some (encStr name) := hBoc.out.cell 1
  have bo : W.cell? ⟨hs, 0, none⟩ = some (.map (some mo)) := (HS.out.box.below hB.out hsl).cell 0
  have bf : W.frozen? ⟨hs, 0, none⟩ = false := (HS.out.box.below hB.out hsl).free 0
  have hslW : hs < W.heap.size := by have := hsz.out; omega
  clear hS hc
  obtain ⟨g, hg⟩ : ∃ g, Hid (getP other ps = g) := ⟨_, rfl⟩
  have HH : Hid (Maps.has (datP smV ps) (.string other) = g.isSome) := by show _ = _; rw [has_get, hg.out]
  rw [HG.out]
  simp only [hg.out]
  clear HG
  cases g with
  | none =>
    have HH2 : Hid (Maps.has (datP smV ps) (.string other) = false) := HH.out
    simp only
    have HLQ : Hid (∀ w' : World, OM smV w' ms ps → (Instr.lookup 58 (.map (some ms)) (encStr other) true).run Try.prog w' = .ok (.tuple #[.map none, .bool false]) w') := fun w' h => by
      obtain ⟨v, q, h1, h2⟩ := World.ownsMap.look_ok h keyS Try.underlying58 (zeroS _) (show RV (.map none) = some (.held (.map none), []) from rfl) (keyN other hol)
      have e := look_val h2
      rw [hg.out] at e
      rw [HH2.out] at h1
      rw [h1, e]
      try rfl
    unfold cmV
    go_enter Try.func26, Try.ntmps26
    go_wp2_with fail
    rw [← hW]
    clear hW
    have HSS : Hid (W.drew.cell? ⟨hs, 1, none⟩ = some (.map (some ms)) ∧ W.drew.cell? ⟨w.heap.size, 2, none⟩ = some (encStr other) ∧ OM smV W.drew ms ps) := ⟨b0, k1, HOS.out⟩
    refine wp_region_held_drew (S := fun w' => w'.cell? ⟨hs, 1, none⟩ = some (.map (some ms)) ∧ w'.cell? ⟨w.heap.size, 2, none⟩ = some (encStr other) ∧ OM smV w' ms ps) (by kernel_rfl) HSS.out (fun hHeld => ?_)
    refine wpAnyH_take (i := 0) (v := .pointer (some ⟨hs, 0, none⟩)) rfl (by kernel_rfl) (by kernel_rfl) (by kernel_rfl) (fun _ _ _ h => h) (Or.inl ⟨by rfl, ?_⟩) (by assumption) ?_
    · intro w' hS
      obtain ⟨u1, u2, u3⟩ := hS
      go_simp
      done
    try simp only [Act.put, List.getElem_toArray, List.getElem_cons_zero, List.getElem_cons_succ, List.setIfInBounds_toArray, List.set_cons_zero, List.set_cons_succ]
    refine wpAnyH_take (i := 1) (v := .pointer (some ⟨hs, 0, none⟩)) rfl (by kernel_rfl) (by kernel_rfl) (by kernel_rfl) (fun _ _ _ h => h) (Or.inl ⟨by rfl, ?_⟩) (by assumption) ?_
    · intro w' hS
      obtain ⟨u1, u2, u3⟩ := hS
      go_simp
      done
    try simp only [Act.put, List.getElem_toArray, List.getElem_cons_zero, List.getElem_cons_succ, List.setIfInBounds_toArray, List.set_cons_zero, List.set_cons_succ]
    refine wpAnyH_take (i := 2) (v := .pointer (some ⟨hs, 1, none⟩)) rfl (by kernel_rfl) (by kernel_rfl) (by kernel_rfl) (fun _ _ _ h => h) (Or.inl ⟨by rfl, ?_⟩) (by assumption) ?_
    · intro w' hS
      obtain ⟨u1, u2, u3⟩ := hS
      go_simp
      done
    try simp only [Act.put, List.getElem_toArray, List.getElem_cons_zero, List.getElem_cons_succ, List.setIfInBounds_toArray, List.set_cons_zero, List.set_cons_succ]
    refine wpAnyH_take (i := 3) (v := .map (some ms)) rfl (by kernel_rfl) (by kernel_rfl) (by kernel_rfl) (fun _ _ _ h => h) (Or.inl ⟨by rfl, ?_⟩) (by assumption) ?_
    · intro w' hS
      obtain ⟨u1, u2, u3⟩ := hS
      go_simp
      done
    try simp only [Act.put, List.getElem_toArray, List.getElem_cons_zero, List.getElem_cons_succ, List.setIfInBounds_toArray, List.set_cons_zero, List.set_cons_succ]
    refine wpAnyH_take (i := 4) (v := .pointer (some ⟨w.heap.size, 2, none⟩)) rfl (by kernel_rfl) (by kernel_rfl) (by kernel_rfl) (fun _ _ _ h => h) (Or.inl ⟨by rfl, ?_⟩) (by assumption) ?_
    · intro w' hS
      obtain ⟨u1, u2, u3⟩ := hS
      go_simp
      done
    try simp only [Act.put, List.getElem_toArray, List.getElem_cons_zero, List.getElem_cons_succ, List.setIfInBounds_toArray, List.set_cons_zero, List.set_cons_succ]
    refine wpAnyH_take (i := 5) (v := encStr other) rfl (by kernel_rfl) (by kernel_rfl) (by kernel_rfl) (fun _ _ _ h => h) (Or.inl ⟨by rfl, ?_⟩) (by assumption) ?_
    · intro w' hS
      obtain ⟨u1, u2, u3⟩ := hS
      go_simp
      done
    try simp only [Act.put, List.getElem_toArray, List.getElem_cons_zero, List.getElem_cons_succ, List.setIfInBounds_toArray, List.set_cons_zero, List.set_cons_succ]
    refine wpAnyH_take (i := 6) (v := .tuple #[.map none, .bool false]) rfl (by kernel_rfl) (by kernel_rfl) (by kernel_rfl) (fun _ _ _ h => h) (Or.inl ⟨by rfl, ?_⟩) (by assumption) ?_
    · intro w' hS
      obtain ⟨u1, u2, u3⟩ := hS
      have hlk := HLQ.out w' u3
      clear HLQ
      go_simp
      done
    try simp only [Act.put, List.getElem_toArray, List.getElem_cons_zero, List.getElem_cons_succ, List.setIfInBounds_toArray, List.set_cons_zero, List.set_cons_succ]
    refine wpAnyH_take (i := 7) (v := .tuple #[.map none, .bool false]) rfl (by kernel_rfl) (by kernel_rfl) (by kernel_rfl) (fun _ _ _ h => h) (Or.inl ⟨by rfl, ?_⟩) (by assumption) ?_
    · intro w' hS
      obtain ⟨u1, u2, u3⟩ := hS
      go_simp
      done
    try simp only [Act.put, List.getElem_toArray, List.getElem_cons_zero, List.getElem_cons_succ, List.setIfInBounds_toArray, List.set_cons_zero, List.set_cons_succ]
    refine wpAnyH_take (i := 8) (v := .map none) rfl (by kernel_rfl) (by kernel_rfl) (by kernel_rfl) (fun _ _ _ h => h) (Or.inl ⟨by rfl, ?_⟩) (by assumption) ?_
    · intro w' hS
      obtain ⟨u1, u2, u3⟩ := hS
      go_simp
      done
    try simp only [Act.put, List.getElem_toArray, List.getElem_cons_zero, List.getElem_cons_succ, List.setIfInBounds_toArray, List.set_cons_zero, List.set_cons_succ]
    refine wpAnyH_take (i := 9) (v := .bool false) rfl (by kernel_rfl) (by kernel_rfl) (by kernel_rfl) (fun _ _ _ h => h) (Or.inl ⟨by rfl, ?_⟩) (by assumption) ?_
    · intro w' hS
      obtain ⟨u1, u2, u3⟩ := hS
      go_simp
      done
    try simp only [Act.put, List.getElem_toArray, List.getElem_cons_zero, List.getElem_cons_succ, List.setIfInBounds_toArray, List.set_cons_zero, List.set_cons_succ]
    refine wpAnyH_take (i := 10) (v := .map none) rfl (by kernel_rfl) (by kernel_rfl) (by kernel_rfl) (fun _ _ _ h => h) (Or.inl ⟨by rfl, ?_⟩) (by assumption) ?_
    · intro w' hS
      obtain ⟨u1, u2, u3⟩ := hS
      go_simp
      done
    try simp only [Act.put, List.getElem_toArray, List.getElem_cons_zero, List.getElem_cons_succ, List.setIfInBounds_toArray, List.set_cons_zero, List.set_cons_succ]
    refine wpAnyH_take (i := 11) (v := .bool false) rfl (by kernel_rfl) (by kernel_rfl) (by kernel_rfl) (fun _ _ _ h => h) (Or.inl ⟨by rfl, ?_⟩) (by assumption) ?_
    · intro w' hS
      obtain ⟨u1, u2, u3⟩ := hS
      go_simp
      done
    try simp only [Act.put, List.getElem_toArray, List.getElem_cons_zero, List.getElem_cons_succ, List.setIfInBounds_toArray, List.set_cons_zero, List.set_cons_succ]
    refine wpAnyH_done (by kernel_rfl) ?_ _
    clear hHeld
    go_wp2_with (first
      | (go_at_call 23; refine (noW 6 _).mono ?_; rintro e w5 ⟨rfl, hb⟩; have HB5 := Lib.hid hb; clear hb; have hBox5 := Lib.hid (Box.below hBox.out (((Below.refl _ W).drew).trans HB5.out) (by show _ < W.heap.size; have := hsz.out; omega)))
      | (refine wpList_store_box rfl 41 (.tmp 4) (.tmp 47) rfl (w.heap.size + 1) _ rfl rfl 41 _ hBox5.out (by kernel_rfl) rfl (by rfl) ?_; intro w6 hb6 hg6; have HB3 := Lib.hid hb6; have HG6 := Lib.hid hg6; clear hb6 hg6)
      | fail)
    refine bodyPost_ret (results_boxP Try.results26 _ _ (w.heap.size + 1) _ _ HB3.out _ rfl Try.underlying41 rfl (by kernel_rfl)) rfl ?_
    exact done_no HS.out (hB.out.drew.trans (HB5.out.mono (by show w.heap.size ≤ W.heap.size; have := hsz.out; omega))) HG6.out (by omega) 6 s hpo hps rfl
  | some g =>
    obtain ⟨k, m⟩ := g
    have HH2 : Hid (Maps.has (datP smV ps) (.string other) = true) := HH.out
    have HLK : Hid (∀ v q, RV v = some ((datP smV ps).atKey (.string other) (.held (.map none)), q) → v = .map (some k)) := fun v q hv => by
      have := look_val hv
      rw [hg.out] at this
      exact this
    have HSH : Hid (Fz k ∧ OM obV w k m ∧ ∀ q ∈ m, ObOk w Fz q.2) := by
      obtain ⟨p, hp, _, hp2⟩ := mem_getP hg.out
      have := HS.out.shots p hp
      rw [hp2] at this
      exact this
    simp only
    rw [if_neg (by decide), if_neg (by decide)]
    have b0d : W.drew.cell? ⟨w.heap.size, 1, none⟩ = some (encStr name) := kk1
    have kk0d : W.drew.cell? ⟨w.heap.size, 0, none⟩ = some (.int .i64 8) := kk0
    have HOm := Lib.hid (show OM obV W.drew k m from HSH.out.2.1.keep ((hB.out.drew).block k HSH.out.2.1.lt))
    obtain ⟨gx, hgx⟩ : ∃ gx, Hid (getP name m = gx) := ⟨_, rfl⟩
    have HHm : Hid (Maps.has (datP obV m) (.string name) = gx.isSome) := by show _ = _; rw [has_get, hgx.out]
    simp only [hgx.out]
    cases gx with
    | none =>
      have HHm2 : Hid (Maps.has (datP obV m) (.string name) = false) := HHm.out
      simp only
      have HLQ : Hid (∀ w' : World, OM smV w' ms ps → (Instr.lookup 58 (.map (some ms)) (encStr other) true).run Try.prog w' = .ok (.tuple #[.map (some k), .bool true]) w') := fun w' h => by
        obtain ⟨v, q, h1, h2⟩ := World.ownsMap.look_ok h keyS Try.underlying58 (zeroS _) (show RV (.map none) = some (.held (.map none), []) from rfl) (keyN other hol)
        have e := look_val h2
        rw [hg.out] at e
        rw [HH2.out] at h1
        rw [h1, e]
        try rfl
      unfold cmV
      go_enter Try.func26, Try.ntmps26
      go_wp2_with fail
      rw [← hW]
      clear hW
      have HSS : Hid (W.drew.cell? ⟨hs, 1, none⟩ = some (.map (some ms)) ∧ W.drew.cell? ⟨w.heap.size, 2, none⟩ = some (encStr other) ∧ OM smV W.drew ms ps) := ⟨b0, k1, HOS.out⟩
      refine wp_region_held_drew (S := fun w' => w'.cell? ⟨hs, 1, none⟩ = some (.map (some ms)) ∧ w'.cell? ⟨w.heap.size, 2, none⟩ = some (encStr other) ∧ OM smV w' ms ps) (by kernel_rfl) HSS.out (fun hHeld => ?_)
      refine wpAnyH_take (i := 0) (v := .pointer (some ⟨hs, 0, none⟩)) rfl (by kernel_rfl) (by kernel_rfl) (by kernel_rfl) (fun _ _ _ h => h) (Or.inl ⟨by rfl, ?_⟩) (by assumption) ?_
      · intro w' hS
        obtain ⟨u1, u2, u3⟩ := hS
        go_simp
        done
      try simp only [Act.put, List.getElem_toArray, List.getElem_cons_zero, List.getElem_cons_succ, List.setIfInBounds_toArray, List.set_cons_zero, List.set_cons_succ]
      refine wpAnyH_take (i := 1) (v := .pointer (some ⟨hs, 0, none⟩)) rfl (by kernel_rfl) (by kernel_rfl) (by kernel_rfl) (fun _ _ _ h => h) (Or.inl ⟨by rfl, ?_⟩) (by assumption) ?_
      · intro w' hS
        obtain ⟨u1, u2, u3⟩ := hS
        go_simp
        done
      try simp only [Act.put, List.getElem_toArray, List.getElem_cons_zero, List.getElem_cons_succ, List.setIfInBounds_toArray, List.set_cons_zero, List.set_cons_succ]
      refine wpAnyH_take (i := 2) (v := .pointer (some ⟨hs, 1, none⟩)) rfl (by kernel_rfl) (by kernel_rfl) (by kernel_rfl) (fun _ _ _ h => h) (Or.inl ⟨by rfl, ?_⟩) (by assumption) ?_
      · intro w' hS
        obtain ⟨u1, u2, u3⟩ := hS
        go_simp
        done
      try simp only [Act.put, List.getElem_toArray, List.getElem_cons_zero, List.getElem_cons_succ, List.setIfInBounds_toArray, List.set_cons_zero, List.set_cons_succ]
      refine wpAnyH_take (i := 3) (v := .map (some ms)) rfl (by kernel_rfl) (by kernel_rfl) (by kernel_rfl) (fun _ _ _ h => h) (Or.inl ⟨by rfl, ?_⟩) (by assumption) ?_
      · intro w' hS
        obtain ⟨u1, u2, u3⟩ := hS
        go_simp
        done
      try simp only [Act.put, List.getElem_toArray, List.getElem_cons_zero, List.getElem_cons_succ, List.setIfInBounds_toArray, List.set_cons_zero, List.set_cons_succ]
      refine wpAnyH_take (i := 4) (v := .pointer (some ⟨w.heap.size, 2, none⟩)) rfl (by kernel_rfl) (by kernel_rfl) (by kernel_rfl) (fun _ _ _ h => h) (Or.inl ⟨by rfl, ?_⟩) (by assumption) ?_
      · intro w' hS
        obtain ⟨u1, u2, u3⟩ := hS
        go_simp
        done
      try simp only [Act.put, List.getElem_toArray, List.getElem_cons_zero, List.getElem_cons_succ, List.setIfInBounds_toArray, List.set_cons_zero, List.set_cons_succ]
      refine wpAnyH_take (i := 5) (v := encStr other) rfl (by kernel_rfl) (by kernel_rfl) (by kernel_rfl) (fun _ _ _ h => h) (Or.inl ⟨by rfl, ?_⟩) (by assumption) ?_
      · intro w' hS
        obtain ⟨u1, u2, u3⟩ := hS
        go_simp
        done
      try simp only [Act.put, List.getElem_toArray, List.getElem_cons_zero, List.getElem_cons_succ, List.setIfInBounds_toArray, List.set_cons_zero, List.set_cons_succ]
      refine wpAnyH_take (i := 6) (v := .tuple #[.map (some k), .bool true]) rfl (by kernel_rfl) (by kernel_rfl) (by kernel_rfl) (fun _ _ _ h => h) (Or.inl ⟨by rfl, ?_⟩) (by assumption) ?_
      · intro w' hS
        obtain ⟨u1, u2, u3⟩ := hS
        have hlk := HLQ.out w' u3
        clear HLQ
        go_simp
        done
      try simp only [Act.put, List.getElem_toArray, List.getElem_cons_zero, List.getElem_cons_succ, List.setIfInBounds_toArray, List.set_cons_zero, List.set_cons_succ]
      refine wpAnyH_take (i := 7) (v := .tuple #[.map (some k), .bool true]) rfl (by kernel_rfl) (by kernel_rfl) (by kernel_rfl) (fun _ _ _ h => h) (Or.inl ⟨by rfl, ?_⟩) (by assumption) ?_
      · intro w' hS
        obtain ⟨u1, u2, u3⟩ := hS
        go_simp
        done
      try simp only [Act.put, List.getElem_toArray, List.getElem_cons_zero, List.getElem_cons_succ, List.setIfInBounds_toArray, List.set_cons_zero, List.set_cons_succ]
      refine wpAnyH_take (i := 8) (v := .map (some k)) rfl (by kernel_rfl) (by kernel_rfl) (by kernel_rfl) (fun _ _ _ h => h) (Or.inl ⟨by rfl, ?_⟩) (by assumption) ?_
      · intro w' hS
        obtain ⟨u1, u2, u3⟩ := hS
        go_simp
        done
      try simp only [Act.put, List.getElem_toArray, List.getElem_cons_zero, List.getElem_cons_succ, List.setIfInBounds_toArray, List.set_cons_zero, List.set_cons_succ]
      refine wpAnyH_take (i := 9) (v := .bool true) rfl (by kernel_rfl) (by kernel_rfl) (by kernel_rfl) (fun _ _ _ h => h) (Or.inl ⟨by rfl, ?_⟩) (by assumption) ?_
      · intro w' hS
        obtain ⟨u1, u2, u3⟩ := hS
        go_simp
        done
      try simp only [Act.put, List.getElem_toArray, List.getElem_cons_zero, List.getElem_cons_succ, List.setIfInBounds_toArray, List.set_cons_zero, List.set_cons_succ]
      refine wpAnyH_take (i := 10) (v := .map (some k)) rfl (by kernel_rfl) (by kernel_rfl) (by kernel_rfl) (fun _ _ _ h => h) (Or.inl ⟨by rfl, ?_⟩) (by assumption) ?_
      · intro w' hS
        obtain ⟨u1, u2, u3⟩ := hS
        go_simp
        done
      try simp only [Act.put, List.getElem_toArray, List.getElem_cons_zero, List.getElem_cons_succ, List.setIfInBounds_toArray, List.set_cons_zero, List.set_cons_succ]
      refine wpAnyH_take (i := 11) (v := .bool true) rfl (by kernel_rfl) (by kernel_rfl) (by kernel_rfl) (fun _ _ _ h => h) (Or.inl ⟨by rfl, ?_⟩) (by assumption) ?_
      · intro w' hS
        obtain ⟨u1, u2, u3⟩ := hS
        go_simp
        done
      try simp only [Act.put, List.getElem_toArray, List.getElem_cons_zero, List.getElem_cons_succ, List.setIfInBounds_toArray, List.set_cons_zero, List.set_cons_succ]
      refine wpAnyH_done (by kernel_rfl) ?_ _
      clear hHeld
      go_wp2_with (first
        | (at_lookup; refine wpList_lookup_own_ok _ rfl (.tmp 68) (.tmp 70) 57 rfl 9 54 keyS Try.underlying57 RV (zeroO _) (.held (.slice none 0 0)) [] rfl k _ _ rfl HOm.out _ _ rfl (keyN name hnl) ?_; intro v q hv; rw [HHm2.out]; clear hv)
        | (go_at_call 23; refine (noW 6 _).mono ?_; rintro e w5 ⟨rfl, hb⟩; have HB5 := Lib.hid hb; clear hb; have hBox5 := Lib.hid (Box.below hBox.out (((Below.refl _ W).drew).trans HB5.out) (by show _ < W.heap.size; have := hsz.out; omega)))
        | (refine wpList_store_box rfl 41 (.tmp 4) (.tmp 76) rfl (w.heap.size + 1) _ rfl rfl 41 _ hBox5.out (by kernel_rfl) rfl (by rfl) ?_; intro w6 hb6 hg6; have HB3 := Lib.hid hb6; have HG6 := Lib.hid hg6; clear hb6 hg6)
        | fail)
      refine bodyPost_ret (results_boxP Try.results26 _ _ (w.heap.size + 1) _ _ HB3.out _ rfl Try.underlying41 rfl (by kernel_rfl)) rfl ?_
      exact done_no HS.out (hB.out.drew.trans (HB5.out.mono (by show w.heap.size ≤ W.heap.size; have := hsz.out; omega))) HG6.out (by omega) 6 s hpo hps rfl
    | some x =>
      have HHm2 : Hid (Maps.has (datP obV m) (.string name) = true) := HHm.out
      have HLX : Hid (∀ v q, RV v = some ((datP obV m).atKey (.string name) (.held (.slice none 0 0)), q) → v = .slice x.a x.len x.cap) := fun v q hv => by
        have := look_val hv
        rw [hgx.out] at this
        exact this
      have HF := Lib.hid (HFE.out k m x W.drew hg.out hgx.out hB.out.drew)
      have HL2 := Lib.hid (HLEN.out k m x hg.out hgx.out)
      unfold cmV at HF
      simp only
      have HLQ : Hid (∀ w' : World, OM smV w' ms ps → (Instr.lookup 58 (.map (some ms)) (encStr other) true).run Try.prog w' = .ok (.tuple #[.map (some k), .bool true]) w') := fun w' h => by
        obtain ⟨v, q, h1, h2⟩ := World.ownsMap.look_ok h keyS Try.underlying58 (zeroS _) (show RV (.map none) = some (.held (.map none), []) from rfl) (keyN other hol)
        have e := look_val h2
        rw [hg.out] at e
        rw [HH2.out] at h1
        rw [h1, e]
        try rfl
      unfold cmV
      go_enter Try.func26, Try.ntmps26
      go_wp2_with fail
      rw [← hW]
      clear hW
      have HSS : Hid (W.drew.cell? ⟨hs, 1, none⟩ = some (.map (some ms)) ∧ W.drew.cell? ⟨w.heap.size, 2, none⟩ = some (encStr other) ∧ OM smV W.drew ms ps) := ⟨b0, k1, HOS.out⟩
      refine wp_region_held_drew (S := fun w' => w'.cell? ⟨hs, 1, none⟩ = some (.map (some ms)) ∧ w'.cell? ⟨w.heap.size, 2, none⟩ = some (encStr other) ∧ OM smV w' ms ps) (by kernel_rfl) HSS.out (fun hHeld => ?_)
      refine wpAnyH_take (i := 0) (v := .pointer (some ⟨hs, 0, none⟩)) rfl (by kernel_rfl) (by kernel_rfl) (by kernel_rfl) (fun _ _ _ h => h) (Or.inl ⟨by rfl, ?_⟩) (by assumption) ?_
      · intro w' hS
        obtain ⟨u1, u2, u3⟩ := hS
        go_simp
        done
      try simp only [Act.put, List.getElem_toArray, List.getElem_cons_zero, List.getElem_cons_succ, List.setIfInBounds_toArray, List.set_cons_zero, List.set_cons_succ]
      refine wpAnyH_take (i := 1) (v := .pointer (some ⟨hs, 0, none⟩)) rfl (by kernel_rfl) (by kernel_rfl) (by kernel_rfl) (fun _ _ _ h => h) (Or.inl ⟨by rfl, ?_⟩) (by assumption) ?_
      · intro w' hS
        obtain ⟨u1, u2, u3⟩ := hS
        go_simp
        done
      try simp only [Act.put, List.getElem_toArray, List.getElem_cons_zero, List.getElem_cons_succ, List.setIfInBounds_toArray, List.set_cons_zero, List.set_cons_succ]
      refine wpAnyH_take (i := 2) (v := .pointer (some ⟨hs, 1, none⟩)) rfl (by kernel_rfl) (by kernel_rfl) (by kernel_rfl) (fun _ _ _ h => h) (Or.inl ⟨by rfl, ?_⟩) (by assumption) ?_
      · intro w' hS
        obtain ⟨u1, u2, u3⟩ := hS
        go_simp
        done
      try simp only [Act.put, List.getElem_toArray, List.getElem_cons_zero, List.getElem_cons_succ, List.setIfInBounds_toArray, List.set_cons_zero, List.set_cons_succ]
      refine wpAnyH_take (i := 3) (v := .map (some ms)) rfl (by kernel_rfl) (by kernel_rfl) (by kernel_rfl) (fun _ _ _ h => h) (Or.inl ⟨by rfl, ?_⟩) (by assumption) ?_
      · intro w' hS
        obtain ⟨u1, u2, u3⟩ := hS
        go_simp
        done
      try simp only [Act.put, List.getElem_toArray, List.getElem_cons_zero, List.getElem_cons_succ, List.setIfInBounds_toArray, List.set_cons_zero, List.set_cons_succ]
      refine wpAnyH_take (i := 4) (v := .pointer (some ⟨w.heap.size, 2, none⟩)) rfl (by kernel_rfl) (by kernel_rfl) (by kernel_rfl) (fun _ _ _ h => h) (Or.inl ⟨by rfl, ?_⟩) (by assumption) ?_
      · intro w' hS
        obtain ⟨u1, u2, u3⟩ := hS
        go_simp
        done
      try simp only [Act.put, List.getElem_toArray, List.getElem_cons_zero, List.getElem_cons_succ, List.setIfInBounds_toArray, List.set_cons_zero, List.set_cons_succ]
      refine wpAnyH_take (i := 5) (v := encStr other) rfl (by kernel_rfl) (by kernel_rfl) (by kernel_rfl) (fun _ _ _ h => h) (Or.inl ⟨by rfl, ?_⟩) (by assumption) ?_
      · intro w' hS
        obtain ⟨u1, u2, u3⟩ := hS
        go_simp
        done
      try simp only [Act.put, List.getElem_toArray, List.getElem_cons_zero, List.getElem_cons_succ, List.setIfInBounds_toArray, List.set_cons_zero, List.set_cons_succ]
      refine wpAnyH_take (i := 6) (v := .tuple #[.map (some k), .bool true]) rfl (by kernel_rfl) (by kernel_rfl) (by kernel_rfl) (fun _ _ _ h => h) (Or.inl ⟨by rfl, ?_⟩) (by assumption) ?_
      · intro w' hS
        obtain ⟨u1, u2, u3⟩ := hS
        have hlk := HLQ.out w' u3
        clear HLQ
        go_simp
        done
      try simp only [Act.put, List.getElem_toArray, List.getElem_cons_zero, List.getElem_cons_succ, List.setIfInBounds_toArray, List.set_cons_zero, List.set_cons_succ]
      refine wpAnyH_take (i := 7) (v := .tuple #[.map (some k), .bool true]) rfl (by kernel_rfl) (by kernel_rfl) (by kernel_rfl) (fun _ _ _ h => h) (Or.inl ⟨by rfl, ?_⟩) (by assumption) ?_
      · intro w' hS
        obtain ⟨u1, u2, u3⟩ := hS
        go_simp
        done
      try simp only [Act.put, List.getElem_toArray, List.getElem_cons_zero, List.getElem_cons_succ, List.setIfInBounds_toArray, List.set_cons_zero, List.set_cons_succ]
      refine wpAnyH_take (i := 8) (v := .map (some k)) rfl (by kernel_rfl) (by kernel_rfl) (by kernel_rfl) (fun _ _ _ h => h) (Or.inl ⟨by rfl, ?_⟩) (by assumption) ?_
      · intro w' hS
        obtain ⟨u1, u2, u3⟩ := hS
        go_simp
        done
      try simp only [Act.put, List.getElem_toArray, List.getElem_cons_zero, List.getElem_cons_succ, List.setIfInBounds_toArray, List.set_cons_zero, List.set_cons_succ]
      refine wpAnyH_take (i := 9) (v := .bool true) rfl (by kernel_rfl) (by kernel_rfl) (by kernel_rfl) (fun _ _ _ h => h) (Or.inl ⟨by rfl, ?_⟩) (by assumption) ?_
      · intro w' hS
        obtain ⟨u1, u2, u3⟩ := hS
        go_simp
        done
      try simp only [Act.put, List.getElem_toArray, List.getElem_cons_zero, List.getElem_cons_succ, List.setIfInBounds_toArray, List.set_cons_zero, List.set_cons_succ]
      refine wpAnyH_take (i := 10) (v := .map (some k)) rfl (by kernel_rfl) (by kernel_rfl) (by kernel_rfl) (fun _ _ _ h => h) (Or.inl ⟨by rfl, ?_⟩) (by assumption) ?_
      · intro w' hS
        obtain ⟨u1, u2, u3⟩ := hS
        go_simp
        done
      try simp only [Act.put, List.getElem_toArray, List.getElem_cons_zero, List.getElem_cons_succ, List.setIfInBounds_toArray, List.set_cons_zero, List.set_cons_succ]
      refine wpAnyH_take (i := 11) (v := .bool true) rfl (by kernel_rfl) (by kernel_rfl) (by kernel_rfl) (fun _ _ _ h => h) (Or.inl ⟨by rfl, ?_⟩) (by assumption) ?_
      · intro w' hS
        obtain ⟨u1, u2, u3⟩ := hS
        go_simp
        done
      try simp only [Act.put, List.getElem_toArray, List.getElem_cons_zero, List.getElem_cons_succ, List.setIfInBounds_toArray, List.set_cons_zero, List.set_cons_succ]
      refine wpAnyH_done (by kernel_rfl) ?_ _
      clear hHeld
      have hBocd := Lib.hid (Box.drew hBoc.out)
      go_wp2_with (first
        | (at_lookup; refine wpList_lookup_own_ok _ rfl (.tmp 68) (.tmp 70) 57 rfl 9 54 keyS Try.underlying57 RV (zeroO _) (.held (.slice none 0 0)) [] rfl k _ _ rfl HOm.out _ _ rfl (keyN name hnl) ?_; intro v q hv; rw [HHm2.out, HLX.out v q hv]; clear hv)
        | (refine wpList_load_box rfl 30 (.tmp 3) rfl w.heap.size rfl 30 _ hBocd.out _ Try.underlying30 rfl (by kernel_rfl) ?_)
        | (go_at_call 34; refine HF.out.mono ?_; rintro e w5 ⟨a', l', c', rfl, hN⟩; have HN := Lib.hid hN.out; clear hN; have hBox5 := Lib.hid (Box.below hBox.out (((Below.refl _ W).drew).trans HN.out.below) (by show _ < W.heap.size; have := hsz.out; omega)))
        | (refine wpList_store_box rfl 41 (.tmp 4) (.tmp 79) rfl (w.heap.size + 1) _ rfl rfl 41 _ hBox5.out (by kernel_rfl) rfl (by rfl) ?_; intro w6 hb6 hg6; have HB3 := Lib.hid hb6; have HG6 := Lib.hid hg6; clear hb6 hg6)
        | fail)
      refine bodyPost_ret (results_boxP Try.results26 _ _ (w.heap.size + 1) _ _ HB3.out _ rfl Try.underlying41 rfl (by kernel_rfl)) rfl ?_
      exact done_fetch HS.out hB.out.drew HN.out HG6.out (by show _ < W.heap.size; have := hsz.out; omega) (by omega) _ _ s hpo hps (by rw [← HL2.out]; rfl) rfl
theorem snapW (hs mo ms : Nat) (Fz : Nat → Prop) (po : PM Ob) (ps : PM (Nat × PM Ob)) (c : Cm) (ad : Option Addr) (ld cd : Nat) (w : World) (hS : StOk hs mo ms Fz po ps w) (hc : c.Ok) (h7 : 7 ≤ c.kind) (h10 : c.kind ≤ 10) (s : Pl) (hpo : erO po = s.objs) (hps : erS ps = s.snaps) (hok : s.Ok) :
    Calls Try.prog 26 #[.pointer (some ⟨hs, 0, none⟩), .agg (cmV c ad ld cd)] w (Done hs (thSt hs mo ms Fz po ps) (snapP s c) w) := by
  have hk : c.kind = 7 ∨ c.kind = 8 ∨ c.kind = 9 ∨ c.kind = 10 := by omega
  rcases hk with hk | hk | hk | hk
  · exact snap7 hs mo ms Fz po ps c ad ld cd w hS hc hk s hpo hps hok
  · exact snap8 hs mo ms Fz po ps c ad ld cd w hS hc hk s hpo hps hok
  · exact snap9 hs mo ms Fz po ps c ad ld cd w hS hc hk s hpo hps hok
  · exact snap10 hs mo ms Fz po ps c ad ld cd w hS hc hk s hpo hps hok
end Go.Proofs.Ytkbfohbpndjcpaa
