/- The walk of Do: what speaks of an object. -/
import Derived.Test.YtkbfohbpndjcpaaPoD
namespace Go.Proofs.Ytkbfohbpndjcpaa
open Go.RowKit
set_option linter.unusedVariables false
set_option maxRecDepth 100000
set_option linter.unusedSimpArgs false

set_option maxHeartbeats 8000000 in
theorem doObj2 (hs mo ms : Nat) (Fz : Nat → Prop) (po : PM Ob) (ps : PM (Nat × PM Ob)) (c : Cm) (ad : Option Addr) (ld cd : Nat) (w : World) (hS : StOk hs mo ms Fz po ps w) (hc : c.Ok) (hd : Row .u8 w ad ld cd c.data) (hk : c.kind = 2) (s : Pl) (hpo : erO po = s.objs) (hps : erS ps = s.snaps) (hok : s.Ok) :
    Calls Try.prog 21 #[.pointer (some ⟨hs, 0, none⟩), .agg (cmV c ad ld cd)] w (Done hs (thSt hs mo ms Fz po ps) (doP s c) w) := by
  have hol := hc.olen
  have hnl := hc.nlen
  have hpl : po.length ≤ 4 := by have := hok.objs; rw [← hpo] at this; unfold erO at this; rwa [mapP_length] at this
  have hpsl : ps.length ≤ 3 := by have := hok.snaps; rw [← hps] at this; unfold erS at this; rwa [mapP_length] at this
  have HPL : Hid (doP s c = match getP c.name po with
    | none => (noP 6, s)
    | some x => objectP s x.bs c) := by
    show _ = _
    unfold doP
    rw [if_neg (by omega), if_neg (by omega), if_neg (by omega), if_neg (by omega), if_neg (by omega), ← hpo, erO_get]
    cases getP c.name po <;> rfl
  have HOB : Hid (∀ (x : Ob) (W : World), getP c.name po = some x → Below w.heap.size w W → Calls Try.prog 27 #[.pointer (some ⟨hs, 0, none⟩), .slice x.a x.len x.cap, .agg (cmV c ad ld cd)] W (Done hs (thSt hs mo ms Fz po ps) (objectP s x.bs c) W)) := by
    intro x W hx hb
    obtain ⟨p, hp, _, hp2⟩ := mem_getP hx
    have h1 := hS.obs p hp
    have h2 := hok.len (p.1, p.2.bs) (by rw [← hpo]; exact List.mem_map_of_mem hp)
    rw [hp2] at h1 h2
    have hW := Thing.below (t := thSt hs mo ms Fz po ps) hS hb
    exact objectW hs mo ms Fz po ps x c ad ld cd W hW ⟨h1.1.below hb, h1.2⟩ h2 (hd.below hb) hc (by omega) (by omega) s hpo hps (by omega)
  obtain ⟨kind, name, other, off, count, data⟩ := c
  obtain rfl : kind = 2 := hk
  simp only at hol hnl
  have HS := Lib.hid hS
  have hsl := hS.box.lt
  have hne : hs ≠ w.heap.size := by omega
  have hne1 : hs ≠ w.heap.size + 1 := by omega
  obtain ⟨W, hW⟩ : ∃ W, W = (w.alloc (.cells #[.int .i64 2, encStr name, encStr other, .int .i64 (off : Int), .int .i64 (count : Int), .int .i64 0, .int .i64 0, .slice ad ld cd] 30)).alloc (.cells #[.int .i64 0, .bool false, .int .i64 0, .slice none 0 0, .slice none 0 0] 41) := ⟨_, rfl⟩
  have hB : Hid (Below w.heap.size w W) := by rw [hW]; exact Below_alloc2 _ _
  have hBox : Hid (Box W (w.heap.size + 1) #[.int .i64 0, .bool false, .int .i64 0, .slice none 0 0, .slice none 0 0] 41) := by rw [hW]; exact Box.new (by simp)
  have hBoc : Hid (Box W w.heap.size #[.int .i64 2, encStr name, encStr other, .int .i64 (off : Int), .int .i64 (count : Int), .int .i64 0, .int .i64 0, .slice ad ld cd] 30) := by rw [hW]; exact Box.alloc (Box.new rfl) _
  have hsz : Hid (W.heap.size = w.heap.size + 2) := by rw [hW]; show _ = _; simp
  have hslW : hs < W.heap.size := by have := hsz.out; omega
  have HOO := Lib.hid (StOk.objs (Thing.below (t := thSt hs mo ms Fz po ps) HS.out hB.out.drew))
  have b0 : W.cell? ⟨hs, 0, none⟩ = some (.map (some mo)) := (HS.out.box.below hB.out hsl).cell 0
  have k1 : W.cell? ⟨w.heap.size, 1, none⟩ = some (encStr name) := hBoc.out.cell 1
  clear hS hc hd
  rw [HPL.out]
  clear HPL
  obtain ⟨g, hg⟩ : ∃ g, Hid (getP name po = g) := ⟨_, rfl⟩
  have HH : Hid (Maps.has (datP obV po) (.string name) = g.isSome) := by show _ = _; rw [has_get, hg.out]
  simp only [hg.out]
  cases g with
  | none =>
    have HH2 : Hid (Maps.has (datP obV po) (.string name) = false) := HH.out
    simp only
    have HLQ : Hid (∀ w' : World, OM obV w' mo po → (Instr.lookup 57 (.map (some mo)) (encStr name) true).run Try.prog w' = .ok (.tuple #[.slice none 0 0, .bool false]) w') := fun w' h => by
      obtain ⟨v, q, h1, h2⟩ := World.ownsMap.look_ok h keyS Try.underlying57 (zeroO _) (show RV (.slice none 0 0) = some (.held (.slice none 0 0), []) from rfl) (keyN name hnl)
      have e := look_val h2
      rw [hg.out] at e
      rw [HH2.out] at h1
      rw [h1, e]
      try rfl
    have HSS : Hid (W.drew.cell? ⟨hs, 0, none⟩ = some (.map (some mo)) ∧ W.drew.cell? ⟨w.heap.size, 1, none⟩ = some (encStr name) ∧ OM obV W.drew mo po) := ⟨b0, k1, HOO.out⟩
    unfold cmV
    go_enter Try.func21, Try.ntmps21
    go_wp2_with fail
    rw [← hW]
    clear hW
    refine wp_region_held_drew (S := fun w' => w'.cell? ⟨hs, 0, none⟩ = some (.map (some mo)) ∧ w'.cell? ⟨w.heap.size, 1, none⟩ = some (encStr name) ∧ OM obV w' mo po) (by kernel_rfl) HSS.out (fun hHeld => ?_)
    refine wpAnyH_take (i := 0) (v := .pointer (some ⟨hs, 0, none⟩)) rfl (by kernel_rfl) (by kernel_rfl) (by kernel_rfl) (fun _ _ _ h => h) (Or.inl ⟨by rfl, ?_⟩) (by assumption) ?_
    · intro w' hS
      obtain ⟨u1, u2, u3⟩ := hS
      go_simp
      done
    try simp only [Act.put, List.getElem_toArray, List.getElem_cons_zero, List.getElem_cons_succ, List.setIfInBounds_toArray, List.set_cons_zero, List.set_cons_succ]
    refine wpAnyH_take (i := 1) (v := .pointer (some ⟨hs, 0, none⟩)) rfl (by kernel_rfl) (by kernel_rfl) (by kernel_rfl) (fun _ _ _ h => h) (Or.inl ⟨by rfl, ?_⟩) (by assumption) ?_
    · intro w' hS
      obtain ⟨u1, u2, u3⟩ := hS
      go_simp
      done
    try simp only [Act.put, List.getElem_toArray, List.getElem_cons_zero, List.getElem_cons_succ, List.setIfInBounds_toArray, List.set_cons_zero, List.set_cons_succ]
    refine wpAnyH_take (i := 2) (v := .pointer (some ⟨hs, 0, none⟩)) rfl (by kernel_rfl) (by kernel_rfl) (by kernel_rfl) (fun _ _ _ h => h) (Or.inl ⟨by rfl, ?_⟩) (by assumption) ?_
    · intro w' hS
      obtain ⟨u1, u2, u3⟩ := hS
      go_simp
      done
    try simp only [Act.put, List.getElem_toArray, List.getElem_cons_zero, List.getElem_cons_succ, List.setIfInBounds_toArray, List.set_cons_zero, List.set_cons_succ]
    refine wpAnyH_take (i := 3) (v := .map (some mo)) rfl (by kernel_rfl) (by kernel_rfl) (by kernel_rfl) (fun _ _ _ h => h) (Or.inl ⟨by rfl, ?_⟩) (by assumption) ?_
    · intro w' hS
      obtain ⟨u1, u2, u3⟩ := hS
      go_simp
      done
    try simp only [Act.put, List.getElem_toArray, List.getElem_cons_zero, List.getElem_cons_succ, List.setIfInBounds_toArray, List.set_cons_zero, List.set_cons_succ]
    refine wpAnyH_take (i := 4) (v := .pointer (some ⟨w.heap.size, 1, none⟩)) rfl (by kernel_rfl) (by kernel_rfl) (by kernel_rfl) (fun _ _ _ h => h) (Or.inl ⟨by rfl, ?_⟩) (by assumption) ?_
    · intro w' hS
      obtain ⟨u1, u2, u3⟩ := hS
      go_simp
      done
    try simp only [Act.put, List.getElem_toArray, List.getElem_cons_zero, List.getElem_cons_succ, List.setIfInBounds_toArray, List.set_cons_zero, List.set_cons_succ]
    refine wpAnyH_take (i := 5) (v := encStr name) rfl (by kernel_rfl) (by kernel_rfl) (by kernel_rfl) (fun _ _ _ h => h) (Or.inl ⟨by rfl, ?_⟩) (by assumption) ?_
    · intro w' hS
      obtain ⟨u1, u2, u3⟩ := hS
      go_simp
      done
    try simp only [Act.put, List.getElem_toArray, List.getElem_cons_zero, List.getElem_cons_succ, List.setIfInBounds_toArray, List.set_cons_zero, List.set_cons_succ]
    refine wpAnyH_take (i := 6) (v := .tuple #[.slice none 0 0, .bool false]) rfl (by kernel_rfl) (by kernel_rfl) (by kernel_rfl) (fun _ _ _ h => h) (Or.inl ⟨by rfl, ?_⟩) (by assumption) ?_
    · intro w' hS
      obtain ⟨u1, u2, u3⟩ := hS
      have hlk := HLQ.out w' u3
      clear HLQ
      go_simp
      done
    try simp only [Act.put, List.getElem_toArray, List.getElem_cons_zero, List.getElem_cons_succ, List.setIfInBounds_toArray, List.set_cons_zero, List.set_cons_succ]
    refine wpAnyH_take (i := 7) (v := .tuple #[.slice none 0 0, .bool false]) rfl (by kernel_rfl) (by kernel_rfl) (by kernel_rfl) (fun _ _ _ h => h) (Or.inl ⟨by rfl, ?_⟩) (by assumption) ?_
    · intro w' hS
      obtain ⟨u1, u2, u3⟩ := hS
      go_simp
      done
    try simp only [Act.put, List.getElem_toArray, List.getElem_cons_zero, List.getElem_cons_succ, List.setIfInBounds_toArray, List.set_cons_zero, List.set_cons_succ]
    refine wpAnyH_take (i := 8) (v := .slice none 0 0) rfl (by kernel_rfl) (by kernel_rfl) (by kernel_rfl) (fun _ _ _ h => h) (Or.inl ⟨by rfl, ?_⟩) (by assumption) ?_
    · intro w' hS
      obtain ⟨u1, u2, u3⟩ := hS
      go_simp
      done
    try simp only [Act.put, List.getElem_toArray, List.getElem_cons_zero, List.getElem_cons_succ, List.setIfInBounds_toArray, List.set_cons_zero, List.set_cons_succ]
    refine wpAnyH_take (i := 9) (v := .bool false) rfl (by kernel_rfl) (by kernel_rfl) (by kernel_rfl) (fun _ _ _ h => h) (Or.inl ⟨by rfl, ?_⟩) (by assumption) ?_
    · intro w' hS
      obtain ⟨u1, u2, u3⟩ := hS
      go_simp
      done
    try simp only [Act.put, List.getElem_toArray, List.getElem_cons_zero, List.getElem_cons_succ, List.setIfInBounds_toArray, List.set_cons_zero, List.set_cons_succ]
    refine wpAnyH_take (i := 10) (v := .slice none 0 0) rfl (by kernel_rfl) (by kernel_rfl) (by kernel_rfl) (fun _ _ _ h => h) (Or.inl ⟨by rfl, ?_⟩) (by assumption) ?_
    · intro w' hS
      obtain ⟨u1, u2, u3⟩ := hS
      go_simp
      done
    try simp only [Act.put, List.getElem_toArray, List.getElem_cons_zero, List.getElem_cons_succ, List.setIfInBounds_toArray, List.set_cons_zero, List.set_cons_succ]
    refine wpAnyH_take (i := 11) (v := .bool false) rfl (by kernel_rfl) (by kernel_rfl) (by kernel_rfl) (fun _ _ _ h => h) (Or.inl ⟨by rfl, ?_⟩) (by assumption) ?_
    · intro w' hS
      obtain ⟨u1, u2, u3⟩ := hS
      go_simp
      done
    try simp only [Act.put, List.getElem_toArray, List.getElem_cons_zero, List.getElem_cons_succ, List.setIfInBounds_toArray, List.set_cons_zero, List.set_cons_succ]
    refine wpAnyH_done (by kernel_rfl) ?_ _
    clear hHeld
    go_wp2_with (first
      | (go_at_call 23; refine (noW 6 _).mono ?_; rintro e w5 ⟨rfl, hb⟩; have HB5 := Lib.hid hb; clear hb; have hBox5 := Lib.hid (Box.below hBox.out (((Below.refl _ W).drew).trans HB5.out) (by show _ < W.heap.size; have := hsz.out; omega)))
      | (refine wpList_store_box rfl 41 (.tmp 4) (.tmp 75) rfl (w.heap.size + 1) _ rfl rfl 41 _ hBox5.out (by kernel_rfl) rfl (by rfl) ?_; intro w6 hb6 hg6; have HB3 := Lib.hid hb6; have HG6 := Lib.hid hg6; clear hb6 hg6)
      | fail)
    refine bodyPost_ret (results_boxP Try.results21 _ _ (w.heap.size + 1) _ _ HB3.out _ rfl Try.underlying41 rfl (by kernel_rfl)) rfl ?_
    exact done_no HS.out (hB.out.drew.trans (HB5.out.mono (by show w.heap.size ≤ W.heap.size; have := hsz.out; omega))) HG6.out (by omega) 6 s hpo hps rfl
  | some x =>
    have HH2 : Hid (Maps.has (datP obV po) (.string name) = true) := HH.out
    have HD0 := Lib.hid (HOB.out x W.drew hg.out hB.out.drew)
    unfold cmV at HD0
    simp only
    obtain ⟨r, hr⟩ : ∃ r, Hid (objectP s x.bs ⟨2, name, other, off, count, data⟩ = r) := ⟨_, rfl⟩
    rw [hr.out] at HD0 ⊢
    have HLQ : Hid (∀ w' : World, OM obV w' mo po → (Instr.lookup 57 (.map (some mo)) (encStr name) true).run Try.prog w' = .ok (.tuple #[.slice x.a x.len x.cap, .bool true]) w') := fun w' h => by
      obtain ⟨v, q, h1, h2⟩ := World.ownsMap.look_ok h keyS Try.underlying57 (zeroO _) (show RV (.slice none 0 0) = some (.held (.slice none 0 0), []) from rfl) (keyN name hnl)
      have e := look_val h2
      rw [hg.out] at e
      rw [HH2.out] at h1
      rw [h1, e]
      try rfl
    have HSS : Hid (W.drew.cell? ⟨hs, 0, none⟩ = some (.map (some mo)) ∧ W.drew.cell? ⟨w.heap.size, 1, none⟩ = some (encStr name) ∧ OM obV W.drew mo po) := ⟨b0, k1, HOO.out⟩
    unfold cmV
    go_enter Try.func21, Try.ntmps21
    go_wp2_with fail
    rw [← hW]
    clear hW
    refine wp_region_held_drew (S := fun w' => w'.cell? ⟨hs, 0, none⟩ = some (.map (some mo)) ∧ w'.cell? ⟨w.heap.size, 1, none⟩ = some (encStr name) ∧ OM obV w' mo po) (by kernel_rfl) HSS.out (fun hHeld => ?_)
    refine wpAnyH_take (i := 0) (v := .pointer (some ⟨hs, 0, none⟩)) rfl (by kernel_rfl) (by kernel_rfl) (by kernel_rfl) (fun _ _ _ h => h) (Or.inl ⟨by rfl, ?_⟩) (by assumption) ?_
    · intro w' hS
      obtain ⟨u1, u2, u3⟩ := hS
      go_simp
      done
    try simp only [Act.put, List.getElem_toArray, List.getElem_cons_zero, List.getElem_cons_succ, List.setIfInBounds_toArray, List.set_cons_zero, List.set_cons_succ]
    refine wpAnyH_take (i := 1) (v := .pointer (some ⟨hs, 0, none⟩)) rfl (by kernel_rfl) (by kernel_rfl) (by kernel_rfl) (fun _ _ _ h => h) (Or.inl ⟨by rfl, ?_⟩) (by assumption) ?_
    · intro w' hS
      obtain ⟨u1, u2, u3⟩ := hS
      go_simp
      done
    try simp only [Act.put, List.getElem_toArray, List.getElem_cons_zero, List.getElem_cons_succ, List.setIfInBounds_toArray, List.set_cons_zero, List.set_cons_succ]
    refine wpAnyH_take (i := 2) (v := .pointer (some ⟨hs, 0, none⟩)) rfl (by kernel_rfl) (by kernel_rfl) (by kernel_rfl) (fun _ _ _ h => h) (Or.inl ⟨by rfl, ?_⟩) (by assumption) ?_
    · intro w' hS
      obtain ⟨u1, u2, u3⟩ := hS
      go_simp
      done
    try simp only [Act.put, List.getElem_toArray, List.getElem_cons_zero, List.getElem_cons_succ, List.setIfInBounds_toArray, List.set_cons_zero, List.set_cons_succ]
    refine wpAnyH_take (i := 3) (v := .map (some mo)) rfl (by kernel_rfl) (by kernel_rfl) (by kernel_rfl) (fun _ _ _ h => h) (Or.inl ⟨by rfl, ?_⟩) (by assumption) ?_
    · intro w' hS
      obtain ⟨u1, u2, u3⟩ := hS
      go_simp
      done
    try simp only [Act.put, List.getElem_toArray, List.getElem_cons_zero, List.getElem_cons_succ, List.setIfInBounds_toArray, List.set_cons_zero, List.set_cons_succ]
    refine wpAnyH_take (i := 4) (v := .pointer (some ⟨w.heap.size, 1, none⟩)) rfl (by kernel_rfl) (by kernel_rfl) (by kernel_rfl) (fun _ _ _ h => h) (Or.inl ⟨by rfl, ?_⟩) (by assumption) ?_
    · intro w' hS
      obtain ⟨u1, u2, u3⟩ := hS
      go_simp
      done
    try simp only [Act.put, List.getElem_toArray, List.getElem_cons_zero, List.getElem_cons_succ, List.setIfInBounds_toArray, List.set_cons_zero, List.set_cons_succ]
    refine wpAnyH_take (i := 5) (v := encStr name) rfl (by kernel_rfl) (by kernel_rfl) (by kernel_rfl) (fun _ _ _ h => h) (Or.inl ⟨by rfl, ?_⟩) (by assumption) ?_
    · intro w' hS
      obtain ⟨u1, u2, u3⟩ := hS
      go_simp
      done
    try simp only [Act.put, List.getElem_toArray, List.getElem_cons_zero, List.getElem_cons_succ, List.setIfInBounds_toArray, List.set_cons_zero, List.set_cons_succ]
    refine wpAnyH_take (i := 6) (v := .tuple #[.slice x.a x.len x.cap, .bool true]) rfl (by kernel_rfl) (by kernel_rfl) (by kernel_rfl) (fun _ _ _ h => h) (Or.inl ⟨by rfl, ?_⟩) (by assumption) ?_
    · intro w' hS
      obtain ⟨u1, u2, u3⟩ := hS
      have hlk := HLQ.out w' u3
      clear HLQ
      go_simp
      done
    try simp only [Act.put, List.getElem_toArray, List.getElem_cons_zero, List.getElem_cons_succ, List.setIfInBounds_toArray, List.set_cons_zero, List.set_cons_succ]
    refine wpAnyH_take (i := 7) (v := .tuple #[.slice x.a x.len x.cap, .bool true]) rfl (by kernel_rfl) (by kernel_rfl) (by kernel_rfl) (fun _ _ _ h => h) (Or.inl ⟨by rfl, ?_⟩) (by assumption) ?_
    · intro w' hS
      obtain ⟨u1, u2, u3⟩ := hS
      go_simp
      done
    try simp only [Act.put, List.getElem_toArray, List.getElem_cons_zero, List.getElem_cons_succ, List.setIfInBounds_toArray, List.set_cons_zero, List.set_cons_succ]
    refine wpAnyH_take (i := 8) (v := .slice x.a x.len x.cap) rfl (by kernel_rfl) (by kernel_rfl) (by kernel_rfl) (fun _ _ _ h => h) (Or.inl ⟨by rfl, ?_⟩) (by assumption) ?_
    · intro w' hS
      obtain ⟨u1, u2, u3⟩ := hS
      go_simp
      done
    try simp only [Act.put, List.getElem_toArray, List.getElem_cons_zero, List.getElem_cons_succ, List.setIfInBounds_toArray, List.set_cons_zero, List.set_cons_succ]
    refine wpAnyH_take (i := 9) (v := .bool true) rfl (by kernel_rfl) (by kernel_rfl) (by kernel_rfl) (fun _ _ _ h => h) (Or.inl ⟨by rfl, ?_⟩) (by assumption) ?_
    · intro w' hS
      obtain ⟨u1, u2, u3⟩ := hS
      go_simp
      done
    try simp only [Act.put, List.getElem_toArray, List.getElem_cons_zero, List.getElem_cons_succ, List.setIfInBounds_toArray, List.set_cons_zero, List.set_cons_succ]
    refine wpAnyH_take (i := 10) (v := .slice x.a x.len x.cap) rfl (by kernel_rfl) (by kernel_rfl) (by kernel_rfl) (fun _ _ _ h => h) (Or.inl ⟨by rfl, ?_⟩) (by assumption) ?_
    · intro w' hS
      obtain ⟨u1, u2, u3⟩ := hS
      go_simp
      done
    try simp only [Act.put, List.getElem_toArray, List.getElem_cons_zero, List.getElem_cons_succ, List.setIfInBounds_toArray, List.set_cons_zero, List.set_cons_succ]
    refine wpAnyH_take (i := 11) (v := .bool true) rfl (by kernel_rfl) (by kernel_rfl) (by kernel_rfl) (fun _ _ _ h => h) (Or.inl ⟨by rfl, ?_⟩) (by assumption) ?_
    · intro w' hS
      obtain ⟨u1, u2, u3⟩ := hS
      go_simp
      done
    try simp only [Act.put, List.getElem_toArray, List.getElem_cons_zero, List.getElem_cons_succ, List.setIfInBounds_toArray, List.set_cons_zero, List.set_cons_succ]
    refine wpAnyH_done (by kernel_rfl) ?_ _
    clear hHeld
    have hBocd := Lib.hid (Box.drew hBoc.out)
    go_wp2_with (first
      | (refine wpList_load_box rfl 30 (.tmp 3) rfl w.heap.size rfl 30 _ hBocd.out _ Try.underlying30 rfl (by kernel_rfl) ?_)
      | (go_at_call 27; refine HD0.out.mono ?_; intro e w2 hD; have HD := Lib.hid hD; obtain ⟨rad, rld, rcd, ran, rln, rcn, _, _, _, _, _, _, rfl, hT1, _⟩ := hD; have hBox2 := Lib.hid (Done.box HS.out hB.out.drew hT1.out (Box.drew hBox.out) (by omega)); clear hT1)
      | (refine wpList_store_box rfl 41 (.tmp 4) (.tmp 79) rfl (w.heap.size + 1) _ rfl rfl 41 _ hBox2.out (by kernel_rfl) rfl (by rfl) ?_; intro w6 hb6 hg6; have HB3 := Lib.hid hb6; have HG6 := Lib.hid hg6; clear hb6 hg6)
      | fail)
    refine bodyPost_ret (results_boxP Try.results21 _ _ (w.heap.size + 1) _ _ HB3.out _ rfl Try.underlying41 rfl (by kernel_rfl)) rfl ?_
    exact Done.after HD.out HS.out hB.out.drew HG6.out (by show _ < W.heap.size; have := hsz.out; omega) (by omega)
set_option maxHeartbeats 8000000 in
theorem doObj3 (hs mo ms : Nat) (Fz : Nat → Prop) (po : PM Ob) (ps : PM (Nat × PM Ob)) (c : Cm) (ad : Option Addr) (ld cd : Nat) (w : World) (hS : StOk hs mo ms Fz po ps w) (hc : c.Ok) (hd : Row .u8 w ad ld cd c.data) (hk : c.kind = 3) (s : Pl) (hpo : erO po = s.objs) (hps : erS ps = s.snaps) (hok : s.Ok) :
    Calls Try.prog 21 #[.pointer (some ⟨hs, 0, none⟩), .agg (cmV c ad ld cd)] w (Done hs (thSt hs mo ms Fz po ps) (doP s c) w) := by
  have hol := hc.olen
  have hnl := hc.nlen
  have hpl : po.length ≤ 4 := by have := hok.objs; rw [← hpo] at this; unfold erO at this; rwa [mapP_length] at this
  have hpsl : ps.length ≤ 3 := by have := hok.snaps; rw [← hps] at this; unfold erS at this; rwa [mapP_length] at this
  have HPL : Hid (doP s c = match getP c.name po with
    | none => (noP 6, s)
    | some x => objectP s x.bs c) := by
    show _ = _
    unfold doP
    rw [if_neg (by omega), if_neg (by omega), if_neg (by omega), if_neg (by omega), if_neg (by omega), ← hpo, erO_get]
    cases getP c.name po <;> rfl
  have HOB : Hid (∀ (x : Ob) (W : World), getP c.name po = some x → Below w.heap.size w W → Calls Try.prog 27 #[.pointer (some ⟨hs, 0, none⟩), .slice x.a x.len x.cap, .agg (cmV c ad ld cd)] W (Done hs (thSt hs mo ms Fz po ps) (objectP s x.bs c) W)) := by
    intro x W hx hb
    obtain ⟨p, hp, _, hp2⟩ := mem_getP hx
    have h1 := hS.obs p hp
    have h2 := hok.len (p.1, p.2.bs) (by rw [← hpo]; exact List.mem_map_of_mem hp)
    rw [hp2] at h1 h2
    have hW := Thing.below (t := thSt hs mo ms Fz po ps) hS hb
    exact objectW hs mo ms Fz po ps x c ad ld cd W hW ⟨h1.1.below hb, h1.2⟩ h2 (hd.below hb) hc (by omega) (by omega) s hpo hps (by omega)
  obtain ⟨kind, name, other, off, count, data⟩ := c
  obtain rfl : kind = 3 := hk
  simp only at hol hnl
  have HS := Lib.hid hS
  have hsl := hS.box.lt
  have hne : hs ≠ w.heap.size := by omega
  have hne1 : hs ≠ w.heap.size + 1 := by omega
  obtain ⟨W, hW⟩ : ∃ W, W = (w.alloc (.cells #[.int .i64 3, encStr name, encStr other, .int .i64 (off : Int), .int .i64 (count : Int), .int .i64 0, .int .i64 0, .slice ad ld cd] 30)).alloc (.cells #[.int .i64 0, .bool false, .int .i64 0, .slice none 0 0, .slice none 0 0] 41) := ⟨_, rfl⟩
  have hB : Hid (Below w.heap.size w W) := by rw [hW]; exact Below_alloc2 _ _
  have hBox : Hid (Box W (w.heap.size + 1) #[.int .i64 0, .bool false, .int .i64 0, .slice none 0 0, .slice none 0 0] 41) := by rw [hW]; exact Box.new (by simp)
  have hBoc : Hid (Box W w.heap.size #[.int .i64 3, encStr name, encStr other, .int .i64 (off : Int), .int .i64 (count : Int), .int .i64 0, .int .i64 0, .slice ad ld cd] 30) := by rw [hW]; exact Box.alloc (Box.new rfl) _
  have hsz : Hid (W.heap.size = w.heap.size + 2) := by rw [hW]; show _ = _; simp
  have hslW : hs < W.heap.size := by have := hsz.out; omega
  have HOO := Lib.hid (StOk.objs (Thing.below (t := thSt hs mo ms Fz po ps) HS.out hB.out.drew))
  have b0 : W.cell? ⟨hs, 0, none⟩ = some (.map (some mo)) := (HS.out.box.below hB.out hsl).cell 0
  have k1 : W.cell? ⟨w.heap.size, 1, none⟩ = some (encStr name) := hBoc.out.cell 1
  clear hS hc hd
  rw [HPL.out]
  clear HPL
  obtain ⟨g, hg⟩ : ∃ g, Hid (getP name po = g) := ⟨_, rfl⟩
  have HH : Hid (Maps.has (datP obV po) (.string name) = g.isSome) := by show _ = _; rw [has_get, hg.out]
  simp only [hg.out]
  cases g with
  | none =>
    have HH2 : Hid (Maps.has (datP obV po) (.string name) = false) := HH.out
    simp only
    have HLQ : Hid (∀ w' : World, OM obV w' mo po → (Instr.lookup 57 (.map (some mo)) (encStr name) true).run Try.prog w' = .ok (.tuple #[.slice none 0 0, .bool false]) w') := fun w' h => by
      obtain ⟨v, q, h1, h2⟩ := World.ownsMap.look_ok h keyS Try.underlying57 (zeroO _) (show RV (.slice none 0 0) = some (.held (.slice none 0 0), []) from rfl) (keyN name hnl)
      have e := look_val h2
      rw [hg.out] at e
      rw [HH2.out] at h1
      rw [h1, e]
      try rfl
    have HSS : Hid (W.drew.cell? ⟨hs, 0, none⟩ = some (.map (some mo)) ∧ W.drew.cell? ⟨w.heap.size, 1, none⟩ = some (encStr name) ∧ OM obV W.drew mo po) := ⟨b0, k1, HOO.out⟩
    unfold cmV
    go_enter Try.func21, Try.ntmps21
    go_wp2_with fail
    rw [← hW]
    clear hW
    refine wp_region_held_drew (S := fun w' => w'.cell? ⟨hs, 0, none⟩ = some (.map (some mo)) ∧ w'.cell? ⟨w.heap.size, 1, none⟩ = some (encStr name) ∧ OM obV w' mo po) (by kernel_rfl) HSS.out (fun hHeld => ?_)
    refine wpAnyH_take (i := 0) (v := .pointer (some ⟨hs, 0, none⟩)) rfl (by kernel_rfl) (by kernel_rfl) (by kernel_rfl) (fun _ _ _ h => h) (Or.inl ⟨by rfl, ?_⟩) (by assumption) ?_
    · intro w' hS
      obtain ⟨u1, u2, u3⟩ := hS
      go_simp
      done
    try simp only [Act.put, List.getElem_toArray, List.getElem_cons_zero, List.getElem_cons_succ, List.setIfInBounds_toArray, List.set_cons_zero, List.set_cons_succ]
    refine wpAnyH_take (i := 1) (v := .pointer (some ⟨hs, 0, none⟩)) rfl (by kernel_rfl) (by kernel_rfl) (by kernel_rfl) (fun _ _ _ h => h) (Or.inl ⟨by rfl, ?_⟩) (by assumption) ?_
    · intro w' hS
      obtain ⟨u1, u2, u3⟩ := hS
      go_simp
      done
    try simp only [Act.put, List.getElem_toArray, List.getElem_cons_zero, List.getElem_cons_succ, List.setIfInBounds_toArray, List.set_cons_zero, List.set_cons_succ]
    refine wpAnyH_take (i := 2) (v := .pointer (some ⟨hs, 0, none⟩)) rfl (by kernel_rfl) (by kernel_rfl) (by kernel_rfl) (fun _ _ _ h => h) (Or.inl ⟨by rfl, ?_⟩) (by assumption) ?_
    · intro w' hS
      obtain ⟨u1, u2, u3⟩ := hS
      go_simp
      done
    try simp only [Act.put, List.getElem_toArray, List.getElem_cons_zero, List.getElem_cons_succ, List.setIfInBounds_toArray, List.set_cons_zero, List.set_cons_succ]
    refine wpAnyH_take (i := 3) (v := .map (some mo)) rfl (by kernel_rfl) (by kernel_rfl) (by kernel_rfl) (fun _ _ _ h => h) (Or.inl ⟨by rfl, ?_⟩) (by assumption) ?_
    · intro w' hS
      obtain ⟨u1, u2, u3⟩ := hS
      go_simp
      done
    try simp only [Act.put, List.getElem_toArray, List.getElem_cons_zero, List.getElem_cons_succ, List.setIfInBounds_toArray, List.set_cons_zero, List.set_cons_succ]
    refine wpAnyH_take (i := 4) (v := .pointer (some ⟨w.heap.size, 1, none⟩)) rfl (by kernel_rfl) (by kernel_rfl) (by kernel_rfl) (fun _ _ _ h => h) (Or.inl ⟨by rfl, ?_⟩) (by assumption) ?_
    · intro w' hS
      obtain ⟨u1, u2, u3⟩ := hS
      go_simp
      done
    try simp only [Act.put, List.getElem_toArray, List.getElem_cons_zero, List.getElem_cons_succ, List.setIfInBounds_toArray, List.set_cons_zero, List.set_cons_succ]
    refine wpAnyH_take (i := 5) (v := encStr name) rfl (by kernel_rfl) (by kernel_rfl) (by kernel_rfl) (fun _ _ _ h => h) (Or.inl ⟨by rfl, ?_⟩) (by assumption) ?_
    · intro w' hS
      obtain ⟨u1, u2, u3⟩ := hS
      go_simp
      done
    try simp only [Act.put, List.getElem_toArray, List.getElem_cons_zero, List.getElem_cons_succ, List.setIfInBounds_toArray, List.set_cons_zero, List.set_cons_succ]
    refine wpAnyH_take (i := 6) (v := .tuple #[.slice none 0 0, .bool false]) rfl (by kernel_rfl) (by kernel_rfl) (by kernel_rfl) (fun _ _ _ h => h) (Or.inl ⟨by rfl, ?_⟩) (by assumption) ?_
    · intro w' hS
      obtain ⟨u1, u2, u3⟩ := hS
      have hlk := HLQ.out w' u3
      clear HLQ
      go_simp
      done
    try simp only [Act.put, List.getElem_toArray, List.getElem_cons_zero, List.getElem_cons_succ, List.setIfInBounds_toArray, List.set_cons_zero, List.set_cons_succ]
    refine wpAnyH_take (i := 7) (v := .tuple #[.slice none 0 0, .bool false]) rfl (by kernel_rfl) (by kernel_rfl) (by kernel_rfl) (fun _ _ _ h => h) (Or.inl ⟨by rfl, ?_⟩) (by assumption) ?_
    · intro w' hS
      obtain ⟨u1, u2, u3⟩ := hS
      go_simp
      done
    try simp only [Act.put, List.getElem_toArray, List.getElem_cons_zero, List.getElem_cons_succ, List.setIfInBounds_toArray, List.set_cons_zero, List.set_cons_succ]
    refine wpAnyH_take (i := 8) (v := .slice none 0 0) rfl (by kernel_rfl) (by kernel_rfl) (by kernel_rfl) (fun _ _ _ h => h) (Or.inl ⟨by rfl, ?_⟩) (by assumption) ?_
    · intro w' hS
      obtain ⟨u1, u2, u3⟩ := hS
      go_simp
      done
    try simp only [Act.put, List.getElem_toArray, List.getElem_cons_zero, List.getElem_cons_succ, List.setIfInBounds_toArray, List.set_cons_zero, List.set_cons_succ]
    refine wpAnyH_take (i := 9) (v := .bool false) rfl (by kernel_rfl) (by kernel_rfl) (by kernel_rfl) (fun _ _ _ h => h) (Or.inl ⟨by rfl, ?_⟩) (by assumption) ?_
    · intro w' hS
      obtain ⟨u1, u2, u3⟩ := hS
      go_simp
      done
    try simp only [Act.put, List.getElem_toArray, List.getElem_cons_zero, List.getElem_cons_succ, List.setIfInBounds_toArray, List.set_cons_zero, List.set_cons_succ]
    refine wpAnyH_take (i := 10) (v := .slice none 0 0) rfl (by kernel_rfl) (by kernel_rfl) (by kernel_rfl) (fun _ _ _ h => h) (Or.inl ⟨by rfl, ?_⟩) (by assumption) ?_
    · intro w' hS
      obtain ⟨u1, u2, u3⟩ := hS
      go_simp
      done
    try simp only [Act.put, List.getElem_toArray, List.getElem_cons_zero, List.getElem_cons_succ, List.setIfInBounds_toArray, List.set_cons_zero, List.set_cons_succ]
    refine wpAnyH_take (i := 11) (v := .bool false) rfl (by kernel_rfl) (by kernel_rfl) (by kernel_rfl) (fun _ _ _ h => h) (Or.inl ⟨by rfl, ?_⟩) (by assumption) ?_
    · intro w' hS
      obtain ⟨u1, u2, u3⟩ := hS
      go_simp
      done
    try simp only [Act.put, List.getElem_toArray, List.getElem_cons_zero, List.getElem_cons_succ, List.setIfInBounds_toArray, List.set_cons_zero, List.set_cons_succ]
    refine wpAnyH_done (by kernel_rfl) ?_ _
    clear hHeld
    go_wp2_with (first
      | (go_at_call 23; refine (noW 6 _).mono ?_; rintro e w5 ⟨rfl, hb⟩; have HB5 := Lib.hid hb; clear hb; have hBox5 := Lib.hid (Box.below hBox.out (((Below.refl _ W).drew).trans HB5.out) (by show _ < W.heap.size; have := hsz.out; omega)))
      | (refine wpList_store_box rfl 41 (.tmp 4) (.tmp 75) rfl (w.heap.size + 1) _ rfl rfl 41 _ hBox5.out (by kernel_rfl) rfl (by rfl) ?_; intro w6 hb6 hg6; have HB3 := Lib.hid hb6; have HG6 := Lib.hid hg6; clear hb6 hg6)
      | fail)
    refine bodyPost_ret (results_boxP Try.results21 _ _ (w.heap.size + 1) _ _ HB3.out _ rfl Try.underlying41 rfl (by kernel_rfl)) rfl ?_
    exact done_no HS.out (hB.out.drew.trans (HB5.out.mono (by show w.heap.size ≤ W.heap.size; have := hsz.out; omega))) HG6.out (by omega) 6 s hpo hps rfl
  | some x =>
    have HH2 : Hid (Maps.has (datP obV po) (.string name) = true) := HH.out
    have HD0 := Lib.hid (HOB.out x W.drew hg.out hB.out.drew)
    unfold cmV at HD0
    simp only
    obtain ⟨r, hr⟩ : ∃ r, Hid (objectP s x.bs ⟨3, name, other, off, count, data⟩ = r) := ⟨_, rfl⟩
    rw [hr.out] at HD0 ⊢
    have HLQ : Hid (∀ w' : World, OM obV w' mo po → (Instr.lookup 57 (.map (some mo)) (encStr name) true).run Try.prog w' = .ok (.tuple #[.slice x.a x.len x.cap, .bool true]) w') := fun w' h => by
      obtain ⟨v, q, h1, h2⟩ := World.ownsMap.look_ok h keyS Try.underlying57 (zeroO _) (show RV (.slice none 0 0) = some (.held (.slice none 0 0), []) from rfl) (keyN name hnl)
      have e := look_val h2
      rw [hg.out] at e
      rw [HH2.out] at h1
      rw [h1, e]
      try rfl
    have HSS : Hid (W.drew.cell? ⟨hs, 0, none⟩ = some (.map (some mo)) ∧ W.drew.cell? ⟨w.heap.size, 1, none⟩ = some (encStr name) ∧ OM obV W.drew mo po) := ⟨b0, k1, HOO.out⟩
    unfold cmV
    go_enter Try.func21, Try.ntmps21
    go_wp2_with fail
    rw [← hW]
    clear hW
    refine wp_region_held_drew (S := fun w' => w'.cell? ⟨hs, 0, none⟩ = some (.map (some mo)) ∧ w'.cell? ⟨w.heap.size, 1, none⟩ = some (encStr name) ∧ OM obV w' mo po) (by kernel_rfl) HSS.out (fun hHeld => ?_)
    refine wpAnyH_take (i := 0) (v := .pointer (some ⟨hs, 0, none⟩)) rfl (by kernel_rfl) (by kernel_rfl) (by kernel_rfl) (fun _ _ _ h => h) (Or.inl ⟨by rfl, ?_⟩) (by assumption) ?_
    · intro w' hS
      obtain ⟨u1, u2, u3⟩ := hS
      go_simp
      done
    try simp only [Act.put, List.getElem_toArray, List.getElem_cons_zero, List.getElem_cons_succ, List.setIfInBounds_toArray, List.set_cons_zero, List.set_cons_succ]
    refine wpAnyH_take (i := 1) (v := .pointer (some ⟨hs, 0, none⟩)) rfl (by kernel_rfl) (by kernel_rfl) (by kernel_rfl) (fun _ _ _ h => h) (Or.inl ⟨by rfl, ?_⟩) (by assumption) ?_
    · intro w' hS
      obtain ⟨u1, u2, u3⟩ := hS
      go_simp
      done
    try simp only [Act.put, List.getElem_toArray, List.getElem_cons_zero, List.getElem_cons_succ, List.setIfInBounds_toArray, List.set_cons_zero, List.set_cons_succ]
    refine wpAnyH_take (i := 2) (v := .pointer (some ⟨hs, 0, none⟩)) rfl (by kernel_rfl) (by kernel_rfl) (by kernel_rfl) (fun _ _ _ h => h) (Or.inl ⟨by rfl, ?_⟩) (by assumption) ?_
    · intro w' hS
      obtain ⟨u1, u2, u3⟩ := hS
      go_simp
      done
    try simp only [Act.put, List.getElem_toArray, List.getElem_cons_zero, List.getElem_cons_succ, List.setIfInBounds_toArray, List.set_cons_zero, List.set_cons_succ]
    refine wpAnyH_take (i := 3) (v := .map (some mo)) rfl (by kernel_rfl) (by kernel_rfl) (by kernel_rfl) (fun _ _ _ h => h) (Or.inl ⟨by rfl, ?_⟩) (by assumption) ?_
    · intro w' hS
      obtain ⟨u1, u2, u3⟩ := hS
      go_simp
      done
    try simp only [Act.put, List.getElem_toArray, List.getElem_cons_zero, List.getElem_cons_succ, List.setIfInBounds_toArray, List.set_cons_zero, List.set_cons_succ]
    refine wpAnyH_take (i := 4) (v := .pointer (some ⟨w.heap.size, 1, none⟩)) rfl (by kernel_rfl) (by kernel_rfl) (by kernel_rfl) (fun _ _ _ h => h) (Or.inl ⟨by rfl, ?_⟩) (by assumption) ?_
    · intro w' hS
      obtain ⟨u1, u2, u3⟩ := hS
      go_simp
      done
    try simp only [Act.put, List.getElem_toArray, List.getElem_cons_zero, List.getElem_cons_succ, List.setIfInBounds_toArray, List.set_cons_zero, List.set_cons_succ]
    refine wpAnyH_take (i := 5) (v := encStr name) rfl (by kernel_rfl) (by kernel_rfl) (by kernel_rfl) (fun _ _ _ h => h) (Or.inl ⟨by rfl, ?_⟩) (by assumption) ?_
    · intro w' hS
      obtain ⟨u1, u2, u3⟩ := hS
      go_simp
      done
    try simp only [Act.put, List.getElem_toArray, List.getElem_cons_zero, List.getElem_cons_succ, List.setIfInBounds_toArray, List.set_cons_zero, List.set_cons_succ]
    refine wpAnyH_take (i := 6) (v := .tuple #[.slice x.a x.len x.cap, .bool true]) rfl (by kernel_rfl) (by kernel_rfl) (by kernel_rfl) (fun _ _ _ h => h) (Or.inl ⟨by rfl, ?_⟩) (by assumption) ?_
    · intro w' hS
      obtain ⟨u1, u2, u3⟩ := hS
      have hlk := HLQ.out w' u3
      clear HLQ
      go_simp
      done
    try simp only [Act.put, List.getElem_toArray, List.getElem_cons_zero, List.getElem_cons_succ, List.setIfInBounds_toArray, List.set_cons_zero, List.set_cons_succ]
    refine wpAnyH_take (i := 7) (v := .tuple #[.slice x.a x.len x.cap, .bool true]) rfl (by kernel_rfl) (by kernel_rfl) (by kernel_rfl) (fun _ _ _ h => h) (Or.inl ⟨by rfl, ?_⟩) (by assumption) ?_
    · intro w' hS
      obtain ⟨u1, u2, u3⟩ := hS
      go_simp
      done
    try simp only [Act.put, List.getElem_toArray, List.getElem_cons_zero, List.getElem_cons_succ, List.setIfInBounds_toArray, List.set_cons_zero, List.set_cons_succ]
    refine wpAnyH_take (i := 8) (v := .slice x.a x.len x.cap) rfl (by kernel_rfl) (by kernel_rfl) (by kernel_rfl) (fun _ _ _ h => h) (Or.inl ⟨by rfl, ?_⟩) (by assumption) ?_
    · intro w' hS
      obtain ⟨u1, u2, u3⟩ := hS
      go_simp
      done
    try simp only [Act.put, List.getElem_toArray, List.getElem_cons_zero, List.getElem_cons_succ, List.setIfInBounds_toArray, List.set_cons_zero, List.set_cons_succ]
    refine wpAnyH_take (i := 9) (v := .bool true) rfl (by kernel_rfl) (by kernel_rfl) (by kernel_rfl) (fun _ _ _ h => h) (Or.inl ⟨by rfl, ?_⟩) (by assumption) ?_
    · intro w' hS
      obtain ⟨u1, u2, u3⟩ := hS
      go_simp
      done
    try simp only [Act.put, List.getElem_toArray, List.getElem_cons_zero, List.getElem_cons_succ, List.setIfInBounds_toArray, List.set_cons_zero, List.set_cons_succ]
    refine wpAnyH_take (i := 10) (v := .slice x.a x.len x.cap) rfl (by kernel_rfl) (by kernel_rfl) (by kernel_rfl) (fun _ _ _ h => h) (Or.inl ⟨by rfl, ?_⟩) (by assumption) ?_
    · intro w' hS
      obtain ⟨u1, u2, u3⟩ := hS
      go_simp
      done
    try simp only [Act.put, List.getElem_toArray, List.getElem_cons_zero, List.getElem_cons_succ, List.setIfInBounds_toArray, List.set_cons_zero, List.set_cons_succ]
    refine wpAnyH_take (i := 11) (v := .bool true) rfl (by kernel_rfl) (by kernel_rfl) (by kernel_rfl) (fun _ _ _ h => h) (Or.inl ⟨by rfl, ?_⟩) (by assumption) ?_
    · intro w' hS
      obtain ⟨u1, u2, u3⟩ := hS
      go_simp
      done
    try simp only [Act.put, List.getElem_toArray, List.getElem_cons_zero, List.getElem_cons_succ, List.setIfInBounds_toArray, List.set_cons_zero, List.set_cons_succ]
    refine wpAnyH_done (by kernel_rfl) ?_ _
    clear hHeld
    have hBocd := Lib.hid (Box.drew hBoc.out)
    go_wp2_with (first
      | (refine wpList_load_box rfl 30 (.tmp 3) rfl w.heap.size rfl 30 _ hBocd.out _ Try.underlying30 rfl (by kernel_rfl) ?_)
      | (go_at_call 27; refine HD0.out.mono ?_; intro e w2 hD; have HD := Lib.hid hD; obtain ⟨rad, rld, rcd, ran, rln, rcn, _, _, _, _, _, _, rfl, hT1, _⟩ := hD; have hBox2 := Lib.hid (Done.box HS.out hB.out.drew hT1.out (Box.drew hBox.out) (by omega)); clear hT1)
      | (refine wpList_store_box rfl 41 (.tmp 4) (.tmp 79) rfl (w.heap.size + 1) _ rfl rfl 41 _ hBox2.out (by kernel_rfl) rfl (by rfl) ?_; intro w6 hb6 hg6; have HB3 := Lib.hid hb6; have HG6 := Lib.hid hg6; clear hb6 hg6)
      | fail)
    refine bodyPost_ret (results_boxP Try.results21 _ _ (w.heap.size + 1) _ _ HB3.out _ rfl Try.underlying41 rfl (by kernel_rfl)) rfl ?_
    exact Done.after HD.out HS.out hB.out.drew HG6.out (by show _ < W.heap.size; have := hsz.out; omega) (by omega)
set_option maxHeartbeats 8000000 in
theorem doObj4 (hs mo ms : Nat) (Fz : Nat → Prop) (po : PM Ob) (ps : PM (Nat × PM Ob)) (c : Cm) (ad : Option Addr) (ld cd : Nat) (w : World) (hS : StOk hs mo ms Fz po ps w) (hc : c.Ok) (hd : Row .u8 w ad ld cd c.data) (hk : c.kind = 4) (s : Pl) (hpo : erO po = s.objs) (hps : erS ps = s.snaps) (hok : s.Ok) :
    Calls Try.prog 21 #[.pointer (some ⟨hs, 0, none⟩), .agg (cmV c ad ld cd)] w (Done hs (thSt hs mo ms Fz po ps) (doP s c) w) := by
  have hol := hc.olen
  have hnl := hc.nlen
  have hpl : po.length ≤ 4 := by have := hok.objs; rw [← hpo] at this; unfold erO at this; rwa [mapP_length] at this
  have hpsl : ps.length ≤ 3 := by have := hok.snaps; rw [← hps] at this; unfold erS at this; rwa [mapP_length] at this
  have HPL : Hid (doP s c = match getP c.name po with
    | none => (noP 6, s)
    | some x => objectP s x.bs c) := by
    show _ = _
    unfold doP
    rw [if_neg (by omega), if_neg (by omega), if_neg (by omega), if_neg (by omega), if_neg (by omega), ← hpo, erO_get]
    cases getP c.name po <;> rfl
  have HOB : Hid (∀ (x : Ob) (W : World), getP c.name po = some x → Below w.heap.size w W → Calls Try.prog 27 #[.pointer (some ⟨hs, 0, none⟩), .slice x.a x.len x.cap, .agg (cmV c ad ld cd)] W (Done hs (thSt hs mo ms Fz po ps) (objectP s x.bs c) W)) := by
    intro x W hx hb
    obtain ⟨p, hp, _, hp2⟩ := mem_getP hx
    have h1 := hS.obs p hp
    have h2 := hok.len (p.1, p.2.bs) (by rw [← hpo]; exact List.mem_map_of_mem hp)
    rw [hp2] at h1 h2
    have hW := Thing.below (t := thSt hs mo ms Fz po ps) hS hb
    exact objectW hs mo ms Fz po ps x c ad ld cd W hW ⟨h1.1.below hb, h1.2⟩ h2 (hd.below hb) hc (by omega) (by omega) s hpo hps (by omega)
  obtain ⟨kind, name, other, off, count, data⟩ := c
  obtain rfl : kind = 4 := hk
  simp only at hol hnl
  have HS := Lib.hid hS
  have hsl := hS.box.lt
  have hne : hs ≠ w.heap.size := by omega
  have hne1 : hs ≠ w.heap.size + 1 := by omega
  obtain ⟨W, hW⟩ : ∃ W, W = (w.alloc (.cells #[.int .i64 4, encStr name, encStr other, .int .i64 (off : Int), .int .i64 (count : Int), .int .i64 0, .int .i64 0, .slice ad ld cd] 30)).alloc (.cells #[.int .i64 0, .bool false, .int .i64 0, .slice none 0 0, .slice none 0 0] 41) := ⟨_, rfl⟩
  have hB : Hid (Below w.heap.size w W) := by rw [hW]; exact Below_alloc2 _ _
  have hBox : Hid (Box W (w.heap.size + 1) #[.int .i64 0, .bool false, .int .i64 0, .slice none 0 0, .slice none 0 0] 41) := by rw [hW]; exact Box.new (by simp)
  have hBoc : Hid (Box W w.heap.size #[.int .i64 4, encStr name, encStr other, .int .i64 (off : Int), .int .i64 (count : Int), .int .i64 0, .int .i64 0, .slice ad ld cd] 30) := by rw [hW]; exact Box.alloc (Box.new rfl) _
  have hsz : Hid (W.heap.size = w.heap.size + 2) := by rw [hW]; show _ = _; simp
  have hslW : hs < W.heap.size := by have := hsz.out; omega
  have HOO := Lib.hid (StOk.objs (Thing.below (t := thSt hs mo ms Fz po ps) HS.out hB.out.drew))
  have b0 : W.cell? ⟨hs, 0, none⟩ = some (.map (some mo)) := (HS.out.box.below hB.out hsl).cell 0
  have k1 : W.cell? ⟨w.heap.size, 1, none⟩ = some (encStr name) := hBoc.out.cell 1
  clear hS hc hd
  rw [HPL.out]
  clear HPL
  obtain ⟨g, hg⟩ : ∃ g, Hid (getP name po = g) := ⟨_, rfl⟩
  have HH : Hid (Maps.has (datP obV po) (.string name) = g.isSome) := by show _ = _; rw [has_get, hg.out]
  simp only [hg.out]
  cases g with
  | none =>
    have HH2 : Hid (Maps.has (datP obV po) (.string name) = false) := HH.out
    simp only
    have HLQ : Hid (∀ w' : World, OM obV w' mo po → (Instr.lookup 57 (.map (some mo)) (encStr name) true).run Try.prog w' = .ok (.tuple #[.slice none 0 0, .bool false]) w') := fun w' h => by
      obtain ⟨v, q, h1, h2⟩ := World.ownsMap.look_ok h keyS Try.underlying57 (zeroO _) (show RV (.slice none 0 0) = some (.held (.slice none 0 0), []) from rfl) (keyN name hnl)
      have e := look_val h2
      rw [hg.out] at e
      rw [HH2.out] at h1
      rw [h1, e]
      try rfl
    have HSS : Hid (W.drew.cell? ⟨hs, 0, none⟩ = some (.map (some mo)) ∧ W.drew.cell? ⟨w.heap.size, 1, none⟩ = some (encStr name) ∧ OM obV W.drew mo po) := ⟨b0, k1, HOO.out⟩
    unfold cmV
    go_enter Try.func21, Try.ntmps21
    go_wp2_with fail
    rw [← hW]
    clear hW
    refine wp_region_held_drew (S := fun w' => w'.cell? ⟨hs, 0, none⟩ = some (.map (some mo)) ∧ w'.cell? ⟨w.heap.size, 1, none⟩ = some (encStr name) ∧ OM obV w' mo po) (by kernel_rfl) HSS.out (fun hHeld => ?_)
    refine wpAnyH_take (i := 0) (v := .pointer (some ⟨hs, 0, none⟩)) rfl (by kernel_rfl) (by kernel_rfl) (by kernel_rfl) (fun _ _ _ h => h) (Or.inl ⟨by rfl, ?_⟩) (by assumption) ?_
    · intro w' hS
      obtain ⟨u1, u2, u3⟩ := hS
      go_simp
      done
    try simp only [Act.put, List.getElem_toArray, List.getElem_cons_zero, List.getElem_cons_succ, List.setIfInBounds_toArray, List.set_cons_zero, List.set_cons_succ]
    refine wpAnyH_take (i := 1) (v := .pointer (some ⟨hs, 0, none⟩)) rfl (by kernel_rfl) (by kernel_rfl) (by kernel_rfl) (fun _ _ _ h => h) (Or.inl ⟨by rfl, ?_⟩) (by assumption) ?_
    · intro w' hS
      obtain ⟨u1, u2, u3⟩ := hS
      go_simp
      done
    try simp only [Act.put, List.getElem_toArray, List.getElem_cons_zero, List.getElem_cons_succ, List.setIfInBounds_toArray, List.set_cons_zero, List.set_cons_succ]
    refine wpAnyH_take (i := 2) (v := .pointer (some ⟨hs, 0, none⟩)) rfl (by kernel_rfl) (by kernel_rfl) (by kernel_rfl) (fun _ _ _ h => h) (Or.inl ⟨by rfl, ?_⟩) (by assumption) ?_
    · intro w' hS
      obtain ⟨u1, u2, u3⟩ := hS
      go_simp
      done
    try simp only [Act.put, List.getElem_toArray, List.getElem_cons_zero, List.getElem_cons_succ, List.setIfInBounds_toArray, List.set_cons_zero, List.set_cons_succ]
    refine wpAnyH_take (i := 3) (v := .map (some mo)) rfl (by kernel_rfl) (by kernel_rfl) (by kernel_rfl) (fun _ _ _ h => h) (Or.inl ⟨by rfl, ?_⟩) (by assumption) ?_
    · intro w' hS
      obtain ⟨u1, u2, u3⟩ := hS
      go_simp
      done
    try simp only [Act.put, List.getElem_toArray, List.getElem_cons_zero, List.getElem_cons_succ, List.setIfInBounds_toArray, List.set_cons_zero, List.set_cons_succ]
    refine wpAnyH_take (i := 4) (v := .pointer (some ⟨w.heap.size, 1, none⟩)) rfl (by kernel_rfl) (by kernel_rfl) (by kernel_rfl) (fun _ _ _ h => h) (Or.inl ⟨by rfl, ?_⟩) (by assumption) ?_
    · intro w' hS
      obtain ⟨u1, u2, u3⟩ := hS
      go_simp
      done
    try simp only [Act.put, List.getElem_toArray, List.getElem_cons_zero, List.getElem_cons_succ, List.setIfInBounds_toArray, List.set_cons_zero, List.set_cons_succ]
    refine wpAnyH_take (i := 5) (v := encStr name) rfl (by kernel_rfl) (by kernel_rfl) (by kernel_rfl) (fun _ _ _ h => h) (Or.inl ⟨by rfl, ?_⟩) (by assumption) ?_
    · intro w' hS
      obtain ⟨u1, u2, u3⟩ := hS
      go_simp
      done
    try simp only [Act.put, List.getElem_toArray, List.getElem_cons_zero, List.getElem_cons_succ, List.setIfInBounds_toArray, List.set_cons_zero, List.set_cons_succ]
    refine wpAnyH_take (i := 6) (v := .tuple #[.slice none 0 0, .bool false]) rfl (by kernel_rfl) (by kernel_rfl) (by kernel_rfl) (fun _ _ _ h => h) (Or.inl ⟨by rfl, ?_⟩) (by assumption) ?_
    · intro w' hS
      obtain ⟨u1, u2, u3⟩ := hS
      have hlk := HLQ.out w' u3
      clear HLQ
      go_simp
      done
    try simp only [Act.put, List.getElem_toArray, List.getElem_cons_zero, List.getElem_cons_succ, List.setIfInBounds_toArray, List.set_cons_zero, List.set_cons_succ]
    refine wpAnyH_take (i := 7) (v := .tuple #[.slice none 0 0, .bool false]) rfl (by kernel_rfl) (by kernel_rfl) (by kernel_rfl) (fun _ _ _ h => h) (Or.inl ⟨by rfl, ?_⟩) (by assumption) ?_
    · intro w' hS
      obtain ⟨u1, u2, u3⟩ := hS
      go_simp
      done
    try simp only [Act.put, List.getElem_toArray, List.getElem_cons_zero, List.getElem_cons_succ, List.setIfInBounds_toArray, List.set_cons_zero, List.set_cons_succ]
    refine wpAnyH_take (i := 8) (v := .slice none 0 0) rfl (by kernel_rfl) (by kernel_rfl) (by kernel_rfl) (fun _ _ _ h => h) (Or.inl ⟨by rfl, ?_⟩) (by assumption) ?_
    · intro w' hS
      obtain ⟨u1, u2, u3⟩ := hS
      go_simp
      done
    try simp only [Act.put, List.getElem_toArray, List.getElem_cons_zero, List.getElem_cons_succ, List.setIfInBounds_toArray, List.set_cons_zero, List.set_cons_succ]
    refine wpAnyH_take (i := 9) (v := .bool false) rfl (by kernel_rfl) (by kernel_rfl) (by kernel_rfl) (fun _ _ _ h => h) (Or.inl ⟨by rfl, ?_⟩) (by assumption) ?_
    · intro w' hS
      obtain ⟨u1, u2, u3⟩ := hS
      go_simp
      done
    try simp only [Act.put, List.getElem_toArray, List.getElem_cons_zero, List.getElem_cons_succ, List.setIfInBounds_toArray, List.set_cons_zero, List.set_cons_succ]
    refine wpAnyH_take (i := 10) (v := .slice none 0 0) rfl (by kernel_rfl) (by kernel_rfl) (by kernel_rfl) (fun _ _ _ h => h) (Or.inl ⟨by rfl, ?_⟩) (by assumption) ?_
    · intro w' hS
      obtain ⟨u1, u2, u3⟩ := hS
      go_simp
      done
    try simp only [Act.put, List.getElem_toArray, List.getElem_cons_zero, List.getElem_cons_succ, List.setIfInBounds_toArray, List.set_cons_zero, List.set_cons_succ]
    refine wpAnyH_take (i := 11) (v := .bool false) rfl (by kernel_rfl) (by kernel_rfl) (by kernel_rfl) (fun _ _ _ h => h) (Or.inl ⟨by rfl, ?_⟩) (by assumption) ?_
    · intro w' hS
      obtain ⟨u1, u2, u3⟩ := hS
      go_simp
      done
    try simp only [Act.put, List.getElem_toArray, List.getElem_cons_zero, List.getElem_cons_succ, List.setIfInBounds_toArray, List.set_cons_zero, List.set_cons_succ]
    refine wpAnyH_done (by kernel_rfl) ?_ _
    clear hHeld
    go_wp2_with (first
      | (go_at_call 23; refine (noW 6 _).mono ?_; rintro e w5 ⟨rfl, hb⟩; have HB5 := Lib.hid hb; clear hb; have hBox5 := Lib.hid (Box.below hBox.out (((Below.refl _ W).drew).trans HB5.out) (by show _ < W.heap.size; have := hsz.out; omega)))
      | (refine wpList_store_box rfl 41 (.tmp 4) (.tmp 75) rfl (w.heap.size + 1) _ rfl rfl 41 _ hBox5.out (by kernel_rfl) rfl (by rfl) ?_; intro w6 hb6 hg6; have HB3 := Lib.hid hb6; have HG6 := Lib.hid hg6; clear hb6 hg6)
      | fail)
    refine bodyPost_ret (results_boxP Try.results21 _ _ (w.heap.size + 1) _ _ HB3.out _ rfl Try.underlying41 rfl (by kernel_rfl)) rfl ?_
    exact done_no HS.out (hB.out.drew.trans (HB5.out.mono (by show w.heap.size ≤ W.heap.size; have := hsz.out; omega))) HG6.out (by omega) 6 s hpo hps rfl
  | some x =>
    have HH2 : Hid (Maps.has (datP obV po) (.string name) = true) := HH.out
    have HD0 := Lib.hid (HOB.out x W.drew hg.out hB.out.drew)
    unfold cmV at HD0
    simp only
    obtain ⟨r, hr⟩ : ∃ r, Hid (objectP s x.bs ⟨4, name, other, off, count, data⟩ = r) := ⟨_, rfl⟩
    rw [hr.out] at HD0 ⊢
    have HLQ : Hid (∀ w' : World, OM obV w' mo po → (Instr.lookup 57 (.map (some mo)) (encStr name) true).run Try.prog w' = .ok (.tuple #[.slice x.a x.len x.cap, .bool true]) w') := fun w' h => by
      obtain ⟨v, q, h1, h2⟩ := World.ownsMap.look_ok h keyS Try.underlying57 (zeroO _) (show RV (.slice none 0 0) = some (.held (.slice none 0 0), []) from rfl) (keyN name hnl)
      have e := look_val h2
      rw [hg.out] at e
      rw [HH2.out] at h1
      rw [h1, e]
      try rfl
    have HSS : Hid (W.drew.cell? ⟨hs, 0, none⟩ = some (.map (some mo)) ∧ W.drew.cell? ⟨w.heap.size, 1, none⟩ = some (encStr name) ∧ OM obV W.drew mo po) := ⟨b0, k1, HOO.out⟩
    unfold cmV
    go_enter Try.func21, Try.ntmps21
    go_wp2_with fail
    rw [← hW]
    clear hW
    refine wp_region_held_drew (S := fun w' => w'.cell? ⟨hs, 0, none⟩ = some (.map (some mo)) ∧ w'.cell? ⟨w.heap.size, 1, none⟩ = some (encStr name) ∧ OM obV w' mo po) (by kernel_rfl) HSS.out (fun hHeld => ?_)
    refine wpAnyH_take (i := 0) (v := .pointer (some ⟨hs, 0, none⟩)) rfl (by kernel_rfl) (by kernel_rfl) (by kernel_rfl) (fun _ _ _ h => h) (Or.inl ⟨by rfl, ?_⟩) (by assumption) ?_
    · intro w' hS
      obtain ⟨u1, u2, u3⟩ := hS
      go_simp
      done
    try simp only [Act.put, List.getElem_toArray, List.getElem_cons_zero, List.getElem_cons_succ, List.setIfInBounds_toArray, List.set_cons_zero, List.set_cons_succ]
    refine wpAnyH_take (i := 1) (v := .pointer (some ⟨hs, 0, none⟩)) rfl (by kernel_rfl) (by kernel_rfl) (by kernel_rfl) (fun _ _ _ h => h) (Or.inl ⟨by rfl, ?_⟩) (by assumption) ?_
    · intro w' hS
      obtain ⟨u1, u2, u3⟩ := hS
      go_simp
      done
    try simp only [Act.put, List.getElem_toArray, List.getElem_cons_zero, List.getElem_cons_succ, List.setIfInBounds_toArray, List.set_cons_zero, List.set_cons_succ]
    refine wpAnyH_take (i := 2) (v := .pointer (some ⟨hs, 0, none⟩)) rfl (by kernel_rfl) (by kernel_rfl) (by kernel_rfl) (fun _ _ _ h => h) (Or.inl ⟨by rfl, ?_⟩) (by assumption) ?_
    · intro w' hS
      obtain ⟨u1, u2, u3⟩ := hS
      go_simp
      done
    try simp only [Act.put, List.getElem_toArray, List.getElem_cons_zero, List.getElem_cons_succ, List.setIfInBounds_toArray, List.set_cons_zero, List.set_cons_succ]
    refine wpAnyH_take (i := 3) (v := .map (some mo)) rfl (by kernel_rfl) (by kernel_rfl) (by kernel_rfl) (fun _ _ _ h => h) (Or.inl ⟨by rfl, ?_⟩) (by assumption) ?_
    · intro w' hS
      obtain ⟨u1, u2, u3⟩ := hS
      go_simp
      done
    try simp only [Act.put, List.getElem_toArray, List.getElem_cons_zero, List.getElem_cons_succ, List.setIfInBounds_toArray, List.set_cons_zero, List.set_cons_succ]
    refine wpAnyH_take (i := 4) (v := .pointer (some ⟨w.heap.size, 1, none⟩)) rfl (by kernel_rfl) (by kernel_rfl) (by kernel_rfl) (fun _ _ _ h => h) (Or.inl ⟨by rfl, ?_⟩) (by assumption) ?_
    · intro w' hS
      obtain ⟨u1, u2, u3⟩ := hS
      go_simp
      done
    try simp only [Act.put, List.getElem_toArray, List.getElem_cons_zero, List.getElem_cons_succ, List.setIfInBounds_toArray, List.set_cons_zero, List.set_cons_succ]
    refine wpAnyH_take (i := 5) (v := encStr name) rfl (by kernel_rfl) (by kernel_rfl) (by kernel_rfl) (fun _ _ _ h => h) (Or.inl ⟨by rfl, ?_⟩) (by assumption) ?_
    · intro w' hS
      obtain ⟨u1, u2, u3⟩ := hS
      go_simp
      done
    try simp only [Act.put, List.getElem_toArray, List.getElem_cons_zero, List.getElem_cons_succ, List.setIfInBounds_toArray, List.set_cons_zero, List.set_cons_succ]
    refine wpAnyH_take (i := 6) (v := .tuple #[.slice x.a x.len x.cap, .bool true]) rfl (by kernel_rfl) (by kernel_rfl) (by kernel_rfl) (fun _ _ _ h => h) (Or.inl ⟨by rfl, ?_⟩) (by assumption) ?_
    · intro w' hS
      obtain ⟨u1, u2, u3⟩ := hS
      have hlk := HLQ.out w' u3
      clear HLQ
      go_simp
      done
    try simp only [Act.put, List.getElem_toArray, List.getElem_cons_zero, List.getElem_cons_succ, List.setIfInBounds_toArray, List.set_cons_zero, List.set_cons_succ]
    refine wpAnyH_take (i := 7) (v := .tuple #[.slice x.a x.len x.cap, .bool true]) rfl (by kernel_rfl) (by kernel_rfl) (by kernel_rfl) (fun _ _ _ h => h) (Or.inl ⟨by rfl, ?_⟩) (by assumption) ?_
    · intro w' hS
      obtain ⟨u1, u2, u3⟩ := hS
      go_simp
      done
    try simp only [Act.put, List.getElem_toArray, List.getElem_cons_zero, List.getElem_cons_succ, List.setIfInBounds_toArray, List.set_cons_zero, List.set_cons_succ]
    refine wpAnyH_take (i := 8) (v := .slice x.a x.len x.cap) rfl (by kernel_rfl) (by kernel_rfl) (by kernel_rfl) (fun _ _ _ h => h) (Or.inl ⟨by rfl, ?_⟩) (by assumption) ?_
    · intro w' hS
      obtain ⟨u1, u2, u3⟩ := hS
      go_simp
      done
    try simp only [Act.put, List.getElem_toArray, List.getElem_cons_zero, List.getElem_cons_succ, List.setIfInBounds_toArray, List.set_cons_zero, List.set_cons_succ]
    refine wpAnyH_take (i := 9) (v := .bool true) rfl (by kernel_rfl) (by kernel_rfl) (by kernel_rfl) (fun _ _ _ h => h) (Or.inl ⟨by rfl, ?_⟩) (by assumption) ?_
    · intro w' hS
      obtain ⟨u1, u2, u3⟩ := hS
      go_simp
      done
    try simp only [Act.put, List.getElem_toArray, List.getElem_cons_zero, List.getElem_cons_succ, List.setIfInBounds_toArray, List.set_cons_zero, List.set_cons_succ]
    refine wpAnyH_take (i := 10) (v := .slice x.a x.len x.cap) rfl (by kernel_rfl) (by kernel_rfl) (by kernel_rfl) (fun _ _ _ h => h) (Or.inl ⟨by rfl, ?_⟩) (by assumption) ?_
    · intro w' hS
      obtain ⟨u1, u2, u3⟩ := hS
      go_simp
      done
    try simp only [Act.put, List.getElem_toArray, List.getElem_cons_zero, List.getElem_cons_succ, List.setIfInBounds_toArray, List.set_cons_zero, List.set_cons_succ]
    refine wpAnyH_take (i := 11) (v := .bool true) rfl (by kernel_rfl) (by kernel_rfl) (by kernel_rfl) (fun _ _ _ h => h) (Or.inl ⟨by rfl, ?_⟩) (by assumption) ?_
    · intro w' hS
      obtain ⟨u1, u2, u3⟩ := hS
      go_simp
      done
    try simp only [Act.put, List.getElem_toArray, List.getElem_cons_zero, List.getElem_cons_succ, List.setIfInBounds_toArray, List.set_cons_zero, List.set_cons_succ]
    refine wpAnyH_done (by kernel_rfl) ?_ _
    clear hHeld
    have hBocd := Lib.hid (Box.drew hBoc.out)
    go_wp2_with (first
      | (refine wpList_load_box rfl 30 (.tmp 3) rfl w.heap.size rfl 30 _ hBocd.out _ Try.underlying30 rfl (by kernel_rfl) ?_)
      | (go_at_call 27; refine HD0.out.mono ?_; intro e w2 hD; have HD := Lib.hid hD; obtain ⟨rad, rld, rcd, ran, rln, rcn, _, _, _, _, _, _, rfl, hT1, _⟩ := hD; have hBox2 := Lib.hid (Done.box HS.out hB.out.drew hT1.out (Box.drew hBox.out) (by omega)); clear hT1)
      | (refine wpList_store_box rfl 41 (.tmp 4) (.tmp 79) rfl (w.heap.size + 1) _ rfl rfl 41 _ hBox2.out (by kernel_rfl) rfl (by rfl) ?_; intro w6 hb6 hg6; have HB3 := Lib.hid hb6; have HG6 := Lib.hid hg6; clear hb6 hg6)
      | fail)
    refine bodyPost_ret (results_boxP Try.results21 _ _ (w.heap.size + 1) _ _ HB3.out _ rfl Try.underlying41 rfl (by kernel_rfl)) rfl ?_
    exact Done.after HD.out HS.out hB.out.drew HG6.out (by show _ < W.heap.size; have := hsz.out; omega) (by omega)
set_option maxHeartbeats 8000000 in
theorem doObj5 (hs mo ms : Nat) (Fz : Nat → Prop) (po : PM Ob) (ps : PM (Nat × PM Ob)) (c : Cm) (ad : Option Addr) (ld cd : Nat) (w : World) (hS : StOk hs mo ms Fz po ps w) (hc : c.Ok) (hd : Row .u8 w ad ld cd c.data) (hk : c.kind = 5) (s : Pl) (hpo : erO po = s.objs) (hps : erS ps = s.snaps) (hok : s.Ok) :
    Calls Try.prog 21 #[.pointer (some ⟨hs, 0, none⟩), .agg (cmV c ad ld cd)] w (Done hs (thSt hs mo ms Fz po ps) (doP s c) w) := by
  have hol := hc.olen
  have hnl := hc.nlen
  have hpl : po.length ≤ 4 := by have := hok.objs; rw [← hpo] at this; unfold erO at this; rwa [mapP_length] at this
  have hpsl : ps.length ≤ 3 := by have := hok.snaps; rw [← hps] at this; unfold erS at this; rwa [mapP_length] at this
  have HPL : Hid (doP s c = match getP c.name po with
    | none => (noP 6, s)
    | some x => objectP s x.bs c) := by
    show _ = _
    unfold doP
    rw [if_neg (by omega), if_neg (by omega), if_neg (by omega), if_neg (by omega), if_neg (by omega), ← hpo, erO_get]
    cases getP c.name po <;> rfl
  have HOB : Hid (∀ (x : Ob) (W : World), getP c.name po = some x → Below w.heap.size w W → Calls Try.prog 27 #[.pointer (some ⟨hs, 0, none⟩), .slice x.a x.len x.cap, .agg (cmV c ad ld cd)] W (Done hs (thSt hs mo ms Fz po ps) (objectP s x.bs c) W)) := by
    intro x W hx hb
    obtain ⟨p, hp, _, hp2⟩ := mem_getP hx
    have h1 := hS.obs p hp
    have h2 := hok.len (p.1, p.2.bs) (by rw [← hpo]; exact List.mem_map_of_mem hp)
    rw [hp2] at h1 h2
    have hW := Thing.below (t := thSt hs mo ms Fz po ps) hS hb
    exact objectW hs mo ms Fz po ps x c ad ld cd W hW ⟨h1.1.below hb, h1.2⟩ h2 (hd.below hb) hc (by omega) (by omega) s hpo hps (by omega)
  obtain ⟨kind, name, other, off, count, data⟩ := c
  obtain rfl : kind = 5 := hk
  simp only at hol hnl
  have HS := Lib.hid hS
  have hsl := hS.box.lt
  have hne : hs ≠ w.heap.size := by omega
  have hne1 : hs ≠ w.heap.size + 1 := by omega
  obtain ⟨W, hW⟩ : ∃ W, W = (w.alloc (.cells #[.int .i64 5, encStr name, encStr other, .int .i64 (off : Int), .int .i64 (count : Int), .int .i64 0, .int .i64 0, .slice ad ld cd] 30)).alloc (.cells #[.int .i64 0, .bool false, .int .i64 0, .slice none 0 0, .slice none 0 0] 41) := ⟨_, rfl⟩
  have hB : Hid (Below w.heap.size w W) := by rw [hW]; exact Below_alloc2 _ _
  have hBox : Hid (Box W (w.heap.size + 1) #[.int .i64 0, .bool false, .int .i64 0, .slice none 0 0, .slice none 0 0] 41) := by rw [hW]; exact Box.new (by simp)
  have hBoc : Hid (Box W w.heap.size #[.int .i64 5, encStr name, encStr other, .int .i64 (off : Int), .int .i64 (count : Int), .int .i64 0, .int .i64 0, .slice ad ld cd] 30) := by rw [hW]; exact Box.alloc (Box.new rfl) _
  have hsz : Hid (W.heap.size = w.heap.size + 2) := by rw [hW]; show _ = _; simp
  have hslW : hs < W.heap.size := by have := hsz.out; omega
  have HOO := Lib.hid (StOk.objs (Thing.below (t := thSt hs mo ms Fz po ps) HS.out hB.out.drew))
  have b0 : W.cell? ⟨hs, 0, none⟩ = some (.map (some mo)) := (HS.out.box.below hB.out hsl).cell 0
  have k1 : W.cell? ⟨w.heap.size, 1, none⟩ = some (encStr name) := hBoc.out.cell 1
  clear hS hc hd
  rw [HPL.out]
  clear HPL
  obtain ⟨g, hg⟩ : ∃ g, Hid (getP name po = g) := ⟨_, rfl⟩
  have HH : Hid (Maps.has (datP obV po) (.string name) = g.isSome) := by show _ = _; rw [has_get, hg.out]
  simp only [hg.out]
  cases g with
  | none =>
    have HH2 : Hid (Maps.has (datP obV po) (.string name) = false) := HH.out
    simp only
    have HLQ : Hid (∀ w' : World, OM obV w' mo po → (Instr.lookup 57 (.map (some mo)) (encStr name) true).run Try.prog w' = .ok (.tuple #[.slice none 0 0, .bool false]) w') := fun w' h => by
      obtain ⟨v, q, h1, h2⟩ := World.ownsMap.look_ok h keyS Try.underlying57 (zeroO _) (show RV (.slice none 0 0) = some (.held (.slice none 0 0), []) from rfl) (keyN name hnl)
      have e := look_val h2
      rw [hg.out] at e
      rw [HH2.out] at h1
      rw [h1, e]
      try rfl
    have HSS : Hid (W.drew.cell? ⟨hs, 0, none⟩ = some (.map (some mo)) ∧ W.drew.cell? ⟨w.heap.size, 1, none⟩ = some (encStr name) ∧ OM obV W.drew mo po) := ⟨b0, k1, HOO.out⟩
    unfold cmV
    go_enter Try.func21, Try.ntmps21
    go_wp2_with fail
    rw [← hW]
    clear hW
    refine wp_region_held_drew (S := fun w' => w'.cell? ⟨hs, 0, none⟩ = some (.map (some mo)) ∧ w'.cell? ⟨w.heap.size, 1, none⟩ = some (encStr name) ∧ OM obV w' mo po) (by kernel_rfl) HSS.out (fun hHeld => ?_)
    refine wpAnyH_take (i := 0) (v := .pointer (some ⟨hs, 0, none⟩)) rfl (by kernel_rfl) (by kernel_rfl) (by kernel_rfl) (fun _ _ _ h => h) (Or.inl ⟨by rfl, ?_⟩) (by assumption) ?_
    · intro w' hS
      obtain ⟨u1, u2, u3⟩ := hS
      go_simp
      done
    try simp only [Act.put, List.getElem_toArray, List.getElem_cons_zero, List.getElem_cons_succ, List.setIfInBounds_toArray, List.set_cons_zero, List.set_cons_succ]
    refine wpAnyH_take (i := 1) (v := .pointer (some ⟨hs, 0, none⟩)) rfl (by kernel_rfl) (by kernel_rfl) (by kernel_rfl) (fun _ _ _ h => h) (Or.inl ⟨by rfl, ?_⟩) (by assumption) ?_
    · intro w' hS
      obtain ⟨u1, u2, u3⟩ := hS
      go_simp
      done
    try simp only [Act.put, List.getElem_toArray, List.getElem_cons_zero, List.getElem_cons_succ, List.setIfInBounds_toArray, List.set_cons_zero, List.set_cons_succ]
    refine wpAnyH_take (i := 2) (v := .pointer (some ⟨hs, 0, none⟩)) rfl (by kernel_rfl) (by kernel_rfl) (by kernel_rfl) (fun _ _ _ h => h) (Or.inl ⟨by rfl, ?_⟩) (by assumption) ?_
    · intro w' hS
      obtain ⟨u1, u2, u3⟩ := hS
      go_simp
      done
    try simp only [Act.put, List.getElem_toArray, List.getElem_cons_zero, List.getElem_cons_succ, List.setIfInBounds_toArray, List.set_cons_zero, List.set_cons_succ]
    refine wpAnyH_take (i := 3) (v := .map (some mo)) rfl (by kernel_rfl) (by kernel_rfl) (by kernel_rfl) (fun _ _ _ h => h) (Or.inl ⟨by rfl, ?_⟩) (by assumption) ?_
    · intro w' hS
      obtain ⟨u1, u2, u3⟩ := hS
      go_simp
      done
    try simp only [Act.put, List.getElem_toArray, List.getElem_cons_zero, List.getElem_cons_succ, List.setIfInBounds_toArray, List.set_cons_zero, List.set_cons_succ]
    refine wpAnyH_take (i := 4) (v := .pointer (some ⟨w.heap.size, 1, none⟩)) rfl (by kernel_rfl) (by kernel_rfl) (by kernel_rfl) (fun _ _ _ h => h) (Or.inl ⟨by rfl, ?_⟩) (by assumption) ?_
    · intro w' hS
      obtain ⟨u1, u2, u3⟩ := hS
      go_simp
      done
    try simp only [Act.put, List.getElem_toArray, List.getElem_cons_zero, List.getElem_cons_succ, List.setIfInBounds_toArray, List.set_cons_zero, List.set_cons_succ]
    refine wpAnyH_take (i := 5) (v := encStr name) rfl (by kernel_rfl) (by kernel_rfl) (by kernel_rfl) (fun _ _ _ h => h) (Or.inl ⟨by rfl, ?_⟩) (by assumption) ?_
    · intro w' hS
      obtain ⟨u1, u2, u3⟩ := hS
      go_simp
      done
    try simp only [Act.put, List.getElem_toArray, List.getElem_cons_zero, List.getElem_cons_succ, List.setIfInBounds_toArray, List.set_cons_zero, List.set_cons_succ]
    refine wpAnyH_take (i := 6) (v := .tuple #[.slice none 0 0, .bool false]) rfl (by kernel_rfl) (by kernel_rfl) (by kernel_rfl) (fun _ _ _ h => h) (Or.inl ⟨by rfl, ?_⟩) (by assumption) ?_
    · intro w' hS
      obtain ⟨u1, u2, u3⟩ := hS
      have hlk := HLQ.out w' u3
      clear HLQ
      go_simp
      done
    try simp only [Act.put, List.getElem_toArray, List.getElem_cons_zero, List.getElem_cons_succ, List.setIfInBounds_toArray, List.set_cons_zero, List.set_cons_succ]
    refine wpAnyH_take (i := 7) (v := .tuple #[.slice none 0 0, .bool false]) rfl (by kernel_rfl) (by kernel_rfl) (by kernel_rfl) (fun _ _ _ h => h) (Or.inl ⟨by rfl, ?_⟩) (by assumption) ?_
    · intro w' hS
      obtain ⟨u1, u2, u3⟩ := hS
      go_simp
      done
    try simp only [Act.put, List.getElem_toArray, List.getElem_cons_zero, List.getElem_cons_succ, List.setIfInBounds_toArray, List.set_cons_zero, List.set_cons_succ]
    refine wpAnyH_take (i := 8) (v := .slice none 0 0) rfl (by kernel_rfl) (by kernel_rfl) (by kernel_rfl) (fun _ _ _ h => h) (Or.inl ⟨by rfl, ?_⟩) (by assumption) ?_
    · intro w' hS
      obtain ⟨u1, u2, u3⟩ := hS
      go_simp
      done
    try simp only [Act.put, List.getElem_toArray, List.getElem_cons_zero, List.getElem_cons_succ, List.setIfInBounds_toArray, List.set_cons_zero, List.set_cons_succ]
    refine wpAnyH_take (i := 9) (v := .bool false) rfl (by kernel_rfl) (by kernel_rfl) (by kernel_rfl) (fun _ _ _ h => h) (Or.inl ⟨by rfl, ?_⟩) (by assumption) ?_
    · intro w' hS
      obtain ⟨u1, u2, u3⟩ := hS
      go_simp
      done
    try simp only [Act.put, List.getElem_toArray, List.getElem_cons_zero, List.getElem_cons_succ, List.setIfInBounds_toArray, List.set_cons_zero, List.set_cons_succ]
    refine wpAnyH_take (i := 10) (v := .slice none 0 0) rfl (by kernel_rfl) (by kernel_rfl) (by kernel_rfl) (fun _ _ _ h => h) (Or.inl ⟨by rfl, ?_⟩) (by assumption) ?_
    · intro w' hS
      obtain ⟨u1, u2, u3⟩ := hS
      go_simp
      done
    try simp only [Act.put, List.getElem_toArray, List.getElem_cons_zero, List.getElem_cons_succ, List.setIfInBounds_toArray, List.set_cons_zero, List.set_cons_succ]
    refine wpAnyH_take (i := 11) (v := .bool false) rfl (by kernel_rfl) (by kernel_rfl) (by kernel_rfl) (fun _ _ _ h => h) (Or.inl ⟨by rfl, ?_⟩) (by assumption) ?_
    · intro w' hS
      obtain ⟨u1, u2, u3⟩ := hS
      go_simp
      done
    try simp only [Act.put, List.getElem_toArray, List.getElem_cons_zero, List.getElem_cons_succ, List.setIfInBounds_toArray, List.set_cons_zero, List.set_cons_succ]
    refine wpAnyH_done (by kernel_rfl) ?_ _
    clear hHeld
    go_wp2_with (first
      | (go_at_call 23; refine (noW 6 _).mono ?_; rintro e w5 ⟨rfl, hb⟩; have HB5 := Lib.hid hb; clear hb; have hBox5 := Lib.hid (Box.below hBox.out (((Below.refl _ W).drew).trans HB5.out) (by show _ < W.heap.size; have := hsz.out; omega)))
      | (refine wpList_store_box rfl 41 (.tmp 4) (.tmp 75) rfl (w.heap.size + 1) _ rfl rfl 41 _ hBox5.out (by kernel_rfl) rfl (by rfl) ?_; intro w6 hb6 hg6; have HB3 := Lib.hid hb6; have HG6 := Lib.hid hg6; clear hb6 hg6)
      | fail)
    refine bodyPost_ret (results_boxP Try.results21 _ _ (w.heap.size + 1) _ _ HB3.out _ rfl Try.underlying41 rfl (by kernel_rfl)) rfl ?_
    exact done_no HS.out (hB.out.drew.trans (HB5.out.mono (by show w.heap.size ≤ W.heap.size; have := hsz.out; omega))) HG6.out (by omega) 6 s hpo hps rfl
  | some x =>
    have HH2 : Hid (Maps.has (datP obV po) (.string name) = true) := HH.out
    have HD0 := Lib.hid (HOB.out x W.drew hg.out hB.out.drew)
    unfold cmV at HD0
    simp only
    obtain ⟨r, hr⟩ : ∃ r, Hid (objectP s x.bs ⟨5, name, other, off, count, data⟩ = r) := ⟨_, rfl⟩
    rw [hr.out] at HD0 ⊢
    have HLQ : Hid (∀ w' : World, OM obV w' mo po → (Instr.lookup 57 (.map (some mo)) (encStr name) true).run Try.prog w' = .ok (.tuple #[.slice x.a x.len x.cap, .bool true]) w') := fun w' h => by
      obtain ⟨v, q, h1, h2⟩ := World.ownsMap.look_ok h keyS Try.underlying57 (zeroO _) (show RV (.slice none 0 0) = some (.held (.slice none 0 0), []) from rfl) (keyN name hnl)
      have e := look_val h2
      rw [hg.out] at e
      rw [HH2.out] at h1
      rw [h1, e]
      try rfl
    have HSS : Hid (W.drew.cell? ⟨hs, 0, none⟩ = some (.map (some mo)) ∧ W.drew.cell? ⟨w.heap.size, 1, none⟩ = some (encStr name) ∧ OM obV W.drew mo po) := ⟨b0, k1, HOO.out⟩
    unfold cmV
    go_enter Try.func21, Try.ntmps21
    go_wp2_with fail
    rw [← hW]
    clear hW
    refine wp_region_held_drew (S := fun w' => w'.cell? ⟨hs, 0, none⟩ = some (.map (some mo)) ∧ w'.cell? ⟨w.heap.size, 1, none⟩ = some (encStr name) ∧ OM obV w' mo po) (by kernel_rfl) HSS.out (fun hHeld => ?_)
    refine wpAnyH_take (i := 0) (v := .pointer (some ⟨hs, 0, none⟩)) rfl (by kernel_rfl) (by kernel_rfl) (by kernel_rfl) (fun _ _ _ h => h) (Or.inl ⟨by rfl, ?_⟩) (by assumption) ?_
    · intro w' hS
      obtain ⟨u1, u2, u3⟩ := hS
      go_simp
      done
    try simp only [Act.put, List.getElem_toArray, List.getElem_cons_zero, List.getElem_cons_succ, List.setIfInBounds_toArray, List.set_cons_zero, List.set_cons_succ]
    refine wpAnyH_take (i := 1) (v := .pointer (some ⟨hs, 0, none⟩)) rfl (by kernel_rfl) (by kernel_rfl) (by kernel_rfl) (fun _ _ _ h => h) (Or.inl ⟨by rfl, ?_⟩) (by assumption) ?_
    · intro w' hS
      obtain ⟨u1, u2, u3⟩ := hS
      go_simp
      done
    try simp only [Act.put, List.getElem_toArray, List.getElem_cons_zero, List.getElem_cons_succ, List.setIfInBounds_toArray, List.set_cons_zero, List.set_cons_succ]
    refine wpAnyH_take (i := 2) (v := .pointer (some ⟨hs, 0, none⟩)) rfl (by kernel_rfl) (by kernel_rfl) (by kernel_rfl) (fun _ _ _ h => h) (Or.inl ⟨by rfl, ?_⟩) (by assumption) ?_
    · intro w' hS
      obtain ⟨u1, u2, u3⟩ := hS
      go_simp
      done
    try simp only [Act.put, List.getElem_toArray, List.getElem_cons_zero, List.getElem_cons_succ, List.setIfInBounds_toArray, List.set_cons_zero, List.set_cons_succ]
    refine wpAnyH_take (i := 3) (v := .map (some mo)) rfl (by kernel_rfl) (by kernel_rfl) (by kernel_rfl) (fun _ _ _ h => h) (Or.inl ⟨by rfl, ?_⟩) (by assumption) ?_
    · intro w' hS
      obtain ⟨u1, u2, u3⟩ := hS
      go_simp
      done
    try simp only [Act.put, List.getElem_toArray, List.getElem_cons_zero, List.getElem_cons_succ, List.setIfInBounds_toArray, List.set_cons_zero, List.set_cons_succ]
    refine wpAnyH_take (i := 4) (v := .pointer (some ⟨w.heap.size, 1, none⟩)) rfl (by kernel_rfl) (by kernel_rfl) (by kernel_rfl) (fun _ _ _ h => h) (Or.inl ⟨by rfl, ?_⟩) (by assumption) ?_
    · intro w' hS
      obtain ⟨u1, u2, u3⟩ := hS
      go_simp
      done
    try simp only [Act.put, List.getElem_toArray, List.getElem_cons_zero, List.getElem_cons_succ, List.setIfInBounds_toArray, List.set_cons_zero, List.set_cons_succ]
    refine wpAnyH_take (i := 5) (v := encStr name) rfl (by kernel_rfl) (by kernel_rfl) (by kernel_rfl) (fun _ _ _ h => h) (Or.inl ⟨by rfl, ?_⟩) (by assumption) ?_
    · intro w' hS
      obtain ⟨u1, u2, u3⟩ := hS
      go_simp
      done
    try simp only [Act.put, List.getElem_toArray, List.getElem_cons_zero, List.getElem_cons_succ, List.setIfInBounds_toArray, List.set_cons_zero, List.set_cons_succ]
    refine wpAnyH_take (i := 6) (v := .tuple #[.slice x.a x.len x.cap, .bool true]) rfl (by kernel_rfl) (by kernel_rfl) (by kernel_rfl) (fun _ _ _ h => h) (Or.inl ⟨by rfl, ?_⟩) (by assumption) ?_
    · intro w' hS
      obtain ⟨u1, u2, u3⟩ := hS
      have hlk := HLQ.out w' u3
      clear HLQ
      go_simp
      done
    try simp only [Act.put, List.getElem_toArray, List.getElem_cons_zero, List.getElem_cons_succ, List.setIfInBounds_toArray, List.set_cons_zero, List.set_cons_succ]
    refine wpAnyH_take (i := 7) (v := .tuple #[.slice x.a x.len x.cap, .bool true]) rfl (by kernel_rfl) (by kernel_rfl) (by kernel_rfl) (fun _ _ _ h => h) (Or.inl ⟨by rfl, ?_⟩) (by assumption) ?_
    · intro w' hS
      obtain ⟨u1, u2, u3⟩ := hS
      go_simp
      done
    try simp only [Act.put, List.getElem_toArray, List.getElem_cons_zero, List.getElem_cons_succ, List.setIfInBounds_toArray, List.set_cons_zero, List.set_cons_succ]
    refine wpAnyH_take (i := 8) (v := .slice x.a x.len x.cap) rfl (by kernel_rfl) (by kernel_rfl) (by kernel_rfl) (fun _ _ _ h => h) (Or.inl ⟨by rfl, ?_⟩) (by assumption) ?_
    · intro w' hS
      obtain ⟨u1, u2, u3⟩ := hS
      go_simp
      done
    try simp only [Act.put, List.getElem_toArray, List.getElem_cons_zero, List.getElem_cons_succ, List.setIfInBounds_toArray, List.set_cons_zero, List.set_cons_succ]
    refine wpAnyH_take (i := 9) (v := .bool true) rfl (by kernel_rfl) (by kernel_rfl) (by kernel_rfl) (fun _ _ _ h => h) (Or.inl ⟨by rfl, ?_⟩) (by assumption) ?_
    · intro w' hS
      obtain ⟨u1, u2, u3⟩ := hS
      go_simp
      done
    try simp only [Act.put, List.getElem_toArray, List.getElem_cons_zero, List.getElem_cons_succ, List.setIfInBounds_toArray, List.set_cons_zero, List.set_cons_succ]
    refine wpAnyH_take (i := 10) (v := .slice x.a x.len x.cap) rfl (by kernel_rfl) (by kernel_rfl) (by kernel_rfl) (fun _ _ _ h => h) (Or.inl ⟨by rfl, ?_⟩) (by assumption) ?_
    · intro w' hS
      obtain ⟨u1, u2, u3⟩ := hS
      go_simp
      done
    try simp only [Act.put, List.getElem_toArray, List.getElem_cons_zero, List.getElem_cons_succ, List.setIfInBounds_toArray, List.set_cons_zero, List.set_cons_succ]
    refine wpAnyH_take (i := 11) (v := .bool true) rfl (by kernel_rfl) (by kernel_rfl) (by kernel_rfl) (fun _ _ _ h => h) (Or.inl ⟨by rfl, ?_⟩) (by assumption) ?_
    · intro w' hS
      obtain ⟨u1, u2, u3⟩ := hS
      go_simp
      done
    try simp only [Act.put, List.getElem_toArray, List.getElem_cons_zero, List.getElem_cons_succ, List.setIfInBounds_toArray, List.set_cons_zero, List.set_cons_succ]
    refine wpAnyH_done (by kernel_rfl) ?_ _
    clear hHeld
    have hBocd := Lib.hid (Box.drew hBoc.out)
    go_wp2_with (first
      | (refine wpList_load_box rfl 30 (.tmp 3) rfl w.heap.size rfl 30 _ hBocd.out _ Try.underlying30 rfl (by kernel_rfl) ?_)
      | (go_at_call 27; refine HD0.out.mono ?_; intro e w2 hD; have HD := Lib.hid hD; obtain ⟨rad, rld, rcd, ran, rln, rcn, _, _, _, _, _, _, rfl, hT1, _⟩ := hD; have hBox2 := Lib.hid (Done.box HS.out hB.out.drew hT1.out (Box.drew hBox.out) (by omega)); clear hT1)
      | (refine wpList_store_box rfl 41 (.tmp 4) (.tmp 79) rfl (w.heap.size + 1) _ rfl rfl 41 _ hBox2.out (by kernel_rfl) rfl (by rfl) ?_; intro w6 hb6 hg6; have HB3 := Lib.hid hb6; have HG6 := Lib.hid hg6; clear hb6 hg6)
      | fail)
    refine bodyPost_ret (results_boxP Try.results21 _ _ (w.heap.size + 1) _ _ HB3.out _ rfl Try.underlying41 rfl (by kernel_rfl)) rfl ?_
    exact Done.after HD.out HS.out hB.out.drew HG6.out (by show _ < W.heap.size; have := hsz.out; omega) (by omega)
end Go.Proofs.Ytkbfohbpndjcpaa
