/- The walk of a write into a leaf. -/
import Derived.Test.YthjjfmnipemakaaTrF
namespace Go.Proofs.Ythjjfmnipemakaa
open Go.RowKit
set_option linter.unusedVariables false
set_option maxRecDepth 100000

/-- A leaf of which the first i bytes are laid. -/
def mixL (i base off : Nat) (data l : List Int) : List Int := (List.range l.length).map fun j => if j < i ∧ off ≤ base + j ∧ base + j < off + data.length then data.getD (base + j - off) 0 else l.getD j 0
theorem mixL_length (i base off : Nat) (data l : List Int) : (mixL i base off data l).length = l.length := by simp [mixL]
theorem mixL_zero (base off : Nat) (data l : List Int) : mixL 0 base off data l = l := by
  apply List.ext_getElem?
  intro j
  unfold mixL
  rw [List.getElem?_map]
  by_cases h : j < l.length
  · rw [List.getElem?_range h]
    simp [h]
  · rw [List.getElem?_eq_none (by simp; omega), List.getElem?_eq_none (by omega)]; rfl
theorem mixL_all (base off : Nat) (data l : List Int) : mixL l.length base off data l = laidL base off data l := by
  unfold mixL laidL
  apply List.map_congr_left
  intro j hj
  have := List.mem_range.1 hj
  simp [this]
theorem mixL_get (i base off : Nat) (data l : List Int) (j : Nat) (h : j < l.length) : (mixL i base off data l)[j]? = some (if j < i ∧ off ≤ base + j ∧ base + j < off + data.length then data.getD (base + j - off) 0 else l.getD j 0) := by
  unfold mixL
  rw [List.getElem?_map, List.getElem?_range h]; rfl
theorem mixL_skip (i base off : Nat) (data l : List Int) (h : ¬ (off ≤ base + i ∧ base + i < off + data.length)) : mixL (i + 1) base off data l = mixL i base off data l := by
  unfold mixL
  apply List.map_congr_left
  intro j hj
  by_cases hji : j = i
  · subst hji
    rw [if_neg (fun e => h e.2), if_neg (fun e => h e.2)]
  · by_cases h2 : j < i ∧ off ≤ base + j ∧ base + j < off + data.length
    · rw [if_pos h2, if_pos ⟨by omega, h2.2⟩]
    · rw [if_neg h2, if_neg (fun e => h2 ⟨by omega, e.2⟩)]
theorem mixL_step (i base off : Nat) (data l : List Int) (hi : i < l.length) (h : off ≤ base + i ∧ base + i < off + data.length) : mixL (i + 1) base off data l = (mixL i base off data l).set i (data.getD (base + i - off) 0) := by
  apply List.ext_getElem?
  intro j
  rw [List.getElem?_set, mixL_length]
  by_cases hj : j < l.length
  · rw [mixL_get _ _ _ _ _ j hj]
    by_cases hji : i = j
    · subst hji
      rw [if_pos rfl, if_pos hi, if_pos ⟨by omega, h⟩]
    · rw [if_neg hji, mixL_get _ _ _ _ _ j hj]
      by_cases h2 : j < i ∧ off ≤ base + j ∧ base + j < off + data.length
      · rw [if_pos h2, if_pos ⟨by omega, h2.2⟩]
      · rw [if_neg h2, if_neg (fun e => h2 ⟨by omega, e.2⟩)]
  · rw [List.getElem?_eq_none (by rw [mixL_length]; omega), if_neg (by omega), List.getElem?_eq_none (by rw [mixL_length]; omega)]
theorem nodeV_data (id birth level : Nat) (ps : List Value) (ds : List Int) (hp : ps.length = 4) (j : Nat) : (nodeV id birth level ps ds)[7 + j]? = (ds[j]?).map (Value.int .u8) := by
  unfold nodeV
  rw [List.getElem?_toArray, List.getElem?_append_right (by simp [hp]), List.getElem?_map]
  congr 2
  simp [hp]
theorem nodeV_setData (id birth level : Nat) (ps : List Value) (ds : List Int) (hp : ps.length = 4) (j : Nat) (v : Int) : (nodeV id birth level ps ds).setIfInBounds (7 + j) (.int .u8 v) = nodeV id birth level ps (ds.set j v) := by
  unfold nodeV
  rw [List.setIfInBounds_toArray, List.set_append, if_neg (by simp [hp]), List.map_set]
  congr 3
  simp [hp]
theorem Turns.regroup {a b s c : Thing} {w : World} (h : Apt [thAll [a, b], s, c] w) : Turns (thAll [thAll [a, b], s, c]) (thAll [b, s, a]) w w := by
  have hab : Apt [a, b] w := h.all 0 _ rfl
  have ma : ∀ x, a.foot x → (thAll [a, b]).foot x := fun x hx => ⟨a, by simp, hx⟩
  have mb : ∀ x, b.foot x → (thAll [a, b]).foot x := fun x hx => ⟨b, by simp, hx⟩
  refine ⟨(((Apt.nil w).cons (hab.all 0 _ rfl) (fun s hs => by cases hs)).cons (h.all 1 _ rfl) (fun t ht x hx hx2 => ?_)).cons (hab.all 1 _ rfl) (fun t ht x hx hx2 => ?_), Mv.refl _ _, fun x ⟨t, ht, hx⟩ => ?_⟩
  · obtain rfl := List.mem_singleton.1 ht
    exact h.apart 1 0 _ _ rfl rfl (by decide) x hx (ma x hx2)
  · rcases List.mem_cons.1 ht with rfl | ht
    · exact h.apart 0 1 _ _ rfl rfl (by decide) x (mb x hx) hx2
    · obtain rfl := List.mem_singleton.1 ht
      exact hab.apart 1 0 _ _ rfl rfl (by decide) x hx hx2
  · left
    rcases List.mem_cons.1 ht with rfl | ht
    · exact ⟨_, List.mem_cons_self .., mb x hx⟩
    · rcases List.mem_cons.1 ht with rfl | ht
      · exact ⟨t, by simp, hx⟩
      · obtain rfl := List.mem_singleton.1 ht
        exact ⟨_, List.mem_cons_self .., ma x hx⟩
theorem roomW0 (w : World) : Calls Try.prog 38 #[.int .i64 0] w fun e w' => e = .returned (.int .i64 64) ∧ w = w' := roomW 0 (by omega) w
theorem laidL_wf (base off : Nat) (data l : List Int) (hl : ∀ x ∈ l, (Lit.int .u8 x).wf = true) (hd : ∀ x ∈ data, (Lit.int .u8 x).wf = true) : ∀ x ∈ laidL base off data l, (Lit.int .u8 x).wf = true := by
  intro x hx
  unfold laidL at hx
  obtain ⟨j, hj, rfl⟩ := List.mem_map.1 hx
  have hj' := List.mem_range.1 hj
  split
  · rw [List.getD_eq_getElem?_getD, List.getElem?_eq_getElem (by omega)]; exact hd _ (List.getElem_mem _)
  · rw [List.getD_eq_getElem?_getD, List.getElem?_eq_getElem hj']; exact hl _ (List.getElem_mem _)
theorem leafThing (W : World) (G : Nat → Prop) (cur g id : Nat) (ds : List Int) {w : World} (hds : ds.length = 64 ∧ ∀ x ∈ ds, (Lit.int .u8 x).wf = true) (h : Box w g (nodeV id cur 0 nils ds) 82) :
    Turns (thBox g (nodeV id cur 0 nils ds) 82) (thT W G cur 0 (some (⟨g, ⟨id, cur, ds⟩⟩ : LfP))) w w := by
  have e : thT W G cur 0 (some (⟨g, ⟨id, cur, ds⟩⟩ : LfP)) = thAll [thPure (cur = cur ∧ ds.length = 64 ∧ ∀ x ∈ ds, (Lit.int .u8 x).wf = true), thBox g (nodeV id cur 0 nils ds) 82] := by
    show (if cur < cur then _ else _) = _
    rw [if_neg (by omega)]; rfl
  rw [e]
  exact ⟨((Apt.nil w).cons h (fun s hs => by cases hs)).cons ⟨rfl, hds⟩ (fun s hs b hb => hb.elim), Mv.refl _ _, fun b ⟨t, ht, hb⟩ => by
    rcases List.mem_cons.1 ht with rfl | ht
    · exact hb.elim
    · obtain rfl := List.mem_singleton.1 ht; exact .inl hb⟩
def WriteEnd (W : World) (G : Nat → Prop) (S : Thing) (k : Nat) (av : Option Addr) (cv cur : Nat) (made : Nat) (n : Nat) (t : Option (PT n)) (x : Option (T n) × Nat) (w : World) (e : Ending) (w' : World) : Prop :=
  ∃ t' : Option (PT n), e = .returned (ptr t') ∧ Hid (t'.map (PT.er n) = x.1) ∧ Hid (Turns (thAll [thBox k (forV av cur cv made) 74, S, thT W G cur n t]) (thAll [thBox k (forV av cur cv x.2) 74, S, thT W G cur n t']) w w')
set_option maxHeartbeats 8000000 in
theorem writeLeaf (W : World) (G : Nat → Prop) (S : Thing) (k : Nat) (av : Option Addr) (cv cur made base off : Nat) (t : Option (PT 0)) (ad : Option Addr) (ld cd : Nat) (data : List Int) (w : World)
    (hS : ∀ w, S.holds w → (thOld W G).holds w ∧ Row .u8 w ad ld cd data)
    (h : (thAll [thBox k (forV av cur cv made) 74, S, thT W G cur 0 t]).holds w) (hm : made ≤ 900000) (hb : base ≤ 100000) (ho : off ≤ 100000) (hld : ld ≤ 100000) :
    Calls Try.prog 31 #[.pointer (some ⟨k, 0, none⟩), ptr t, .int .i64 0, .int .i64 base, .int .i64 off, .slice ad ld cd] w (WriteEnd W G S k av cv cur made 0 t (T.write cur off data 0 base (t.map (PT.er 0)) made) w) := by
  have HS := Lib.hid hS
  have HH := Lib.hid h
  have hdl : Hid (data.length = ld) := (hS w (Apt.all h 1 _ rfl)).2.hlen
  have w0 : IntKind.i64.wrap ((base : Int) + 64) = (base : Int) + 64 := IntWalk.i64_in _ (by omega)
  have w1 : IntKind.i64.wrap ((off : Int) + ld) = (off : Int) + ld := IntWalk.i64_in _ (by omega)
  by_cases hout : off ≥ base + room 0 ∨ off + data.length ≤ base
  · have hx : T.write cur off data 0 base (t.map (PT.er 0)) made = (t.map (PT.er 0), made) := by unfold T.write; rw [if_pos hout]
    rw [hx]
    have hout2 := hout
    rw [room_zero, hdl.out] at hout2
    by_cases h1 : off ≥ base + 64
    · have q1 : decide ((base : Int) + 64 ≤ (off : Int)) = true := by simp; omega
      clear hx hS h hout hout2
      go_enter Try.func31, Try.ntmps31
      go_wp2_with fail
      refine (roomW0 w).mono ?_
      rintro e w' ⟨rfl, rfl⟩
      go_wp2_with fail
      go_ret
      exact ⟨t, rfl, rfl, Turns.refl HH.out⟩
    · have q1 : decide ((base : Int) + 64 ≤ (off : Int)) = false := by simp; omega
      have q2 : decide ((off : Int) + (ld : Int) ≤ (base : Int)) = true := by simp; omega
      clear hx hS h hout hout2
      go_enter Try.func31, Try.ntmps31
      go_wp2_with fail
      refine (roomW0 w).mono ?_
      rintro e w' ⟨rfl, rfl⟩
      go_wp2_with fail
      go_ret
      exact ⟨t, rfl, rfl, Turns.refl HH.out⟩
  · have hr1 : ¬ off ≥ base + 64 := fun e => hout (.inl e)
    have hr2 : ¬ off + ld ≤ base := fun e => hout (.inr (by have := hdl.out; omega))
    have q1 : decide ((base : Int) + 64 ≤ (off : Int)) = false := by simp; omega
    have q2 : decide ((off : Int) + (ld : Int) ≤ (base : Int)) = false := by simp; omega
    have BF := Lib.hid (show Box w k (forV av cur cv made) 74 from Apt.all h 0 _ rfl)
    have k0 : w.cell? ⟨k, 0, none⟩ = some (.slice av cur cv) := BF.out.cell 0
    have hkl : k < w.heap.size := BF.out.lt
    cases t with
    | none =>
      have hx : T.write cur off data 0 base ((none : Option (PT 0)).map (PT.er 0)) made = (some (⟨made + 1, cur, laidL base off data zeros⟩ : Lf), made + 1) := by unfold T.write; rw [if_neg hout]; rfl
      rw [hx]
      have hds : Hid (zeros.length = 64 ∧ ∀ x ∈ zeros, (Lit.int .u8 x).wf = true) := ⟨rfl, by decide⟩
      obtain ⟨ds, hdse⟩ : ∃ ds, zeros = ds := ⟨_, rfl⟩
      clear hS h hr1 hr2 hx
      change Calls _ _ #[.pointer (some ⟨k, 0, none⟩), .pointer none, .int .i64 0, .int .i64 base, .int .i64 off, .slice ad ld cd] w _
      go_enter Try.func31, Try.ntmps31
      go_wp2_with fail
      refine (roomW0 w).mono ?_
      rintro e w' ⟨rfl, rfl⟩
      go_wp2_with fail
      go_quiet (fail)
      go_wp2_with fail
      refine (freshN k av cur cv made 0 (w.drewN nq) (BF.out.drewN nq) (by omega) (by omega)).mono ?_
      rintro e V ⟨rfl, TF⟩
      have T1 := (Turns.still HH.out (below_drewN (Below.refl _ _) nq : Below w.heap.size w (w.drewN nq))).trans (Turns.inside (i := 0) (Thing.below HH.out (below_drewN (Below.refl _ _) nq : Below w.heap.size w (w.drewN nq))) rfl TF)
      have T2 := T1.trans (Turns.regroup T1.now)
      obtain ⟨g, hg⟩ : ∃ g, Hid ((w.drewN nq).heap.size = g) := ⟨_, rfl⟩
      rw [hg.out, hdse] at T2
      rw [hg.out]
      rw [hdse] at hds
      have TV := Lib.hid T2
      clear T1 T2 TF k0 hkl BF HH
      go_wp2_with fail
      have hdsl := hds.out.1
      go_loopw [52] (fun iv wr => ∃ i : Nat, i ≤ 64 ∧ iv = .int .i64 i ∧ Hid (Turns (thAll [thBox k (forV av cur cv made) 74, S, thT W G cur 0 none]) (thAll [thBox k (forV av cur cv (made + 1)) 74, S, thBox g (nodeV (made + 1) cur 0 nils (mixL i base off data ds)) 82]) w wr)) (fun iv _ => 64 - (intOf iv).toNat)
      case atStart => exact ⟨0, by omega, rfl, by show Turns _ _ _ _; rw [mixL_zero]; exact TV.out⟩
      case round =>
        obtain ⟨i, hi, rfl, hT⟩ := hrel
        by_cases hlt : i < 64
        · have BN := Lib.hid (show Box wr g (nodeV (made + 1) cur 0 nils (mixL i base off data ds)) 82 from Apt.all hT.out.now 2 _ rfl)
          have hgl : g < wr.heap.size := BN.out.lt
          have wa : IntKind.i64.wrap ((base : Int) + (i : Int)) = (base : Int) + (i : Int) := IntWalk.i64_in _ (by omega)
          have ii : (i : Int) < 64 := by omega
          by_cases hin : off ≤ base + i ∧ base + i < off + data.length
          · obtain ⟨kk, hkk⟩ : ∃ kk, base + i - off = kk := ⟨_, rfl⟩
            have wb : IntKind.i64.wrap ((base : Int) + (i : Int) - (off : Int)) = (kk : Int) := by rw [IntWalk.i64_in _ (by omega)]; omega
            have hkl : kk < ld := by have := hdl.out; omega
            have hki : (kk : Int) < ld := by omega
            have hk0 : (0 : Int) ≤ (kk : Int) := by omega
            have hR := (HS.out wr (Apt.all hT.out.now 1 _ rfl)).2
            rcases hR.hat with h0' | ⟨bd, od, rfl, hc⟩
            · omega
            · have cd' : wr.cell? ⟨bd, od + kk, none⟩ = some (.int .u8 (data.getD kk 0)) := hc kk hkl
              have hms : Hid (mixL (i + 1) base off data ds = (mixL i base off data ds).set i (data.getD kk 0)) := by show _ = _; rw [mixL_step i base off data ds (by omega) hin, hkk]
              obtain ⟨v, hv⟩ : ∃ v, data.getD kk 0 = v := ⟨_, rfl⟩
              rw [hv] at cd' hms
              have cn : wr.cell? ⟨g, 7 + i, none⟩ = some (.int .u8 ((mixL i base off data ds).getD i 0)) := by rw [BN.out.cell (7 + i), nodeV_data _ _ _ _ _ rfl, List.getElem?_eq_getElem (by rw [mixL_length]; omega)]; simp [List.getD, show i < (mixL i base off data ds).length by rw [mixL_length]; omega]
              have cf : wr.frozen? ⟨g, 7 + i, none⟩ = false := BN.out.free (7 + i)
              have T6 := hT.out.trans (Turns.inside (i := 2) hT.out.now rfl (Turns.cell BN.out (7 + i) (.int .u8 v)))
              rw [nodeV_setData _ _ _ _ _ rfl, ← hms.out] at T6
              have T7 := Lib.hid T6
              clear T6 hms hv hin hc hkk
              go_wp2_with fail
              go_region
              have T8 := Lib.hid (T7.out.stays (below_drewN (Below.refl _ _) 1))
              go_wp2_with fail
              go_roundw
              case rel => exact ⟨i + 1, by omega, by go_num, T8⟩
              case measure => (simp [intOf]; try omega)
          · have hms : Hid (mixL (i + 1) base off data ds = mixL i base off data ds) := mixL_skip i base off data ds hin
            by_cases hlo : off ≤ base + i
            · have wb : IntKind.i64.wrap ((base : Int) + (i : Int) - (off : Int)) = (base : Int) + (i : Int) - (off : Int) := IntWalk.i64_in _ (by omega)
              have hk0 : decide ((0 : Int) ≤ (base : Int) + (i : Int) - (off : Int)) = true := by simp; omega
              have hki : decide ((base : Int) + (i : Int) - (off : Int) < (ld : Int)) = false := by have := hdl.out; simp; omega
              clear hin
              go_wp2_with fail
              go_roundw
              case rel => exact ⟨i + 1, by omega, by go_num, by show Turns _ _ _ _; rw [hms.out]; exact hT.out⟩
              case measure => (simp [intOf]; try omega)
            · have wb : IntKind.i64.wrap ((base : Int) + (i : Int) - (off : Int)) = (base : Int) + (i : Int) - (off : Int) := IntWalk.i64_in _ (by omega)
              have hk0 : decide ((0 : Int) ≤ (base : Int) + (i : Int) - (off : Int)) = false := by simp; omega
              clear hin
              go_wp2_with fail
              go_roundw
              case rel => exact ⟨i + 1, by omega, by go_num, by show Turns _ _ _ _; rw [hms.out]; exact hT.out⟩
              case measure => (simp [intOf]; try omega)
        · obtain rfl : i = 64 := by omega
          have e1 : mixL 64 base off data ds = laidL base off data ds := by rw [← hdsl]; exact mixL_all base off data ds
          rw [e1] at hT
          have hlw : Hid ((laidL base off data ds).length = 64 ∧ ∀ x ∈ laidL base off data ds, (Lit.int .u8 x).wf = true) := ⟨by rw [laidL_length]; exact hdsl, laidL_wf base off data ds hds.out.2 (HS.out wr (Apt.all hT.out.now 1 _ rfl)).2.hwf⟩
          have TE : Hid (Turns (thAll [thBox k (forV av cur cv made) 74, S, thT W G cur 0 none]) (thAll [thBox k (forV av cur cv (made + 1)) 74, S, thT W G cur 0 (some (⟨g, ⟨(made + 1), cur, laidL base off data ds⟩⟩ : LfP))]) w wr) :=
            hT.out.trans (Turns.inside (i := 2) hT.out.now rfl (leafThing W G cur g (made + 1) (laidL base off data ds) hlw.out (Apt.all hT.out.now 2 _ rfl)))
          clear hT e1
          go_wp2_with fail
          go_ret
          exact ⟨some (⟨g, ⟨(made + 1), cur, laidL base off data ds⟩⟩ : LfP), rfl, by show _ = _; first | rfl | (rw [hdse]; rfl), TE⟩
    | some t =>
      obtain ⟨g0, ⟨id0, birth0, ds0⟩⟩ := t
      by_cases hbc : birth0 < cur
      · have hx : T.write cur off data 0 base ((some (⟨g0, ⟨id0, birth0, ds0⟩⟩ : LfP) : Option (PT 0)).map (PT.er 0)) made = (some (⟨made + 1, cur, laidL base off data ds0⟩ : Lf), made + 1) := by
          unfold T.write; rw [if_neg hout]
          have hd : decide (birth0 < cur) = true := by simpa using hbc
          show (if decide (birth0 < cur) = true then _ else _) = _
          rw [if_pos hd]; rfl
        rw [hx]
        have hO : OldT W G cur 0 (some (⟨g0, ⟨id0, birth0, ds0⟩⟩ : LfP)) := by
          have h2 : (thT W G cur 0 (some (⟨g0, ⟨id0, birth0, ds0⟩⟩ : LfP))).holds w := Apt.all h 2 _ rfl
          unfold thT at h2
          rw [if_pos (show PT.birthOf (show PT 0 from (⟨g0, ⟨id0, birth0, ds0⟩⟩ : LfP)) < cur from hbc)] at h2
          exact h2
        have B0 : Box w g0 (nodeV id0 birth0 0 nils ds0) 82 := hO.now (HS.out w (Apt.all h 1 _ rfl)).1
        have hds : Hid (ds0.length = 64 ∧ ∀ x ∈ ds0, (Lit.int .u8 x).wf = true) := hO.2.2.1
        have n1 : w.cell? ⟨g0, 1, none⟩ = some (.int .i64 birth0) := (B0.cell 1).trans (by simp [nodeV])
        have hg0 : g0 < w.heap.size := B0.lt
        have q3 : decide ((birth0 : Int) < (cur : Int)) = true := by simp; omega
        have q4 : decide (birth0 < cur) = true := by simpa using hbc
        have BB := Lib.hid B0
        obtain ⟨ds, hdse⟩ : ∃ ds, ds0 = ds := ⟨_, rfl⟩
        clear hS h hr1 hr2 hx hO B0
        change Calls _ _ #[.pointer (some ⟨k, 0, none⟩), .pointer (some ⟨g0, 0, none⟩), .int .i64 0, .int .i64 base, .int .i64 off, .slice ad ld cd] w _
        go_enter Try.func31, Try.ntmps31
        go_wp2_with fail
        refine (roomW0 w).mono ?_
        rintro e w' ⟨rfl, rfl⟩
        go_wp2_with fail
        go_quiet (fail)
        go_wp2_with fail
        refine (freshS k av cur cv made 0 g0 id0 birth0 0 nils ds0 (w.drewN nq) (BF.out.drewN nq) (BB.out.drewN nq) rfl (by intro v hv; simp [nils] at hv; subst hv; rfl) hds.out.1 (by omega) (by omega)).mono ?_
        rintro e V ⟨rfl, TF⟩
        have T1 := (Turns.still HH.out (below_drewN (Below.refl _ _) nq : Below w.heap.size w (w.drewN nq))).trans (Turns.inside (i := 0) (Thing.below HH.out (below_drewN (Below.refl _ _) nq : Below w.heap.size w (w.drewN nq))) rfl TF)
        have T2 := T1.trans (Turns.regroup T1.now)
        obtain ⟨g, hg⟩ : ∃ g, Hid ((w.drewN nq).heap.size = g) := ⟨_, rfl⟩
        rw [hg.out] at T2
        rw [hg.out]
        subst hdse
        have TV := Lib.hid T2
        clear T1 T2 TF k0 hkl BF HH n1 hg0 BB
        go_wp2_with fail
        have hdsl := hds.out.1
        go_loopw [52] (fun iv wr => ∃ i : Nat, i ≤ 64 ∧ iv = .int .i64 i ∧ Hid (Turns (thAll [thBox k (forV av cur cv made) 74, S, thT W G cur 0 (some (⟨g0, ⟨id0, birth0, ds0⟩⟩ : LfP))]) (thAll [thBox k (forV av cur cv (made + 1)) 74, S, thBox g (nodeV (made + 1) cur 0 nils (mixL i base off data ds0)) 82]) w wr)) (fun iv _ => 64 - (intOf iv).toNat)
        case atStart => exact ⟨0, by omega, rfl, by show Turns _ _ _ _; rw [mixL_zero]; exact TV.out⟩
        case round =>
          obtain ⟨i, hi, rfl, hT⟩ := hrel
          by_cases hlt : i < 64
          · have BN := Lib.hid (show Box wr g (nodeV (made + 1) cur 0 nils (mixL i base off data ds0)) 82 from Apt.all hT.out.now 2 _ rfl)
            have hgl : g < wr.heap.size := BN.out.lt
            have wa : IntKind.i64.wrap ((base : Int) + (i : Int)) = (base : Int) + (i : Int) := IntWalk.i64_in _ (by omega)
            have ii : (i : Int) < 64 := by omega
            by_cases hin : off ≤ base + i ∧ base + i < off + data.length
            · obtain ⟨kk, hkk⟩ : ∃ kk, base + i - off = kk := ⟨_, rfl⟩
              have wb : IntKind.i64.wrap ((base : Int) + (i : Int) - (off : Int)) = (kk : Int) := by rw [IntWalk.i64_in _ (by omega)]; omega
              have hkl : kk < ld := by have := hdl.out; omega
              have hki : (kk : Int) < ld := by omega
              have hk0 : (0 : Int) ≤ (kk : Int) := by omega
              have hR := (HS.out wr (Apt.all hT.out.now 1 _ rfl)).2
              rcases hR.hat with h0' | ⟨bd, od, rfl, hc⟩
              · omega
              · have cd' : wr.cell? ⟨bd, od + kk, none⟩ = some (.int .u8 (data.getD kk 0)) := hc kk hkl
                have hms : Hid (mixL (i + 1) base off data ds0 = (mixL i base off data ds0).set i (data.getD kk 0)) := by show _ = _; rw [mixL_step i base off data ds0 (by omega) hin, hkk]
                obtain ⟨v, hv⟩ : ∃ v, data.getD kk 0 = v := ⟨_, rfl⟩
                rw [hv] at cd' hms
                have cn : wr.cell? ⟨g, 7 + i, none⟩ = some (.int .u8 ((mixL i base off data ds0).getD i 0)) := by rw [BN.out.cell (7 + i), nodeV_data _ _ _ _ _ rfl, List.getElem?_eq_getElem (by rw [mixL_length]; omega)]; simp [List.getD, show i < (mixL i base off data ds0).length by rw [mixL_length]; omega]
                have cf : wr.frozen? ⟨g, 7 + i, none⟩ = false := BN.out.free (7 + i)
                have T6 := hT.out.trans (Turns.inside (i := 2) hT.out.now rfl (Turns.cell BN.out (7 + i) (.int .u8 v)))
                rw [nodeV_setData _ _ _ _ _ rfl, ← hms.out] at T6
                have T7 := Lib.hid T6
                clear T6 hms hv hin hc hkk
                go_wp2_with fail
                go_region
                have T8 := Lib.hid (T7.out.stays (below_drewN (Below.refl _ _) 1))
                go_wp2_with fail
                go_roundw
                case rel => exact ⟨i + 1, by omega, by go_num, T8⟩
                case measure => (simp [intOf]; try omega)
            · have hms : Hid (mixL (i + 1) base off data ds0 = mixL i base off data ds0) := mixL_skip i base off data ds0 hin
              by_cases hlo : off ≤ base + i
              · have wb : IntKind.i64.wrap ((base : Int) + (i : Int) - (off : Int)) = (base : Int) + (i : Int) - (off : Int) := IntWalk.i64_in _ (by omega)
                have hk0 : decide ((0 : Int) ≤ (base : Int) + (i : Int) - (off : Int)) = true := by simp; omega
                have hki : decide ((base : Int) + (i : Int) - (off : Int) < (ld : Int)) = false := by have := hdl.out; simp; omega
                clear hin
                go_wp2_with fail
                go_roundw
                case rel => exact ⟨i + 1, by omega, by go_num, by show Turns _ _ _ _; rw [hms.out]; exact hT.out⟩
                case measure => (simp [intOf]; try omega)
              · have wb : IntKind.i64.wrap ((base : Int) + (i : Int) - (off : Int)) = (base : Int) + (i : Int) - (off : Int) := IntWalk.i64_in _ (by omega)
                have hk0 : decide ((0 : Int) ≤ (base : Int) + (i : Int) - (off : Int)) = false := by simp; omega
                clear hin
                go_wp2_with fail
                go_roundw
                case rel => exact ⟨i + 1, by omega, by go_num, by show Turns _ _ _ _; rw [hms.out]; exact hT.out⟩
                case measure => (simp [intOf]; try omega)
          · obtain rfl : i = 64 := by omega
            have e1 : mixL 64 base off data ds0 = laidL base off data ds0 := by rw [← hdsl]; exact mixL_all base off data ds0
            rw [e1] at hT
            have hlw : Hid ((laidL base off data ds0).length = 64 ∧ ∀ x ∈ laidL base off data ds0, (Lit.int .u8 x).wf = true) := ⟨by rw [laidL_length]; exact hdsl, laidL_wf base off data ds0 hds.out.2 (HS.out wr (Apt.all hT.out.now 1 _ rfl)).2.hwf⟩
            have TE : Hid (Turns (thAll [thBox k (forV av cur cv made) 74, S, thT W G cur 0 (some (⟨g0, ⟨id0, birth0, ds0⟩⟩ : LfP))]) (thAll [thBox k (forV av cur cv (made + 1)) 74, S, thT W G cur 0 (some (⟨g, ⟨(made + 1), cur, laidL base off data ds0⟩⟩ : LfP))]) w wr) :=
              hT.out.trans (Turns.inside (i := 2) hT.out.now rfl (leafThing W G cur g (made + 1) (laidL base off data ds0) hlw.out (Apt.all hT.out.now 2 _ rfl)))
            clear hT e1
            go_wp2_with fail
            go_ret
            exact ⟨some (⟨g, ⟨(made + 1), cur, laidL base off data ds0⟩⟩ : LfP), rfl, by show _ = _; first | rfl | (rw [hdse]; rfl), TE⟩
      · have hx : T.write cur off data 0 base ((some (⟨g0, ⟨id0, birth0, ds0⟩⟩ : LfP) : Option (PT 0)).map (PT.er 0)) made = (some (⟨id0, birth0, laidL base off data ds0⟩ : Lf), made) := by
          unfold T.write; rw [if_neg hout]
          have hd : ¬ decide (birth0 < cur) = true := by simpa using hbc
          show (if decide (birth0 < cur) = true then _ else _) = _
          rw [if_neg hd]; rfl
        rw [hx]
        have h2 : Apt [thPure (birth0 = cur ∧ ds0.length = 64 ∧ ∀ x ∈ ds0, (Lit.int .u8 x).wf = true), thBox g0 (nodeV id0 birth0 0 nils ds0) 82] w := by
          have h2 : (thT W G cur 0 (some (⟨g0, ⟨id0, birth0, ds0⟩⟩ : LfP))).holds w := Apt.all h 2 _ rfl
          unfold thT at h2
          rw [if_neg (show ¬ PT.birthOf (show PT 0 from (⟨g0, ⟨id0, birth0, ds0⟩⟩ : LfP)) < cur from hbc)] at h2
          exact h2
        have hp : birth0 = cur ∧ ds0.length = 64 ∧ ∀ x ∈ ds0, (Lit.int .u8 x).wf = true := h2.all 0 _ rfl
        have B0 : Box w g0 (nodeV id0 birth0 0 nils ds0) 82 := h2.all 1 _ rfl
        have hback : Turns (thT W G cur 0 (some (⟨g0, ⟨id0, birth0, ds0⟩⟩ : LfP))) (thBox g0 (nodeV id0 birth0 0 nils ds0) 82) w w := by
          refine ⟨B0, Mv.refl _ _, fun b hb => .inl ?_⟩
          unfold thT
          rw [if_neg (show ¬ PT.birthOf (show PT 0 from (⟨g0, ⟨id0, birth0, ds0⟩⟩ : LfP)) < cur from hbc)]
          exact ⟨_, List.mem_cons_of_mem _ (List.mem_cons_self ..), hb⟩
        have T1 := Turns.inside (i := 2) HH.out rfl hback
        have hds : Hid (ds0.length = 64 ∧ ∀ x ∈ ds0, (Lit.int .u8 x).wf = true) := hp.2
        have n1 : w.cell? ⟨g0, 1, none⟩ = some (.int .i64 birth0) := (B0.cell 1).trans (by simp [nodeV])
        have hg0 : g0 < w.heap.size := B0.lt
        have hbq := hp.1
        clear hback h2 B0 hp
        have q3 : decide ((birth0 : Int) < (cur : Int)) = false := by simp; omega
        have q4 : decide (birth0 < cur) = false := by simpa using hbc
        have T1' := Lib.hid T1
        have HBQ := Lib.hid hbq
        clear hS h hr1 hr2 hx T1 hbq
        change Calls _ _ #[.pointer (some ⟨k, 0, none⟩), .pointer (some ⟨g0, 0, none⟩), .int .i64 0, .int .i64 base, .int .i64 off, .slice ad ld cd] w _
        go_enter Try.func31, Try.ntmps31
        go_wp2_with fail
        refine (roomW0 w).mono ?_
        rintro e w' ⟨rfl, rfl⟩
        go_wp2_with fail
        go_quiet (fail)
        have T2 := T1'.out.stays (below_drewN (Below.refl _ _) nq : Below w.heap.size w (w.drewN nq))
        obtain ⟨g, hg⟩ : ∃ g, Hid (g0 = g) := ⟨_, rfl⟩
        obtain ⟨V, hV⟩ : ∃ V, V = w.drewN nq := ⟨_, rfl⟩
        rw [← hV] at T2 ⊢
        have TV := Lib.hid T2
        obtain rfl := HBQ.out
        obtain ⟨ds, hdse⟩ : ∃ ds, ds0 = ds := ⟨_, rfl⟩
        obtain rfl := hg.out
        clear T2 T1' k0 hkl BF HH n1 hg0 hV
        go_wp2_with fail
        have hdsl := hds.out.1
        go_loopw [52] (fun iv wr => ∃ i : Nat, i ≤ 64 ∧ iv = .int .i64 i ∧ Hid (Turns (thAll [thBox k (forV av birth0 cv made) 74, S, thT W G birth0 0 (some (⟨g0, ⟨id0, birth0, ds0⟩⟩ : LfP))]) (thAll [thBox k (forV av birth0 cv (made)) 74, S, thBox g0 (nodeV (id0) birth0 0 nils (mixL i base off data ds0)) 82]) w wr)) (fun iv _ => 64 - (intOf iv).toNat)
        case atStart => exact ⟨0, by omega, rfl, by show Turns _ _ _ _; rw [mixL_zero]; exact TV.out⟩
        case round =>
          obtain ⟨i, hi, rfl, hT⟩ := hrel
          by_cases hlt : i < 64
          · have BN := Lib.hid (show Box wr g0 (nodeV (id0) birth0 0 nils (mixL i base off data ds0)) 82 from Apt.all hT.out.now 2 _ rfl)
            have hgl : g0 < wr.heap.size := BN.out.lt
            have wa : IntKind.i64.wrap ((base : Int) + (i : Int)) = (base : Int) + (i : Int) := IntWalk.i64_in _ (by omega)
            have ii : (i : Int) < 64 := by omega
            by_cases hin : off ≤ base + i ∧ base + i < off + data.length
            · obtain ⟨kk, hkk⟩ : ∃ kk, base + i - off = kk := ⟨_, rfl⟩
              have wb : IntKind.i64.wrap ((base : Int) + (i : Int) - (off : Int)) = (kk : Int) := by rw [IntWalk.i64_in _ (by omega)]; omega
              have hkl : kk < ld := by have := hdl.out; omega
              have hki : (kk : Int) < ld := by omega
              have hk0 : (0 : Int) ≤ (kk : Int) := by omega
              have hR := (HS.out wr (Apt.all hT.out.now 1 _ rfl)).2
              rcases hR.hat with h0' | ⟨bd, od, rfl, hc⟩
              · omega
              · have cd' : wr.cell? ⟨bd, od + kk, none⟩ = some (.int .u8 (data.getD kk 0)) := hc kk hkl
                have hms : Hid (mixL (i + 1) base off data ds0 = (mixL i base off data ds0).set i (data.getD kk 0)) := by show _ = _; rw [mixL_step i base off data ds0 (by omega) hin, hkk]
                obtain ⟨v, hv⟩ : ∃ v, data.getD kk 0 = v := ⟨_, rfl⟩
                rw [hv] at cd' hms
                have cn : wr.cell? ⟨g0, 7 + i, none⟩ = some (.int .u8 ((mixL i base off data ds0).getD i 0)) := by rw [BN.out.cell (7 + i), nodeV_data _ _ _ _ _ rfl, List.getElem?_eq_getElem (by rw [mixL_length]; omega)]; simp [List.getD, show i < (mixL i base off data ds0).length by rw [mixL_length]; omega]
                have cf : wr.frozen? ⟨g0, 7 + i, none⟩ = false := BN.out.free (7 + i)
                have T6 := hT.out.trans (Turns.inside (i := 2) hT.out.now rfl (Turns.cell BN.out (7 + i) (.int .u8 v)))
                rw [nodeV_setData _ _ _ _ _ rfl, ← hms.out] at T6
                have T7 := Lib.hid T6
                clear T6 hms hv hin hc hkk
                go_wp2_with fail
                go_region
                have T8 := Lib.hid (T7.out.stays (below_drewN (Below.refl _ _) 1))
                go_wp2_with fail
                go_roundw
                case rel => exact ⟨i + 1, by omega, by go_num, T8⟩
                case measure => (simp [intOf]; try omega)
            · have hms : Hid (mixL (i + 1) base off data ds0 = mixL i base off data ds0) := mixL_skip i base off data ds0 hin
              by_cases hlo : off ≤ base + i
              · have wb : IntKind.i64.wrap ((base : Int) + (i : Int) - (off : Int)) = (base : Int) + (i : Int) - (off : Int) := IntWalk.i64_in _ (by omega)
                have hk0 : decide ((0 : Int) ≤ (base : Int) + (i : Int) - (off : Int)) = true := by simp; omega
                have hki : decide ((base : Int) + (i : Int) - (off : Int) < (ld : Int)) = false := by have := hdl.out; simp; omega
                clear hin
                go_wp2_with fail
                go_roundw
                case rel => exact ⟨i + 1, by omega, by go_num, by show Turns _ _ _ _; rw [hms.out]; exact hT.out⟩
                case measure => (simp [intOf]; try omega)
              · have wb : IntKind.i64.wrap ((base : Int) + (i : Int) - (off : Int)) = (base : Int) + (i : Int) - (off : Int) := IntWalk.i64_in _ (by omega)
                have hk0 : decide ((0 : Int) ≤ (base : Int) + (i : Int) - (off : Int)) = false := by simp; omega
                clear hin
                go_wp2_with fail
                go_roundw
                case rel => exact ⟨i + 1, by omega, by go_num, by show Turns _ _ _ _; rw [hms.out]; exact hT.out⟩
                case measure => (simp [intOf]; try omega)
          · obtain rfl : i = 64 := by omega
            have e1 : mixL 64 base off data ds0 = laidL base off data ds0 := by rw [← hdsl]; exact mixL_all base off data ds0
            rw [e1] at hT
            have hlw : Hid ((laidL base off data ds0).length = 64 ∧ ∀ x ∈ laidL base off data ds0, (Lit.int .u8 x).wf = true) := ⟨by rw [laidL_length]; exact hdsl, laidL_wf base off data ds0 hds.out.2 (HS.out wr (Apt.all hT.out.now 1 _ rfl)).2.hwf⟩
            have TE : Hid (Turns (thAll [thBox k (forV av birth0 cv made) 74, S, thT W G birth0 0 (some (⟨g0, ⟨id0, birth0, ds0⟩⟩ : LfP))]) (thAll [thBox k (forV av birth0 cv (made)) 74, S, thT W G birth0 0 (some (⟨g0, ⟨(id0), birth0, laidL base off data ds0⟩⟩ : LfP))]) w wr) :=
              hT.out.trans (Turns.inside (i := 2) hT.out.now rfl (leafThing W G birth0 g0 (id0) (laidL base off data ds0) hlw.out (Apt.all hT.out.now 2 _ rfl)))
            clear hT e1
            go_wp2_with fail
            go_ret
            exact ⟨some (⟨g0, ⟨(id0), birth0, laidL base off data ds0⟩⟩ : LfP), rfl, by show _ = _; first | rfl | (rw [hdse]; rfl), TE⟩
end Go.Proofs.Ythjjfmnipemakaa
