/- The walk of a write into an inner node. -/
import Derived.Test.YthjjfmnipemakaaTrP
import Derived.Test.YthjjfmnipemakaaTrI
import Derived.Deep.DeepCutAuto
import Derived.Deep.RegionLaw
namespace Go.Proofs.Ythjjfmnipemakaa
open Go.RowKit
set_option linter.unusedVariables false
set_option maxRecDepth 100000

/-- A write at a level. -/
def WriteAt (n : Nat) : Prop := ∀ (W : World) (G : Nat → Prop) (S : Thing) (k : Nat) (av : Option Addr) (cv cur made base off : Nat) (t : Option (PT n)) (ad : Option Addr) (ld cd : Nat) (data : List Int) (w : World),
    (∀ w, S.holds w → (thOld W G).holds w ∧ Row .u8 w ad ld cd data) →
    (thAll [thBox k (forV av cur cv made) 74, S, thT W G cur n t]).holds w → made + cost n ≤ 900000 → base + room n ≤ 100000 → off ≤ 100000 → ld ≤ 100000 →
    Calls Try.prog 31 #[.pointer (some ⟨k, 0, none⟩), ptr t, .int .i64 n, .int .i64 base, .int .i64 off, .slice ad ld cd] w (WriteEnd W G S k av cv cur made n t (T.write cur off data n base (t.map (PT.er n)) made) w)
theorem writeAt0 : WriteAt 0 := fun W G S k av cv cur made base off t ad ld cd data w hS h hm hb ho hld => writeLeaf W G S k av cv cur made base off t ad ld cd data w hS h (by omega) (by omega) ho hld
def wf (cur off : Nat) (data : List Int) (base n : Nat) : Nat → Option (T n) → Nat → Option (T n) × Nat := fun i k m => T.write cur off data n (base + i * room n) k m
theorem nonesOld {W : World} {G : Nat → Prop} {cur n : Nat} : ∀ k ∈ ([none, none, none, none] : List (Option (PT n))), OldT W G cur n k := by
  intro q hq
  have : q = none := by simpa using hq
  subst this
  cases n <;> trivial
set_option maxHeartbeats 8000000 in
theorem writeInner (n : Nat) (ih : WriteAt n) (hn : n ≤ 3) : WriteAt (n + 1) := by
  intro W G S k av cv cur made base off t ad ld cd data w hS h hm hb ho hld
  have hroom : room (n + 1) ≤ 16384 := room_mono (a := n + 1) (b := 4) (by omega)
  have HS := Lib.hid hS
  have HH := Lib.hid h
  have hdl : Hid (data.length = ld) := (hS w (Apt.all h 1 _ rfl)).2.hlen
  obtain ⟨R, hR⟩ : ∃ R, Hid (room (n + 1) = R) := ⟨_, rfl⟩
  rw [hR.out] at hroom hb
  have hRW := Lib.hid (roomW (n + 1) (by omega) w)
  rw [hR.out] at hRW
  have w0 : IntKind.i64.wrap ((base : Int) + (R : Int)) = (base : Int) + (R : Int) := IntWalk.i64_in _ (by omega)
  have w1 : IntKind.i64.wrap ((off : Int) + ld) = (off : Int) + ld := IntWalk.i64_in _ (by omega)
  by_cases hout : off ≥ base + room (n + 1) ∨ off + data.length ≤ base
  · have hx : T.write cur off data (n + 1) base (t.map (PT.er (n + 1))) made = (t.map (PT.er (n + 1)), made) := by unfold T.write; rw [if_pos hout]
    rw [hx]
    have hout2 := hout
    rw [hR.out, hdl.out] at hout2
    by_cases h1 : off ≥ base + R
    · have q1 : decide ((base : Int) + (R : Int) ≤ (off : Int)) = true := by simp; omega
      clear hx hS h hout hout2
      go_enter Try.func31, Try.ntmps31
      go_wp2_with fail
      refine hRW.out.mono ?_
      rintro e w' ⟨rfl, rfl⟩
      go_wp2_with fail
      go_ret
      exact ⟨t, rfl, rfl, Turns.refl HH.out⟩
    · have q1 : decide ((base : Int) + (R : Int) ≤ (off : Int)) = false := by simp; omega
      have q2 : decide ((off : Int) + (ld : Int) ≤ (base : Int)) = true := by simp; omega
      clear hx hS h hout hout2
      go_enter Try.func31, Try.ntmps31
      go_wp2_with fail
      refine hRW.out.mono ?_
      rintro e w' ⟨rfl, rfl⟩
      go_wp2_with fail
      go_ret
      exact ⟨t, rfl, rfl, Turns.refl HH.out⟩
  · have hr1 : ¬ off ≥ base + R := fun e => hout (.inl (by rw [hR.out]; exact e))
    have hr2 : ¬ off + ld ≤ base := fun e => hout (.inr (by have := hdl.out; omega))
    have q1 : decide ((base : Int) + (R : Int) ≤ (off : Int)) = false := by simp; omega
    have q2 : decide ((off : Int) + (ld : Int) ≤ (base : Int)) = false := by simp; omega
    have BF := Lib.hid (show Box w k (forV av cur cv made) 74 from Apt.all h 0 _ rfl)
    have k0 : w.cell? ⟨k, 0, none⟩ = some (.slice av cur cv) := BF.out.cell 0
    have hkl : k < w.heap.size := BF.out.lt
    obtain ⟨X, hX⟩ : ∃ X, Hid (T.write cur off data (n + 1) base (t.map (PT.er (n + 1))) made = X) := ⟨_, rfl⟩
    rw [hX.out]
    obtain ⟨pv, hpv⟩ : ∃ pv, Hid (ptr t = pv) := ⟨_, rfl⟩
    rw [hpv.out]
    have HO := Lib.hid hout
    clear hS h hr1 hr2 hout
    go_enter Try.func31, Try.ntmps31
    go_wp2_with fail
    refine hRW.out.mono ?_
    rintro e w' ⟨rfl, rfl⟩
    go_upto_if 30 with fail
    refine wp_cond_false rfl ?_
    refine wp_skip ?_
    go_step
    (first | (rename_i K1 hK1; refine hK1 _ _ ?_) | (rename_i K1 hK1 _; refine hK1 _ _ ?_) | (rename_i K1 hK1 _ _; refine hK1 _ _ ?_))
    refine wp_seq_k ?_
    intro KK hKK
    go_cut [1] (fun v1 wx => ∃ (g id md : Nat) (ks : List (Option (PT n))), v1 = .pointer (some ⟨g, 0, none⟩) ∧ ks.length = 4 ∧ md ≤ made + 1 ∧
      Hid (X = (some (⟨id, cur, (mapA (wf cur off data base n) 0 (ks.map (Option.map (PT.er n))) md).1⟩ : In (T n)), (mapA (wf cur off data base n) 0 (ks.map (Option.map (PT.er n))) md).2)) ∧
      Hid (Turns (thAll [thBox k (forV av cur cv made) 74, S, thT W G cur (n + 1) t]) (thAll (inSt W G S k av cv cur n g id ks md)) w wx))
    case first =>
      cases t with
      | none =>
        obtain rfl : pv = .pointer none := hpv.out.symm
        go_wp2_with fail
        go_quiet (fail)
        go_wp2_with fail
        refine (freshN k av cur cv made (n + 1) (w.drewN nq) (BF.out.drewN nq) (by omega) (by omega)).mono ?_
        rintro e V ⟨rfl, TF⟩
        have T1 := (Turns.still HH.out (below_drewN (Below.refl _ _) nq : Below w.heap.size w (w.drewN nq))).trans (Turns.inside (i := 0) (Thing.below HH.out (below_drewN (Below.refl _ _) nq : Below w.heap.size w (w.drewN nq))) rfl TF)
        have T2 := T1.trans (Turns.regroup T1.now)
        obtain ⟨g, hg⟩ : ∃ g, Hid ((w.drewN nq).heap.size = g) := ⟨_, rfl⟩
        rw [hg.out] at T2
        rw [hg.out]
        have T3 := T2.trans (Turns.inside (i := 2) T2.now rfl (boxKids (W := W) (G := G) (cur := cur) (n := n) (ks := [none, none, none, none]) nonesOld (Apt.all T2.now 2 _ rfl)))
        have T4 := T3.trans (inSt_start (n := n) (ks := [none, none, none, none]) T3.now)
        have T5 := Lib.hid T4
        clear T1 T2 T3 T4 TF
        go_wp2_with fail
        go_meet
        exact ⟨g, made + 1, made + 1, [none, none, none, none], rfl, rfl, by omega, hX.out.symm.trans (by unfold T.write; rw [if_neg HO.out]; rfl), T5⟩
      | some t =>
        obtain ⟨g0, id0, birth0, ks0⟩ := t
        obtain rfl : pv = .pointer (some ⟨g0, 0, none⟩) := hpv.out.symm
        by_cases hbc : birth0 < cur
        · have hO : OldT W G cur (n + 1) (some (⟨g0, id0, birth0, ks0⟩ : InP (PT n))) := by
            have h2 : (thT W G cur (n + 1) (some (⟨g0, id0, birth0, ks0⟩ : InP (PT n)))).holds w := Apt.all HH.out 2 _ rfl
            unfold thT at h2
            rw [if_pos (show PT.birthOf (show PT (n + 1) from (⟨g0, id0, birth0, ks0⟩ : InP (PT n))) < cur from hbc)] at h2
            exact h2
          have B0 : Box w g0 (nodeV id0 birth0 (n + 1) (ks0.map ptr) zeros) 82 := hO.now (HS.out w (Apt.all HH.out 1 _ rfl)).1
          have hk4 : Hid (ks0.length = 4) := hO.2.2.1
          have hold := Lib.hid hO.2.2.2.2
          have n1 : w.cell? ⟨g0, 1, none⟩ = some (.int .i64 birth0) := (B0.cell 1).trans (by simp [nodeV])
          have hg0 : g0 < w.heap.size := B0.lt
          have q3 : decide ((birth0 : Int) < (cur : Int)) = true := by simp; omega
          have q4 : decide (birth0 < cur) = true := by simpa using hbc
          have BB := Lib.hid B0
          clear hO B0
          go_wp2_with fail
          go_quiet (fail)
          go_wp2_with fail
          refine (freshS k av cur cv made (n + 1) g0 id0 birth0 (n + 1) (ks0.map ptr) zeros (w.drewN nq) (BF.out.drewN nq) (BB.out.drewN nq) (by rw [List.length_map]; exact hk4.out) (by intro v hv; obtain ⟨q, _, rfl⟩ := List.mem_map.1 hv; rfl) rfl (by omega) (by omega)).mono ?_
          rintro e V ⟨rfl, TF⟩
          have T1 := (Turns.still HH.out (below_drewN (Below.refl _ _) nq : Below w.heap.size w (w.drewN nq))).trans (Turns.inside (i := 0) (Thing.below HH.out (below_drewN (Below.refl _ _) nq : Below w.heap.size w (w.drewN nq))) rfl TF)
          have T2 := T1.trans (Turns.regroup T1.now)
          obtain ⟨g, hg⟩ : ∃ g, Hid ((w.drewN nq).heap.size = g) := ⟨_, rfl⟩
          rw [hg.out] at T2
          rw [hg.out]
          have T3 := T2.trans (Turns.inside (i := 2) T2.now rfl (boxKids (W := W) (G := G) (cur := cur) (n := n) (ks := ks0) hold.out (Apt.all T2.now 2 _ rfl)))
          have T4 := T3.trans (inSt_start (n := n) (ks := ks0) T3.now)
          have T5 := Lib.hid T4
          clear T1 T2 T3 T4 TF
          go_wp2_with fail
          go_meet
          exact ⟨g, made + 1, made + 1, ks0, rfl, hk4.out, by omega, hX.out.symm.trans (by
            unfold T.write
            rw [if_neg HO.out]
            show (if decide (birth0 < cur) = true then _ else _) = _
            rw [if_pos q4]; rfl), T5⟩
        · have h2 : (thT W G cur (n + 1) (some (⟨g0, id0, birth0, ks0⟩ : InP (PT n)))).holds w := Apt.all HH.out 2 _ rfl
          have h3 := h2
          unfold thT at h3
          rw [if_neg (show ¬ PT.birthOf (show PT (n + 1) from (⟨g0, id0, birth0, ks0⟩ : InP (PT n))) < cur from hbc)] at h3
          have h4 : birth0 = cur ∧ _ := Apt.all h3 0 _ rfl
          obtain rfl : birth0 = cur := h4.1
          obtain ⟨hk4, Tb⟩ := innerBack W G birth0 n g0 id0 ks0 h2
          have T3 := Turns.inside (i := 2) HH.out rfl Tb
          have T4 := T3.trans (inSt_start (n := n) (ks := ks0) T3.now)
          have B0 : Box w g0 (nodeV id0 birth0 (n + 1) (ks0.map ptr) zeros) 82 := Apt.head Tb.now
          have n1 : w.cell? ⟨g0, 1, none⟩ = some (.int .i64 birth0) := (B0.cell 1).trans (by simp [nodeV])
          have hg0 : g0 < w.heap.size := B0.lt
          have q3 : decide ((birth0 : Int) < (birth0 : Int)) = false := by simp
          have q4 : ¬ decide (birth0 < birth0) = true := by simp
          have T5 := Lib.hid T4
          have hk4' := Lib.hid hk4
          clear h2 h3 h4 hk4 Tb T3 T4 B0
          go_wp2_with fail
          go_quiet (fail)
          have T6 := Lib.hid (T5.out.stays (below_drewN (Below.refl _ _) nq : Below w.heap.size w (w.drewN nq)))
          go_wp2_with fail
          go_meet
          exact ⟨g0, id0, made, ks0, rfl, hk4'.out, by omega, hX.out.symm.trans (by
            unfold T.write
            rw [if_neg HO.out]
            show (if decide (birth0 < birth0) = true then _ else _) = _
            rw [if_neg q4]; rfl), T6⟩
    obtain ⟨g, id, md, ks, rfl, hk4, hmd, hX2, hT⟩ := hcut
    obtain ⟨p0, p1, p2, p3, rfl⟩ : ∃ p0 p1 p2 p3, ks = [p0, p1, p2, p3] := by
      match ks, hk4 with
      | [a, b, c, d], _ => exact ⟨a, b, c, d, rfl⟩
    have BN := Lib.hid (show Box wc g (nodeV id cur (n + 1) ([p0, p1, p2, p3].map ptr) zeros) 82 from Apt.all hT.out.now 2 _ rfl)
    obtain ⟨x0, h0⟩ : ∃ x, Hid (p0.map (fun t => (⟨PT.gOf t, 0, none⟩ : Addr)) = x) := ⟨_, rfl⟩
    obtain ⟨x1, h1⟩ : ∃ x, Hid (p1.map (fun t => (⟨PT.gOf t, 0, none⟩ : Addr)) = x) := ⟨_, rfl⟩
    obtain ⟨x2, h2⟩ : ∃ x, Hid (p2.map (fun t => (⟨PT.gOf t, 0, none⟩ : Addr)) = x) := ⟨_, rfl⟩
    obtain ⟨x3, h3⟩ : ∃ x, Hid (p3.map (fun t => (⟨PT.gOf t, 0, none⟩ : Addr)) = x) := ⟨_, rfl⟩
    have c3 : wc.cell? ⟨g, 3, none⟩ = some (.pointer x0) := by rw [← h0.out]; exact BN.out.cell 3
    have c4 : wc.cell? ⟨g, 4, none⟩ = some (.pointer x1) := by rw [← h1.out]; exact BN.out.cell 4
    have c5 : wc.cell? ⟨g, 5, none⟩ = some (.pointer x2) := by rw [← h2.out]; exact BN.out.cell 5
    have c6 : wc.cell? ⟨g, 6, none⟩ = some (.pointer x3) := by rw [← h3.out]; exact BN.out.cell 6
    have hgl : g < wc.heap.size := BN.out.lt
    refine hKK _ _ ?_
    go_wp2_with fail
    obtain ⟨F, hF⟩ : ∃ F, Hid (wf cur off data base n = F) := ⟨_, rfl⟩
    obtain ⟨K, hK⟩ : ∃ K, Hid ([p0, p1, p2, p3].map (Option.map (PT.er n)) = K) := ⟨_, rfl⟩
    rw [hF.out, hK.out] at hX2
    have hK4 : Hid (K.length = 4) := by show _ = _; rw [← hK.out]; rfl
    obtain ⟨r, hr⟩ : ∃ r, Hid (room n = r) := ⟨_, rfl⟩
    have hrl : r ≤ 4096 := by rw [← hr.out]; exact room_mono (a := n) (b := 3) (by omega)
    have hrR : 4 * r = R := by rw [← hr.out, ← hR.out, room_succ]
    have hmc : md + 4 * cost n ≤ 900000 := by have : cost (n + 1) = 1 + 4 * cost n := rfl; omega
    clear k0 hkl BN hmd
    go_loopw [83] (fun iv wr => ∃ (i md1 : Nat) (l : List (Option (PT n))), i ≤ 4 ∧ iv = .int .i64 i ∧ Hid (md1 ≤ md + i * cost n) ∧ Hid (l.length = 4 ∧ l.drop i = [p0, p1, p2, p3].drop i) ∧ Hid (Along F K md (l.take i) md1) ∧ Hid (Turns (thAll [thBox k (forV av cur cv made) 74, S, thT W G cur (n + 1) t]) (thAll (inSt W G S k av cv cur n g id l md1)) w wr)) (fun iv _ => 4 - (intOf iv).toNat)
    case atStart => exact ⟨0, md, [p0, p1, p2, p3], by omega, rfl, by show _ ≤ _; omega, ⟨rfl, rfl⟩, Along.start F K md, hT⟩
    case round =>
      obtain ⟨i, md1, l, hi, rfl, hmd1, hl, hA, hTr⟩ := hrel
      by_cases hlt : i < 4
      · have ii : (i : Int) < 4 := by omega
        obtain ⟨q, hq⟩ : ∃ q, Hid ([p0, p1, p2, p3][i]? = some q) := ⟨([p0, p1, p2, p3].get ⟨i, hlt⟩), by show _ = _; rw [List.getElem?_eq_getElem hlt]; rfl⟩
        obtain ⟨x, hx⟩ : ∃ x, Hid (q.map (fun t => (⟨PT.gOf t, 0, none⟩ : Addr)) = x) := ⟨_, rfl⟩
        go_upto_region 16 with fail
        go_cut [15, 16] (fun v15 v16 wx => v15 = .int .i64 i ∧ v16 = .pointer x ∧ wr = wx)
        case first =>
          have hv : Hid ((#[Value.pointer x0, .pointer x1, .pointer x2, .pointer x3] : Array Value)[i]? = some (.pointer x)) := by
            have hi4 : i = 0 ∨ i = 1 ∨ i = 2 ∨ i = 3 := by omega
            have hqq := hq.out
            rcases hi4 with rfl | rfl | rfl | rfl
            · obtain rfl : p0 = q := by simpa using hqq
              obtain rfl : x0 = x := h0.out.symm.trans hx.out
              rfl
            · obtain rfl : p1 = q := by simpa using hqq
              obtain rfl : x1 = x := h1.out.symm.trans hx.out
              rfl
            · obtain rfl : p2 = q := by simpa using hqq
              obtain rfl : x2 = x := h2.out.symm.trans hx.out
              rfl
            · obtain rfl : p3 = q := by simpa using hqq
              obtain rfl : x3 = x := h3.out.symm.trans hx.out
              rfl
          clear hKK hA hTr hX2
          go_wp2_with (refine wpList_index_at rfl 79 (.tmp 82) (.tmp 83) rfl #[Value.pointer x0, .pointer x1, .pointer x2, .pointer x3] rfl i rfl 4 76 rfl hlt _ rfl rfl rfl (.pointer x) hv.out ?_)
          go_meet
          exact ⟨rfl, rfl, rfl⟩
        obtain ⟨rfl, rfl, rfl⟩ := hcut
        have hki : Hid (l[i]? = some q) := by
          have e1 : (l.drop i)[0]? = ([p0, p1, p2, p3].drop i)[0]? := by rw [hl.out.2]
          rw [List.getElem?_drop, List.getElem?_drop, Nat.add_zero] at e1
          exact e1.trans hq.out
        have hmi : Hid (md1 + cost n ≤ 900000) := by
          show _ ≤ _
          have h1 := hmd1.out
          have h2 : (i + 1) * cost n ≤ 4 * cost n := Nat.mul_le_mul_right _ (by omega)
          rw [Nat.add_mul, Nat.one_mul] at h2
          omega
        have hil : i < l.length := (List.getElem?_eq_some_iff.1 hki.out).1
        have Td := Lib.hid (hTr.out.stays (below_drewN (Below.refl _ _) 1 : Below wr.heap.size wr wr.drew))
        have P3 := inSt_pick Td.out.now hki.out
        have hir : i * r ≤ 3 * r := Nat.mul_le_mul_right _ (by omega)
        have HIH := Lib.hid (ih W G S k av cv cur md1 (base + i * room n) off q ad ld cd data wr.drew HS.out P3 hmi.out (by rw [hr.out]; have : (i + 1) * r ≤ 4 * r := Nat.mul_le_mul_right _ (by omega); rw [Nat.add_mul, Nat.one_mul] at this; omega) ho hld)
        have eX : T.write cur off data n (base + i * room n) (q.map (PT.er n)) md1 = F i (q.map (PT.er n)) md1 := by rw [← hF.out]; rfl
        have eP : ptr q = .pointer x := by rw [← hx.out]; rfl
        have eB : ((base + i * room n : Nat) : Int) = (base : Int) + (i : Int) * (r : Int) := by rw [hr.out]; push_cast; rfl
        rw [eX, eP, eB] at HIH
        have HRM := Lib.hid (roomW n (by omega) wr.drew)
        rw [hr.out] at HRM
        have wn : IntKind.i64.wrap (n : Int) = (n : Int) := IntWalk.i64_in _ (by omega)
        obtain ⟨ir, hir2⟩ : ∃ ir : Nat, i * r = ir := ⟨_, rfl⟩
        have hir3 : (i : Int) * (r : Int) = (ir : Int) := by rw [← hir2]; push_cast; rfl
        have wi : IntKind.i64.wrap ((i : Int) * (r : Int)) = (ir : Int) := by rw [hir3]; exact IntWalk.i64_in _ (by omega)
        have wb : IntKind.i64.wrap ((base : Int) + (ir : Int)) = (base : Int) + (ir : Int) := IntWalk.i64_in _ (by omega)
        rw [hir3] at HIH
        have hglr : g < wr.drew.heap.size := (show Box wr.drew g (nodeV id cur (n + 1) (l.map ptr) zeros) 82 from Apt.all Td.out.now 2 _ rfl).lt
        have hKi : K[i]? = some (q.map (PT.er n)) := by rw [← hK.out, List.getElem?_map, hq.out]; rfl
        have hN := Lib.hid (fun (t' : Option (PT n)) (ht : t'.map (PT.er n) = (F i (q.map (PT.er n)) md1).1) => Along.next hA.out hil hKi t' ht)
        have hD : Hid (∀ t' : Option (PT n), (l.set i t').length = 4 ∧ (l.set i t').drop (i + 1) = [p0, p1, p2, p3].drop (i + 1)) := fun t' => by
          refine ⟨by rw [List.length_set]; exact hl.out.1, ?_⟩
          have := congrArg (List.drop 1) hl.out.2
          rw [List.drop_drop, List.drop_drop] at this
          rw [drop_set_next]; exact this
        have hco : Hid ((F i (q.map (PT.er n)) md1).2 ≤ md + (i + 1) * cost n) := by
          have h4 := thT_four n q (Apt.all P3 2 _ rfl)
          have h5 := write_cost cur off data n (base + i * room n) (q.map (PT.er n)) md1 h4
          have h6 := hmd1.out
          have h7 : F i (q.map (PT.er n)) md1 = T.write cur off data n (base + i * room n) (q.map (PT.er n)) md1 := by rw [← hF.out]; rfl
          show _ ≤ _
          rw [h7, Nat.add_mul, Nat.one_mul]; omega
        clear hKi eX eP eB P3 hir hir3 hir2 hX2 hmd1 hl hKK hA c3 c4 c5 c6
        go_wp2_with fail
        go_region_law (first | (go_simp; refine HRM.out.mono ?_; rintro e w' ⟨rfl, rfl⟩) | (go_simp; refine HIH.out.mono ?_; rintro e w5 ⟨t', rfl, her, hT5⟩; obtain ⟨T6, B5⟩ := inSt_round Td.out.now hki.out hT5.out; obtain ⟨x', hx'⟩ : ∃ x, Hid (t'.map (fun t => (⟨PT.gOf t, 0, none⟩ : Addr)) = x) := ⟨_, rfl⟩; have e5 : ptr t' = .pointer x' := (by rw [← hx'.out]; rfl); rw [e5] at T6; rw [e5]; have T7 := Lib.hid (Td.out.trans T6); have cn : w5.cell? ⟨g, 3 + i, none⟩ = some (.pointer x) := (by rw [kid_cell B5 hki.out, ← hx.out]; rfl); have cf : w5.frozen? ⟨g, 3 + i, none⟩ = false := B5.free (3 + i); have hgl5 : g < w5.heap.size := B5.lt; clear hT5 T6 e5))
        go_wp2_with fail
        refine ⟨?_, ?measure⟩
        (repeat apply Exists.intro)
        refine ⟨?rel, rfl⟩
        case rel => exact ⟨i + 1, (F i (q.map (PT.er n)) md1).2, l.set i t', by omega, by go_num, hco, hD.out t', hN.out t' her.out, T7⟩
        case measure => (simp [intOf]; try omega)
      · obtain rfl : i = 4 := by omega
        have hl4 := hl.out.1
        have hA4 := hA.out
        rw [List.take_of_length_le (by omega)] at hA4
        obtain ⟨e1, e2⟩ := hA4.done (by rw [hl4]; exact hK4.out.symm)
        have hX3 := hX2.out
        rw [e1, e2] at hX3
        have TE := Lib.hid (hTr.out.trans (inSt_end hl4 hTr.out.now))
        have HX3 := Lib.hid hX3
        clear hX3 e1 e2 hA hA4 hX2 hTr hmd1 hKK c3 c4 c5 c6
        go_wp2_with fail
        go_ret
        exact ⟨some (⟨g, id, cur, l⟩ : InP (PT n)), rfl, by show _ = _; rw [HX3.out]; rfl, by show Turns _ _ _ _; rw [HX3.out]; exact TE.out⟩
theorem writeAt : ∀ (n : Nat), n ≤ 4 → WriteAt n
  | 0, _ => writeAt0
  | n + 1, h => writeInner n (writeAt n (by omega)) (by omega)
end Go.Proofs.Ythjjfmnipemakaa
