/- The walk of cut: at a leaf, at an inner node. -/
import Derived.Test.YthjjfmnipemakaaTrX
import Derived.Lib.SliceRun
namespace Go.Proofs.Ythjjfmnipemakaa
open Go.RowKit
set_option linter.unusedVariables false
set_option maxRecDepth 100000

def CutAt (n : Nat) : Prop := ∀ (W : World) (G : Nat → Prop) (S : Thing) (k : Nat) (av : Option Addr) (cv cur made base e : Nat) (t : Option (PT n)) (w : World),
    (∀ w, S.holds w → (thOld W G).holds w) → OldT W G cur n t →
    (thAll [thBox k (forV av cur cv made) 74, S, thT W G cur n t]).holds w → made + cost n ≤ 900000 → base + room n ≤ 100000 → e ≤ 100000 →
    Calls Try.prog 40 #[.pointer (some ⟨k, 0, none⟩), ptr t, .int .i64 base, .int .i64 e] w (WriteEnd W G S k av cv cur made n t (T.cut cur e n base (t.map (PT.er n)) made) w)
theorem thT_drop {W : World} {G : Nat → Prop} {cur n : Nat} {t : Option (PT n)} {w : World} : Turns (thT W G cur n t) (thT W G cur n none) w w := by
  have e : thT W G cur n none = thPure True := by cases n <;> rfl
  rw [e]
  exact ⟨trivial, Mv.refl _ _, fun b h => h.elim⟩
theorem zero_u8 (w : World) : (zeroValue 5).run Try.prog w = .ok (.int .u8 0) w := by kernel_rfl
theorem data_zero (g id birth level : Nat) (ps : List Value) (ty : TypeId) (hp : ps.length = 4) : ∀ (m k : Nat) (ds : List Int) (w : World), k + m = ds.length → Box w g (nodeV id birth level ps ds) ty →
    Turns (thBox g (nodeV id birth level ps ds) ty) (thBox g (nodeV id birth level ps (ds.take k ++ List.replicate m 0)) ty) w (w.setCells g (7 + k) (List.replicate m (.int .u8 0)))
  | 0, k, ds, w, hk, h => by
    rw [List.take_of_length_le (by omega)]
    simpa [World.setCells] using Turns.refl h
  | m + 1, k, ds, w, hk, h => by
    have T1 := Turns.cell h (7 + k) (.int .u8 0)
    rw [nodeV_setData _ _ _ _ _ hp] at T1
    have T2 := data_zero g id birth level ps ty hp m (k + 1) (ds.set k 0) _ (by rw [List.length_set]; omega) T1.now
    rw [take_set_next _ _ _ (by omega), List.append_assoc] at T2
    exact T1.trans T2
set_option maxHeartbeats 8000000 in
theorem cutLeaf : CutAt 0 := by
  intro W G S k av cv cur made base e t w hS hO h hm hb he
  have HH := Lib.hid h
  have hr0 : room 0 = 64 := room_zero
  rw [hr0] at hb
  have w0 : IntKind.i64.wrap ((base : Int) + 64) = (base : Int) + 64 := IntWalk.i64_in _ (by omega)
  cases t with
  | none =>
    clear h hS
    change Calls _ _ #[.pointer (some ⟨k, 0, none⟩), .pointer none, .int .i64 base, .int .i64 e] w _
    go_enter Try.func40, Try.ntmps40
    go_wp2_with fail
    go_ret
    exact ⟨none, rfl, rfl, Turns.refl HH.out⟩
  | some t =>
    obtain ⟨g0, ⟨id0, birth0, ds0⟩⟩ := t
    have B0 : Box w g0 (nodeV id0 birth0 0 nils ds0) 82 := hO.now (hS w (Apt.all h 1 _ rfl))
    have hds : Hid (ds0.length = 64 ∧ ∀ x ∈ ds0, (Lit.int .u8 x).wf = true) := hO.2.2.1
    have n2 : w.cell? ⟨g0, 2, none⟩ = some (.int .i64 0) := (B0.cell 2).trans (by simp [nodeV])
    have hg0 : g0 < w.heap.size := B0.lt
    have BF := Lib.hid (show Box w k (forV av cur cv made) 74 from Apt.all h 0 _ rfl)
    have BB := Lib.hid B0
    clear h hS B0
    change Calls _ _ #[.pointer (some ⟨k, 0, none⟩), .pointer (some ⟨g0, 0, none⟩), .int .i64 base, .int .i64 e] w _
    by_cases h1 : e ≤ base
    · have q1 : decide ((e : Int) ≤ (base : Int)) = true := by simp; omega
      have hx : T.cut cur e 0 base ((some (⟨g0, ⟨id0, birth0, ds0⟩⟩ : LfP) : Option (PT 0)).map (PT.er 0)) made = (none, made) := by show (if e ≤ base then _ else _) = _; rw [if_pos h1]
      rw [hx]
      clear hx
      go_enter Try.func40, Try.ntmps40
      go_wp2_with fail
      go_ret
      exact ⟨none, rfl, rfl, Turns.inside (i := 2) HH.out rfl thT_drop⟩
    · have q1 : decide ((e : Int) ≤ (base : Int)) = false := by simp; omega
      by_cases h2 : base + 64 ≤ e
      · have q2 : decide ((base : Int) + 64 ≤ (e : Int)) = true := by simp; omega
        have hx : T.cut cur e 0 base ((some (⟨g0, ⟨id0, birth0, ds0⟩⟩ : LfP) : Option (PT 0)).map (PT.er 0)) made = (some (⟨id0, birth0, ds0⟩ : Lf), made) := by show (if e ≤ base then _ else if base + room 0 ≤ e then _ else _) = _; rw [if_neg h1, hr0, if_pos h2]; rfl
        rw [hx]
        clear hx
        go_enter Try.func40, Try.ntmps40
        go_wp2_with fail
        refine (roomW0 w).mono ?_
        rintro e w' ⟨rfl, rfl⟩
        go_wp2_with fail
        go_ret
        exact ⟨some (⟨g0, ⟨id0, birth0, ds0⟩⟩ : LfP), rfl, rfl, Turns.refl HH.out⟩
      · have q2 : decide ((base : Int) + 64 ≤ (e : Int)) = false := by simp; omega
        have hx : T.cut cur e 0 base ((some (⟨g0, ⟨id0, birth0, ds0⟩⟩ : LfP) : Option (PT 0)).map (PT.er 0)) made = (some (⟨made + 1, cur, cutL (e - base) ds0⟩ : Lf), made + 1) := by show (if e ≤ base then _ else if base + room 0 ≤ e then _ else _) = _; rw [if_neg h1, hr0, if_neg h2]; rfl
        rw [hx]
        obtain ⟨kk, hkk⟩ : ∃ kk, e - base = kk := ⟨_, rfl⟩
        rw [hkk]
        have wk : IntKind.i64.wrap ((e : Int) - (base : Int)) = (kk : Int) := by rw [IntWalk.i64_in _ (by omega)]; omega
        have hk1 : (kk : Int) ≤ 64 := by omega
        have hk2 : kk < 64 := by omega
        have hk0 : (0 : Int) ≤ (kk : Int) := by omega
        clear hx
        go_enter Try.func40, Try.ntmps40
        go_wp2_with fail
        refine (roomW0 w).mono ?_
        rintro e w' ⟨rfl, rfl⟩
        go_wp2_with fail
        refine (freshS k av cur cv made 0 g0 id0 birth0 0 nils ds0 w BF.out BB.out rfl (by intro v hv; simp [nils] at hv; subst hv; rfl) hds.out.1 (by omega) (by omega)).mono ?_
        rintro e V ⟨rfl, TF⟩
        have T1 := Turns.inside (i := 0) HH.out rfl TF
        have T2 := T1.trans (Turns.regroup T1.now)
        obtain ⟨g, hg⟩ : ∃ g, Hid (w.heap.size = g) := ⟨_, rfl⟩
        rw [hg.out] at T2
        rw [hg.out]
        have BN := Lib.hid (show Box V g (nodeV (made + 1) cur 0 nils ds0) 82 from Apt.all T2.now 2 _ rfl)
        have n2V : V.cell? ⟨g, 2, none⟩ = some (.int .i64 0) := (BN.out.cell 2).trans (by simp [nodeV])
        have hgV : g < V.heap.size := BN.out.lt
        have T3 := T2.trans (Turns.inside (i := 2) T2.now rfl (data_zero g (made + 1) cur 0 nils _ rfl (64 - kk) kk ds0 V (by have := hds.out.1; omega) BN.out))
        have hce : cutL kk ds0 = ds0.take kk ++ List.replicate (64 - kk) 0 := by unfold cutL; rw [hds.out.1]
        rw [← hce] at T3
        have hcf : Hid ((cutL kk ds0).length = 64 ∧ ∀ x ∈ cutL kk ds0, (Lit.int .u8 x).wf = true) := by
          refine ⟨by rw [hce, List.length_append, List.length_take, List.length_replicate]; have := hds.out.1; omega, fun x hx => ?_⟩
          rw [hce] at hx
          rcases List.mem_append.1 hx with hx | hx
          · exact hds.out.2 x (List.mem_of_mem_take hx)
          · rw [List.eq_of_mem_replicate hx]; rfl
        have T4 := Lib.hid (T3.trans (Turns.inside (i := 2) T3.now rfl (leafThing W G cur g (made + 1) (cutL kk ds0) hcf.out (Apt.all T3.now 2 _ rfl))))
        have hcl : ∀ (ty : TypeId) (c : Nat), (Builtin.clear_ #[23] ty #[.slice (some ⟨g, 7 + kk, none⟩) (64 - kk) c]).run Try.prog V = .ok (.tuple #[]) (V.setCells g (7 + kk) (List.replicate (64 - kk) (.int .u8 0))) := fun ty c =>
          Lib.run_clear_slice V 23 5 ty (.int .u8 0) Try.underlying23 zero_u8 rfl rfl g (7 + kk) (64 - kk) c (by omega) (fun j hj => by
            rw [BN.out.cell (7 + kk + j), Nat.add_assoc, nodeV_data _ _ _ _ _ rfl, List.getElem?_eq_getElem (by have := hds.out.1; omega)]; rfl) (fun j hj => BN.out.free _)
        clear T1 T2 T3 TF n2 hg0 BF BB BN
        go_wp2_with fail
        go_ret
        exact ⟨some (⟨g, ⟨made + 1, cur, cutL kk ds0⟩⟩ : LfP), rfl, rfl, T4⟩
theorem cut_cost (cur e : Nat) : ∀ (n base : Nat) (t : Option (T n)) (m : Nat), Four n t → (T.cut cur e n base t m).2 ≤ m + cost n
  | n, base, none, m, _ => by cases n <;> exact Nat.le_add_right _ _
  | 0, base, some t, m, _ => by
    unfold T.cut
    split
    · exact Nat.le_add_right _ _
    · split
      · exact Nat.le_add_right _ _
      · exact Nat.le_refl _
  | n + 1, base, some t, m, h4 => by
    have le : ∀ (ks : List (Option (T n))), (∀ k ∈ ks, Four n k) → ∀ (i m : Nat), (mapA (fun i k m => T.cut cur e n (base + i * room n) k m) i ks m).2 ≤ m + ks.length * cost n := by
      intro ks
      induction ks with
      | nil => intro _ i m; simp [mapA]
      | cons k ks ih =>
        intro h i m
        have h1 := cut_cost cur e n (base + i * room n) k m (h k (List.mem_cons_self ..))
        have h2 := ih (fun q hq => h q (List.mem_cons_of_mem _ hq)) (i + 1) (T.cut cur e n (base + i * room n) k m).2
        have e : (k :: ks).length * cost n = ks.length * cost n + cost n := by rw [List.length_cons, Nat.add_mul, Nat.one_mul]
        rw [e]
        show (mapA _ (i + 1) ks (T.cut cur _ n (base + i * room n) k m).2).2 ≤ _
        omega
    show _ ≤ m + (1 + 4 * cost n)
    unfold T.cut
    split
    · exact Nat.le_add_right _ _
    · split
      · exact Nat.le_add_right _ _
      · have := le _ h4.2 0 (m + 1)
        rw [h4.1] at this
        show (mapA _ 0 _ (m + 1)).2 ≤ _
        omega
def cf (cur e base n : Nat) : Nat → Option (T n) → Nat → Option (T n) × Nat := fun i k m => T.cut cur e n (base + i * room n) k m
set_option maxHeartbeats 8000000 in
theorem cutInner (n : Nat) (ih : CutAt n) (hn : n ≤ 3) : CutAt (n + 1) := by
  intro W G S k av cv cur made base e t w hS hO h hm hb he
  have hroom : room (n + 1) ≤ 16384 := room_mono (a := n + 1) (b := 4) (by omega)
  have HH := Lib.hid h
  have HS := Lib.hid hS
  obtain ⟨R, hR⟩ : ∃ R, Hid (room (n + 1) = R) := ⟨_, rfl⟩
  rw [hR.out] at hroom hb
  have hRW := Lib.hid (roomW (n + 1) (by omega) w)
  rw [hR.out] at hRW
  have w0 : IntKind.i64.wrap ((base : Int) + (R : Int)) = (base : Int) + (R : Int) := IntWalk.i64_in _ (by omega)
  cases t with
  | none =>
    clear h hS
    change Calls _ _ #[.pointer (some ⟨k, 0, none⟩), .pointer none, .int .i64 base, .int .i64 e] w _
    go_enter Try.func40, Try.ntmps40
    go_wp2_with fail
    go_ret
    exact ⟨none, rfl, rfl, Turns.refl HH.out⟩
  | some t =>
    obtain ⟨g0, id0, birth0, ks0⟩ := t
    have B0 : Box w g0 (nodeV id0 birth0 (n + 1) (ks0.map ptr) zeros) 82 := hO.now (hS w (Apt.all h 1 _ rfl))
    have hk4 : ks0.length = 4 := hO.2.2.1
    have hold := Lib.hid hO.2.2.2.2
    have n2 : w.cell? ⟨g0, 2, none⟩ = some (.int .i64 ((n : Int) + 1)) := (B0.cell 2).trans (by simp [nodeV])
    have hg0 : g0 < w.heap.size := B0.lt
    have BF := Lib.hid (show Box w k (forV av cur cv made) 74 from Apt.all h 0 _ rfl)
    have BB := Lib.hid B0
    clear h hS B0 hO
    change Calls _ _ #[.pointer (some ⟨k, 0, none⟩), .pointer (some ⟨g0, 0, none⟩), .int .i64 base, .int .i64 e] w _
    by_cases h1 : e ≤ base
    · have q1 : decide ((e : Int) ≤ (base : Int)) = true := by simp; omega
      have hx : T.cut cur e (n + 1) base ((some (⟨g0, id0, birth0, ks0⟩ : InP (PT n)) : Option (PT (n + 1))).map (PT.er (n + 1))) made = (none, made) := by show (if e ≤ base then _ else _) = _; rw [if_pos h1]
      rw [hx]
      clear hx
      go_enter Try.func40, Try.ntmps40
      go_wp2_with fail
      go_ret
      exact ⟨none, rfl, rfl, Turns.inside (i := 2) HH.out rfl thT_drop⟩
    · have q1 : decide ((e : Int) ≤ (base : Int)) = false := by simp; omega
      by_cases h2 : base + R ≤ e
      · have q2 : decide ((base : Int) + (R : Int) ≤ (e : Int)) = true := by simp; omega
        have hx : T.cut cur e (n + 1) base ((some (⟨g0, id0, birth0, ks0⟩ : InP (PT n)) : Option (PT (n + 1))).map (PT.er (n + 1))) made = ((some (⟨g0, id0, birth0, ks0⟩ : InP (PT n)) : Option (PT (n + 1))).map (PT.er (n + 1)), made) := by show (if e ≤ base then _ else if base + room (n + 1) ≤ e then _ else _) = _; rw [if_neg h1, hR.out, if_pos h2]; rfl
        rw [hx]
        clear hx
        go_enter Try.func40, Try.ntmps40
        go_wp2_with fail
        refine hRW.out.mono ?_
        rintro e w' ⟨rfl, rfl⟩
        go_wp2_with fail
        go_ret
        exact ⟨some (⟨g0, id0, birth0, ks0⟩ : InP (PT n)), rfl, rfl, Turns.refl HH.out⟩
      · have q2 : decide ((base : Int) + (R : Int) ≤ (e : Int)) = false := by simp; omega
        obtain ⟨X, hX⟩ : ∃ X, Hid (T.cut cur e (n + 1) base ((some (⟨g0, id0, birth0, ks0⟩ : InP (PT n)) : Option (PT (n + 1))).map (PT.er (n + 1))) made = X) := ⟨_, rfl⟩
        have hX2 : Hid (X = (some (⟨made + 1, cur, (mapA (cf cur e base n) 0 (ks0.map (Option.map (PT.er n))) (made + 1)).1⟩ : In (T n)), (mapA (cf cur e base n) 0 (ks0.map (Option.map (PT.er n))) (made + 1)).2)) := by
          show _ = _
          rw [← hX.out]
          show (if e ≤ base then _ else if base + room (n + 1) ≤ e then _ else _) = _
          rw [if_neg h1, hR.out, if_neg h2]; rfl
        rw [hX.out]
        clear hX
        go_enter Try.func40, Try.ntmps40
        go_wp2_with fail
        refine hRW.out.mono ?_
        rintro e w' ⟨rfl, rfl⟩
        go_wp2_with fail
        have en : ((n + 1 : Nat) : Int) = (n : Int) + 1 := by push_cast; rfl
        have HF := freshS k av cur cv made (n + 1) g0 id0 birth0 (n + 1) (ks0.map ptr) zeros w BF.out BB.out (by rw [List.length_map]; exact hk4) (by intro v hv; obtain ⟨q, _, rfl⟩ := List.mem_map.1 hv; rfl) rfl (by omega) (by omega)
        rw [en] at HF
        refine HF.mono ?_
        rintro e V ⟨rfl, TF⟩
        have T1 := Turns.inside (i := 0) HH.out rfl TF
        have T2 := T1.trans (Turns.regroup T1.now)
        obtain ⟨g, hg⟩ : ∃ g, Hid (w.heap.size = g) := ⟨_, rfl⟩
        rw [hg.out] at T2
        rw [hg.out]
        have T3 := T2.trans (Turns.inside (i := 2) T2.now rfl (boxKids (W := W) (G := G) (cur := cur) (n := n) (ks := ks0) hold.out (Apt.all T2.now 2 _ rfl)))
        have hT := Lib.hid (T3.trans (inSt_start (n := n) (ks := ks0) T3.now))
        obtain ⟨id, hid⟩ : ∃ id, Hid (made + 1 = id) := ⟨_, rfl⟩
        obtain ⟨md, hmd⟩ : ∃ md, made + 1 = md := ⟨_, rfl⟩
        rw [hid.out] at hT hX2
        rw [show id = md from hid.out.symm.trans hmd] at hT hX2
        obtain ⟨wc, hwc⟩ : ∃ wc, V = wc := ⟨_, rfl⟩
        subst hwc
        clear T1 T2 T3 TF HF n2 hg0 BF BB
        obtain ⟨p0, p1, p2, p3, rfl⟩ : ∃ p0 p1 p2 p3, ks0 = [p0, p1, p2, p3] := by
          match ks0, hk4 with
          | [a, b, c, d], _ => exact ⟨a, b, c, d, rfl⟩
        have BN := Lib.hid (show Box V g (nodeV md cur (n + 1) ([p0, p1, p2, p3].map ptr) zeros) 82 from Apt.all hT.out.now 2 _ rfl)
        obtain ⟨x0, h0⟩ : ∃ x, Hid (p0.map (fun t => (⟨PT.gOf t, 0, none⟩ : Addr)) = x) := ⟨_, rfl⟩
        obtain ⟨x1, h1⟩ : ∃ x, Hid (p1.map (fun t => (⟨PT.gOf t, 0, none⟩ : Addr)) = x) := ⟨_, rfl⟩
        obtain ⟨x2, h2⟩ : ∃ x, Hid (p2.map (fun t => (⟨PT.gOf t, 0, none⟩ : Addr)) = x) := ⟨_, rfl⟩
        obtain ⟨x3, h3⟩ : ∃ x, Hid (p3.map (fun t => (⟨PT.gOf t, 0, none⟩ : Addr)) = x) := ⟨_, rfl⟩
        have c3 : V.cell? ⟨g, 3, none⟩ = some (.pointer x0) := by rw [← h0.out]; exact BN.out.cell 3
        have c4 : V.cell? ⟨g, 4, none⟩ = some (.pointer x1) := by rw [← h1.out]; exact BN.out.cell 4
        have c5 : V.cell? ⟨g, 5, none⟩ = some (.pointer x2) := by rw [← h2.out]; exact BN.out.cell 5
        have c6 : V.cell? ⟨g, 6, none⟩ = some (.pointer x3) := by rw [← h3.out]; exact BN.out.cell 6
        have n2 : V.cell? ⟨g, 2, none⟩ = some (.int .i64 ((n : Int) + 1)) := (BN.out.cell 2).trans (by simp [nodeV])
        have hgl : g < V.heap.size := BN.out.lt
        go_wp2_with fail
        obtain ⟨F, hF⟩ : ∃ F, Hid (cf cur e base n = F) := ⟨_, rfl⟩
        obtain ⟨K, hK⟩ : ∃ K, Hid ([p0, p1, p2, p3].map (Option.map (PT.er n)) = K) := ⟨_, rfl⟩
        rw [hF.out, hK.out] at hX2
        have hK4 : Hid (K.length = 4) := by show _ = _; rw [← hK.out]; rfl
        obtain ⟨r, hr⟩ : ∃ r, Hid (room n = r) := ⟨_, rfl⟩
        have hrl : r ≤ 4096 := by rw [← hr.out]; exact room_mono (a := n) (b := 3) (by omega)
        have hrR : 4 * r = R := by rw [← hr.out, ← hR.out, room_succ]
        have hmc : md + 4 * cost n ≤ 900000 := by have : cost (n + 1) = 1 + 4 * cost n := rfl; omega
        clear BN
        go_loopw [54] (fun iv wr => ∃ (i md1 : Nat) (l : List (Option (PT n))), i ≤ 4 ∧ iv = .int .i64 i ∧ Hid (md1 ≤ md + i * cost n) ∧ Hid (l.length = 4 ∧ l.drop i = [p0, p1, p2, p3].drop i) ∧ Hid (Along F K md (l.take i) md1) ∧ Hid (Turns (thAll [thBox k (forV av cur cv made) 74, S, thT W G cur (n + 1) (some (⟨g0, id0, birth0, [p0, p1, p2, p3]⟩ : InP (PT n)))]) (thAll (inSt W G S k av cv cur n g md l md1)) w wr)) (fun iv _ => 4 - (intOf iv).toNat)
        case atStart => exact ⟨0, md, [p0, p1, p2, p3], by omega, rfl, by show _ ≤ _; omega, ⟨rfl, rfl⟩, Along.start F K md, hT⟩
        case round =>
          obtain ⟨i, md1, l, hi, rfl, hmd1, hl, hA, hTr⟩ := hrel
          by_cases hlt : i < 4
          · have ii : (i : Int) < 4 := by omega
            obtain ⟨q, hq⟩ : ∃ q, Hid ([p0, p1, p2, p3][i]? = some q) := ⟨([p0, p1, p2, p3].get ⟨i, hlt⟩), by show _ = _; rw [List.getElem?_eq_getElem hlt]; rfl⟩
            obtain ⟨x, hx⟩ : ∃ x, Hid (q.map (fun t => (⟨PT.gOf t, 0, none⟩ : Addr)) = x) := ⟨_, rfl⟩
            go_upto_region 11 with fail
            go_cut [9, 10] (fun v15 v16 wx => v15 = .int .i64 i ∧ v16 = .pointer x ∧ wr = wx)
            case first =>
              have hv : Hid ((#[Value.pointer x0, .pointer x1, .pointer x2, .pointer x3] : Array Value)[i]? = some (.pointer x)) := by
                have hi4 : i = 0 ∨ i = 1 ∨ i = 2 ∨ i = 3 := by omega
                have hqq := hq.out
                rcases hi4 with rfl | rfl | rfl | rfl
                · obtain rfl : p0 = q := by simpa using hqq
                  obtain rfl : x0 = x := h0.out.symm.trans hx.out
                  rfl
                · obtain rfl : p1 = q := by simpa using hqq
                  obtain rfl : x1 = x := h1.out.symm.trans hx.out
                  rfl
                · obtain rfl : p2 = q := by simpa using hqq
                  obtain rfl : x2 = x := h2.out.symm.trans hx.out
                  rfl
                · obtain rfl : p3 = q := by simpa using hqq
                  obtain rfl : x3 = x := h3.out.symm.trans hx.out
                  rfl
              clear hA hTr hX2
              go_wp2_with (refine wpList_index_at rfl 79 (.tmp 53) (.tmp 54) rfl #[Value.pointer x0, .pointer x1, .pointer x2, .pointer x3] rfl i rfl 4 76 rfl hlt _ rfl rfl rfl (.pointer x) hv.out ?_)
              go_meet
              exact ⟨rfl, rfl, rfl⟩
            obtain ⟨rfl, rfl, rfl⟩ := hcut
            have hki : Hid (l[i]? = some q) := by
              have e1 : (l.drop i)[0]? = ([p0, p1, p2, p3].drop i)[0]? := by rw [hl.out.2]
              rw [List.getElem?_drop, List.getElem?_drop, Nat.add_zero] at e1
              exact e1.trans hq.out
            have hmi : Hid (md1 + cost n ≤ 900000) := by
              show _ ≤ _
              have h1 := hmd1.out
              have h2 : (i + 1) * cost n ≤ 4 * cost n := Nat.mul_le_mul_right _ (by omega)
              rw [Nat.add_mul, Nat.one_mul] at h2
              omega
            have hil : i < l.length := (List.getElem?_eq_some_iff.1 hki.out).1
            have Td := Lib.hid (hTr.out.stays (below_drewN (Below.refl _ _) 1 : Below wr.heap.size wr wr.drew))
            have P3 := inSt_pick Td.out.now hki.out
            have hir : i * r ≤ 3 * r := Nat.mul_le_mul_right _ (by omega)
            have HIH := Lib.hid (ih W G S k av cv cur md1 (base + i * room n) e q wr.drew HS.out (hold.out q (List.mem_of_getElem? hq.out)) P3 hmi.out (by rw [hr.out]; have : (i + 1) * r ≤ 4 * r := Nat.mul_le_mul_right _ (by omega); rw [Nat.add_mul, Nat.one_mul] at this; omega) he)
            have eX : T.cut cur e n (base + i * room n) (q.map (PT.er n)) md1 = F i (q.map (PT.er n)) md1 := by rw [← hF.out]; rfl
            have eP : ptr q = .pointer x := by rw [← hx.out]; rfl
            have eB : ((base + i * room n : Nat) : Int) = (base : Int) + (i : Int) * (r : Int) := by rw [hr.out]; push_cast; rfl
            rw [eX, eP, eB] at HIH
            have HRM := Lib.hid (roomW n (by omega) wr.drew)
            rw [hr.out] at HRM
            have wn : IntKind.i64.wrap (n : Int) = (n : Int) := IntWalk.i64_in _ (by omega)
            obtain ⟨ir, hir2⟩ : ∃ ir : Nat, i * r = ir := ⟨_, rfl⟩
            have hir3 : (i : Int) * (r : Int) = (ir : Int) := by rw [← hir2]; push_cast; rfl
            have wi : IntKind.i64.wrap ((i : Int) * (r : Int)) = (ir : Int) := by rw [hir3]; exact IntWalk.i64_in _ (by omega)
            have wb : IntKind.i64.wrap ((base : Int) + (ir : Int)) = (base : Int) + (ir : Int) := IntWalk.i64_in _ (by omega)
            rw [hir3] at HIH
            have n2r : wr.drew.cell? ⟨g, 2, none⟩ = some (.int .i64 ((n : Int) + 1)) := ((show Box wr.drew g (nodeV md cur (n + 1) (l.map ptr) zeros) 82 from Apt.all Td.out.now 2 _ rfl).cell 2).trans (by simp [nodeV])
            have hglr : g < wr.drew.heap.size := (show Box wr.drew g (nodeV md cur (n + 1) (l.map ptr) zeros) 82 from Apt.all Td.out.now 2 _ rfl).lt
            have hKi : K[i]? = some (q.map (PT.er n)) := by rw [← hK.out, List.getElem?_map, hq.out]; rfl
            have hN := Lib.hid (fun (t' : Option (PT n)) (ht : t'.map (PT.er n) = (F i (q.map (PT.er n)) md1).1) => Along.next hA.out hil hKi t' ht)
            have hD : Hid (∀ t' : Option (PT n), (l.set i t').length = 4 ∧ (l.set i t').drop (i + 1) = [p0, p1, p2, p3].drop (i + 1)) := fun t' => by
              refine ⟨by rw [List.length_set]; exact hl.out.1, ?_⟩
              have := congrArg (List.drop 1) hl.out.2
              rw [List.drop_drop, List.drop_drop] at this
              rw [drop_set_next]; exact this
            have hco : Hid ((F i (q.map (PT.er n)) md1).2 ≤ md + (i + 1) * cost n) := by
              have h4 := thT_four n q (Apt.all P3 2 _ rfl)
              have h5 := cut_cost cur e n (base + i * room n) (q.map (PT.er n)) md1 h4
              have h6 := hmd1.out
              have h7 : F i (q.map (PT.er n)) md1 = T.cut cur e n (base + i * room n) (q.map (PT.er n)) md1 := by rw [← hF.out]; rfl
              show _ ≤ _
              rw [h7, Nat.add_mul, Nat.one_mul]; omega
            clear hKi eX eP eB P3 hir hir3 hir2 hX2 hmd1 hl hA c3 c4 c5 c6
            go_wp2_with fail
            go_region_law (first | (go_simp; refine HRM.out.mono ?_; rintro e w' ⟨rfl, rfl⟩) | (go_simp; refine HIH.out.mono ?_; rintro e w5 ⟨t', rfl, her, hT5⟩; obtain ⟨T6, B5⟩ := inSt_round Td.out.now hki.out hT5.out; obtain ⟨x', hx'⟩ : ∃ x, Hid (t'.map (fun t => (⟨PT.gOf t, 0, none⟩ : Addr)) = x) := ⟨_, rfl⟩; have e5 : ptr t' = .pointer x' := (by rw [← hx'.out]; rfl); rw [e5] at T6; rw [e5]; have T7 := Lib.hid (Td.out.trans T6); have cn : w5.cell? ⟨g, 3 + i, none⟩ = some (.pointer x) := (by rw [kid_cell B5 hki.out, ← hx.out]; rfl); have cf : w5.frozen? ⟨g, 3 + i, none⟩ = false := B5.free (3 + i); have hgl5 : g < w5.heap.size := B5.lt; clear hT5 T6 e5))
            go_wp2_with fail
            refine ⟨?_, ?measure⟩
            (repeat apply Exists.intro)
            refine ⟨?rel, rfl⟩
            case rel => exact ⟨i + 1, (F i (q.map (PT.er n)) md1).2, l.set i t', by omega, by go_num, hco, hD.out t', hN.out t' her.out, T7⟩
            case measure => (simp [intOf]; try omega)
          · obtain rfl : i = 4 := by omega
            have hl4 := hl.out.1
            have hA4 := hA.out
            rw [List.take_of_length_le (by omega)] at hA4
            obtain ⟨e1, e2⟩ := hA4.done (by rw [hl4]; exact hK4.out.symm)
            have hX3 := hX2.out
            rw [e1, e2] at hX3
            have TE := Lib.hid (hTr.out.trans (inSt_end hl4 hTr.out.now))
            have HX3 := Lib.hid hX3
            clear hX3 e1 e2 hA hA4 hX2 hTr hmd1 c3 c4 c5 c6
            go_wp2_with fail
            go_ret
            exact ⟨some (⟨g, md, cur, l⟩ : InP (PT n)), rfl, by show _ = _; rw [HX3.out]; rfl, by show Turns _ _ _ _; rw [HX3.out]; exact TE.out⟩
theorem cutAt : ∀ (n : Nat), n ≤ 4 → CutAt n
  | 0, _ => cutLeaf
  | n + 1, h => cutInner n (cutAt n (by omega)) (by omega)
end Go.Proofs.Ythjjfmnipemakaa
