/- The walk of mat.Mul. -/
import Derived.Test.YtkfjkdonbmjniaaMtD
import Derived.Test.YtkfjkdonbmjniaaOwnMake
import Derived.Deep.RegionHeld3
import Derived.Deep.RegionLaw
import Derived.BigQuiet
import Derived.Deep.DeepCutAuto
import Derived.Deep.CutBlock
namespace Go.Proofs.Ytkfjkdonbmjniaa
open Go.RowKit
set_option linter.unusedVariables false
set_option maxRecDepth 100000

theorem info_int8 : (Try.prog.info? 3).map (fun i => (i.zero, i.size, i.bytes)) = some (some (.int .i64 0), 1, 8) := by kernel_rfl
theorem info_ints : (Try.prog.info? 29).map (fun i => (i.zero, i.size, i.bytes)) = some (some (.slice none 0 0), 1, 24) := by kernel_rfl
theorem El.wf {l : List Int} (h : El l) : ∀ x ∈ l, (Lit.int .i64 x).wf = true := fun x hx => by have := h x hx; simp [Lit.wf, IntKind.min, IntKind.max, IntKind.signed, IntKind.bits]; omega
def rowN (A B : List (List Int)) (n i c k : Nat) : List Int := mulRow A B n i k ++ List.replicate (c - k) 0
theorem mulRow_length (A B : List (List Int)) (n i c : Nat) : (mulRow A B n i c).length = c := by simp [mulRow]
theorem rowN_set (A B : List (List Int)) (n i c k : Nat) (hk : k < c) : (rowN A B n i c k).set k ((dotN (fun t => at_ A i t) (fun t => at_ B t k) n : Nat) : Int) = rowN A B n i c (k + 1) := by
  unfold rowN
  rw [show c - k = (c - (k + 1)) + 1 by omega, List.replicate_succ, List.set_append_right _ _ (by rw [mulRow_length]; exact Nat.le_refl _), mulRow_length, Nat.sub_self, mulRow_succ, List.append_assoc]
  rfl
def MulPost (A B : List (List Int)) (r n c : Nat) (w : World) (e : Ending) (w' : World) : Prop :=
  ∃ a c', e = .returned (.tuple #[.slice a r c', .int .i64 0]) ∧ Hid (SOwn (Lay.int .i64).slice w' w.heap.size 29 (fun b => w.heap.size ≤ b) a r c' (mulM A B r n c)) ∧ Hid (Below w.heap.size w w')
set_option maxHeartbeats 8000000 in
theorem mulMat (a : Option Addr) (ca : Nat) (b : Option Addr) (cb : Nat) (A B : List (List Int)) (r n c : Nat) (w : World) {F G : Nat → Prop} (ha : SRow (Lay.int .i64).slice w F a r ca A) (hb : SRow (Lay.int .i64).slice w G b n cb B) (hA : Mat A r n) (hB : Mat B n c) :
    Calls Try.prog 25 #[.slice a r ca, .slice b n cb] w (MulPost A B r n c w) := by
  have hma := ha.hmax
  have hmb := hb.hmax
  have hla := ha.hle
  have hlb := hb.hle
  unfold maxLen at hma hmb
  have HA := Lib.hid hA
  have HB := Lib.hid hB
  obtain ⟨_, ⟨r1, r2⟩, ⟨n1, n2⟩, _⟩ := hA
  obtain ⟨_, _, ⟨c1, c2⟩, _⟩ := hB
  have SA := Lib.hid ha
  have SB := Lib.hid hb
  clear ha hb
  obtain ⟨B0, hB0⟩ : ∃ B, Hid (w.heap.size = B) := ⟨_, rfl⟩
  go_enter Try.func25, Try.ntmps25
  go_wp2_with fail
  obtain ⟨V, hV⟩ : ∃ V, V = w.alloc (.cells #[.slice b n cb] 30) := ⟨_, rfl⟩
  have LV : Hid (Below B0 w V) := by rw [hV, ← hB0.out]; exact Below_alloc1 _
  have XB : Box V w.heap.size #[.slice b n cb] 30 := by rw [hV]; exact Box.new rfl
  rw [← hV]
  rw [hB0.out] at XB ⊢
  have HXB := Lib.hid XB
  have qb := XB.cell 0
  have SAV := Lib.hid (SA.out.below (by rw [hB0.out]; exact LV.out))
  have SBV := Lib.hid (SB.out.below (by rw [hB0.out]; exact LV.out))
  clear hV XB SA SB
  refine (mayM a r ca A r n V SAV.out HA.out).mono ?_
  rintro e w' ⟨rfl, rfl⟩
  go_wp2_with fail
  refine (mayM b n cb B n c V SBV.out HB.out).mono ?_
  rintro e w' ⟨rfl, rfl⟩
  obtain ⟨ba, oa, aa0, la0, ca0, rfl, _, ea0, ra0⟩ := mget SAV.out 0 (by omega)
  have hla0 : n = la0 := by rw [← ra0.hlen]; exact (HA.out.get 0 (by omega)).1.symm
  subst hla0
  rw [Nat.add_zero] at ea0
  have xa0 := ra0.hmax
  have ya0 := ra0.hle
  unfold maxLen at xa0
  have qb1 : V.cell? ⟨B0, 0, none⟩ = some (.slice b n cb) := qb
  have hnn : ((n : Int) != (n : Int)) = false := by simp
  clear ra0 qb
  go_wp2
  go_quiet (fail)
  go_wp2_with fail
  obtain ⟨V0, hV0⟩ : ∃ W, W = V.drewN nq := ⟨_, rfl⟩
  have LV0 : Hid (Below B0 w V0) := by rw [hV0]; exact below_drewN LV.out nq
  have SA0 : Hid (SRow (Lay.int .i64).slice V0 F (some ⟨ba, oa, none⟩) r ca A) := by rw [hV0]; exact SAV.out.drewN nq
  have SB0 : Hid (SRow (Lay.int .i64).slice V0 G b n cb B) := by rw [hV0]; exact SBV.out.drewN nq
  have XB0 : Hid (Box V0 B0 #[.slice b n cb] 30) := by rw [hV0]; exact HXB.out.drewN nq
  rw [← hV0]
  clear hV0 LV SAV SBV HXB qb1 ea0
  have hBV : B0 ≤ V0.heap.size := by have := LV0.out.size; have := hB0.out; omega
  go_loopw [6, 28] (fun ov iv wr => ∃ (i : Nat) (ao : Option Addr) (co : Nat), i ≤ r ∧ iv = .int .i64 i ∧ ov = .slice ao i co ∧ Hid (SOwn (Lay.int .i64).slice wr V0.heap.size 29 (fun b => V0.heap.size ≤ b) ao i co (mulM A B i n c)) ∧ Hid (Below V0.heap.size V0 wr)) (fun _ iv _ => r - (intOf iv).toNat)
  case atStart => exact ⟨0, none, 0, by omega, rfl, rfl, SOwn.nil .., Below.refl _ _⟩
  case round =>
    obtain ⟨i, ao, co, hi, rfl, rfl, hO, hL⟩ := hrel
    obtain ⟨wo, rfl⟩ : ∃ W, W = wr := ⟨wr, rfl⟩
    by_cases hlt : i < r
    · obtain ⟨ba', oa', ar, lr, cr, heq, hbaw, er, rr⟩ := mget (SA0.out.below hL.out) i hlt
      injection heq with heq; injection heq with e1 e2
      subst e1 e2
      obtain ⟨bb, ob, ab0, lb0, cb0, rfl, hbbw, eb0, rb0⟩ := mget (SB0.out.below hL.out) 0 (by omega)
      have hlr : n = lr := by rw [← rr.hlen]; exact (HA.out.get i hlt).1.symm
      have hlb0 : c = lb0 := by rw [← rb0.hlen]; exact (HB.out.get 0 (by omega)).1.symm
      subst hlr
      subst hlb0
      rw [Nat.add_zero] at eb0
      have xr := rr.hmax
      have yr := rr.hle
      have xb := rb0.hmax
      have yb := rb0.hle
      unfold maxLen at xr xb
      obtain ⟨br, or_, rfl, hcr⟩ : ∃ b' o', ar = some ⟨b', o', none⟩ ∧ ∀ t, t < n → wo.cell? ⟨b', o' + t, none⟩ = some (.int .i64 ((A.getD i []).getD t 0)) := by
        rcases rr.hat with h0 | ⟨b', o', h1, h2⟩
        · omega
        · exact ⟨b', o', h1, h2⟩
      have HCR := Lib.hid hcr
      have SBo := Lib.hid (SB0.out.below hL.out)
      have hXo := Lib.hid (XB0.out.below hL.out XB0.out.lt)
      have qbo : wo.cell? ⟨B0, 0, none⟩ = some (.slice (some ⟨bb, ob, none⟩) n cb) := hXo.out.cell 0
      have hB0o := hXo.out.lt
      have hVo : V0.heap.size ≤ wo.heap.size := hL.out.size
      clear hcr rr rb0
      go_wp2_with (refine wpList_make_zeros rfl _ _ 29 rfl 3 _ 8 Try.underlying29 info_int8 rfl _ _ _ _ c rfl rfl rfl rfl (by omega) (by unfold maxLen; omega) ?_)
      intro w1 ho hle1
      obtain ⟨gr, hgr⟩ : ∃ g, wo.heap.size = g := ⟨_, rfl⟩
      have XR : Box (wo.alloc (.cells #[.slice (some ⟨br, or_, none⟩) n cr] 29)) gr #[.slice (some ⟨br, or_, none⟩) n cr] 29 := Box.new hgr.symm
      have L1 : Hid (Below gr wo w1) := by rw [← hgr]; exact (Below_alloc1 _).trans (hle1.mono (Nat.le_succ _))
      rw [hgr] at ho hle1 hbbw hbaw hB0o hVo ⊢
      have XR1 := Lib.hid (XR.below hle1 (Nat.lt_succ_self _))
      have O1 := Lib.hid ho
      have hw1 : gr + 1 ≤ w1.heap.size := by have := hle1.size; simp only [World.size_alloc] at this; omega
      clear ho XR
      go_wp2_with fail
      go_loopw [39] (fun kv wr => ∃ k : Nat, k ≤ c ∧ kv = .int .i64 k ∧ Hid (Own wr (gr + 1) 3 1 (some ⟨gr + 1, 0, none⟩) c c ((rowN A B n i c k).map (.int .i64))) ∧ Hid (Below (gr + 1) w1 wr)) (fun kv _ => c - (intOf kv).toNat)
      case atStart => exact ⟨0, by omega, rfl, by rw [show (rowN A B n i c 0).map (Value.int .i64) = List.replicate c (Value.int .i64 0) by simp [rowN, mulRow]]; exact O1, Below.refl _ _⟩
      case round =>
        obtain ⟨k, hk, rfl, hW, hLk⟩ := hrel
        have hwr : gr + 1 ≤ wr.heap.size := by have := hLk.out.size; omega
        by_cases hkc : k < c
        · go_upto_block 3 with fail
          go_cut [] (fun wx => Hid (Own wx (gr + 1) 3 1 (some ⟨gr + 1, 0, none⟩) c c ((rowN A B n i c (k + 1)).map (.int .i64))) ∧ Hid (Below (gr + 1) w1 wx))
          case first =>
            go_upto_region 13 with fail
            obtain ⟨W, hWd⟩ : ∃ W, W = wr.alloc (.cells #[.int .i64 k] 3) := ⟨_, rfl⟩
            obtain ⟨gk, hgk⟩ : ∃ g, wr.heap.size = g := ⟨_, rfl⟩
            have XK : Box W gk #[.int .i64 k] 3 := by rw [hWd]; exact Box.new hgk.symm
            have LW : Hid (Below (gr + 1) w1 W) := by rw [hWd]; exact hLk.out.alloc hwr _
            have OW := Lib.hid (hW.out.below (Below_alloc1 (.cells #[.int .i64 k] 3)))
            rw [← hWd] at OW ⊢
            rw [hgk]
            have HXK := Lib.hid XK
            have LoW : Hid (Below gr wo W) := L1.out.trans (LW.out.mono (Nat.le_succ _))
            have hgkW : gk < W.heap.size := XK.lt
            have hgrW : gr + 1 < W.heap.size := (World.ownsRow.lt OW.out (gr + 1) rfl).2
            clear hWd XK hW hLk
            have qk : W.cell? ⟨gk, 0, none⟩ = some (.int .i64 k) := HXK.out.cell 0
            have qbw : W.cell? ⟨B0, 0, none⟩ = some (.slice (some ⟨bb, ob, none⟩) n cb) := (LoW.out.cell (p := ⟨B0, 0, none⟩) hB0o).trans qbo
            have qrw : W.cell? ⟨gr, 0, none⟩ = some (.slice (some ⟨br, or_, none⟩) n cr) := (LW.out.cell (p := ⟨gr, 0, none⟩) (Nat.lt_succ_self _)).trans (XR1.out.cell 0)
            have qw : W.cell? ⟨gr + 1, k, none⟩ = some (.int .i64 0) := by
              rw [World.ownsRow.cellAt OW.out k (by omega)]
              rw [List.getElem?_map]
              unfold rowN
              rw [List.getElem?_append_right (by rw [mulRow_length]; exact Nat.le_refl _), mulRow_length, Nat.sub_self, List.getElem?_replicate, if_pos (by omega)]
              rfl
            have fw : W.frozen? ⟨gr + 1, k, none⟩ = false := World.ownsRow.frozenAt OW.out _
            have HAt : Hid (∀ t, t < n → W.cell? ⟨br, or_ + t, none⟩ = some (.int .i64 ((at_ A i t : Nat) : Int))) := by
              intro t ht
              have h := HCR.out t ht
              have hb1 : br < gr := by rw [← hgr]; exact World.block_lt_of_cell? _ _ h
              rw [(LoW.out.cell (p := ⟨br, or_ + t, none⟩) hb1).trans h]
              have := (HA.out.el i).getD t
              rw [show (A.getD i []).getD t 0 = ((at_ A i t : Nat) : Int) by unfold at_; omega]
            have HBt : Hid (∀ t, t < n → ∃ b3 o3 c3, W.cell? ⟨bb, ob + t, none⟩ = some (.slice (some ⟨b3, o3, none⟩) c c3) ∧ W.cell? ⟨b3, o3 + k, none⟩ = some (.int .i64 ((at_ B t k : Nat) : Int))) := by
              intro t ht
              obtain ⟨bb', ob', a3, l3, c3, heq, hb3, e3, r3⟩ := mget (SBo.out.below (show Below wo.heap.size wo W by rw [hgr]; exact LoW.out)) t ht
              injection heq with heq; injection heq with e1 e2
              subst e1 e2
              have hl3 : l3 = c := by rw [← r3.hlen]; exact (HB.out.get t ht).1
              subst hl3
              rcases r3.hat with h0 | ⟨b3, o3, rfl, h2⟩
              · omega
              refine ⟨b3, o3, c3, e3, ?_⟩
              rw [h2 k hkc]
              have := (HB.out.el t).getD k
              rw [show (B.getD t []).getD k 0 = ((at_ B t k : Nat) : Int) by unfold at_; omega]
            have HF : Hid (∀ w', Below W.heap.size W w' → ∀ t, t < n → Calls Try.prog 45 #[.int .i64 t, .pointer (some ⟨gr, 0, none⟩), .pointer (some ⟨B0, 0, none⟩), .pointer (some ⟨gk, 0, none⟩)] w' fun e w'' => e = .returned (.tuple #[.int .i64 (at_ A i t : Nat), .int .i64 (at_ B t k : Nat)]) ∧ ∃ q, w'' = w'.drewN q) := by
              intro w' hl t ht
              have kc : ∀ {p : Addr} {v : Value}, W.cell? p = some v → w'.cell? p = some v := fun h => (hl.cell (World.block_lt_of_cell? _ _ h)).trans h
              obtain ⟨b3, o3, c3, e3, e4⟩ := HBt.out t ht
              exact mul1 t gr B0 gk br or_ n cr bb ob n cb b3 o3 c c3 k _ _ w' (kc qrw) (kc qbw) (kc qk) (kc (HAt.out t ht)) (kc e3) (kc e4) ht ht hkc
            have KS : Hid (∀ w', Below W.heap.size W w' → (Below W.heap.size W w' ∧ w'.cell? ⟨gk, 0, none⟩ = some (.int .i64 k) ∧ w'.cell? ⟨B0, 0, none⟩ = some (.slice (some ⟨bb, ob, none⟩) n cb) ∧ w'.cell? ⟨gr + 1, k, none⟩ = some (.int .i64 0) ∧ w'.frozen? ⟨gr + 1, k, none⟩ = false)) := by
              intro w' hl
              have kc : ∀ {p : Addr} {v : Value}, W.cell? p = some v → w'.cell? p = some v := fun h => (hl.cell (World.block_lt_of_cell? _ _ h)).trans h
              exact ⟨hl, kc qk, kc qbw, kc qw, by rw [World.ownsRow.frozenAt (OW.out.below hl)]⟩
            obtain ⟨D, hD⟩ : ∃ D, Hid (dotN (fun t => at_ A i t) (fun t => at_ B t k) n = D) := ⟨_, rfl⟩
            have HDOT : Hid (∀ w1', Below W.heap.size W w1' → Calls Try.prog 44 #[.int .i64 n, .func (.func 45) #[] #[.pointer (some ⟨gr, 0, none⟩), .pointer (some ⟨B0, 0, none⟩), .pointer (some ⟨gk, 0, none⟩)]] w1' fun e w' => e = .returned (.int .i64 (D : Int)) ∧ Below W.heap.size W w') := by
              intro w1' hl
              rw [← hD.out]
              exact (dotMul n _ _ _ (fun t => at_ A i t) (fun t => at_ B t k) w1' (by omega) (fun t => at_lt HA.out i t) (fun t => at_lt HB.out t k) (fun w'' hl2 => HF.out w'' (hl.trans (hl2.mono hl.size)))).mono fun e w' ⟨h1, h2⟩ => ⟨h1, hl.trans (h2.mono hl.size)⟩
            have hB0' : Below W.heap.size W W.drew := (Below.refl _ _).drew
            clear HF HBt HAt
            go_region_law (go_simp; go_at_call 44; refine (HDOT.out _ ?_).mono ?_; (exact hB0'); rintro e w' ⟨rfl, hS2⟩; have s1 := (KS.out _ hS2).2.1; have s2 := (KS.out _ hS2).2.2.1; have s3 := (KS.out _ hS2).2.2.2.1; have s4 := (KS.out _ hS2).2.2.2.2)
            all_goals
              have hst := World.ownsRow.stored (OW.out.below hS2) k (.int .i64 (D : Int))
              rw [← List.map_set, ← hD.out, rowN_set A B n i c k hkc] at hst
              have L9 : Hid (Below (gr + 1) w1 (w'.setCell ⟨gr + 1, k, none⟩ (.int .i64 (D : Int)))) := (LW.out.trans (hS2.mono (by omega))).setCell (p := ⟨gr + 1, k, none⟩) (Nat.le_refl _) _
              have O9 := Lib.hid hst.1
              rw [hD.out] at O9
              go_wp2_with fail
              go_meet
              exact ⟨O9, L9⟩
          obtain ⟨O2, L2⟩ := hcut
          go_wp2_with fail
          go_roundw
          case rel => exact ⟨k + 1, by omega, by go_num, O2, L2⟩
          case measure => simp [intOf]; omega
        · obtain rfl : k = c := by omega
          have hrow : rowN A B n i k k = mulRow A B n i k := by simp [rowN]
          rw [hrow] at hW
          have hel : El (mulRow A B n i k) := by
            intro v hv
            simp only [mulRow, List.mem_map, List.mem_range] at hv
            obtain ⟨t, _, rfl⟩ := hv
            have := dot_lt (B := B) (c := k) HA.out i t n
            omega
          have HR := Lib.hid (hW.out.row.toRow hel.wf)
          have hgwl := (World.ownsRow.lt hW.out (gr + 1) rfl).2
          have LoR : Hid (Below gr wo wr) := L1.out.trans (hLk.out.mono (Nat.le_succ _))
          have OZ := Lib.hid (hO.out.below (show Below wo.heap.size wo wr by rw [hgr]; exact LoR.out))
          have hno : Hid ((Value.slice ao i co).ownBlock ≠ some (gr + 1)) := fun e => by have := (hO.out.lt (gr + 1) e).2; omega
          have LVr : Hid (Below V0.heap.size V0 wr) := hL.out.trans (LoR.out.mono hVo)
          have hVr : V0.heap.size ≤ wr.heap.size := by omega
          clear hW hO hL hLk
          go_wp2_with (at_builtin; refine wpList_append_one (L := (Lay.int .i64).slice) rfl (.tmp 50) (.tmp 52) 30 rfl V0.heap.size 29 _ 24 Try.underlying30 info_ints rfl (fun b => V0.heap.size ≤ b) ao i co _ rfl OZ.out #[.slice (some ⟨gr + 1, 0, none⟩) k k] (mulRow A B n i k) rfl (fun b => b = gr + 1) ⟨_, _, _, rfl, Row.toS HR.out (fun x hx _ => by cases hx; rfl)⟩ (fun b h => by subst h; exact ⟨by omega, hgwl, hno.out⟩) (by unfold maxLen; omega) (by omega) hVr ?_)
          intro a7 c7 w7 hown7 hg7
          have L7 : Hid (Below V0.heap.size V0 w7) := OZ.out.grown LVr.out (Nat.le_refl _) hVr hg7
          rw [← mulM_succ] at hown7
          have O7 := Lib.hid hown7
          clear hown7 hg7 OZ LVr HR hno
          go_wp2_with fail
          go_roundw
          case rel => exact ⟨i + 1, a7, c7, by omega, by go_num, rfl, O7, L7⟩
          case measure => simp [intOf]; omega
    · obtain rfl : i = r := by omega
      go_wp2_with fail
      go_ret2
      exact ⟨ao, co, rfl, by rw [hB0.out]; exact hO.out.mono hBV (fun b hb => Nat.le_trans hBV hb), by rw [hB0.out]; exact LV0.out.trans (hL.out.mono hBV)⟩
end Go.Proofs.Ytkfjkdonbmjniaa
