/- Package mat: beside. -/
import Derived.Test.YtkfjkdonbmjniaaMtN
namespace Go.Proofs.Ytkfjkdonbmjniaa
open Go.RowKit
set_option linter.unusedVariables false
set_option maxRecDepth 100000

theorem info_int1 : (Try.prog.info? 3).map (fun i => (i.zero, i.size, i.bytes)) = some (some (.int .i64 0), 1, 8) := by kernel_rfl
theorem info_row : (Try.prog.info? 29).map (fun i => (i.zero, i.size, i.bytes)) = some (some (.slice none 0 0), 1, 24) := by kernel_rfl
theorem vrow_one' {w : World} (v : Value) (e : TypeId) : VRow (w.alloc (.cells #[v] e)) 1 (some ⟨w.heap.size, 0, none⟩) 1 1 [v] := by
  refine ⟨rfl, Nat.le_refl _, by unfold maxLen; omega, (fun h => by cases h), .inr ⟨w.heap.size, 0, rfl, fun i hi => ?_⟩⟩
  obtain rfl : i = 0 := by omega
  exact (Box.new rfl).cell 0
def Besided (M : List (List Int)) (r C : Nat) (w : World) (e : Ending) (w' : World) : Prop := ∃ a cap bs, e = .returned (.slice a r cap) ∧ Nst w' w.heap.size a r cap C bs M ∧ Below w.heap.size w w'
set_option maxHeartbeats 4000000 in
theorem besideW {F : Nat → Prop} (a : Option Addr) (cap : Nat) (M : List (List Int)) (r c more : Nat) (w : World) (h : SRow (Lay.int .i64).slice w F a r cap M) (hm : Mat M r c) (hmore : more = 0 ∨ more = r) :
    Calls Try.prog 48 #[.slice a r cap, .int .i64 more] w (Besided (besideM M more) r (c + more) w) := by
  obtain ⟨B, hB⟩ : ∃ B, Hid (w.heap.size = B) := ⟨_, rfl⟩
  obtain ⟨hMl, ⟨r1, r8⟩, ⟨c1, c8⟩, hrows⟩ := hm
  have hle := h.hle
  have hmx := h.hmax
  unfold maxLen at hmx
  have HS := Lib.hid h
  have HM : Hid (Rect M r c) := ⟨hMl, hrows⟩
  have hm8 : more ≤ 8 := by omega
  have s1 : IntKind.i64.wrap ((c : Int) + (more : Int)) = (c : Int) + (more : Int) := IntWalk.i64_in _ (by omega)
  clear h hrows
  go_enter Try.func48, Try.ntmps48
  go_wp2_with fail
  go_loopw [5, 11] (fun ov iv wr => ∃ (i : Nat) (ao : Option Addr) (co : Nat) (bs : List Nat), i ≤ r ∧ iv = .int .i64 i ∧ ov = .slice ao i co ∧ Hid (Nst wr B ao i co (c + more) bs ((besideM M more).take i)) ∧ Hid (Below B w wr)) (fun _ iv _ => r - (intOf iv).toNat)
  case atStart => exact ⟨0, none, 0, [], by omega, rfl, rfl, Nst.nil .., Below.refl _ _⟩
  case round =>
    obtain ⟨i, ao, co, bs, hi, rfl, rfl, hO, hL⟩ := hrel
    have hBr : B ≤ wr.heap.size := by have := hL.out.size; have := hB.out; omega
    by_cases hlt : i < r
    · have hil : (i : Int) < (r : Int) := by omega
      obtain ⟨b, off, a', l', c', rfl, hb, e0, hrow⟩ := mget (HS.out.below (show Below w.heap.size w wr by rw [hB.out]; exact hL.out)) i hlt
      obtain ⟨hxl, hxe⟩ := HM.out.get i hlt
      obtain ⟨x, hx⟩ : ∃ x, M.getD i [] = x := ⟨_, rfl⟩
      rw [hx] at hrow hxl hxe
      obtain rfl : l' = c := by have := hrow.hlen; omega
      have hcm := hrow.hmax
      have hcl := hrow.hle
      unfold maxLen at hcm
      obtain ⟨bx, ox, rfl, hcx⟩ : ∃ bx ox, a' = some ⟨bx, ox, none⟩ ∧ ∀ k, k < l' → wr.cell? ⟨bx, ox + k, none⟩ = some (.int .i64 (x.getD k 0)) := by
        rcases hrow.hat with h0 | h
        · omega
        · exact h
      have HCX := Lib.hid hcx
      have hnext : Hid ((besideM M more).take (i + 1) = (besideM M more).take i ++ [besideRow x i more]) := by show _ = _; rw [besideM_take _ _ _ (by omega), hx]
      clear hrow hcx
      go_wp2_with (refine wpList_make_zeros rfl _ _ 29 rfl 3 _ 8 Try.underlying29 info_int1 rfl _ _ _ _ (l' + more) rfl rfl rfl rfl (by omega) (by unfold maxLen; omega) ?_)
      intro w1 hown1 hb1
      obtain ⟨gr, hgr⟩ : ∃ g, wr.heap.size = g := ⟨_, rfl⟩
      rw [hgr] at hown1 ⊢
      have L1 := Lib.hid (hL.out.trans (hb1.mono hBr))
      have HB1 := Lib.hid hb1
      have BX1 := hown1.box
      have HC1 : Hid (∀ k, k < l' → w1.cell? ⟨bx, ox + k, none⟩ = some (.int .i64 (x.getD k 0))) := fun k hk => (hb1.cell (World.block_lt_of_cell? _ _ (HCX.out k hk))).trans (HCX.out k hk)
      have hgB : B ≤ gr := by omega
      have hold : Hid (∀ j, j < i → bs.getD j 0 < gr) := fun j hj => by have := hO.out.lt j hj; omega
      have hgw1 : gr < w1.heap.size := BX1.lt
      have HBX := Lib.hid BX1
      clear hown1 hb1 BX1 hL HCX e0
      have hn1 : (x.map (Value.int .i64)).length = Nat.min l' (l' + more) := by
        rw [List.length_map, hxl, show Nat.min l' (l' + more) = min l' (l' + more) from rfl]; omega
      have hpos1 : 0 < (x.map (Value.int .i64)).length → (some (⟨gr, 0, none⟩ : Addr) = some ⟨gr, 0, none⟩ ∧ ∃ ad, some (⟨bx, ox, none⟩ : Addr) = some ad ∧ ∀ j v, (x.map (Value.int .i64))[j]? = some v → w1.cell? (ad.add j) = some v) := fun _ => ⟨rfl, _, rfl, fun j v hv => by
        have hjl : j < x.length := by simpa using (List.getElem?_eq_some_iff.1 hv).1
        have hadd : (⟨bx, ox, none⟩ : Addr).add j = ⟨bx, ox + j, none⟩ := by unfold Addr.add; split <;> simp_all
        rw [hadd, HC1.out j (by omega)]
        rw [List.getElem?_map, List.getElem?_eq_getElem hjl] at hv
        rw [← hv]
        simp [List.getD, hjl]⟩
      have hfit1 : 0 + (x.map (Value.int .i64)).length ≤ (List.replicate (l' + more) (Value.int .i64 0)).length := by simp [hxl]
      have hone1 : ∀ v ∈ x.map (Value.int .i64), v.oneCell' = true := fun v hv => by obtain ⟨y, _, rfl⟩ := List.mem_map.1 hv; rfl
      have HN1 := Lib.hid hn1
      have HPOS1 := Lib.hid hpos1
      have HFIT1 := Lib.hid hfit1
      have HONE1 := Lib.hid hone1
      clear hn1 hpos1 hfit1 hone1
      go_wp2_with (refine wpList_copy_splice rfl (.tmp 21) (.tmp 22) 29 29 rfl 3 Try.underlying29 (by kernel_rfl) (some ⟨gr, 0, none⟩) (some ⟨bx, ox, none⟩) (l' + more) (l' + more) l' c' rfl rfl gr 0 (List.replicate (l' + more) (.int .i64 0)) 3 HBX.out (x.map (.int .i64)) HN1.out HPOS1.out HFIT1.out HONE1.out gr w1 (Below.refl _ _) (Nat.le_refl _) ?_)
      intro w2 hbx2 hb2
      have hspl : splice (List.replicate (l' + more) (Value.int .i64 0)) 0 (x.map (.int .i64)) = (x ++ List.replicate more 0).map (Value.int .i64) := by
        unfold splice
        rw [List.take_zero, List.nil_append, List.length_map, Nat.zero_add, List.drop_replicate, List.map_append, List.map_replicate, hxl, Nat.add_sub_cancel_left]
      have BX2 : Box w2 gr ((x ++ List.replicate more 0).map (Value.int .i64)).toArray 3 := by rw [← hspl]; exact hbx2.out
      have L2 := Lib.hid (L1.out.trans (hb2.mono hgB))
      have HB2 : Hid (Below gr wr w2) := by show Below _ _ _; rw [← hgr]; exact HB1.out.trans (by rw [hgr]; exact hb2)
      have HBX2 := Lib.hid BX2
      clear hbx2 hspl BX2 HBX HB1 L1 HC1 HN1 HPOS1 HFIT1 HONE1 hb2
      have hfin : ∀ (w3 : World), Box w3 gr ((besideRow x i more).map (Value.int .i64)).toArray 3 → Below gr wr w3 → Below B w w3 →
          (Nst w3 B ao i co (l' + more) bs ((besideM M more).take i) ∧ ∀ (a5 : Option Addr) (c5 : Nat) (w5 : World), Own w5 B 29 1 a5 (i + 1) c5 (bs.map (rowV (l' + more)) ++ [rowV (l' + more) gr]) → (w3.alloc (.cells #[rowV (l' + more) gr] 29)).grownBy w5 (Value.slice ao i co).ownBlock → Hid (Nst w5 B a5 (i + 1) c5 (l' + more) (bs ++ [gr]) ((besideM M more).take (i + 1))) ∧ Hid (Below B w w5)) := by
        intro w3 hb3 hwr hw
        have N3 := hO.out.below (show Below wr.heap.size wr w3 by rw [hgr]; exact hwr)
        refine ⟨N3, fun a5 c5 w5 ho hg => ?_⟩
        have LA : Below w3.heap.size w3 (w3.alloc (.cells #[rowV (l' + more) gr] 29)) := Below_alloc1 _
        have N4 := N3.below LA
        have hBs : B ≤ w3.heap.size := by have := hw.size; have := hB.out; omega
        have e : (besideM M more).take (i + 1) = (besideM M more).take i ++ [besideRow x i more] := hnext.out
        refine ⟨?_, N4.out.grown (hw.trans (LA.mono hBs)) (Nat.le_refl _) (by have := LA.size; omega) hg⟩
        show Nst _ _ _ _ _ _ _ _
        rw [e]
        exact N4.add (hb3.below LA hb3.lt) hgB (by rw [besideRow_length, hxl]) (besideRow_el hxe i more) (fun j hj e => by have := hold.out j hj; omega) ho hg
      have HFIN := Lib.hid hfin
      clear hfin
      have hrowlt : (Value.slice ao i co).ownBlock = (Value.slice ao i co).ownBlock := rfl
      by_cases h0 : more = 0
      · have BX3 : Box w2 gr ((besideRow x i more).map (Value.int .i64)).toArray 3 := by
          have := HBX2.out
          rw [h0, List.replicate_zero, List.append_nil] at this
          rw [h0]
          exact this
        have bm : decide ((0 : Int) < (more : Int)) = false := decide_eq_false (by omega)
        have bn : ¬ 0 < more := by omega
        have L3 := L2
        have HB3 := HB2
        obtain ⟨N3, HN⟩ := HFIN.out w2 BX3 HB2.out L2.out
        clear h0
        have HN3 := Lib.hid (N3.below (Below_alloc1 (.cells #[rowV (l' + more) gr] 29)))
        have HNN := Lib.hid HN
        have hB3 : B ≤ (w2.alloc (.cells #[rowV (l' + more) gr] 29)).heap.size := by have := L3.out.size; have := hB.out; simp; omega
        clear N3 HN BX3 HBX2 HB2 L2 HFIN hO L3 HB3
        go_wp2_with (at_builtin; refine wpList_append_any rfl (.tmp 32) (.tmp 34) 63 rfl B 29 _ 1 24 Try.underlying63 info_row rfl (by decide) ao i co (bs.map (rowV (l' + more))) rfl HN3.out.out (some ⟨w2.heap.size, 0, none⟩) 1 1 [rowV (l' + more) gr] rfl (vrow_one' _ _) (fun u hu => by obtain rfl := List.mem_singleton.1 hu; rfl) (by unfold maxLen; omega) (by omega) hB3 ?_)
        intro a5 c5 w5 ho hg
        obtain ⟨N5, L5⟩ := HNN.out a5 c5 w5 ho hg
        clear ho hg HN3 HNN
        go_wp2_with fail
        go_roundw
        case rel => exact ⟨i + 1, a5, c5, bs ++ [gr], by omega, by go_num, rfl, N5, L5⟩
        case measure => simp [intOf]; omega
      · have hmr : more = r := hmore.resolve_left h0
        have hlx : (l' : Int) + (i : Int) < (l' : Int) + (more : Int) := by omega
        have s2 : IntKind.i64.wrap ((l' : Int) + (i : Int)) = (l' : Int) + (i : Int) := IntWalk.i64_in _ (by omega)
        have s3 : (0 : Int) ≤ (l' : Int) + (i : Int) := by omega
        have s4 : ((l' : Int) + (i : Int)).toNat = l' + i := by omega
        have e2 : w2.cell? ⟨gr, l' + i, none⟩ = some (.int .i64 0) := by
          rw [HBX2.out.cell (l' + i)]
          simp [List.getElem?_append_right, hxl, List.getElem?_replicate]; omega
        have f2 : w2.frozen? ⟨gr, l' + i, none⟩ = false := HBX2.out.free _
        have bm : decide ((0 : Int) < (more : Int)) = true := decide_eq_true (by omega)
        have bn : 0 < more := by omega
        have BX3 : Box (w2.setCell ⟨gr, l' + i, none⟩ (.int .i64 1)) gr ((besideRow x i more).map (Value.int .i64)).toArray 3 := by
          have := HBX2.out.set (l' + i) (.int .i64 1)
          unfold besideRow
          rw [if_pos (by omega), List.map_set, hxl, ← List.setIfInBounds_toArray]
          exact this
        have HB3 : Hid (Below gr wr (w2.setCell ⟨gr, l' + i, none⟩ (.int .i64 1))) := HB2.out.setCell (p := ⟨gr, l' + i, none⟩) (Nat.le_refl _) _
        have L3 : Hid (Below B w (w2.setCell ⟨gr, l' + i, none⟩ (.int .i64 1))) := L2.out.setCell (p := ⟨gr, l' + i, none⟩) hgB _
        obtain ⟨N3, HN⟩ := HFIN.out _ BX3 HB3.out L3.out
        obtain ⟨w3, hw3⟩ : ∃ W, W = w2.setCell ⟨gr, l' + i, none⟩ (.int .i64 1) := ⟨_, rfl⟩
        rw [← hw3] at N3 HN L3
        have HW3 := Lib.hid hw3
        clear h0 hmr hw3
        have HN3 := Lib.hid (N3.below (Below_alloc1 (.cells #[rowV (l' + more) gr] 29)))
        have HNN := Lib.hid HN
        have hB3 : B ≤ (w3.alloc (.cells #[rowV (l' + more) gr] 29)).heap.size := by have := L3.out.size; have := hB.out; simp; omega
        clear N3 HN BX3 HBX2 HB2 L2 HFIN hO L3 HB3
        go_upto_region 9 with fail
        rw [← HW3.out]
        go_wp2_with (at_builtin; refine wpList_append_any rfl (.tmp 32) (.tmp 34) 63 rfl B 29 _ 1 24 Try.underlying63 info_row rfl (by decide) ao i co (bs.map (rowV (l' + more))) rfl HN3.out.out (some ⟨w3.heap.size, 0, none⟩) 1 1 [rowV (l' + more) gr] rfl (vrow_one' _ _) (fun u hu => by obtain rfl := List.mem_singleton.1 hu; rfl) (by unfold maxLen; omega) (by omega) hB3 ?_)
        intro a5 c5 w5 ho hg
        obtain ⟨N5, L5⟩ := HNN.out a5 c5 w5 ho hg
        clear ho hg HN3 HNN
        go_wp2_with fail
        go_roundw
        case rel => exact ⟨i + 1, a5, c5, bs ++ [gr], by omega, by go_num, rfl, N5, L5⟩
        case measure => simp [intOf]; omega
    · obtain rfl : i = r := by omega
      have hfin : (besideM M more).take i = besideM M more := List.take_of_length_le (by simp [besideM, hMl])
      rw [hfin] at hO
      go_wp2_with fail
      go_ret
      exact ⟨_, _, bs, rfl, by rw [hB.out]; exact hO.out, by rw [hB.out]; exact hL.out⟩
end Go.Proofs.Ytkfjkdonbmjniaa
