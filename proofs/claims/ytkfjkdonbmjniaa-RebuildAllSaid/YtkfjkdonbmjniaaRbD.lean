/- The law RebuildMany. -/
import Derived.Test.YtkfjkdonbmjniaaRbC
import Derived.Test.YtkfjkdonbmjniaaPrO
import Derived.SizedLaws
import Derived.Deep.Slices
namespace Go.Proofs.Ytkfjkdonbmjniaa
open Go.RowKit Go.ChangeShapes Go.WideShapes Go.Deep
set_option linter.unusedVariables false
set_option maxRecDepth 100000

theorem sized_len2 {P : Program} {H : Type} {enc : TypeId × Value → H} {ts : List TypeId} {ds : List (DataW H)} {w : World} {base : Nat} {spare : Nat → Bool} {held : Bool} {j : Nat} {t e : TypeId} {d : DataW H} {p : List MemPlace} {a : Option Addr} {len cap : Nat}
    (h : (DataW.weightsEach P ts ds).all (· ≤ reachBytes) = true) (ht : ts[j]? = some t) (hd : ds[j]? = some d) (hu : P.underlying t = some (.slice e)) (hk : DataW.Trod enc P w base spare held t (.slice a len cap) d p) : len * P.bytesOf e ≤ reachBytes := by
  obtain ⟨fuel, hf⟩ := hk
  rcases open_slice hu hf with ⟨h1, _⟩ | ⟨a, len', cap', m, n, D, Pl, h1, _, _, _, _, hx, _⟩
  · simp [Value.cells] at h1
    obtain ⟨_, rfl, _⟩ := h1
    simp
  · simp [Value.cells] at h1
    obtain ⟨_, rfl, _⟩ := h1
    simp only [Prod.mk.injEq] at hx
    rw [hx.1] at hd
    have := sized_slice h ht hd hu
    simp only [List.length_map, List.length_range] at this
    exact Nat.le_trans (Nat.mul_le_mul_right _ (Nat.le_add_right _ _)) this
theorem int_bytes2 : Try.prog.bytesOf 3 = 8 := by kernel_rfl

theorem opens_ints2 : Opens Try.prog 29 (Lay.int .i64).slice := opens_slice Try.underlying29 (opens_int Try.underlying3) (by kernel_rfl)
theorem encAll_length (D : List (List Int)) (size p : Nat) : (encAll D size p).length = p := by simp [encAll]
theorem all_evn {D : List (List Int)} {size : Nat} (h : Cols D size) (p : Nat) : Evn (D ++ encAll D size p) size := by
  refine ⟨by rw [List.length_append]; have := h.1; omega, h.2.2.1, fun c hc => ?_⟩
  rcases List.mem_append.1 hc with hc | hc
  · exact h.2.2.2 c hc
  · simp only [encAll, List.mem_map] at hc
    obtain ⟨j, _, rfl⟩ := hc
    exact encN_length ..
theorem SOwn.low {α : Type} {L : Lay α} {w : World} {base : Nat} {e : TypeId} {G : Nat → Prop} {a : Option Addr} {len cap : Nat} {xs : List α} (h : SOwn L w base e G a len cap xs) : SRow L w (fun b => b < w.heap.size) a len cap xs := by
  obtain ⟨hl, vss, F, ho, hp, hF⟩ := h
  exact ⟨hl, fun x hx h0 => (World.ownsRow.lt ho x.block (by rw [hx]; rfl)).2, vss, ho.row, hp.keep (fun b hb => (hF b hb).2.1) (fun _ _ _ => rfl)⟩
theorem vrow_five {w w0 : World} (e : TypeId) (hw : w = w0.alloc (.cells #[.int .i64 0, .int .i64 1, .int .i64 2, .int .i64 3, .int .i64 4] e)) : VRow w 1 (some ⟨w0.heap.size, 0, none⟩) 5 5 (([0, 1, 2, 3, 4] : List Int).map fun x => [Value.int .i64 x]).flatten := by
  refine ⟨rfl, Nat.le_refl _, by unfold maxLen; omega, (fun h => by cases h), .inr ⟨w0.heap.size, 0, rfl, fun i hi => ?_⟩⟩
  subst hw
  rw [Nat.zero_add, cell_of_row _ _ i #[.int .i64 0, .int .i64 1, .int .i64 2, .int .i64 3, .int .i64 4] e (0, 0) (heap_alloc_new w0 _)]
  simp
theorem five_lt (l : List Int) (k : Nat) (h : k < 5) : (k : Int) ∈ l ++ [0, 1, 2, 3, 4] := by
  apply List.mem_append_right
  match k, h with
  | 0, _ => simp
  | 1, _ => simp
  | 2, _ => simp
  | 3, _ => simp
  | 4, _ => simp
set_option maxHeartbeats 16000000 in
theorem rebuildMany (a : Option Addr) (la ca : Nat) (xs : List Int) (n p : Int) (al : Option Addr) (ll cl : Nat) (zs : List Int) (w : World) (ha : Row .u8 w a la ca xs) (hz : Row .i64 w al ll cl zs) (hsz : ll * Try.prog.bytesOf 3 ≤ reachBytes) :
    Calls Try.prog 14 #[.slice a la ca, .int .i64 n, .int .i64 p, .slice al ll cl] w fun e w' => e = .returned (.bool true) ∧ Below w.heap.size w w' := by
  rw [int_bytes2] at hsz
  unfold reachBytes at hsz
  have HA := Lib.hid ha
  have HZ := Lib.hid hz
  have a1 := ha.hle
  have a2 := ha.hmax
  have z1 := hz.hle
  have z2 := hz.hmax
  unfold maxLen at a2 z2
  have hzl := Lib.hid hz.hlen
  clear ha hz
  go_enter Try.func14, Try.ntmps14
  go_upto_region 3 with (first | (go_at_call_of 15 n; refine (picked n _ _ (by omega) (by omega)).mono ?_; rintro e w' ⟨rn, hrn, hrn0, hrn1, rfl, rfl⟩) | (go_at_call_of 15 p; refine (picked p _ _ (by omega) (by omega)).mono ?_; rintro e w' ⟨rp, hrp, hrp0, hrp1, rfl, rfl⟩))
  obtain ⟨cnt, hcnt⟩ : ∃ c : Nat, 3 + rn = (c : Int) := ⟨(3 + rn).toNat, by omega⟩
  obtain ⟨pp, hpp⟩ : ∃ c : Nat, 1 + rp = (c : Int) := ⟨(1 + rp).toNat, by omega⟩
  rw [hcnt, hpp]
  have hc1 : 3 ≤ cnt := by omega
  have hc2 : cnt ≤ 12 := by omega
  have hp1 : 1 ≤ pp := by omega
  have hp2 : pp ≤ 3 := by omega
  clear hrn hrn0 hrn1 hrp hrp0 hrp1 hcnt hpp
  obtain ⟨B, hB⟩ : ∃ B, Hid (w.heap.size = B) := ⟨_, rfl⟩
  have CX := Lib.hid (colsN_cols xs cnt (by omega) hc2)
  obtain ⟨sz, hsz0⟩ : ∃ z, Hid (colSize xs.length cnt = z) := ⟨_, rfl⟩
  rw [hsz0.out] at CX
  obtain ⟨X, hX⟩ : ∃ X, Hid (colsN xs sz cnt = X) := ⟨_, rfl⟩
  rw [hX.out] at CX
  have hXl : X.length = cnt := by rw [← hX.out, colsN_length]
  have HXl := Lib.hid hXl
  clear hXl
  go_wp2_with fail
  refine (columnsOf a la ca xs cnt w HA.out (by omega) hc2).mono ?_
  rintro e w1 ⟨ax, cx, rfl, hx1, hle1⟩
  rw [hsz0.out, hX.out, hB.out] at hx1
  rw [hB.out] at hle1
  have hBw1 : B ≤ w1.heap.size := by have := hle1.out.size; have := hB.out; omega
  have sx1 := hx1.out.sRow.hle
  have sx2 := hx1.out.sRow.hmax
  unfold maxLen at sx2
  go_wp2_with fail
  refine (encodeP ax cnt cx X sz pp w1 hx1.out.sRow CX.out ⟨hp1, hp2⟩).mono ?_
  rintro e w2 ⟨as_, cs_, rfl, hs2, hle2⟩
  have SX := Lib.hid (hx1.out.below hle2.out)
  have L2 : Hid (Below B w w2) := hle1.out.trans (hle2.out.mono hBw1)
  have hBw2 : B ≤ w2.heap.size := by have := hle2.out.size; omega
  have ss1 := hs2.out.sRow.hle
  have ss2 := hs2.out.sRow.hmax
  unfold maxLen at ss2
  clear hx1 hle1 hle2
  obtain ⟨_, uX, FX, oX, pX, fX⟩ := SX.out
  obtain ⟨ne, ue, Fe, oe, pe, fe⟩ := hs2.out
  have VX := Lib.hid oX.row
  have PX := Lib.hid pX
  have GX : Hid (∀ b, FX b → True ∧ b < w2.heap.size ∧ (Value.slice none 0 0).ownBlock ≠ some b) := fun b hb => ⟨trivial, (fX b hb).2.1, fun e => by cases e⟩
  have VE := Lib.hid oe.row
  have PE := Lib.hid pe
  have GE : Hid (∀ b, Fe b → b < w2.heap.size) := fun b hb => (fe b hb).2.1
  have NE := Lib.hid ne
  clear oX pX fX oe pe fe ne SX hs2
  go_wp2_with (at_builtin; refine wpList_append_data (L := (Lay.int .u8).slice) rfl (.const (.slice none 0 0)) (.tmp 41) 46 rfl w2.heap.size 45 _ 24 Try.underlying46 info_bytes rfl (fun _ => True) none 0 0 [] rfl (SOwn.nil ..) ax cnt cx X uX rfl VX.out FX PX.out HXl.out GX.out (by unfold maxLen; omega) (by omega) (Nat.le_refl _) ?_)
  intro a3 c3 w3 hown3 hg3
  have G3 := Lib.hid ((SOwn.nil (Lay.int .u8).slice w2 w2.heap.size 45 (fun _ => True)).grown (Below.refl _ _) (Nat.le_refl _) (Nat.le_refl _) hg3)
  have O3 := Lib.hid hown3
  have V3 := Lib.hid (VE.out.keep (fun b o _ _ hb => G3.out.block b hb))
  have P3 := Lib.hid (PE.out.keep (fun _ h => h) (fun b _ hb => G3.out.block b hb))
  have H3 : Hid (∀ b, Fe b → True ∧ b < w3.heap.size ∧ (Value.slice a3 cnt c3).ownBlock ≠ some b) := fun b hb => ⟨trivial, by have := GE.out b hb; have := G3.out.size; omega, fun e => by have := (O3.out.lt b e).1; have := GE.out b hb; omega⟩
  have hw3 : w2.heap.size ≤ w3.heap.size := G3.out.size
  have L3 : Hid (Below B w w3) := L2.out.trans (G3.out.mono hBw2)
  clear hown3 hg3 VX PX GX VE PE GE G3
  go_wp2_with (at_builtin; refine wpList_append_data (L := (Lay.int .u8).slice) rfl (.tmp 42) (.tmp 43) 46 rfl w2.heap.size 45 _ 24 Try.underlying46 info_bytes rfl (fun _ => True) a3 cnt c3 X rfl O3.out as_ pp cs_ (encAll X sz pp) ue rfl V3.out Fe P3.out NE.out H3.out (by unfold maxLen; omega) (by omega) hw3 ?_)
  intro a4 c4 w4 hown4 hg4
  have L4 : Hid (Below B w w4) := O3.out.grown L3.out (by omega) (by omega) hg4
  have SA := Lib.hid hown4.low
  have EA := Lib.hid (all_evn CX.out pp)
  obtain ⟨AL, hAL⟩ : ∃ AL, Hid (X ++ encAll X sz pp = AL) := ⟨_, rfl⟩
  rw [hAL.out] at SA EA
  have hBw4 : B ≤ w4.heap.size := by have := L4.out.size; have := hw3; have := hg4.size; omega
  have s41 := SA.out.hle
  have s42 := SA.out.hmax
  unfold maxLen at s42
  have HZ4 := Lib.hid (HZ.out.below (by rw [hB.out]; exact L4.out))
  clear hown4 hg4 O3 V3 P3 H3 L3 L2
  go_wp2_with (at_builtin; refine wpList_append_data (L := Lay.int .i64) rfl (.const (.slice none 0 0)) (.tmp 45) 29 rfl w4.heap.size 3 (.int .i64 0) 8 Try.underlying29 info_int' rfl (fun _ => True) none 0 0 [] rfl (SOwn.nil ..) al ll cl zs (zs.map fun x => [Value.int .i64 x]) rfl (by rw [flatten_ints]; exact HZ4.out.toV) (fun _ => False) (Pt.ints HZ4.out.hwf) hzl.out (fun b h => h.elim) (by unfold maxLen; omega) (by omega) (Nat.le_refl _) ?_)
  intro a5 c5 w5 hown5 hg5
  have G5 := Lib.hid ((SOwn.nil (Lay.int .i64) w4 w4.heap.size 3 (fun _ => True)).grown (Below.refl _ _) (Nat.le_refl _) (Nat.le_refl _) hg5)
  have hw5 : w4.heap.size ≤ w5.heap.size := G5.out.size
  have O5 := Lib.hid hown5
  have L5 : Hid (Below B w w5) := L4.out.trans (G5.out.mono hBw4)
  have SA5 := Lib.hid (SA.out.below G5.out)
  clear hown5 hg5 SA G5 HZ4
  go_wp2_with (at_builtin; refine wpList_append_data (L := Lay.int .i64) rfl (.tmp 46) (.tmp 47) 29 rfl w4.heap.size 3 (.int .i64 0) 8 Try.underlying29 info_int' rfl (fun _ => True) a5 ll c5 zs rfl (O5.out.alloc _) (some ⟨w5.heap.size, 0, none⟩) 5 5 [0, 1, 2, 3, 4] (([0, 1, 2, 3, 4] : List Int).map fun x => [Value.int .i64 x]) rfl (vrow_five 3 rfl) (fun _ => False) (Pt.ints (by decide)) rfl (fun b h => h.elim) (by unfold maxLen; omega) (by omega) (by have := (Below_alloc1 (wr := w5) (.cells #[.int .i64 0, .int .i64 1, .int .i64 2, .int .i64 3, .int .i64 4] 3)).size; omega) ?_)
  intro a7 c7 w7 hown7 hg7
  have L6 : Below B w (w5.alloc (.cells #[.int .i64 0, .int .i64 1, .int .i64 2, .int .i64 3, .int .i64 4] 3)) := L5.out.trans ((Below_alloc1 _).mono (by omega))
  have SA6 := SA5.out.below (Below_alloc1 (.cells #[.int .i64 0, .int .i64 1, .int .i64 2, .int .i64 3, .int .i64 4] 3))
  obtain ⟨w6, hw6⟩ : ∃ W, w5.alloc (.cells #[.int .i64 0, .int .i64 1, .int .i64 2, .int .i64 3, .int .i64 4] 3) = W := ⟨_, rfl⟩
  have O6 := (O5.out.alloc (.cells #[.int .i64 0, .int .i64 1, .int .i64 2, .int .i64 3, .int .i64 4] 3))
  have hw65 : w5.heap.size ≤ w6.heap.size := by rw [← hw6]; exact (Below_alloc1 (wr := w5) _).size
  rw [hw6] at hg7 L6 SA6 O6
  have G7 := Lib.hid (O6.grown (Below.refl w4.heap.size w6) (Nat.le_refl _) (by omega) hg7)
  have L7 := Lib.hid (O6.grown L6 (by omega) (by omega) hg7)
  have R7 := Lib.hid hown7.ints
  have SA7 := Lib.hid (SA6.keep (fun _ h => h) (fun b hb _ => G7.out.block b hb))
  have hw76 : w6.heap.size ≤ w7.heap.size := hg7.size
  clear hown7 hg7 L6 SA6 O6 G7 L5 SA5 O5 hw6
  go_wp2_with fail
  refine (sev a7 (ll + 5) c7 _ _ _ w7 R7.out (by omega) (by omega) (by omega) (by omega)).mono ?_
  rintro e w8 ⟨a8, l8, c8, rfl, hown8, hb8⟩
  obtain ⟨mm, hmm⟩ : ∃ m : Nat, cnt + pp = m := ⟨_, rfl⟩
  have t1 : ((pp : Int) + 1).toNat = pp + 1 := by omega
  have t2 : ((cnt : Int) + (pp : Int)).toNat = cnt + pp := by omega
  rw [t1, t2] at hown8
  clear t1 t2
  have hPl := several_length (n := cnt + pp) (most := pp + 1) (by omega) (zs ++ [0, 1, 2, 3, 4]) (min 5 (cnt + pp)) (by omega) (by omega) (fun k hk => five_lt zs k (by omega))
  have hPt := several_lt (zs ++ [0, 1, 2, 3, 4]) (pp + 1) (cnt + pp)
  have hPn := several_nodup (zs ++ [0, 1, 2, 3, 4]) (pp + 1) (cnt + pp)
  obtain ⟨P, hP⟩ : ∃ P, several (zs ++ [0, 1, 2, 3, 4]) (pp + 1) (cnt + pp) = P := ⟨_, rfl⟩
  rw [hP] at hown8 hPl hPt hPn
  have hl8 : l8 = pp + 1 := by have := hown8.out.1; rw [← this]; simpa [nats] using hPl
  subst hl8
  have R8 := Lib.hid hown8.out.ints
  have L8 := Lib.hid (L7.out.trans (hb8.mono (by omega)))
  have SA8 := Lib.hid (SA7.out.below hb8)
  have HPT := Lib.hid hPt
  have HPN := Lib.hid hPn
  have hBw8 : B ≤ w8.heap.size := by have := L8.out.size; have := hB.out; omega
  clear hown8 hb8 hPt hPn hPl hP L7 SA7 R7 hmm
  have r1 := R8.out.hle
  have r2 := R8.out.hmax
  unfold maxLen at r2
  go_wp2_with fail
  refine (rebuild_lost a4 (cnt + pp) c4 AL sz pp a8 (pp + 1) c8 P w8 SA8.out EA.out R8.out HPT.out HPN.out hp1 hp2 (by omega) (by omega) (by omega) (by omega)).mono ?_
  rintro e w9 ⟨rfl, hb9⟩
  have L9 := Lib.hid (L8.out.trans (hb9.mono hBw8))
  clear hb9 L8 SA8 R8
  go_wp2_with fail
  go_ret
  exact ⟨rfl, by rw [hB.out]; exact L9.out⟩
end Go.Proofs.Ytkfjkdonbmjniaa
