/- The walk of TreeWhole. -/
import Derived.Test.YthjjfmnipemakaaTuH
import Derived.Test.YthjjfmnipemakaaTsE
namespace Go.Proofs.Ythjjfmnipemakaa
open Go.RowKit
set_option linter.unusedVariables false
set_option maxRecDepth 100000

structure Whole (v : Ver) (r : Rt) : Prop where
  size : 0 < v.size
  big : v.size ≤ room r.1
  low : ∀ i, i < v.size → (wholeP (some r)).getD i 0 = (bytesV v).getD i 0
  high : ∀ i, v.size ≤ i → i < room r.1 → (wholeP (some r)).getD i 0 = 0
  level : r.1 = levelOf v.size
  least : 0 < r.1 → room (r.1 - 1) < v.size
theorem wholeP_get (r : Rt) (i : Nat) (h : i < room r.1) : (wholeP (some r)).getD i 0 = Rt.get (some r) i := by
  show ((List.range (room r.1)).map fun p => T.get r.1 (some r.2) p).getD i 0 = if i < room r.1 then T.get r.1 (some r.2) i else 0
  rw [if_pos h, List.getD_eq_getElem?_getD, List.getElem?_map, List.getElem?_range h]; rfl
theorem whole_law (v : Ver) (hg : v.Good) (r : Rt) (hr : v.root = some r) : Whole v r := by
  have hl := hg.level r hr
  have hs : 0 < v.size := Nat.pos_of_ne_zero fun e => by rw [hg.nil.2 e] at hr; cases hr
  have hrm : v.size ≤ room r.1 := by rw [hl]; exact levelOf_room hg.small
  refine ⟨hs, hrm, fun i hi => ?_, fun i hi hi2 => ?_, hl, fun h0 => ?_⟩
  · rw [wholeP_get r i (by omega), bytesV_get v i hi, hr]
  · rw [wholeP_get r i hi2, ← hr]; exact hg.zero i hi
  · rw [hl] at h0 ⊢; exact levelOf_least h0
theorem nodesP_length (root : Option Rt) : (nodesP root).length = (allT root).length := nodesUpTo_length _ _ (Nat.le_refl _)
theorem one_node : fo0.Okays [wrS 0 0 [1]] ∧ (nodesP (verAt [wrS 0 0 [1]] 1).root).length = 1 ∧ 1 < (fo0.fin [wrS 0 0 [1]]).vers.length := by
  refine ⟨⟨⟨.inl rfl, by decide, fun _ => ⟨by decide, by decide⟩, fun h => by cases h⟩, trivial⟩, ?_, ?_⟩
  · rw [nodesP_length]; decide +kernel
  · decide
theorem oneNode (w w8 : World) (HBE : Below w.heap.size w w8) :
    Calls Try.prog 14 #[.slice (some ⟨w8.heap.size + 1, 0, none⟩) 1 1, .int .i64 1] ((w8.alloc (.cells #[.int .u8 1] 5)).alloc (.cells #[.int .i64 1, .int .i64 0, .int .i64 0, .int .i64 0, .slice (some ⟨w8.heap.size, 0, none⟩) 1 1] 29)) fun e w' =>
      ∃ a9 c9, e = .returned (.tuple #[.slice a9 1 c9, .int .i64 0]) ∧ Below w.heap.size w w' := by
  have hD8 : SRow (Lay.int .u8) (w8.alloc (.cells #[.int .u8 1] 5)) (fun _ => True) (some ⟨w8.heap.size, 0, none⟩) 1 1 [1] :=
    (own_srowT (byteOwn (B := 0) (xs := [1]) (Box.new rfl) (Nat.zero_le _) rfl (by decide) (by intro x hx; obtain rfl := List.mem_singleton.1 hx; rfl))).keep (fun _ _ => trivial) (fun _ _ _ => rfl)
  have hat8 : stL.at_ (w8.alloc (.cells #[.int .u8 1] 5)) (fun _ => True) (wrS 0 0 [1]) (#[.int .i64 1, .int .i64 0, .int .i64 0, .int .i64 0, .slice (some ⟨w8.heap.size, 0, none⟩) 1 1] : Array Value).toList := ⟨four (wrS 0 0 [1]), [.slice (some ⟨w8.heap.size, 0, none⟩) 1 1], rfl, rfl, some ⟨w8.heap.size, 0, none⟩, 1, 1, rfl, hD8⟩
  have HLIT : Hid (SRow stL ((w8.alloc (.cells #[.int .u8 1] 5)).alloc (.cells #[.int .i64 1, .int .i64 0, .int .i64 0, .int .i64 0, .slice (some ⟨w8.heap.size, 0, none⟩) 1 1] 29)) (fun _ => True) (some ⟨w8.heap.size + 1, 0, none⟩) 1 1 [wrS 0 0 [1]]) := by
    have hv := VRow.single hat8 29 #[.int .i64 1, .int .i64 0, .int .i64 0, .int .i64 0, .slice (some ⟨w8.heap.size, 0, none⟩) 1 1] rfl rfl
    rw [show (w8.alloc (.cells #[.int .u8 1] 5)).heap.size = w8.heap.size + 1 by simp] at hv
    exact ⟨rfl, fun _ _ _ => trivial, [(#[.int .i64 1, .int .i64 0, .int .i64 0, .int .i64 0, .slice (some ⟨w8.heap.size, 0, none⟩) 1 1] : Array Value).toList], hv, Pt.single (stL.keep hat8 (fun _ h => h) (fun b _ hlt => Below.heap_alloc _ _ _ hlt))⟩
  have H1 := Lib.hid (nodesW (fun _ => True) (some ⟨w8.heap.size + 1, 0, none⟩) 1 1 [wrS 0 0 [1]] 1 _ HLIT.out one_node.1 (by decide) one_node.2.2)
  have HBL9 : Hid (Below w.heap.size w ((w8.alloc (.cells #[.int .u8 1] 5)).alloc (.cells #[.int .i64 1, .int .i64 0, .int .i64 0, .int .i64 0, .slice (some ⟨w8.heap.size, 0, none⟩) 1 1] 29))) := HBE.trans ((Below_alloc2 _ _).mono HBE.size)
  refine H1.out.mono ?_
  rintro e w9 ⟨a9, l9, c9, rfl, hr9, hb9⟩
  obtain rfl : l9 = 1 := by rw [← hr9.out.1]; exact one_node.2.1
  exact ⟨a9, c9, rfl, HBL9.out.trans (hb9.mono HBL9.out.size)⟩
set_option maxHeartbeats 8000000 in
theorem treeWhole (F : Nat → Prop) (a : Option Addr) (len cap : Nat) (es : List Ed) (which : Int) (w : World) (ha : SRow edL w F a len cap es) :
    Calls Try.prog 5 #[.slice a len cap, .int .i64 which] w fun e w' => e = .returned (.bool true) ∧ Below w.heap.size w w' := by
  have hS := Lib.hid (stepsW F a len cap es 30 w ha (by decide))
  obtain ⟨hok, hmk⟩ := stepsP_ok es 30
  have hsl : (stepsP es 30).length ≤ 30 := by rw [stepsP_length]; omega
  obtain ⟨ss, hss⟩ : ∃ ss, stepsP es 30 = ss := ⟨_, rfl⟩
  rw [hss] at hok hmk hsl
  have HS1 := hS.out
  rw [hss] at HS1
  have HS := Lib.hid HS1
  have HOK := Lib.hid hok
  have HMK := Lib.hid hmk
  clear ha hS HS1 hss hok hmk
  go_enter Try.func5, Try.ntmps5
  go_wp2_with fail
  refine HS.out.mono ?_
  rintro e w1 ⟨a1, l1, c1, G1, rfl, hT1⟩
  have hl1 : Hid (ss.length = l1) := hT1.out.now.1.1
  have hl1b : l1 ≤ 30 := by have := hl1.out; omega
  have HB1 : Hid (Below w.heap.size w w1) := hT1.out.nilBelowT
  have w1l : IntKind.i64.wrap ((l1 : Int) + 1) = (l1 : Int) + 1 := IntWalk.i64_in _ (by omega)
  go_wp2_with fail
  refine (picked which ((l1 : Int) + 1) w1 (by omega) (by omega)).mono ?_
  rintro e w' ⟨vI, hvI, hv0, hv1, rfl, rfl⟩
  obtain ⟨v, rfl⟩ := Int.eq_ofNat_of_zero_le hv0
  have hvl : v < l1 + 1 := by omega
  have hcnt := fin_count ss HMK.out
  have hvv : v < (fo0.fin ss).vers.length := by have := hl1.out; omega
  have HB := Lib.hid (bytesOfW a1 l1 c1 ss v w1 (thRow_srow hT1.out.now) HOK.out hvv (by omega))
  have HVV := Lib.hid hvv
  clear hcnt hvv hvI hv0 hv1
  go_wp2_with fail
  refine HB.out.mono ?_
  rintro e w5 ⟨a5, l5, c5, rfl, hr5, hb5⟩
  have OS := Lib.hid (show SRow stL w5 (fun b => b < w1.heap.size) a1 l1 c1 ss from (thRow_srow hT1.out.now).below hb5)
  have HB5 := Lib.hid (HB1.out.trans (hb5.mono HB1.out.size))
  obtain ⟨N, hN⟩ : ∃ N, Hid (w5.heap.size = N) := ⟨_, rfl⟩
  obtain ⟨uss, hV0, hP0, hL0⟩ := OS.out.whole
  have HV0 := Lib.hid hV0
  have HP0 := Lib.hid hP0
  have HL0 := Lib.hid hL0
  have S0 : Hid (SOwn stL w5 N 29 (fun b => b < N) none 0 0 []) := SOwn.nil ..
  have hF2 : Hid (∀ b, b < w1.heap.size → b < N ∧ b < w5.heap.size ∧ (Value.slice none 0 0).ownBlock ≠ some b) := fun b hb => ⟨by have := hN.out; have := hb5.size; omega, by have := hb5.size; omega, fun e => by cases (show (none : Option Nat) = some b from e)⟩
  have hNw : N ≤ w5.heap.size := by have := hN.out; omega
  obtain ⟨vr, hvr⟩ : ∃ vr, verAt ss v = vr := ⟨_, rfl⟩
  have hgood := verAt_good ss HOK.out v
  have hbir := verAt_bir ss HOK.out v
  have HNO := Lib.hid (fun (a' : Option Addr) (c' : Nat) (w' : World) (h : SRow stL w' (fun _ => True) a' l1 c' ss) => nodesW (fun _ => True) a' l1 c' ss v w' h HOK.out (by omega) HVV.out)
  rw [hvr] at hr5 hgood hbir HNO
  have HR5 := Lib.hid hr5.out.toRow
  have hbl : (bytesV vr).length = vr.size := bytesV_length vr
  have hl5 : vr.size = l5 := by have := HR5.out.hlen; omega
  have HBL := Lib.hid hl5
  have hl5b : l5 ≤ 4096 := by have := hgood.small; omega
  have HG := Lib.hid hgood
  have HBI := Lib.hid hbir
  have ROOT : Hid (vr.root = none ∧ l5 = 0 ∨ ∃ r, vr.root = some r ∧ 0 < l5) := by
    cases hr : vr.root with
    | none => exact .inl ⟨rfl, by rw [← hl5]; exact hgood.nil.1 hr⟩
    | some r => exact .inr ⟨r, rfl, by rw [← hl5]; exact (whole_law vr hgood r hr).size⟩
  clear hV0 hP0 hL0 hb5 hgood hbir hbl hl5 hr5 hvr OS hT1 HB HS
  go_wp2_with (at_builtin; refine wpList_append_data (L := stL) rfl (.const (.slice none 0 0)) (.tmp 30) 24 rfl N 29 _ 56 Try.underlying24 info_step rfl (fun b => b < N) none 0 0 [] rfl S0.out a1 l1 c1 ss uss rfl HV0.out (fun b => b < w1.heap.size) HP0.out HL0.out hF2.out (by unfold maxLen; omega) (by omega) hNw ?_; intro a6 c6 w6 hown6 hg6; rw [Nat.zero_add] at hown6; have HO6 := Lib.hid (show SOwn stL w6 N 29 (fun b => b < N) a6 l1 c6 ss from hown6); have HBx : Hid (Below w5.heap.size w5 w6) := (Below.refl _ _).grown hg6 (Nat.le_refl _) (fun k hk => by cases hk); clear hown6 hg6)
  refine (HNO.out a6 c6 w6 (SOwn.sRow HO6.out)).mono ?_
  rintro e w7 ⟨a7, l7, c7, rfl, hr7, hb7⟩
  have HB7 := Lib.hid (HBx.out.trans (hb7.mono HBx.out.size))
  have HR7 := Lib.hid hr7.out
  have hlv3 : Hid (∀ r, vr.root = some r → r.1 ≤ 3) := fun r hr => by rw [HG.out.level r hr]; exact levelOf_le _
  have HW := Lib.hid (wholeW (fun _ => True) a7 l7 c7 vr.root v w7 HR7.out HG.out.ok HBI.out hlv3.out)
  have hl7 : Hid ((nodesP vr.root).length = l7) := HR7.out.1
  clear hb7 hr7
  go_wp2_with fail
  refine HW.out.mono ?_
  rintro e w8 ⟨a8, c8, rfl, hc8, hb8⟩
  have HC8 := Lib.hid hc8
  have HB8 := Lib.hid (HB7.out.trans (hb8.mono HB7.out.size))
  have HR5' := Lib.hid (HR5.out.below HB8.out)
  have HR7' := Lib.hid (HR7.out.below hb8)
  have HBE := Lib.hid (HB5.out.trans (HB8.out.mono HB5.out.size))
  clear hb8 hc8 HW
  rcases ROOT.out with ⟨hr0, hl50⟩ | ⟨r, hr0, hl50⟩
  · have hl70 : l7 = 0 := by rw [← hl7.out, hr0]; rfl
    subst hl70 hl50
    have hwl : (wholeP vr.root).length = 0 := by rw [hr0]; rfl
    rw [hwl]
    clear hwl hr0
    go_wp2_with fail
    go_loop [13] (fun iv => iv = .int .i64 0) (fun _ => 0)
    case atStart => rfl
    case round =>
      obtain rfl := hrel
      go_wp2_with fail
      refine (oneNode w w8 HBE.out).mono ?_
      rintro e w9 ⟨a9, c9, rfl, hb9⟩
      go_wp2_with fail
      go_ret
      exact ⟨rfl, hb9⟩
  · have hWH := whole_law vr HG.out r hr0
    have hl3 := hlv3.out r hr0
    have HLV : Hid (r.1 = levelOf vr.size) := hWH.level
    obtain ⟨L, hL⟩ : ∃ L, r.1 = L := ⟨_, rfl⟩
    have hlow := hWH.low
    have hhigh := hWH.high
    have hbig := hWH.big
    have hleast := hWH.least
    rw [HBL.out] at hlow hhigh hbig hleast
    rw [hr0] at HC8 HR7'
    rw [hr0]
    have hn0 : (nodesP (some r))[0]? = some (ndAt (allT (some r)) 0 r) := nodesUpTo_get (allT (some r)) (allT (some r)).length 0 r (tree_of r).pos (Nat.le_refl _) (tree_of r).root
    obtain ⟨b7, o7, _, _, _, _, _, _, rfl, hb7, hl7p, _, _, l2, _, _, _, _⟩ := ndRow HR7'.out 0 _ hn0
    obtain ⟨n, t⟩ := r
    rw [ndAt_level, Nat.zero_mul, Nat.add_zero] at l2
    obtain rfl : n = L := hL
    have hwl : (wholeP (some ⟨n, t⟩)).length = room n := by simp [wholeP]
    rw [hwl] at HC8 ⊢
    obtain ⟨rm, hrm⟩ : ∃ rm, Hid (room n = rm) := ⟨_, rfl⟩
    simp only at hbig hhigh
    rw [hrm.out] at HC8 hbig hhigh ⊢
    have hrml : rm ≤ 4096 := by rw [← hrm.out]; exact room_mono (a := n) (b := 3) hl3
    obtain ⟨WP, hWP⟩ : ∃ WP, wholeP (some (⟨n, t⟩ : Rt)) = WP := ⟨_, rfl⟩
    rw [hWP] at HC8 hlow hhigh
    obtain ⟨BV, hBV⟩ : ∃ BV, bytesV vr = BV := ⟨_, rfl⟩
    rw [hBV] at hlow HR5'
    have HLOW := Lib.hid hlow
    have HHIGH := Lib.hid hhigh
    obtain ⟨g8, rfl, _, hg8⟩ := HC8.out 0 (by omega)
    obtain ⟨b5, o5, rfl, h5c⟩ : ∃ b off, a5 = some ⟨b, off, none⟩ ∧ ∀ i, i < l5 → w8.cell? ⟨b, off + i, none⟩ = some (.int .u8 (BV.getD i 0)) := by
      rcases HR5'.out.hat with h0 | ⟨b, off, e, hc⟩
      · omega
      · exact ⟨b, off, e, hc⟩
    have H5C := Lib.hid h5c
    have q5 : ((l5 : Int) == 0) = false := by simp; omega
    have q7 : ((l7 : Int) == 0) = false := by simp; omega
    have qr : decide ((rm : Int) < (l5 : Int)) = false := by simp; omega
    have qr' : decide (rm < l5) = false := by simp; omega
    have q70 : (0 : Int) < (l7 : Int) := by omega
    have HLE := Lib.hid hleast
    clear hlow hhigh h5c hn0 hwl hWP hBV hleast hWH hr0
    go_wp2_with fail
    go_loopw [13] (fun iv wr => ∃ (i nd : Nat), i ≤ rm ∧ iv = .int .i64 i ∧ wr = w8.drewN nd) (fun iv _ => rm - (intOf iv).toNat)
    case atStart => exact ⟨0, 0, by omega, rfl, rfl⟩
    case round =>
      obtain ⟨i, nd, hi, rfl, rfl⟩ := hrel
      by_cases hlt : i < rm
      · have ii : (i : Int) < (rm : Int) := by omega
        obtain ⟨g, hge, c8', _⟩ := HC8.out i hlt
        obtain rfl : g8 = g := by simpa using hge
        by_cases h5 : i < l5
        · have c5' := H5C.out i h5
          rw [HLOW.out i h5] at c8'
          obtain ⟨vv, hvv⟩ : ∃ vv, BV.getD i 0 = vv := ⟨_, rfl⟩
          rw [hvv] at c5' c8'
          have i5 : (i : Int) < (l5 : Int) := by omega
          have i5' : decide ((l5 : Int) ≤ (i : Int)) = false := by simp; omega
          have i5'' : decide (l5 ≤ i) = false := by simp; omega
          clear hvv hge
          go_wp2_with fail
          go_quiet (fail)
          go_wp2_with fail
          go_roundw
          case rel => exact ⟨i + 1, _, by omega, by go_num, rfl⟩
          case measure => (simp [intOf]; try omega)
        · rw [HHIGH.out i (by omega) hlt] at c8'
          have i5 : decide ((i : Int) < (l5 : Int)) = false := by simp; omega
          have i5b : decide (i < l5) = false := by simp; omega
          have i5' : decide ((l5 : Int) ≤ (i : Int)) = true := by simp; omega
          have i5'' : decide (l5 ≤ i) = true := by simp; omega
          clear hge
          go_wp2_with fail
          go_quiet (fail)
          go_wp2_with fail
          go_roundw
          case rel => exact ⟨i + 1, _, by omega, by go_num, rfl⟩
          case measure => (simp [intOf]; try omega)
      · obtain rfl : i = rm := by omega
        obtain ⟨W9, hW9⟩ : ∃ W9, W9 = w8.drewN nd := ⟨_, rfl⟩
        have l29 : W9.cell? ⟨b7, o7 + 2, none⟩ = some (.int .i64 (n : Nat)) := by rw [hW9]; exact l2
        have hb79 : b7 < W9.heap.size := by rw [hW9]; exact hb7
        have HB9 : Hid (Below w.heap.size w W9) := by show Below _ _ _; rw [hW9]; exact below_drewN HBE.out nd
        rw [← hW9]
        clear hW9 l2 hb7
        by_cases h0 : n = 0
        · subst h0
          have l29' : W9.cell? ⟨b7, o7 + 2, none⟩ = some (.int .i64 0) := l29
          clear l29
          go_wp2_with fail
          refine (oneNode w W9 HB9.out).mono ?_
          rintro e w9 ⟨a9, c9, rfl, hb9⟩
          go_wp2_with fail
          go_ret
          exact ⟨rfl, hb9⟩
        · have hn1 : (0 : Int) < (n : Int) := by omega
          have wn : IntKind.i64.wrap ((n : Int) - 1) = ((n - 1 : Nat) : Int) := by rw [IntWalk.i64_in _ (by omega)]; omega
          have hRW := Lib.hid (keepRoomW (n - 1) (by omega) W9)
          have hle9 := HLE.out (by omega)
          obtain ⟨r9, hr9⟩ : ∃ r9, Hid (room (n - 1) = r9) := ⟨_, rfl⟩
          rw [hr9.out] at hRW
          have hq9 : decide ((l5 : Int) ≤ (r9 : Int)) = false := by have := hr9.out; simp; omega
          have hq9' : decide (l5 ≤ r9) = false := by have := hr9.out; simp; omega
          have hnn : decide (0 < n) = true := by simp; omega
          obtain ⟨n1, hn1'⟩ : ∃ n1, n - 1 = n1 := ⟨_, rfl⟩
          rw [hn1'] at hRW wn
          clear hle9 hn1' h0
          go_wp2_with fail
          refine hRW.out.mono ?_
          rintro e w' ⟨rfl, rfl⟩
          go_wp2_with fail
          refine (oneNode w W9 HB9.out).mono ?_
          rintro e w9 ⟨a9, c9, rfl, hb9⟩
          go_wp2_with fail
          go_ret
          exact ⟨rfl, hb9⟩
end Go.Proofs.Ythjjfmnipemakaa
