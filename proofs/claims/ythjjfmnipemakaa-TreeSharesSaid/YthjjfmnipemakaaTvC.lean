/- The walk of TreeShares. -/
import Derived.Test.YthjjfmnipemakaaTuH
import Derived.Test.YthjjfmnipemakaaTvB
import Derived.Test.YthjjfmnipemakaaSameB
namespace Go.Proofs.Ythjjfmnipemakaa
open Go.RowKit
set_option linter.unusedVariables false
set_option maxRecDepth 100000

theorem verAt_more (ss mm : List St) (hm : Makes mm) (v : Nat) (hv : v < (fo0.fin ss).vers.length) : verAt (ss ++ mm) v = verAt ss v := by
  unfold verAt
  rw [Fo.fin_append]
  obtain ⟨l, hl, _⟩ := fin_makes mm (fo0.fin ss) hm
  rw [hl, List.getD_eq_getElem?_getD, List.getD_eq_getElem?_getD, List.getElem?_append_left hv]
theorem SOwn.srowLt {α : Type} {L : Lay α} {B : Nat} {e : TypeId} {G : Nat → Prop} {a : Option Addr} {len cap : Nat} {xs : List α} {w : World} (h : SOwn L w B e G a len cap xs) : SRow L w (fun b => b < w.heap.size) a len cap xs := by
  obtain ⟨hl, vss, F, ho, hp, hF⟩ := h
  exact ⟨hl, fun x hx _ => (World.ownsRow.lt ho x.block (by rw [hx]; rfl)).2, vss, ho.row, hp.keep (fun b hb => (hF b hb).2.1) (fun _ _ _ => rfl)⟩
theorem SOwn.apartLt {α : Type} {L : Lay α} {B : Nat} {e : TypeId} {G : Nat → Prop} {a : Option Addr} {len cap : Nat} {xs : List α} {w : World} (h : SOwn L w B e G a len cap xs) (hB : B ≤ w.heap.size) : ∀ b, b < B → b < B ∧ b < w.heap.size ∧ (Value.slice a len cap).ownBlock ≠ some b := by
  obtain ⟨hl, vss, F, ho, hp, hF⟩ := h
  intro b hb
  refine ⟨hb, by omega, fun e => ?_⟩
  have := (World.ownsRow.lt ho b e).1
  omega
def wrS (v off : Nat) (data : List Int) : St := ⟨1, v, off, 0, data⟩
theorem wr_at {w : World} {N v off : Nat} {a : Option Addr} {n c : Nat} {data : List Int} (h : SRow (Lay.int .u8) w (fun b => b < N) a n c data) : stL.at_ w (fun b => b < N) (wrS v off data) (stepV 1 v off 0 a n c).toList :=
  ⟨four (wrS v off data), [.slice a n c], rfl, rfl, a, n, c, rfl, h⟩
theorem plRow {w : World} {F : Nat → Prop} {a : Option Addr} {len cap : Nat} {xs : List Pl} (h : SRow plL w F a len cap xs) (i : Nat) (x : Pl) (hx : xs[i]? = some x) :
    ∃ b off ad nd cd, a = some ⟨b, off, none⟩ ∧ b < w.heap.size ∧ i < len ∧ w.cell? ⟨b, off + i * 5, none⟩ = some (.int .i64 x.level) ∧ w.cell? ⟨b, off + i * 5 + 1, none⟩ = some (.int .i64 x.base) ∧ w.cell? ⟨b, off + i * 5 + 2, none⟩ = some (.int .i64 x.id) ∧
      w.cell? ⟨b, off + i * 5 + 3, none⟩ = some (.int .i64 x.birth) ∧ w.cell? ⟨b, off + i * 5 + 4, none⟩ = some (.slice ad nd cd) ∧ SRow (Lay.int .u8) w F ad nd cd x.data := by
  have hi : i < len := by have := (List.getElem?_eq_some_iff.1 hx).1; have := h.1; omega
  obtain ⟨b, off, vs, ha, _, hb, hv, hc⟩ := h.get i hi
  obtain ⟨us, ws, rfl, h1, ad, nd, cd, rfl, hd⟩ := hv x hx
  have e1 : us = plFour x := h1
  subst e1
  exact ⟨b, off, ad, nd, cd, ha, hb, hi, hc 0 (by decide), hc 1 (by decide), hc 2 (by decide), hc 3 (by decide), hc 4 (by decide), hd⟩
theorem placesRoot {r : Rt} {w : World} {al : Option Addr} {ll cl : Nat} (ho : SRow ndL w (fun _ => True) al ll cl (nodesP (some r))) (hok : Rt.Ok (some r)) (hl3 : r.1 ≤ 3) :
    Calls Try.prog 16 #[.slice al ll cl, .int .i64 0, .int .i64 0] w fun e w' => ∃ a' c', e = .returned (.slice a' (T.pl r.1 0 r.2).length c') ∧ Hid (SOwn plL w' w.heap.size 44 (fun b => b < w.heap.size) a' (T.pl r.1 0 r.2).length c' (T.pl r.1 0 r.2)) ∧ Below w.heap.size w w' := by
  have h85 := allT_length (some r) hok (fun q hq => by obtain rfl := Option.some.inj hq; exact hl3)
  have hll : (allT (some r)).length = ll := by rw [← ho.1]; exact (nodesUpTo_length _ _ (Nat.le_refl _)).symm
  obtain ⟨n, t⟩ := r
  have hrm4 : 0 + room n ≤ 4096 := by rw [Nat.zero_add]; exact room_mono (a := n) (b := 3) hl3
  exact placesAt n hl3 (allT (some ⟨n, t⟩)) ⟨n, t⟩ w (fun _ => True) al ll cl 0 0 t w (tree_of _) ho (tree_of _).root hok (Below.refl _ _) hrm4 (by omega)
theorem SRow.ints {k : IntKind} {w : World} {F : Nat → Prop} {a : Option Addr} {len cap : Nat} {xs : List Int} (h : SRow (Lay.int k) w F a len cap xs) : Row k w a len cap xs := by
  obtain ⟨hl, _, vss, hv, hp⟩ := h
  have e : vss.flatten = xs.map (.int k) ∧ ∀ x ∈ xs, (Lit.int k x).wf = true := by
    obtain ⟨h1, h2⟩ := hp
    clear hv hl
    induction xs generalizing vss with
    | nil => cases vss <;> simp_all
    | cons x xs ih =>
      cases vss with
      | nil => simp at h1
      | cons v vss =>
        have h0 := h2 0 x v rfl rfl
        obtain ⟨e1, e2⟩ := ih vss (by simpa using h1) (fun i y u hy hu => h2 (i + 1) y u (by simpa using hy) (by simpa using hu))
        refine ⟨by rw [List.flatten_cons, e1, h0.1]; rfl, fun y hy => ?_⟩
        rcases List.mem_cons.1 hy with rfl | hy
        · exact h0.2
        · exact e2 y hy
  rw [e.1] at hv
  exact hv.toRow e.2
def eqPl (y x : Pl) : Bool := decide (y.level = x.level) && decide (y.base = x.base) && decide (y.id = x.id) && decide (y.birth = x.birth) && decide (y.data = x.data)
def fnd (l : List Pl) (x : Pl) (k : Nat) : Bool := (l.take k).any fun y => eqPl y x
theorem fnd_succ {l : List Pl} {x y : Pl} {k : Nat} (h : l[k]? = some y) : fnd l x (k + 1) = (fnd l x k || eqPl y x) := by
  unfold fnd
  rw [List.take_add_one, h, List.any_append]
  simp
theorem fnd_all {l : List Pl} {x : Pl} (h : x ∈ l) : fnd l x l.length = true := by
  unfold fnd
  rw [List.take_length, List.any_eq_true]
  exact ⟨x, h, by simp [eqPl]⟩
set_option maxHeartbeats 8000000 in
theorem treeShares (F : Nat → Prop) (a : Option Addr) (len cap : Nat) (es : List Ed) (off : Int) (ad : Option Addr) (ld cd : Nat) (data : List Int) (which : Int) (w : World) (ha : SRow edL w F a len cap es) (hd : Row .u8 w ad ld cd data) :
    Calls Try.prog 4 #[.slice a len cap, .int .i64 off, .slice ad ld cd, .int .i64 which] w fun e w' => e = .returned (.bool true) ∧ Below w.heap.size w w' := by
  have hS := Lib.hid (stepsW F a len cap es 20 w ha (by decide))
  have HD := Lib.hid hd
  obtain ⟨hok, hmk⟩ := stepsP_ok es 20
  have hsl : (stepsP es 20).length ≤ 20 := by rw [stepsP_length]; omega
  obtain ⟨ss, hss⟩ : ∃ ss, stepsP es 20 = ss := ⟨_, rfl⟩
  rw [hss] at hok hmk hsl
  have HS1 := hS.out
  rw [hss] at HS1
  have HS := Lib.hid HS1
  have HOK := Lib.hid hok
  have HMK := Lib.hid hmk
  clear ha hd hS HS1 hss hok hmk
  go_enter Try.func4, Try.ntmps4
  go_wp2_with fail
  refine HS.out.mono ?_
  rintro e w1 ⟨a1, l1, c1, G1, rfl, hT1⟩
  have hl1 : Hid (ss.length = l1) := hT1.out.now.1.1
  have hl1b : l1 ≤ 20 := by have := hl1.out; omega
  have HB1 : Hid (Below w.heap.size w w1) := hT1.out.nilBelowT
  have w1l : IntKind.i64.wrap ((l1 : Int) + 1) = (l1 : Int) + 1 := IntWalk.i64_in _ (by omega)
  go_wp2_with fail
  refine (picked which ((l1 : Int) + 1) w1 (by omega) (by omega)).mono ?_
  rintro e w' ⟨vI, hvI, hv0, hv1, rfl, rfl⟩
  obtain ⟨v, rfl⟩ := Int.eq_ofNat_of_zero_le hv0
  go_wp2_with fail
  refine (picked off 3000 w1 (by decide) (by decide)).mono ?_
  rintro e w' ⟨oI, hoI, ho0, ho1, rfl, rfl⟩
  obtain ⟨o, rfl⟩ := Int.eq_ofNat_of_zero_le ho0
  go_wp2_with fail
  refine (blockW ad ld cd data 400 w1 (HD.out.below HB1.out) (by decide) (by decide)).mono ?_
  rintro e w2 ⟨ag, lg, cg, rfl, hT2⟩
  obtain ⟨D, hDe⟩ : ∃ D, blockP data 400 = D := ⟨_, rfl⟩
  have hDl := blockP_len data 400 (by decide)
  rw [hDe] at hT2 hDl
  have hlg : Hid (D.length = lg) := hT2.out.now.1
  have hlg0 : 0 < lg := by have := hlg.out; omega
  have hlg1 : lg ≤ 400 := by have := hlg.out; omega
  have TA := hT1.out.put1 hT2.out
  have TB := Lib.hid (TA.putBox (stepV 1 (v : Int) (o : Int) 0 ag lg cg) 29)
  obtain ⟨g, hg⟩ : ∃ g, Hid (w2.heap.size = g) := ⟨_, rfl⟩
  obtain ⟨w3, hw3⟩ : ∃ w3, w3 = w2.alloc (.cells (stepV 1 (v : Int) (o : Int) 0 ag lg cg) 29) := ⟨_, rfl⟩
  rw [← hw3, hg.out] at TB
  have hvl : v < l1 + 1 := by omega
  have hol : o < 3000 := by omega
  obtain ⟨hok2, hmax, _⟩ := reads_law ss HOK.out HMK.out v o D (by have := hl1.out; omega) hDl.1 (by omega)
  have hcnt := fin_count ss HMK.out
  have HOK2 := Lib.hid hok2
  have HPOS : Hid (0 < (verAt (ss ++ [(⟨1, v, o, 0, D⟩ : St)]) (ss.length + 1)).size) := by show 0 < _; have := hDl.1; omega
  have HCNT2 : Hid (ss.length + 1 < (fo0.fin (ss ++ [(⟨1, v, o, 0, D⟩ : St)])).vers.length) := by
    show _ < _
    have := fin_count (ss ++ [(⟨1, v, o, 0, D⟩ : St)]) (fun s hs => by
      rcases List.mem_append.1 hs with hs | hs
      · exact HMK.out s hs
      · obtain rfl := List.mem_singleton.1 hs; exact .inl rfl)
    rw [this, List.length_append]; simp
  unfold stepV at hw3
  have hg1 : w2.heap.size = g := hg.out
  clear TA hvI hoI hv0 hv1 ho0 ho1 hok2 hmax hcnt hDe hDl HD hT1 hT2 HS
  go_upto_region 4 with fail
  rw [← hw3]
  clear hw3
  have T5 := Lib.hid TB.out
  have BX := Lib.hid (show Box w3 g #[.int .i64 1, .int .i64 (v : Int), .int .i64 (o : Int), .int .i64 0, .slice ag lg cg] 29 from T5.out.now.all 0 _ rfl)
  have OD := Lib.hid (show (thOwn (Lay.int .u8) w1.heap.size 5 ag lg cg D).holds w3 from T5.out.now.all 1 _ rfl)
  have OS := Lib.hid (show SRow stL w3 (fun b => b < w3.heap.size) a1 l1 c1 ss from thRow_srow (T5.out.now.all 2 _ rfl))
  have HBw3 : Hid (Below w.heap.size w w3) := T5.out.nilBelowT
  obtain ⟨N, hN⟩ : ∃ N, Hid (w3.heap.size = N) := ⟨_, rfl⟩
  have OS2 := OS.out
  rw [hN.out] at OS2
  obtain ⟨uss, hV0, hP0, hL0⟩ := OS2.whole
  have HL0 := Lib.hid hL0
  have HV0 : Hid (VRow w3.drew stL.size a1 l1 c1 uss.flatten) := hV0.below (below_drewN (Below.refl _ _) 1)
  have HP0 : Hid (Pt stL w3.drew (fun b => b < N) ss uss) := hP0.keep (fun _ h => h) (fun _ _ _ => rfl)
  have HDS : Hid (SRow (Lay.int .u8) w3 (fun b => b < N) ag lg cg D) := by rw [← hN.out]; exact SOwn.srowLt OD.out
  have hlit : Hid (Below w3.heap.size w3 (w3.alloc (.cells #[.int .i64 1, .int .i64 (v : Int), .int .i64 (o : Int), .int .i64 0, .slice ag lg cg] 29)).drew) := (Below_alloc1 _).drew
  have HV1 : Hid (VRow (w3.alloc (.cells #[.int .i64 1, .int .i64 (v : Int), .int .i64 (o : Int), .int .i64 0, .slice ag lg cg] 29)).drew stL.size a1 l1 c1 uss.flatten) := hV0.below hlit.out
  have HP1 : Hid (Pt stL (w3.alloc (.cells #[.int .i64 1, .int .i64 (v : Int), .int .i64 (o : Int), .int .i64 0, .slice ag lg cg] 29)).drew (fun b => b < N) ss uss) := hP0.keep (fun _ h => h) (fun b _ hlt => hlit.out.block b hlt)
  have S0 : Hid (SOwn stL w3.drew N 29 (fun b => b < N) none 0 0 []) := SOwn.nil ..
  have S1 : Hid (SOwn stL (w3.alloc (.cells #[.int .i64 1, .int .i64 (v : Int), .int .i64 (o : Int), .int .i64 0, .slice ag lg cg] 29)).drew N 29 (fun b => b < N) none 0 0 []) := SOwn.nil ..
  have HF0 : Hid (∀ b, b < N → b < N ∧ b < w3.drew.heap.size ∧ (Value.slice none 0 0).ownBlock ≠ some b) := SOwn.apartLt S0.out (by show N ≤ w3.heap.size; have := hN.out; omega)
  have hNA : N ≤ (w3.alloc (.cells #[.int .i64 1, .int .i64 (v : Int), .int .i64 (o : Int), .int .i64 0, .slice ag lg cg] 29)).drew.heap.size := by show N ≤ (w3.alloc _).heap.size; have := hN.out; simp; omega
  have HF1 : Hid (∀ b, b < N → b < N ∧ b < (w3.alloc (.cells #[.int .i64 1, .int .i64 (v : Int), .int .i64 (o : Int), .int .i64 0, .slice ag lg cg] 29)).drew.heap.size ∧ (Value.slice none 0 0).ownBlock ≠ some b) := SOwn.apartLt S1.out hNA
  have hN5 : N ≤ w3.drew.heap.size := by show N ≤ w3.heap.size; have := hN.out; omega
  have HVL : Hid (VRow (w3.alloc (.cells #[.int .i64 1, .int .i64 (v : Int), .int .i64 (o : Int), .int .i64 0, .slice ag lg cg] 29)).drew stL.size (some ⟨w3.heap.size, 0, none⟩) 1 1 ([(#[.int .i64 1, .int .i64 (v : Int), .int .i64 (o : Int), .int .i64 0, .slice ag lg cg] : Array Value).toList] : List (List Value)).flatten) := VRow.below (VRow.single (L := stL) (wr_at HDS.out) 29 #[.int .i64 1, .int .i64 (v : Int), .int .i64 (o : Int), .int .i64 0, .slice ag lg cg] rfl rfl) (below_drewN (Below.refl _ _) 1)
  have x0 : w3.cell? ⟨g, 0, none⟩ = some (.int .i64 1) := BX.out.cell 0
  have x1 : w3.cell? ⟨g, 1, none⟩ = some (.int .i64 (v : Int)) := BX.out.cell 1
  have x2 : w3.cell? ⟨g, 2, none⟩ = some (.int .i64 (o : Int)) := BX.out.cell 2
  have x3 : w3.cell? ⟨g, 3, none⟩ = some (.int .i64 0) := BX.out.cell 3
  have x4 : w3.cell? ⟨g, 4, none⟩ = some (.slice ag lg cg) := BX.out.cell 4
  have hgl : g < w3.heap.size := BX.out.lt
  clear hV0 hP0 hL0 OS2 hg1
  go_cut [12] from 42 to 46 (fun v12 wx => ∃ (a7 : Option Addr) (c7 : Nat), v12 = .slice a7 (l1 + 1) c7 ∧ Hid (SOwn stL wx N 29 (fun b => b < N) a7 (l1 + 1) c7 (ss ++ [wrS v o D])) ∧ Hid (Below w3.heap.size w3 wx))
  case first =>
    go_region_law (first
      | (refine step_append_data (L := stL) (w := w3.drew) rfl (.const (.slice none 0 0)) (.tmp 42) 24 rfl N 29 _ 56 Try.underlying24 info_step rfl (fun b => b < N) none 0 0 [] rfl S0.out a1 l1 c1 ss uss rfl HV0.out (fun b => b < N) HP0.out HL0.out HF0.out (by unfold maxLen; omega) (by omega) hN5 ?_; intro a6 c6 w6 hown6 hg6; rw [Nat.zero_add] at hown6; have HO6 := Lib.hid (show SOwn stL w6 N 29 (fun b => b < N) a6 l1 c6 ss from hown6); have HB6 : Hid (Below w3.heap.size w3 w6) := ((Below.refl _ _).drew).grown hg6 (Nat.le_refl _) (fun k hk => by cases hk); have hN6 : N ≤ w6.heap.size := (by have := HB6.out.size; have := hN.out; omega); have HF6 := Lib.hid (SOwn.apartLt HO6.out hN6); have HD6 : Hid (SRow (Lay.int .u8) w6 (fun b => b < N) ag lg cg D) := HDS.out.below HB6.out; have y0 : w6.cell? ⟨g, 0, none⟩ = some (.int .i64 1) := (HB6.out.cell hgl).trans x0; have y1 : w6.cell? ⟨g, 1, none⟩ = some (.int .i64 (v : Int)) := (HB6.out.cell hgl).trans x1; have y2 : w6.cell? ⟨g, 2, none⟩ = some (.int .i64 (o : Int)) := (HB6.out.cell hgl).trans x2; have y3 : w6.cell? ⟨g, 3, none⟩ = some (.int .i64 0) := (HB6.out.cell hgl).trans x3; have y4 : w6.cell? ⟨g, 4, none⟩ = some (.slice ag lg cg) := (HB6.out.cell hgl).trans x4; clear hown6 hg6)
      | (refine step_append_one (L := stL) (wr := w6) rfl (.tmp 43) (.tmp 45) 24 rfl N 29 _ 56 Try.underlying24 info_step rfl (fun b => b < N) a6 l1 c6 ss rfl HO6.out #[.int .i64 1, .int .i64 (v : Int), .int .i64 (o : Int), .int .i64 0, .slice ag lg cg] (wrS v o D) rfl (fun b => b < N) (wr_at HD6.out) HF6.out (by unfold maxLen; omega) (by omega) hN6 ?_; intro a7 c7 w7 hown7 hg7; have HO7 := Lib.hid hown7; have HB7 : Hid (Below w3.heap.size w3 w7) := Own.grown HO6.out.2.choose_spec.choose_spec.1 HB6.out (by have := hN.out; omega) HB6.out.size hg7; clear hown7 hg7)
      | (refine step_append_data (L := stL) (w := (w3.alloc (.cells #[.int .i64 1, .int .i64 (v : Int), .int .i64 (o : Int), .int .i64 0, .slice ag lg cg] 29)).drew) rfl (.const (.slice none 0 0)) (.tmp 42) 24 rfl N 29 _ 56 Try.underlying24 info_step rfl (fun b => b < N) none 0 0 [] rfl S1.out a1 l1 c1 ss uss rfl HV1.out (fun b => b < N) HP1.out HL0.out HF1.out (by unfold maxLen; omega) (by omega) hNA ?_; intro a6 c6 w6 hown6 hg6; rw [Nat.zero_add] at hown6; have HO6 := Lib.hid (show SOwn stL w6 N 29 (fun b => b < N) a6 l1 c6 ss from hown6); have HBx6 : Hid (Below (w3.alloc (.cells #[.int .i64 1, .int .i64 (v : Int), .int .i64 (o : Int), .int .i64 0, .slice ag lg cg] 29)).drew.heap.size (w3.alloc (.cells #[.int .i64 1, .int .i64 (v : Int), .int .i64 (o : Int), .int .i64 0, .slice ag lg cg] 29)).drew w6) := (Below.refl _ _).grown hg6 (Nat.le_refl _) (fun k hk => by cases hk); have HB6 : Hid (Below w3.heap.size w3 w6) := hlit.out.trans (HBx6.out.mono hlit.out.size); have hN6 : N ≤ w6.heap.size := (by have := HB6.out.size; have := hN.out; omega); have HF6 := Lib.hid (SOwn.apartLt HO6.out hN6); have HD6 : Hid (SRow (Lay.int .u8) w6 (fun b => b < N) ag lg cg D) := HDS.out.below HB6.out; have HVL6 := Lib.hid (HVL.out.below HBx6.out); have HPL6 : Hid (Pt stL w6 (fun b => b < N) [wrS v o D] [(#[.int .i64 1, .int .i64 (v : Int), .int .i64 (o : Int), .int .i64 0, .slice ag lg cg] : Array Value).toList]) := Pt.single (wr_at HD6.out); clear hown6 hg6)
      | (refine step_append_data (L := stL) (w := w6) rfl (.tmp 43) (.tmp 45) 24 rfl N 29 _ 56 Try.underlying24 info_step rfl (fun b => b < N) a6 l1 c6 ss rfl HO6.out (some ⟨w3.heap.size, 0, none⟩) 1 1 [wrS v o D] [(#[.int .i64 1, .int .i64 (v : Int), .int .i64 (o : Int), .int .i64 0, .slice ag lg cg] : Array Value).toList] rfl HVL6.out (fun b => b < N) HPL6.out rfl HF6.out (by unfold maxLen; omega) (by omega) hN6 ?_; intro a7 c7 w7 hown7 hg7; have HO7 := Lib.hid hown7; have HB7 : Hid (Below w3.heap.size w3 w7) := Own.grown HO6.out.2.choose_spec.choose_spec.1 HB6.out (by have := hN.out; omega) HB6.out.size hg7; clear hown7 hg7))
    all_goals
      go_wp2_with fail
      go_meet
      exact ⟨a7, c7, rfl, HO7, HB7⟩
  case rest =>
    obtain ⟨a7, c7, rfl, hO7, hB7⟩ := hcut
    obtain ⟨AL, hAL⟩ : ∃ AL, ss ++ [wrS v o D] = AL := ⟨_, rfl⟩
    have hall : (ss ++ [(⟨1, v, o, 0, D⟩ : St)]) = AL := hAL
    have hvv : v < (fo0.fin ss).vers.length := by rw [fin_count ss HMK.out]; have := hl1.out; omega
    have hmore : verAt AL v = verAt ss v := by rw [← hAL]; exact verAt_more ss [wrS v o D] (fun s hs => by obtain rfl := List.mem_singleton.1 hs; exact .inl rfl) v hvv
    have hshare := shares_law ss HOK.out HMK.out v o D (by have := hl1.out; omega) (by have := hlg.out; omega)
    have hok2 := HOK2.out
    have hpos := HPOS.out
    rw [hall, hl1.out] at hpos
    have hcnt2 := HCNT2.out
    rw [hall] at hok2 hcnt2 hshare
    rw [hAL] at hO7
    rw [hl1.out] at hshare hcnt2
    have hgood := verAt_good ss HOK.out v
    have hgood2 := verAt_good AL hok2 (l1 + 1)
    have hbir := verAt_bir ss HOK.out v
    have hbir2 := verAt_bir AL hok2 (l1 + 1)
    have HNO := Lib.hid (fun (a' : Option Addr) (c' : Nat) (w' : World) (h : SRow stL w' (fun _ => True) a' (l1 + 1) c' AL) => nodesW (fun _ => True) a' (l1 + 1) c' AL v w' h hok2 (by omega) (by omega))
    have HNO2 := Lib.hid (fun (a' : Option Addr) (c' : Nat) (w' : World) (h : SRow stL w' (fun _ => True) a' (l1 + 1) c' AL) => nodesW (fun _ => True) a' (l1 + 1) c' AL (l1 + 1) w' h hok2 (by omega) hcnt2)
    obtain ⟨vo, hvo⟩ : ∃ vo, verAt ss v = vo := ⟨_, rfl⟩
    obtain ⟨vn, hvn⟩ : ∃ vn, verAt AL (l1 + 1) = vn := ⟨_, rfl⟩
    rw [hmore, hvo] at HNO
    rw [hvn] at HNO2 hgood2 hbir2 hshare hpos
    rw [hvo] at hgood hbir hshare
    have HSH := Lib.hid hshare
    have HG := Lib.hid hgood
    have HG2 := Lib.hid hgood2
    obtain ⟨rn, hrn⟩ : ∃ rn, vn.root = some rn := by
      cases hr : vn.root with
      | none => have := hgood2.nil.1 hr; omega
      | some rn => exact ⟨rn, rfl⟩
    have HRN := Lib.hid hrn
    have HBI := Lib.hid hbir
    have HBI2 := Lib.hid hbir2
    have hlv3 : Hid (∀ r, vo.root = some r → r.1 ≤ 3) := fun r hr => by rw [HG.out.level r hr]; exact levelOf_le _
    have hlv32 : Hid (∀ r, vn.root = some r → r.1 ≤ 3) := fun r hr => by rw [HG2.out.level r hr]; exact levelOf_le _
    obtain ⟨uss7, hV7, hP7, hL7⟩ := hO7.out.wholeG
    have HV7 := Lib.hid hV7
    have HP7 := Lib.hid hP7
    have HL7 := Lib.hid hL7
    obtain ⟨M, hM⟩ : ∃ M, Hid (wc.heap.size = M) := ⟨_, rfl⟩
    have S7 : Hid (SOwn stL wc M 29 (fun _ => True) none 0 0 []) := SOwn.nil ..
    have hNc : N ≤ wc.heap.size := by have := hB7.out.size; have := hN.out; omega
    have hF7 : Hid (∀ b, b < N → True ∧ b < wc.heap.size ∧ (Value.slice none 0 0).ownBlock ≠ some b) := fun b hb => ⟨trivial, by omega, fun e => by cases (show (none : Option Nat) = some b from e)⟩
    have hMc : M ≤ wc.heap.size := by have := hM.out; omega
    clear hrn hpos hall hAL hvv hmore hshare hok2 hcnt2 hgood hgood2 hbir hbir2 hvo hvn hV7 hP7 hL7 x0 x1 x2 x3 x4
    go_wp2_with (at_builtin; refine wpList_append_data (L := stL) rfl (.const (.slice none 0 0)) (.tmp 48) 24 rfl M 29 _ 56 Try.underlying24 info_step rfl (fun _ => True) none 0 0 [] rfl S7.out a7 (l1 + 1) c7 AL uss7 rfl HV7.out (fun b => b < N) HP7.out HL7.out hF7.out (by unfold maxLen; omega) (by omega) hMc ?_; intro a8 c8 w8 hown8 hg8; rw [Nat.zero_add] at hown8; have HO8 := Lib.hid (show SOwn stL w8 M 29 (fun _ => True) a8 (l1 + 1) c8 AL from hown8); have HB8 : Hid (Below wc.heap.size wc w8) := (Below.refl _ _).grown hg8 (Nat.le_refl _) (fun k hk => by cases hk); clear hown8 hg8)
    refine (HNO.out a8 c8 w8 (SOwn.sRow HO8.out)).mono ?_
    rintro e w9 ⟨a9, l9, c9, rfl, hr9, hb9⟩
    have HB9 := Lib.hid (HB8.out.trans (hb9.mono HB8.out.size))
    have RO := Lib.hid hr9.out
    have HV9 := Lib.hid (HV7.out.below HB9.out)
    have HP9 : Hid (Pt stL w9 (fun b => b < N) AL uss7) := HP7.out.keep (fun _ h => h) (fun b _ hlt => HB9.out.block b hlt)
    obtain ⟨M9, hM9⟩ : ∃ M9, Hid (w9.heap.size = M9) := ⟨_, rfl⟩
    have S9 : Hid (SOwn stL w9 M9 29 (fun _ => True) none 0 0 []) := SOwn.nil ..
    have hN9 : N ≤ w9.heap.size := by have := HB9.out.size; omega
    have hF9 : Hid (∀ b, b < N → True ∧ b < w9.heap.size ∧ (Value.slice none 0 0).ownBlock ≠ some b) := fun b hb => ⟨trivial, by omega, fun e => by cases (show (none : Option Nat) = some b from e)⟩
    have hM9c : M9 ≤ w9.heap.size := by have := hM9.out; omega
    clear hb9 hr9
    go_wp2_with (at_builtin; refine wpList_append_data (L := stL) rfl (.const (.slice none 0 0)) (.tmp 55) 24 rfl M9 29 _ 56 Try.underlying24 info_step rfl (fun _ => True) none 0 0 [] rfl S9.out a7 (l1 + 1) c7 AL uss7 rfl HV9.out (fun b => b < N) HP9.out HL7.out hF9.out (by unfold maxLen; omega) (by omega) hM9c ?_; intro a10 c10 w10 hown10 hg10; rw [Nat.zero_add] at hown10; have HO10 := Lib.hid (show SOwn stL w10 M9 29 (fun _ => True) a10 (l1 + 1) c10 AL from hown10); have HB10 : Hid (Below w9.heap.size w9 w10) := (Below.refl _ _).grown hg10 (Nat.le_refl _) (fun k hk => by cases hk); clear hown10 hg10)
    have HN2 := Lib.hid (HNO2.out a10 c10 w10 (SOwn.sRow HO10.out))
    have HN2' := HN2
    push_cast at HN2'
    refine HN2'.out.mono ?_
    rintro e w11 ⟨a11, l11, c11, rfl, hr11, hb11⟩
    have HD11 := Lib.hid (HB10.out.trans (hb11.mono HB10.out.size))
    have HB11 := Lib.hid (HB9.out.trans (HD11.out.mono HB9.out.size))
    have RN := Lib.hid hr11.out
    have RO11 := Lib.hid (RO.out.below HD11.out)
    have HW := Lib.hid (wholeW (fun _ => True) a9 l9 c9 vo.root v w11 RO11.out HG.out.ok HBI.out hlv3.out)
    clear hb11 hr11
    go_wp2_with fail
    refine HW.out.mono ?_
    rintro e w12 ⟨a12, c12, rfl, _, hb12, _, _⟩
    have HW2 := Lib.hid (wholeW (fun _ => True) a11 l11 c11 vn.root (l1 + 1) w12 (RN.out.below hb12) HG2.out.ok HBI2.out hlv32.out)
    have HB12 := Lib.hid (HB11.out.trans (hb12.mono HB11.out.size))
    have RO12 := Lib.hid (RO11.out.below hb12)
    have RN12 := Lib.hid (RN.out.below hb12)
    clear hb12
    go_wp2_with fail
    refine HW2.out.mono ?_
    rintro e w13 ⟨a13, c13, rfl, _, hb13, _, _⟩
    have HB13 := Lib.hid (HB12.out.trans (hb13.mono HB12.out.size))
    have RO13 := Lib.hid (RO12.out.below hb13)
    have RN13 := Lib.hid (RN12.out.below hb13)
    have HB313 := Lib.hid (hB7.out.trans (HB13.out.mono hB7.out.size))
    have BX13 := Lib.hid (Box.below BX.out HB313.out hgl)
    have HFIN := Lib.hid (HBw3.out.trans (HB313.out.mono HBw3.out.size))
    have h11 : (nodesP vn.root).length = l11 := RN13.out.1
    have h11p : 0 < l11 := by
      have hr := HRN.out
      have h0 := nodesUpTo_get (allT (some rn)) (allT (some rn)).length 0 rn (tree_of rn).pos (Nat.le_refl _) (tree_of rn).root
      rw [← h11, hr]
      exact Nat.lt_of_not_le fun hle => by
        rw [List.getElem?_eq_none (by show (nodesP (some rn)).length ≤ 0; omega)] at h0
        cases h0
    have q11 : ((l11 : Int) == 0) = false := by simp; omega
    clear hb13 h11
    have HPLO : Hid (∀ r, vo.root = some r → 0 < l9 ∧ ∃ b9 o9 tn, a9 = some ⟨b9, o9, none⟩ ∧ b9 < w13.heap.size ∧ r.1 = tn ∧ w13.cell? ⟨b9, o9 + 2, none⟩ = some (.int .i64 (tn : Nat)) ∧ Hid (Calls Try.prog 16 #[.slice a9 l9 c9, .int .i64 0, .int .i64 0] w13 fun e w' => ∃ a' c', e = .returned (.slice a' (T.pl r.1 0 r.2).length c') ∧ Hid (SOwn plL w' w13.heap.size 44 (fun b => b < w13.heap.size) a' (T.pl r.1 0 r.2).length c' (T.pl r.1 0 r.2)) ∧ Below w13.heap.size w13 w')) := by
      intro r hr
      have ho := RO13.out
      rw [hr] at ho
      have hl := ho.1
      have h0 := nodesUpTo_get (allT (some r)) (allT (some r)).length 0 r (tree_of r).pos (Nat.le_refl _) (tree_of r).root
      have hok : Rt.Ok (some r) := by rw [← hr]; exact HG.out.ok
      have h85 := allT_length (some r) hok (fun q hq => by obtain rfl := Option.some.inj hq; exact hlv3.out _ hr)
      have hll : (allT (some r)).length = l9 := by rw [← hl]; exact (nodesUpTo_length _ _ (Nat.le_refl _)).symm
      obtain ⟨b9, o9, _, _, _, _, _, _, e9, hb9, hl9p, _, _, l2, _, _, _, _⟩ := ndRow ho 0 _ h0
      obtain ⟨n, t⟩ := r
      rw [ndAt_level, Nat.zero_mul, Nat.add_zero] at l2
      have hn3 : n ≤ 3 := hlv3.out _ hr
      have hrm4 : 0 + room n ≤ 4096 := by rw [Nat.zero_add]; exact room_mono (a := n) (b := 3) hn3
      refine ⟨hl9p, b9, o9, n, e9, hb9, rfl, l2, ?_⟩
      show Calls _ _ _ _ _
      exact placesAt n (hlv3.out _ hr) (allT (some ⟨n, t⟩)) ⟨n, t⟩ w13 (fun _ => True) a9 l9 c9 0 0 t w13 (tree_of _) ho (tree_of _).root hok (Below.refl _ _) hrm4 (by omega)
    have HNIL : Hid (vo.root = none → l9 = 0) := fun hr => by have h := RO13.out.1; rw [hr] at h; exact h.symm
    go_upto_if 93 with fail
    go_cut [21, 22] from 91 to 99 (fun v21 v22 wx => ∃ (ah : Option Addr) (lh ch : Nat), v21 = .slice ah lh ch ∧ v22 = .int .i64 (topOf vo.root : Nat) ∧ Hid (SRow plL wx (fun b => b < wx.heap.size) ah lh ch (plR vo.root)) ∧ Hid (Below w13.heap.size w13 wx))
    case first =>
      have hdis : vo.root = none ∨ ∃ r, vo.root = some r := by
        cases vo.root with
        | none => exact .inl rfl
        | some r => exact .inr ⟨r, rfl⟩
      rcases hdis with hr | ⟨r, hr⟩
      · obtain rfl := HNIL.out hr
        have HR := Lib.hid hr
        clear hr
        go_wp2_with fail
        go_meet
        exact ⟨none, 0, 0, rfl, by rw [HR.out]; rfl, by show SRow _ _ _ _ _ _ _; rw [HR.out]; exact SRow.nil .., Below.refl _ _⟩
      · obtain ⟨hl9p, b9, o9, tn, rfl, hb9, htn, l2, hP⟩ := HPLO.out r hr
        have l9p : (0 : Int) < (l9 : Int) := by omega
        have HTN := Lib.hid htn
        have HR := Lib.hid hr
        clear hr htn
        go_wp2_with fail
        refine hP.out.mono ?_
        rintro e w14 ⟨a14, c14, rfl, hO14, hb14⟩
        have l24 := (hb14.cell hb9).trans l2
        have hb94 : b9 < w14.heap.size := by have := hb14.size; omega
        have HB14 := Lib.hid hb14
        clear hb14 l2 hb9
        go_wp2_with fail
        go_meet
        exact ⟨a14, _, c14, rfl, by rw [HR.out, ← HTN.out]; rfl, by show SRow _ _ _ _ _ _ _; rw [HR.out]; exact SOwn.srowLt hO14.out, HB14⟩
    case rest =>
      obtain ⟨ah, lh, ch, rfl, rfl, hRH, hB14⟩ := hcut
      have HPN : Hid (Calls Try.prog 16 #[.slice a11 l11 c11, .int .i64 0, .int .i64 0] wc fun e w' => ∃ a' c', e = .returned (.slice a' (plR vn.root).length c') ∧ Hid (SOwn plL w' wc.heap.size 44 (fun b => b < wc.heap.size) a' (plR vn.root).length c' (plR vn.root)) ∧ Below wc.heap.size wc w') := by
        have ho := RN13.out.below hB14.out
        have hok := HG2.out.ok
        have h3 := hlv32.out rn HRN.out
        rw [HRN.out] at ho hok ⊢
        exact placesRoot ho hok h3
      have hlnb : (plR vn.root).length ≤ 85 := by
        have hok := HG2.out.ok
        rw [HRN.out] at hok ⊢
        exact Nat.le_trans (pl_len rn.1 0 rn.2 hok) (costT_le (hlv32.out rn HRN.out))
      have hin : ∀ x ∈ plR vn.root, x.level ≤ 3 ∧ x.base + room x.level ≤ 4096 := by
        have hok := HG2.out.ok
        have h3 := hlv32.out rn HRN.out
        rw [HRN.out] at hok ⊢
        intro x hx
        obtain ⟨_, h5, h6⟩ := pl_in rn.1 0 rn.2 hok x hx
        have h7 : room rn.1 ≤ 4096 := room_mono (a := rn.1) (b := 3) h3
        exact ⟨by omega, by omega⟩
      obtain ⟨PN, hPN⟩ : ∃ PN, plR vn.root = PN := ⟨_, rfl⟩
      obtain ⟨PO, hPO⟩ : ∃ PO, plR vo.root = PO := ⟨_, rfl⟩
      obtain ⟨top, htop⟩ : ∃ top, topOf vo.root = top := ⟨_, rfl⟩
      have hsh := HSH.out
      rw [hPN] at HPN hsh hlnb hin
      have HIN := Lib.hid hin
      rw [hPO] at hRH hsh
      rw [htop] at hsh ⊢
      have HSH2 := Lib.hid hsh
      obtain ⟨ln, hln⟩ : ∃ ln, PN.length = ln := ⟨_, rfl⟩
      rw [hln] at HPN hlnb
      have HLN := Lib.hid hln
      clear hsh hPN hPO htop hln hin
      go_wp2_with fail
      refine HPN.out.mono ?_
      rintro e w15 ⟨a15, c15, rfl, hO15, hb15⟩
      have HB15 := Lib.hid hb15
      have BX15 := Lib.hid (Box.below (Box.below BX13.out hB14.out BX13.out.lt) hb15 (Box.below BX13.out hB14.out BX13.out.lt).lt)
      have RH15 := Lib.hid (hRH.out.below hb15)
      clear hb15
      go_wp2_with fail
      go_loopw [24] (fun iv wr => ∃ i : Nat, i ≤ ln ∧ iv = .int .i64 i ∧ Hid (Below w15.heap.size w15 wr)) (fun iv _ => ln - (intOf iv).toNat)
      case atStart => exact ⟨0, by omega, rfl, Below.refl _ _⟩
      case round =>
        obtain ⟨i, hi, rfl, hB⟩ := hrel
        by_cases hlt : i < ln
        · have ii : (i : Int) < (ln : Int) := by omega
          have hRN := (SOwn.srowLt hO15.out).below hB.out
          obtain ⟨x, hx⟩ : ∃ x, PN[i]? = some x := ⟨_, List.getElem?_eq_getElem (by rw [HLN.out]; exact hlt)⟩
          obtain ⟨bn, on, adn, ndn, cdn, rfl, hbn, _, c0, c1', c2', c3', c4', hdn⟩ := plRow hRN i x hx
          have HX := Lib.hid (HSH2.out x (List.mem_of_getElem? hx))
          obtain ⟨hxl, hxr⟩ := HIN.out x (List.mem_of_getElem? hx)
          have s2 : wr.cell? ⟨g, 2, none⟩ = some (.int .i64 (o : Int)) := (hB.out.cell BX15.out.lt).trans (BX15.out.cell 2)
          have s4 : wr.cell? ⟨g, 4, none⟩ = some (.slice ag lg cg) := (hB.out.cell BX15.out.lt).trans (BX15.out.cell 4)
          obtain ⟨q, hq⟩ : ∃ q, Hid (wr.heap.size = q) := ⟨_, rfl⟩
          obtain ⟨V, hV⟩ : ∃ V, V = wr.alloc (.cells #[.int .i64 x.level, .int .i64 x.base, .int .i64 x.id, .int .i64 x.birth, .slice adn ndn cdn] 44) := ⟨_, rfl⟩
          have BP : Hid (Box V q #[.int .i64 x.level, .int .i64 x.base, .int .i64 x.id, .int .i64 x.birth, .slice adn ndn cdn] 44) := by
            show Box _ _ _ _
            rw [hV]
            exact Box.new hq.out.symm
          have HBV : Hid (Below w15.heap.size w15 V) := by
            show Below _ _ _
            rw [hV]
            exact hB.out.trans ((Below_alloc1 _).mono hB.out.size)
          have z2 : V.cell? ⟨g, 2, none⟩ = some (.int .i64 (o : Int)) := (HBV.out.cell BX15.out.lt).trans (BX15.out.cell 2)
          have z4 : V.cell? ⟨g, 4, none⟩ = some (.slice ag lg cg) := (HBV.out.cell BX15.out.lt).trans (BX15.out.cell 4)
          have y0 : V.cell? ⟨q, 0, none⟩ = some (.int .i64 x.level) := BP.out.cell 0
          have y1 : V.cell? ⟨q, 1, none⟩ = some (.int .i64 x.base) := BP.out.cell 1
          have y2 : V.cell? ⟨q, 2, none⟩ = some (.int .i64 x.id) := BP.out.cell 2
          have y3 : V.cell? ⟨q, 3, none⟩ = some (.int .i64 x.birth) := BP.out.cell 3
          have y4 : V.cell? ⟨q, 4, none⟩ = some (.slice adn ndn cdn) := BP.out.cell 4
          have hqV : q < V.heap.size := BP.out.lt
          have hgV : g < V.heap.size := by have := HBV.out.size; have := BX15.out.lt; omega
          have HDV : Hid (SRow (Lay.int .u8) V (fun b => b < w15.heap.size) adn ndn cdn x.data) := by
            refine Lib.hid (hdn.below ?_)
            rw [hV]
            exact Below_alloc1 _
          clear hx hRN
          go_upto_region 21 with fail
          rw [← hV, hq.out]
          clear s2 s4 c0 c1' c2' c3' c4' hV
          obtain ⟨rm, hrm⟩ : ∃ rm, Hid (room x.level = rm) := ⟨_, rfl⟩
          obtain ⟨lv, hlv⟩ : ∃ lv, x.level = lv := ⟨_, rfl⟩
          obtain ⟨ba, hba⟩ : ∃ ba, x.base = ba := ⟨_, rfl⟩
          obtain ⟨bi, hbi⟩ : ∃ bi, x.birth = bi := ⟨_, rfl⟩
          have HRW := Lib.hid (fun w => (keepRoomW x.level (by omega) w).mono fun e w' (h : e = .returned (.int .i64 (room x.level : Nat)) ∧ w = w') => (⟨h.1, h.2.symm⟩ : e = .returned (.int .i64 (room x.level : Nat)) ∧ w' = w))
          have hxr' := hxr
          rw [hrm.out] at HRW hxr'
          rw [hba] at y1 hxr'
          rw [hlv] at y0 HRW hxl
          rw [hbi] at y3
          have HLV := Lib.hid hlv
          have HBA := Lib.hid hba
          have HBI9 := Lib.hid hbi
          have wol : IntKind.i64.wrap ((o : Int) + (lg : Int)) = ((o + lg : Nat) : Int) := by rw [IntWalk.i64_in _ (by omega)]; omega
          have wbr : IntKind.i64.wrap ((ba : Int) + (rm : Int)) = ((ba + rm : Nat) : Int) := by rw [IntWalk.i64_in _ (by omega)]; omega
          have HTC : Hid (Touched o D.length x ↔ ba < o + lg ∧ o < ba + rm) := by
            show _ ↔ _
            unfold Touched
            rw [hrm.out, hba, hlg.out]
          obtain ⟨tb, htb⟩ : ∃ tb : Bool, Hid (tb = true ↔ Touched o D.length x) := ⟨decide (ba < o + lg ∧ o < ba + rm), by show _ ↔ _; rw [HTC.out]; simp⟩
          clear hxr hlv hba hbi hrm
          go_cut [26] from 112 to 131 (fun v26 wx => v26 = .bool tb ∧ Hid (Below V.heap.size V wx))
          case first =>
            by_cases t1 : ba < o + lg
            · have i1 : ((ba : Int) < ((o + lg : Nat) : Int)) := by omega
              have i1' : ((ba : Int) < (o : Int) + (lg : Int)) := by omega
              by_cases t2 : o < ba + rm
              · have i2 : ((o : Int) < ((ba + rm : Nat) : Int)) := by omega
                have i2' : ((o : Int) < (ba : Int) + (rm : Int)) := by omega
                obtain rfl : tb = true := htb.out.2 (HTC.out.2 ⟨t1, t2⟩)
                go_quiet ((go_at_call 17; refine Calls.quiet_of_same (HRW.out _)))
                go_wp2_with fail
                go_meet
                exact ⟨rfl, below_drewN (Below.refl _ _) _⟩
              · have i2 : decide ((o : Int) < ((ba + rm : Nat) : Int)) = false := by simp; omega
                have i2' : decide ((o : Int) < (ba : Int) + (rm : Int)) = false := by simp; omega
                have i2'' : decide (o < ba + rm) = false := by simp; omega
                obtain rfl : tb = false := by
                  cases tb with
                  | false => rfl
                  | true => exact absurd (HTC.out.1 (htb.out.1 rfl)).2 t2
                go_quiet ((go_at_call 17; refine Calls.quiet_of_same (HRW.out _)))
                go_wp2_with fail
                go_meet
                exact ⟨rfl, below_drewN (Below.refl _ _) _⟩
            · have i1 : decide ((ba : Int) < ((o + lg : Nat) : Int)) = false := by simp; omega
              have i1' : decide ((ba : Int) < (o : Int) + (lg : Int)) = false := by simp; omega
              have i1'' : decide (ba < o + lg) = false := by simp; omega
              obtain rfl : tb = false := by
                cases tb with
                | false => rfl
                | true => exact absurd (HTC.out.1 (htb.out.1 rfl)).1 t1
              go_quiet (fail)
              go_wp2_with fail
              go_meet
              exact ⟨rfl, below_drewN (Below.refl _ _) _⟩
          case rest =>
            obtain ⟨rfl, hB26⟩ := hcut
            have v0 := (hB26.out.cell hqV).trans y0
            have v1 := (hB26.out.cell hqV).trans y1
            have v2 := (hB26.out.cell hqV).trans y2
            have v3 := (hB26.out.cell hqV).trans y3
            have v4 := (hB26.out.cell hqV).trans y4
            have HBX := Lib.hid (HBV.out.trans (hB26.out.mono HBV.out.size))
            have hqc : q < wc.heap.size := by have := hB26.out.size; omega
            have HDX := Lib.hid (HDV.out.below hB26.out)
            clear y0 y1 y2 y3 y4 z2 z4 wol wbr
            rcases HX.out with ⟨hb9, htl⟩ | ⟨hb9, hnt, htl, hmem⟩
            · rw [HBI9.out] at hb9
              rw [HLV.out] at htl
              subst hb9
              have j0 : decide (((l1 + 1 : Nat) : Int) < ((l1 + 1 : Nat) : Int)) = false := by simp
              have j0' : decide ((l1 : Int) + 1 < (l1 : Int) + 1) = false := by simp
              have j0'' : decide (l1 + 1 < l1 + 1) = false := by simp
              by_cases htt : tb = true
              · subst htt
                clear htl
                go_wp2_with fail
                go_roundw
                case rel => exact ⟨i + 1, by omega, by go_num, HBX.out⟩
                case measure => (simp [intOf]; try omega)
              · obtain rfl : tb = false := by simpa using htt
                have htop : top < lv := by
                  rcases htl with h | h
                  · exact absurd (htb.out.2 h) (by simp)
                  · exact h
                have jt : (top : Int) < (lv : Int) := by omega
                clear htl htt
                go_wp2_with fail
                go_roundw
                case rel => exact ⟨i + 1, by omega, by go_num, HBX.out⟩
                case measure => (simp [intOf]; try omega)
            · rw [HBI9.out] at hb9
              rw [HLV.out] at htl
              obtain rfl : tb = false := by
                cases tb with
                | false => rfl
                | true => exact absurd (htb.out.1 rfl) hnt
              have HMEM := Lib.hid hmem
              have j0 : decide (((l1 + 1 : Nat) : Int) < (bi : Int)) = false := by simp; omega
              have j0' : decide ((l1 : Int) + 1 < (bi : Int)) = false := by simp; omega
              have j0'' : decide (l1 + 1 < bi) = false := by simp; omega
              have j1 : ((bi : Int) == ((l1 + 1 : Nat) : Int)) = false := by simp; omega
              have j1' : ((bi : Int) == (l1 : Int) + 1) = false := by simp; omega
              have jt : decide ((top : Int) < (lv : Int)) = false := by simp; omega
              have jt' : decide (top < lv) = false := by simp; omega
              clear hmem hnt hb9 htl
              go_wp2_with fail
              have hlh : Hid (PO.length = lh) := RH15.out.1
              have hlhm : lh ≤ 9223372036854775807 := by
                have h1 := RH15.out.hmax
                have h2 := RH15.out.hle
                unfold maxLen at h1
                omega
              go_loopw [27, 28] (fun fv kv wx => ∃ k : Nat, k ≤ lh ∧ fv = .bool (fnd PO x k) ∧ kv = .int .i64 k ∧ Hid (Below wc.heap.size wc wx)) (fun _ kv _ => lh - (intOf kv).toNat)
              case atStart => exact ⟨0, by omega, rfl, rfl, Below.refl _ _⟩
              case round =>
                obtain ⟨k, hk, rfl, rfl, hBX⟩ := hrel
                obtain ⟨fb, hfb⟩ : ∃ fb, Hid (fnd PO x k = fb) := ⟨_, rfl⟩
                rw [hfb.out]
                have HBR := Lib.hid (HBX.out.trans (hBX.out.mono HBX.out.size))
                by_cases hkl : k < lh
                · have kk : (k : Int) < (lh : Int) := by omega
                  obtain ⟨y, hy⟩ : ∃ y, PO[k]? = some y := ⟨_, List.getElem?_eq_getElem (by rw [hlh.out]; exact hkl)⟩
                  have hfs := fnd_succ (x := x) hy
                  rw [hfb.out] at hfs
                  have HRR := RH15.out.below HBR.out
                  obtain ⟨bh, oh, ady, ndy, cdy, rfl, hbh, _, d0, d1, d2, d3, d4, hdy⟩ := plRow HRR k y hy
                  have HDY := Lib.hid (SRow.ints hdy)
                  have HDW := Lib.hid (SRow.ints (HDX.out.below hBX.out))
                  have hsz := (show wc.heap.size ≤ wr.heap.size from hBX.out.size)
                  have r0 := (hBX.out.cell hqc).trans v0
                  have r1 := (hBX.out.cell hqc).trans v1
                  have r2 := (hBX.out.cell hqc).trans v2
                  have r3 := (hBX.out.cell hqc).trans v3
                  have r4 := (hBX.out.cell hqc).trans v4
                  obtain ⟨yl, hyl⟩ : ∃ yl, y.level = yl := ⟨_, rfl⟩
                  obtain ⟨yb, hyb⟩ : ∃ yb, y.base = yb := ⟨_, rfl⟩
                  obtain ⟨yi, hyi⟩ : ∃ yi, y.id = yi := ⟨_, rfl⟩
                  obtain ⟨yt, hyt⟩ : ∃ yt, y.birth = yt := ⟨_, rfl⟩
                  obtain ⟨xi, hxi⟩ : ∃ xi, x.id = xi := ⟨_, rfl⟩
                  rw [hyl] at d0
                  rw [hyb] at d1
                  rw [hyi] at d2
                  rw [hyt] at d3
                  rw [hxi] at r2
                  have hEQ : Hid (eqPl y x = (decide (yl = lv) && decide (yb = ba) && decide (yi = xi) && decide (yt = bi) && decide (y.data = x.data))) := by
                    show _ = _
                    unfold eqPl
                    rw [hyl, hyb, hyi, hyt, hxi, HLV.out, HBA.out, HBI9.out]
                  rw [hEQ.out] at hfs
                  have HFS := Lib.hid hfs
                  clear v0 v1 v2 v3 v4 hfs hyl hyb hyi hyt hxi hy HRR hdy
                  cases fb with
                  | true =>
                    have HN := Lib.hid (show fnd PO x (k + 1) = true by rw [HFS.out]; rfl)
                    clear HFS
                    go_wp2_with fail
                    go_quiet (fail)
                    go_wp2_with fail
                    go_roundw
                    case rel => exact ⟨k + 1, by omega, by rw [HN.out], by go_num, below_drewN hBX.out _⟩
                    case measure => (simp [intOf]; try omega)
                  | false =>
                    by_cases e1 : yl = lv
                    · subst e1
                      by_cases e2 : yb = ba
                      · subst e2
                        by_cases e3 : yi = xi
                        · subst e3
                          by_cases e4 : yt = bi
                          · subst e4
                            have HN := Lib.hid (show fnd PO x (k + 1) = decide (y.data = x.data) by rw [HFS.out]; simp)
                            clear HFS
                            go_wp2_with fail
                            go_quiet ((refine Calls.quiet_of (sameBytes _ _ _ _ _ _ _ _ _ (HDY.out.below (below_drewN (Below.refl _ _) _)) (HDW.out.below (below_drewN (Below.refl _ _) _)))))
                            go_wp2_with fail
                            go_roundw
                            case rel => exact ⟨k + 1, by omega, by rw [HN.out], by go_num, below_drewN hBX.out _⟩
                            case measure => (simp [intOf]; try omega)
                          · have ne : ((yt : Int) == (bi : Int)) = false := by simp; omega
                            have ne' : (yt == bi) = false := by simp; omega
                            have HN := Lib.hid (show fnd PO x (k + 1) = false by rw [HFS.out]; simp; try omega)
                            clear HFS
                            go_wp2_with fail
                            go_quiet (fail)
                            go_wp2_with fail
                            go_roundw
                            case rel => exact ⟨k + 1, by omega, by rw [HN.out], by go_num, below_drewN hBX.out _⟩
                            case measure => (simp [intOf]; try omega)
                        · have ne : ((yi : Int) == (xi : Int)) = false := by simp; omega
                          have ne' : (yi == xi) = false := by simp; omega
                          have HN := Lib.hid (show fnd PO x (k + 1) = false by rw [HFS.out]; simp; try omega)
                          clear HFS
                          go_wp2_with fail
                          go_quiet (fail)
                          go_wp2_with fail
                          go_roundw
                          case rel => exact ⟨k + 1, by omega, by rw [HN.out], by go_num, below_drewN hBX.out _⟩
                          case measure => (simp [intOf]; try omega)
                      · have ne : ((yb : Int) == (ba : Int)) = false := by simp; omega
                        have ne' : (yb == ba) = false := by simp; omega
                        have HN := Lib.hid (show fnd PO x (k + 1) = false by rw [HFS.out]; simp; try omega)
                        clear HFS
                        go_wp2_with fail
                        go_quiet (fail)
                        go_wp2_with fail
                        go_roundw
                        case rel => exact ⟨k + 1, by omega, by rw [HN.out], by go_num, below_drewN hBX.out _⟩
                        case measure => (simp [intOf]; try omega)
                    · have ne : ((yl : Int) == (lv : Int)) = false := by simp; omega
                      have ne' : (yl == lv) = false := by simp; omega
                      have HN := Lib.hid (show fnd PO x (k + 1) = false by rw [HFS.out]; simp; try omega)
                      clear HFS
                      go_wp2_with fail
                      go_quiet (fail)
                      go_wp2_with fail
                      go_roundw
                      case rel => exact ⟨k + 1, by omega, by rw [HN.out], by go_num, below_drewN hBX.out _⟩
                      case measure => (simp [intOf]; try omega)
                · obtain rfl : k = lh := by omega
                  obtain rfl : fb = true := by rw [← hfb.out, ← hlh.out]; exact fnd_all HMEM.out
                  go_wp2_with fail
                  go_roundw
                  case rel => exact ⟨i + 1, by omega, by go_num, HBR.out⟩
                  case measure => (simp [intOf]; try omega)
        · obtain rfl : i = ln := by omega
          have HF2 := Lib.hid (HFIN.out.trans ((hB14.out.trans ((HB15.out.trans (hB.out.mono HB15.out.size)).mono hB14.out.size)).mono HFIN.out.size))
          go_wp2_with fail
          go_ret
          exact ⟨rfl, HF2.out⟩
end Go.Proofs.Ythjjfmnipemakaa
