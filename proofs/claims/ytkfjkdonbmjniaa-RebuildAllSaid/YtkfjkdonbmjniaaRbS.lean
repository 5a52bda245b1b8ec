/- The law RebuildAll. -/
import Derived.Test.YtkfjkdonbmjniaaRbR
import Derived.Test.YtkfjkdonbmjniaaRbD
namespace Go.Proofs.Ytkfjkdonbmjniaa
open Go.RowKit Go.ChangeShapes Go.WideShapes Go.Deep
set_option linter.unusedVariables false
set_option maxRecDepth 100000

theorem byte_bytes2 : Try.prog.bytesOf 5 = 1 := by kernel_rfl
theorem several_few {n most : Nat} (hn : 0 < n) (l : List Int) : (several l most n).length ≤ most := by
  have h0 : SevOk n most (List.replicate n false, 0) := ⟨List.length_replicate, (replicate_cnt n n).symm, Nat.zero_le _⟩
  obtain ⟨b1, _, _⟩ := sevFold_ok hn l _ h0
  show (sevTo (sevRun n most l).1 n).length ≤ most
  unfold sevRun
  rw [sevTo_count, ← b1.2.1]
  exact b1.2.2
/-- Slices of bytes that lie elsewhere, in one block of the call's own. -/
structure Sl (w : World) (B g n c : Nat) (vs : List Value) (L : List (List Int)) : Prop where
  out : Own w B 45 1 (some ⟨g, 0, none⟩) n c vs
  len : L.length = n
  row : ∀ i, i < n → ∃ a len cap, vs[i]? = some (.slice a len cap) ∧ SRow (Lay.int .u8) w (fun b => b ≠ g) a len cap (L.getD i [])
theorem Sl.vl {w : World} {B g n c : Nat} {vs : List Value} {L : List (List Int)} (h : Sl w B g n c vs L) : vs.length = n := by have := h.out.row.hlen; omega
theorem Sl.of {w : World} {B : Nat} {G : Nat → Prop} {a : Option Addr} {n c : Nat} {L : List (List Int)} (h : SOwn (Lay.int .u8).slice w B 45 G a n c L) (hn : 0 < n) : ∃ g vs, a = some ⟨g, 0, none⟩ ∧ Sl w B g n c vs L := by
  obtain ⟨hl, vss, F, ho, hp, hF⟩ := h
  rcases ho.form with ⟨_, h0, _⟩ | ⟨g, cur, rfl, _⟩
  · omega
  · refine ⟨g, vss.flatten, rfl, ho, hl, fun i hi => ?_⟩
    have hx : i < L.length := by omega
    have hv : i < vss.length := by rw [← hp.1]; exact hx
    obtain ⟨a', l', c', e, hr⟩ := hp.2 i _ _ (List.getElem?_eq_getElem hx) (List.getElem?_eq_getElem hv)
    refine ⟨a', l', c', ?_, ?_⟩
    · have := flatten_at 1 vss hp.sizes i 0 (by decide)
      rw [Nat.mul_one, Nat.add_zero, List.getElem?_eq_getElem hv] at this
      rw [this, e]; rfl
    · rw [show L.getD i [] = L[i] by simp [List.getD, hx]]
      exact hr.keep (fun b hb e2 => (hF b hb).2.2 (by rw [e2]; rfl)) (fun _ _ _ => rfl)
theorem Sl.below {w w' : World} {B g n c : Nat} {vs : List Value} {L : List (List Int)} (h : Sl w B g n c vs L) (hb : Below w.heap.size w w') : Sl w' B g n c vs L :=
  ⟨h.out.below hb, h.len, fun i hi => by obtain ⟨a, l, c', h1, h2⟩ := h.row i hi; exact ⟨a, l, c', h1, h2.below hb⟩⟩
theorem Sl.put {w : World} {B g n c : Nat} {vs : List Value} {L : List (List Int)} (h : Sl w B g n c vs L) (i : Nat) (hi : i < n) {a : Option Addr} {len cap : Nat} {x : List Int} (hx : SRow (Lay.int .u8) w (fun b => b ≠ g) a len cap x) :
    Sl (w.setCell ⟨g, i, none⟩ (.slice a len cap)) B g n c (vs.set i (.slice a len cap)) (L.set i x) := by
  have hvl := h.vl
  have hst := World.ownsRow.stored h.out i (.slice a len cap)
  have other : ∀ {a' : Option Addr} {l' c' : Nat} {us : List Int}, SRow (Lay.int .u8) w (fun b => b ≠ g) a' l' c' us → SRow (Lay.int .u8) (w.setCell ⟨g, i, none⟩ (.slice a len cap)) (fun b => b ≠ g) a' l' c' us :=
    fun hx => hx.keep (fun _ hb => hb) (fun b hb _ => Below.heap_setCell w ⟨g, i, none⟩ _ b hb)
  refine ⟨hst.1, by simp [h.len], fun j hj => ?_⟩
  rw [getDL_set _ _ _ _ (by rw [h.len]; exact hi)]
  by_cases e : i = j
  · subst e
    rw [if_pos rfl]
    exact ⟨a, len, cap, by rw [List.getElem?_set_self (by omega)], other hx⟩
  · rw [if_neg e]
    obtain ⟨a', l', c', h1, h2⟩ := h.row j hj
    exact ⟨a', l', c', by rw [List.getElem?_set_ne e]; exact h1, other h2⟩
theorem Sl.cellAt {w : World} {B g n c : Nat} {vs : List Value} {L : List (List Int)} (h : Sl w B g n c vs L) (i : Nat) (hi : i < n) : (∃ u, w.cell? ⟨g, i, none⟩ = some u) ∧ w.frozen? ⟨g, i, none⟩ = false ∧ g < w.heap.size := by
  obtain ⟨a, l, c', h1, h2⟩ := h.row i hi
  exact ⟨⟨_, by rw [World.ownsRow.cellAt h.out i (by omega), h1]⟩, World.ownsRow.frozenAt h.out _, (World.ownsRow.lt h.out g rfl).2⟩
theorem Sl.srow {w : World} {B g n c : Nat} {vs : List Value} {L : List (List Int)} (h : Sl w B g n c vs L) : SRow (Lay.int .u8).slice w (fun _ => True) (some ⟨g, 0, none⟩) n c L := by
  have hvl := h.vl
  have hf : (vs.map fun v => [v]).flatten = vs := by
    clear hvl h
    induction vs with
    | nil => rfl
    | cons v us ih => simp only [List.map_cons, List.flatten_cons, ih]; rfl
  refine ⟨h.len, fun _ _ _ => trivial, vs.map fun v => [v], by rw [hf]; exact h.out.row, by simp [hvl, h.len], fun i x v hx hv => ?_⟩
  have hi : i < n := by rw [← h.len]; exact (List.getElem?_eq_some_iff.1 hx).1
  obtain ⟨a, l, c', h1, h2⟩ := h.row i hi
  rw [List.getElem?_map, h1] at hv
  obtain rfl : [Value.slice a l c'] = v := by injection hv
  have hxg : L.getD i [] = x := by simp [List.getD, hx]
  rw [hxg] at h2
  exact ⟨a, l, c', rfl, h2.keep (fun _ _ => trivial) (fun _ _ _ => rfl)⟩
/-- Some columns torn. -/
def tornN (AL : List (List Int)) (js : List Int) (p : List Nat) : List (List Int) := p.foldl (fun L x => L.set x js) AL
theorem tornN_snoc (AL : List (List Int)) (js : List Int) (p : List Nat) (x : Nat) : tornN AL js (p ++ [x]) = (tornN AL js p).set x js := by
  unfold tornN; rw [List.foldl_append]; rfl
theorem tornN_length (AL : List (List Int)) (js : List Int) (p : List Nat) : (tornN AL js p).length = AL.length := by
  induction p generalizing AL with
  | nil => rfl
  | cons x p ih => show (tornN (AL.set x js) js p).length = _; rw [ih]; simp
theorem tornN_get (AL : List (List Int)) (js : List Int) (i : Nat) : ∀ p : List Nat, i ∉ p → (tornN AL js p).getD i [] = AL.getD i [] := by
  intro p
  induction p generalizing AL with
  | nil => intro _; rfl
  | cons x p ih =>
    intro hp
    show (tornN (AL.set x js) js p).getD i [] = _
    rw [ih _ (fun h => hp (List.mem_cons_of_mem _ h)), List.getD, List.getD, List.getElem?_set_ne (fun e => hp (by rw [e]; exact List.mem_cons_self ..))]
/-- All is there again. -/
theorem back_all {X : List (List Int)} {size pp K : Nat} {js : List Int} {P : List Nat} (hC : Cols X size) (hB : Byts X) (hpt : ∀ x ∈ P, x < X.length + pp) (q1 : (holesN (goneOf P (X.length + pp)) X.length X.length).length = K) (q2 : K ≤ 3) (q3 : (usedN (goneOf P (X.length + pp)) X.length K pp).length = K)
    (q4 : 1 ≤ K → (redN (facM (holesN (goneOf P (X.length + pp)) X.length X.length) (usedN (goneOf P (X.length + pp)) X.length K pp)) K).2 = K) :
    backOf (tornN (X ++ encAll X size pp) js P) (goneOf P (X.length + pp)) X.length pp size K = X ++ encAll X size pp := by
  unfold backOf
  have hg : ∀ i, (goneOf P (X.length + pp)).getD i false = false → i ∉ P := fun i h => by
    rw [goneOf_get hpt] at h; simpa using h
  refine rebuilt_all (D := X) ⟨hC, hB, rfl, by simp [startL], fun i hi hgi => ?_, fun i hi hgi => ?_, fun j hj hgj => ?_⟩ q1 q3 (by omega) (fun b hb => ?_) q4
  · rw [startL_get _ _ _ _ _ _ _ (by omega), if_pos (by omega)]
    unfold l0
    rw [if_pos hgi, if_pos hi]
  · rw [startL_get _ _ _ _ _ _ _ (by omega), if_pos (by omega)]
    unfold l0
    rw [if_neg (by rw [hgi]; decide), tornN_get _ _ _ _ (hg i hgi), List.getD, List.getD, List.getElem?_append_left hi]
  · rw [startL_get _ _ _ _ _ _ _ (by omega), if_pos (by omega)]
    unfold l0
    rw [if_neg (by rw [hgj]; decide), tornN_get _ _ _ _ (hg _ hgj)]
    have e : (X ++ encAll X size pp).getD (X.length + j) [] = (encAll X size pp).getD j [] := by rw [List.getD, List.getD, List.getElem?_append_right (by omega), Nat.add_sub_cancel_left]
    rw [e, encAll_get _ _ _ _ hj]
  · have hm : (usedN (goneOf P (X.length + pp)) X.length K pp).getD b 0 ∈ usedN (goneOf P (X.length + pp)) X.length K pp := getD_mem _ _ (by omega)
    exact usedN_mem _ _ _ _ _ hm
set_option maxHeartbeats 16000000 in
theorem rebuildAll (a : Option Addr) (la ca : Nat) (xs : List Int) (n p : Int) (al : Option Addr) (ll cl : Nat) (zs : List Int) (w : World) (ha : Row .u8 w a la ca xs) (hz : Row .i64 w al ll cl zs) (aj : Option Addr) (lj cj : Nat) (js : List Int) (hj : Row .u8 w aj lj cj js) (hsz : lj * Try.prog.bytesOf 5 ≤ reachBytes) :
    Calls Try.prog 13 #[.slice a la ca, .int .i64 n, .int .i64 p, .slice al ll cl, .slice aj lj cj] w fun e w' => e = .returned (.bool true) ∧ Below w.heap.size w w' := by
  rw [byte_bytes2] at hsz
  unfold reachBytes at hsz
  have HA := Lib.hid ha
  have HZ := Lib.hid hz
  have a1 := ha.hle
  have a2 := ha.hmax
  have z1 := hz.hle
  have z2 := hz.hmax
  unfold maxLen at a2 z2
  have HJ := Lib.hid hj
  have j1 := hj.hle
  have j2 := hj.hmax
  unfold maxLen at j2
  have HBX := Lib.hid (byt_of2 ha)
  clear ha hz hj
  go_enter Try.func13, Try.ntmps13
  go_upto_region 3 with (first | (go_at_call_of 15 n; refine (picked n _ _ (by omega) (by omega)).mono ?_; rintro e w' ⟨rn, hrn, hrn0, hrn1, rfl, rfl⟩) | (go_at_call_of 15 p; refine (picked p _ _ (by omega) (by omega)).mono ?_; rintro e w' ⟨rp, hrp, hrp0, hrp1, rfl, rfl⟩))
  obtain ⟨cnt, hcnt⟩ : ∃ c : Nat, 1 + rn = (c : Int) := ⟨(1 + rn).toNat, by omega⟩
  obtain ⟨pp, hpp⟩ : ∃ c : Nat, 1 + rp = (c : Int) := ⟨(1 + rp).toNat, by omega⟩
  rw [hcnt, hpp]
  have hc1 : 1 ≤ cnt := by omega
  have hc2 : cnt ≤ 12 := by omega
  have hp1 : 1 ≤ pp := by omega
  have hp2 : pp ≤ 3 := by omega
  clear hrn hrn0 hrn1 hrp hrp0 hrp1 hcnt hpp
  obtain ⟨B, hB⟩ : ∃ B, Hid (w.heap.size = B) := ⟨_, rfl⟩
  have CX := Lib.hid (colsN_cols xs cnt (by omega) hc2)
  obtain ⟨sz, hsz0⟩ : ∃ z, Hid (colSize xs.length cnt = z) := ⟨_, rfl⟩
  rw [hsz0.out] at CX
  obtain ⟨X, hX⟩ : ∃ X, Hid (colsN xs sz cnt = X) := ⟨_, rfl⟩
  rw [hX.out] at CX
  have hXl : X.length = cnt := by rw [← hX.out, colsN_length]
  have HXl := Lib.hid hXl
  clear hXl
  go_wp2_with fail
  refine (columnsOf a la ca xs cnt w HA.out (by omega) hc2).mono ?_
  rintro e w1 ⟨ax, cx, rfl, hx1, hle1⟩
  rw [hsz0.out, hX.out, hB.out] at hx1
  rw [hB.out] at hle1
  have hBw1 : B ≤ w1.heap.size := by have := hle1.out.size; have := hB.out; omega
  have sx1 := hx1.out.sRow.hle
  have sx2 := hx1.out.sRow.hmax
  unfold maxLen at sx2
  go_wp2_with fail
  refine (encodeP ax cnt cx X sz pp w1 hx1.out.sRow CX.out ⟨hp1, hp2⟩).mono ?_
  rintro e w2 ⟨as_, cs_, rfl, hs2, hle2⟩
  have SX := Lib.hid (hx1.out.below hle2.out)
  have L2 : Hid (Below B w w2) := hle1.out.trans (hle2.out.mono hBw1)
  have hBw2 : B ≤ w2.heap.size := by have := hle2.out.size; omega
  have ss1 := hs2.out.sRow.hle
  have ss2 := hs2.out.sRow.hmax
  unfold maxLen at ss2
  clear hx1 hle1 hle2
  obtain ⟨_, uX, FX, oX, pX, fX⟩ := SX.out
  obtain ⟨ne, ue, Fe, oe, pe, fe⟩ := hs2.out
  have VX := Lib.hid oX.row
  have PX := Lib.hid pX
  have GX : Hid (∀ b, FX b → True ∧ b < w2.heap.size ∧ (Value.slice none 0 0).ownBlock ≠ some b) := fun b hb => ⟨trivial, (fX b hb).2.1, fun e => by cases e⟩
  have VE := Lib.hid oe.row
  have PE := Lib.hid pe
  have GE : Hid (∀ b, Fe b → b < w2.heap.size) := fun b hb => (fe b hb).2.1
  have NE := Lib.hid ne
  clear oX pX fX oe pe fe ne SX hs2
  go_wp2_with (at_builtin; refine wpList_append_data (L := (Lay.int .u8).slice) rfl (.const (.slice none 0 0)) (.tmp 45) 46 rfl w2.heap.size 45 _ 24 Try.underlying46 info_bytes rfl (fun _ => True) none 0 0 [] rfl (SOwn.nil ..) ax cnt cx X uX rfl VX.out FX PX.out HXl.out GX.out (by unfold maxLen; omega) (by omega) (Nat.le_refl _) ?_)
  intro a3 c3 w3 hown3 hg3
  have G3 := Lib.hid ((SOwn.nil (Lay.int .u8).slice w2 w2.heap.size 45 (fun _ => True)).grown (Below.refl _ _) (Nat.le_refl _) (Nat.le_refl _) hg3)
  have O3 := Lib.hid hown3
  have V3 := Lib.hid (VE.out.keep (fun b o _ _ hb => G3.out.block b hb))
  have P3 := Lib.hid (PE.out.keep (fun _ h => h) (fun b _ hb => G3.out.block b hb))
  have H3 : Hid (∀ b, Fe b → True ∧ b < w3.heap.size ∧ (Value.slice a3 cnt c3).ownBlock ≠ some b) := fun b hb => ⟨trivial, by have := GE.out b hb; have := G3.out.size; omega, fun e => by have := (O3.out.lt b e).1; have := GE.out b hb; omega⟩
  have hw3 : w2.heap.size ≤ w3.heap.size := G3.out.size
  have L3 : Hid (Below B w w3) := L2.out.trans (G3.out.mono hBw2)
  clear hown3 hg3 VX PX GX VE PE GE G3
  go_wp2_with (at_builtin; refine wpList_append_data (L := (Lay.int .u8).slice) rfl (.tmp 46) (.tmp 47) 46 rfl w2.heap.size 45 _ 24 Try.underlying46 info_bytes rfl (fun _ => True) a3 cnt c3 X rfl O3.out as_ pp cs_ (encAll X sz pp) ue rfl V3.out Fe P3.out NE.out H3.out (by unfold maxLen; omega) (by omega) hw3 ?_)
  intro a4 c4 w4 hown4 hg4
  have L4 : Hid (Below B w w4) := O3.out.grown L3.out (by omega) (by omega) hg4
  have SA := Lib.hid hown4.low
  have EA := Lib.hid (all_evn CX.out pp)
  obtain ⟨AL, hAL⟩ : ∃ AL, Hid (X ++ encAll X sz pp = AL) := ⟨_, rfl⟩
  rw [hAL.out] at SA EA
  have hBw4 : B ≤ w4.heap.size := by have := L4.out.size; have := hw3; have := hg4.size; omega
  have s41 := SA.out.hle
  have s42 := SA.out.hmax
  unfold maxLen at s42
  have HZ4 := Lib.hid (HZ.out.below (by rw [hB.out]; exact L4.out))
  clear hown4 hg4 O3 V3 P3 H3 L3 L2
  go_wp2_with fail
  refine (sev al ll cl _ _ _ w4 HZ4.out (by omega) (by omega) (by omega) (by omega)).mono ?_
  rintro e w8 ⟨a8, l8, c8, rfl, hown8, hb8⟩
  have t1 : (pp : Int).toNat = pp := by omega
  have t2 : ((cnt : Int) + (pp : Int)).toNat = cnt + pp := by omega
  rw [t1, t2] at hown8
  clear t1 t2
  have hPf := several_few (n := cnt + pp) (most := pp) (by omega) zs
  have hPt := several_lt zs pp (cnt + pp)
  have hPn := several_nodup zs pp (cnt + pp)
  obtain ⟨P, hP⟩ : ∃ P, several zs pp (cnt + pp) = P := ⟨_, rfl⟩
  rw [hP] at hown8 hPf hPt hPn
  have hl8 : P.length = l8 := by have := hown8.out.1; rw [← this]; simp [nats]
  have hl8p : l8 ≤ pp := by rw [← hl8]; exact hPf
  have HL8 := Lib.hid hl8
  have R8 := Lib.hid hown8.out.ints
  have L8 := Lib.hid (L4.out.trans (hb8.mono hBw4))
  have SA8 := Lib.hid (SA.out.below hb8)
  have HPT := Lib.hid hPt
  have HPN := Lib.hid hPn
  have hBw8 : B ≤ w8.heap.size := by have := L8.out.size; have := hB.out; omega
  have hb8s : w4.heap.size ≤ w8.heap.size := hb8.size
  have HJ8 := Lib.hid (HJ.out.below (by rw [hB.out]; exact L8.out))
  clear hown8 hb8 hPt hPn hPf hP L4 SA HZ4 hl8
  have r1 := R8.out.hle
  have r2 := R8.out.hmax
  unfold maxLen at r2
  obtain ⟨hal, _, uA, VA, PA⟩ := SA8.out
  have HALl := Lib.hid hal
  have HVA := Lib.hid VA
  have HPA := Lib.hid PA
  have HFA : Hid (∀ b, b < w4.heap.size → True ∧ b < w8.heap.size ∧ (Value.slice none 0 0).ownBlock ≠ some b) := fun b hb => ⟨trivial, by omega, fun e => by cases e⟩
  clear hal VA PA
  go_wp2_with (at_builtin; refine wpList_append_data (L := (Lay.int .u8).slice) rfl (.const (.slice none 0 0)) (.tmp 54) 46 rfl w8.heap.size 45 _ 24 Try.underlying46 info_bytes rfl (fun _ => True) none 0 0 [] rfl (SOwn.nil ..) a4 (cnt + pp) c4 AL uA rfl HVA.out (fun b => b < w4.heap.size) HPA.out HALl.out HFA.out (by unfold maxLen; omega) (by omega) (Nat.le_refl _) ?_)
  intro a9 c9 w9 hown9 hg9
  have G9 := Lib.hid ((SOwn.nil (Lay.int .u8).slice w8 w8.heap.size 45 (fun _ => True)).grown (Below.refl _ _) (Nat.le_refl _) (Nat.le_refl _) hg9)
  try rw [Nat.zero_add] at hown9
  try rw [List.nil_append] at hown9
  obtain ⟨g, vs0, rfl, hsl9⟩ := Sl.of hown9 (by omega)
  have S9 : Hid (Sl w9 w8.heap.size g (cnt + pp) c9 vs0 (tornN AL js [])) := hsl9
  clear hown9 hg9 hsl9 HFA HVA HPA
  obtain ⟨W8, hW8⟩ : ∃ n, Hid (w8.heap.size = n) := ⟨_, rfl⟩
  rw [hW8.out] at S9
  have L9 : Hid (Below W8 w8 w9) := by rw [← hW8.out]; exact G9.out
  clear G9
  go_wp2_with fail
  go_loopw [19] (fun iv wr => ∃ (k : Nat) (vs : List Value), k ≤ l8 ∧ iv = .int .i64 k ∧ Hid (Sl wr W8 g (cnt + pp) c9 vs (tornN AL js (P.take k))) ∧ Hid (Below W8 w8 wr)) (fun iv _ => l8 - (intOf iv).toNat)
  case atStart => exact ⟨0, vs0, by omega, rfl, S9, L9⟩
  case round =>
    obtain ⟨k, vs, hk, rfl, hS, hL⟩ := hrel
    have hWr : W8 ≤ wr.heap.size := by have := hL.out.size; have := hW8.out; omega
    have hLw : Below w8.heap.size w8 wr := by rw [hW8.out]; exact hL.out
    by_cases hlt : k < l8
    · have k1 : (k : Int) < (l8 : Int) := by omega
      obtain ⟨bp, op, rfl⟩ : ∃ b o, a8 = some ⟨b, o, none⟩ := by
        rcases R8.out.hat with h0 | ⟨b, o, e, _⟩
        · omega
        · exact ⟨b, o, e⟩
      have e0 := row_at (R8.out.below hLw) k hlt
      rw [nats_getD] at e0
      obtain ⟨x, hx⟩ : ∃ x, P.getD k 0 = x := ⟨_, rfl⟩
      rw [hx] at e0
      have hxl : x < cnt + pp := by
        rw [← hx]; exact HPT.out _ (getD_mem _ _ (by rw [HL8.out]; exact hlt))
      have hnext : Hid (tornN AL js (P.take (k + 1)) = (tornN AL js (P.take k)).set x js) := by
        show _ = _
        rw [take_nats P k (by rw [HL8.out]; exact hlt), tornN_snoc, hx]
      have x1 : (x : Int) < ((cnt : Int) + (pp : Int)) := by omega
      have x2 : (x : Int) < ((cnt + pp : Nat) : Int) := by omega
      have HJr : Hid (Row .u8 wr.drew aj lj cj js) := (HJ8.out.below hLw).below (below_drewN (Below.refl _ _) 1)
      have HOP : Hid (∀ a5 c5 w5, SOwn (Lay.int .u8) w5 wr.drew.heap.size 5 (fun _ => False) a5 (0 + lj) c5 ([] ++ js) → wr.drew.grownBy w5 (Value.slice none 0 0).ownBlock → (w5.cell? ⟨bp, op + k, none⟩ = some (.int .i64 x)) ∧ (∃ u, w5.cell? ⟨g, x, none⟩ = some u) ∧ w5.frozen? ⟨g, x, none⟩ = false ∧ g < w5.heap.size ∧ Sl (w5.setCell ⟨g, x, none⟩ (.slice a5 (0 + lj) c5)) W8 g (cnt + pp) c9 (vs.set x (.slice a5 (0 + lj) c5)) ((tornN AL js (P.take k)).set x js) ∧ Below W8 w8 (w5.setCell ⟨g, x, none⟩ (.slice a5 (0 + lj) c5))) := by
        intro a5 c5 w5 ho hg
        have hb : Below wr.drew.heap.size wr.drew w5 := (SOwn.nil (Lay.int .u8) wr.drew wr.drew.heap.size 5 (fun _ => False)).grown (Below.refl _ _) (Nat.le_refl _) (Nat.le_refl _) hg
        have hd : Below wr.heap.size wr wr.drew := below_drewN (Below.refl _ _) 1
        have hw5 : Below wr.heap.size wr w5 := hd.trans hb
        have S5 := hS.out.below hw5
        obtain ⟨hu, hf, hgl⟩ := S5.cellAt x hxl
        have hg0 := (World.ownsRow.lt hS.out.out g rfl)
        refine ⟨(hw5.cell (World.block_lt_of_cell? _ _ e0)).trans e0, hu, hf, hgl, S5.put x hxl ?_, (hL.out.trans (hw5.mono hWr)).setCell (p := ⟨g, x, none⟩) hg0.1 _⟩
        rw [List.nil_append] at ho
        refine ho.ints.toS (fun p hp h0 e => ?_)
        have := (ho.lt p.block (by rw [hp]; rfl)).1
        have h3 : wr.heap.size ≤ p.block := this
        have := hg0.2
        omega
      have HVJ : Hid (VRow wr.drew (Lay.int .u8).size aj lj cj (js.map fun x => [Value.int .u8 x]).flatten) := by
        show VRow _ _ _ _ _ _
        rw [flatten_ints]; exact HJr.out.toV
      have HPJ : Hid (Pt (Lay.int .u8) wr.drew (fun _ => False) js (js.map fun x => [Value.int .u8 x])) := Pt.ints HJr.out.hwf
      have HJL : Hid (js.length = lj) := HJr.out.hlen
      have HFJ : Hid (∀ b, (fun _ => False) b → (fun _ => False) b ∧ b < wr.drew.heap.size ∧ (Value.slice none 0 0).ownBlock ≠ some b) := fun b hb => hb.elim
      clear hx hL hS
      go_wp2_with fail
      go_region_law (refine step_append_data (L := Lay.int .u8) rfl (.const (.slice none 0 0)) (.tmp 67) 45 rfl wr.drew.heap.size 5 _ 1 Try.underlying45 info_byte rfl (fun _ => False) none 0 0 [] (by simp [Act.eval]) (SOwn.nil ..) aj lj cj js (js.map fun x => [Value.int .u8 x]) (by simp [Act.eval, Act.put]) HVJ.out (fun _ => False) HPJ.out HJL.out HFJ.out (by unfold maxLen; omega) (by omega) (Nat.le_refl _) ?_; intro a5 c5 w5 hown5 hg5; obtain ⟨q1, ⟨u, q2⟩, q3, q4, q5, q6⟩ := HOP.out _ _ _ hown5 hg5; rw [Nat.zero_add] at q5 q6; have Q5 := Lib.hid q5; have Q6 := Lib.hid q6; clear q5 q6)
      all_goals go_wp2_with fail
      all_goals go_roundw
      all_goals first
        | (simp [intOf]; omega)
        | exact ⟨k + 1, _, by omega, by go_num, by rw [hnext.out]; exact Q5, Q6⟩
    · obtain rfl : k = l8 := by omega
      rw [List.take_of_length_le (by rw [HL8.out]; exact Nat.le_refl _)] at hS
      have HT := Lib.hid hS.out.srow
      have hdl : X.length = cnt := HXl.out
      have hLo : Hid (Lost (tornN AL js P) cnt pp sz P) := by
        refine ⟨⟨hp1, hp2⟩, ⟨hc1, hc2⟩, HPT.out, HPN.out, by rw [HL8.out]; exact hl8p, CX.out.2.2.1, fun i hi hip => ?_⟩
        rw [tornN_get _ _ _ _ hip]
        exact EA.out.get i (by have := HALl.out; omega)
      have R8r := Lib.hid (R8.out.below hLw)
      have SA9 := Lib.hid (SA8.out.below hLw)
      have L10 := Lib.hid (L8.out.trans (hL.out.mono (by have := hW8.out; omega)))
      have hBr : B ≤ wr.heap.size := by have := L10.out.size; have := hB.out; omega
      clear hS hL hLw
      go_wp2_with fail
      refine (rebuildW _ c9 (tornN AL js P) cnt pp sz a8 k c8 P wr HT.out R8r.out hLo.out).mono ?_
      rintro e w11 ⟨K, a11, c11, q1, q2, q3, q4, rfl, h11, hb11⟩
      have hbk : backOf (tornN AL js P) (goneOf P (cnt + pp)) cnt pp sz K = AL := by
        rw [← hAL.out]
        have := back_all (js := js) (pp := pp) CX.out (by rw [← hX.out]; exact colsN_byts HBX.out _ _) (P := P) (by rw [hdl]; exact HPT.out) (by rw [hdl]; exact q1) q2 (by rw [hdl]; exact q3) (by rw [hdl]; exact q4)
        rw [hdl] at this
        exact this
      rw [hbk] at h11
      have SA11 := Lib.hid (SA9.out.below hb11.out)
      have L11 := Lib.hid (L10.out.trans (hb11.out.mono hBr))
      have hBr11 : B ≤ w11.heap.size := by have := L11.out.size; have := hB.out; omega
      clear hbk hb11 L10 SA9 q1 q3 q4 HT
      go_wp2_with fail
      refine (sameListsW a11 c11 a4 c4 AL (cnt + pp) w11 h11.out SA11.out).mono ?_
      rintro e w12 ⟨rfl, q, rfl⟩
      go_wp2_with fail
      go_ret
      refine ⟨rfl, ?_⟩
      rw [hB.out]
      exact below_drewN L11.out q
end Go.Proofs.Ytkfjkdonbmjniaa
