/- Texts that belong together: RbD, RbE. -/
import Derived.SizedLaws
import Derived.Deep.Slices
import Derived.Test.YtkjaddiagembaaaZ6
/- The law RebuildMany. -/
namespace Go.Proofs.Ytkjaddiagembaaa
open Go.RowKit Go.ChangeShapes Go.WideShapes Go.Deep
set_option linter.unusedVariables false
set_option maxRecDepth 100000

theorem sized_len2 {P : Program} {H : Type} {enc : TypeId × Value → H} {ts : List TypeId} {ds : List (DataW H)} {w : World} {base : Nat} {spare : Nat → Bool} {held : Bool} {j : Nat} {t e : TypeId} {d : DataW H} {p : List MemPlace} {a : Option Addr} {len cap : Nat}
    (h : (DataW.weightsEach P ts ds).all (· ≤ reachBytes) = true) (ht : ts[j]? = some t) (hd : ds[j]? = some d) (hu : P.underlying t = some (.slice e)) (hk : DataW.Trod enc P w base spare held t (.slice a len cap) d p) : len * P.bytesOf e ≤ reachBytes := by
  obtain ⟨fuel, hf⟩ := hk
  rcases open_slice hu hf with ⟨h1, _⟩ | ⟨a, len', cap', m, n, D, Pl, h1, _, _, _, _, hx, _⟩
  · simp [Value.cells] at h1
    obtain ⟨_, rfl, _⟩ := h1
    simp
  · simp [Value.cells] at h1
    obtain ⟨_, rfl, _⟩ := h1
    simp only [Prod.mk.injEq] at hx
    rw [hx.1] at hd
    have := sized_slice h ht hd hu
    simp only [List.length_map, List.length_range] at this
    exact Nat.le_trans (Nat.mul_le_mul_right _ (Nat.le_add_right _ _)) this
theorem int_bytes2 : Try.prog.bytesOf 3 = 8 := by kernel_rfl

theorem opens_ints2 : Opens Try.prog 23 (Lay.int .i64).slice := opens_slice Try.underlying23 (opens_int Try.underlying3) (by kernel_rfl)
theorem encAll_length (D : List (List Int)) (size p : Nat) : (encAll D size p).length = p := by simp [encAll]
theorem all_evn {D : List (List Int)} {size : Nat} (h : Cols D size) (p : Nat) : Evn (D ++ encAll D size p) size := by
  refine ⟨by rw [List.length_append]; have := h.1; omega, h.2.2.1, fun c hc => ?_⟩
  rcases List.mem_append.1 hc with hc | hc
  · exact h.2.2.2 c hc
  · simp only [encAll, List.mem_map] at hc
    obtain ⟨j, _, rfl⟩ := hc
    exact encN_length ..
theorem SOwn.low {α : Type} {L : Lay α} {w : World} {base : Nat} {e : TypeId} {G : Nat → Prop} {a : Option Addr} {len cap : Nat} {xs : List α} (h : SOwn L w base e G a len cap xs) : SRow L w (fun b => b < w.heap.size) a len cap xs := by
  obtain ⟨hl, vss, F, ho, hp, hF⟩ := h
  exact ⟨hl, fun x hx h0 => (World.ownsRow.lt ho x.block (by rw [hx]; rfl)).2, vss, ho.row, hp.keep (fun b hb => (hF b hb).2.1) (fun _ _ _ => rfl)⟩
theorem vrow_five {w w0 : World} (e : TypeId) (hw : w = w0.alloc (.cells #[.int .i64 0, .int .i64 1, .int .i64 2, .int .i64 3, .int .i64 4] e)) : VRow w 1 (some ⟨w0.heap.size, 0, none⟩) 5 5 (([0, 1, 2, 3, 4] : List Int).map fun x => [Value.int .i64 x]).flatten := by
  refine ⟨rfl, Nat.le_refl _, by unfold maxLen; omega, (fun h => by cases h), .inr ⟨w0.heap.size, 0, rfl, fun i hi => ?_⟩⟩
  subst hw
  rw [Nat.zero_add, cell_of_row _ _ i #[.int .i64 0, .int .i64 1, .int .i64 2, .int .i64 3, .int .i64 4] e (0, 0) (heap_alloc_new w0 _)]
  simp
theorem five_lt (l : List Int) (k : Nat) (h : k < 5) : (k : Int) ∈ l ++ [0, 1, 2, 3, 4] := by
  apply List.mem_append_right
  match k, h with
  | 0, _ => simp
  | 1, _ => simp
  | 2, _ => simp
  | 3, _ => simp
  | 4, _ => simp
end Go.Proofs.Ytkjaddiagembaaa
/- Package par: mix with what it leaves alone; rows of bytes of any lengths, each in a block of its own; Clone of bytes. -/
namespace Go.Proofs.Ytkjaddiagembaaa
open Go.RowKit
set_option linter.unusedVariables false
set_option maxRecDepth 100000

theorem gb_below {w w' : World} (h : Below w.heap.size w w') (row : Option Nat) : w.grownBy w' row := ⟨h.os, h.tape, h.output, h.size, fun k hk _ => h.block k hk⟩
theorem gb_set (w : World) (g k : Nat) (v : Value) : w.grownBy (w.setCell ⟨g, k, none⟩ v) (some g) := by
  have := (Below.refl g w).setCell (p := ⟨g, k, none⟩) (Nat.le_refl _) v
  exact ⟨this.os, this.tape, this.output, this.size, fun j _ hne => Below.heap_setCell _ _ _ _ (fun e => hne (by rw [e]))⟩
theorem gb_drew {w w' : World} {row : Option Nat} (h : w.grownBy w' row) : w.grownBy w'.drew row := ⟨h.os, h.tape, h.output, h.size, h.block⟩
theorem gb_new {w w1 w2 : World} {g k : Nat} (h : w.grownBy w1 (some g)) (h2 : w1.grownBy w2 (some k)) (hk : w.heap.size ≤ k) : w.grownBy w2 (some g) :=
  ⟨h2.os.trans h.os, h2.tape.trans h.tape, h2.output.trans h.output, Nat.le_trans h.size h2.size, fun i hi hne => (h2.block i (Nat.lt_of_lt_of_le hi h.size) (fun e => by injection e with e; omega)).trans (h.block i hi hne)⟩
set_option maxHeartbeats 2000000 in
/-- mix changes one block alone. -/
theorem mix2 (g len cap : Nat) (dst : List Int) (b : Option Addr) (lf cf : Nat) (from_ : List Int) (x : Int) (w : World) (B : Nat) (hto : Own w B 5 1 (some ⟨g, 0, none⟩) len cap (dst.map (.int .u8)))
    (hfrom : ∀ w', w.grownBy w' (some g) → Row .u8 w' b lf cf from_) (hl : lf ≤ len) (hx : 0 ≤ x ∧ x ≤ 255) (htb : Byt dst) :
    Calls Try.prog 45 #[.slice (some ⟨g, 0, none⟩) len cap, .slice b lf cf, .int .i64 x] w fun e w' => e = .returned (.tuple #[]) ∧ Own w' B 5 1 (some ⟨g, 0, none⟩) len cap ((mixN x.toNat dst from_ lf).map (.int .u8)) ∧ w.grownBy w' (some g) := by
  have hxn : x.toNat < 256 := by omega
  have hfm := (hfrom w (World.grownBy.refl _ _)).hmax
  have hfl := (hfrom w (World.grownBy.refl _ _)).hle
  have hom := hto.row.hmax
  have hol := hto.row.hle
  have htl : dst.length = len := by have := hto.row.hlen; simpa using this
  unfold maxLen at hfm hom
  have HF : Hid (∀ w', w.grownBy w' (some g) → Row .u8 w' b lf cf from_) := hfrom
  have HO := Lib.hid hto
  have HTB := Lib.hid htb
  have hgl := (World.ownsRow.lt hto g rfl).2
  have hgB := (World.ownsRow.lt hto g rfl).1
  clear hto hfrom htb
  go_enter Try.func45, Try.ntmps45
  go_wp2_with fail
  refine (table x w hx).mono ?_
  rintro e w1 ⟨rfl, hle1⟩
  have O1 := Lib.hid (HO.out.below hle1)
  have L1 : Hid (w.grownBy w1 (some g)) := gb_below hle1 _
  have hs1 := hle1.size
  clear HO hle1
  go_wp2_with (refine wpList_store_box rfl 88 (.tmp 6) (.tmp 10) rfl w1.heap.size (tabV x.toNat 256) rfl rfl 88 _ (Box.new rfl) (by rw [tabV_size]; kernel_rfl) (by rw [tabV_size]; kernel_rfl) (tabV_one _ _) ?_)
  intro w2 hb2 hg2
  have hne : g ≠ w1.heap.size := by omega
  have O2 := Lib.hid ((O1.out.below (Below_alloc1 (.cells Try.zeroCells88 88))).grownOther hg2 (by intro k hk h; injection hk with hk; injection h with h; exact hne (hk.trans h)))
  have T2 := Lib.hid hb2
  have L2 : Hid (w.grownBy w2 (some g)) := gb_new (L1.out.trans (World.grownBy_alloc _ _ _)) hg2 (by omega)
  obtain ⟨gt, hgt⟩ : ∃ g, w1.heap.size = g := ⟨_, rfl⟩
  rw [hgt] at hne T2 ⊢
  clear hb2 hg2 O1 L1
  go_wp2_with fail
  go_loopw [13] (fun i wr => ∃ n : Nat, n ≤ lf ∧ i = .int .i64 n ∧ Hid (Own wr B 5 1 (some ⟨g, 0, none⟩) len cap ((mixN x.toNat dst from_ n).map (.int .u8))) ∧ Hid (Box wr gt (tabV x.toNat 256) 88) ∧ Hid (w.grownBy wr (some g))) (fun i _ => lf - (intOf i).toNat)
  case atStart => exact ⟨0, by omega, rfl, O2, T2, L2⟩
  case round =>
    obtain ⟨n, hn, rfl, hO, hT, hL⟩ := hrel
    by_cases hlt : n < lf
    · have hr := HF.out wr hL.out
      rcases hr.hat with h0 | ⟨b1, o1, rfl, hc1⟩
      · omega
      have e1 := hc1 n hlt
      have hfb : 0 ≤ from_.getD n 0 ∧ from_.getD n 0 ≤ 255 := hr.byte n
      obtain ⟨m, hm⟩ : ∃ m : Nat, from_.getD n 0 = (m : Int) := Int.eq_ofNat_of_zero_le hfb.1
      have hm2 : m < 256 := by omega
      rw [hm] at e1
      have hml := mixN_length x.toNat dst from_ n
      obtain ⟨Y, hY⟩ : ∃ Y, Hid (mixN x.toNat dst from_ n = Y) := ⟨_, rfl⟩
      have hYB : Byt Y := by rw [← hY.out]; exact mixN_byt hxn HTB.out n
      have hstep : mixN x.toNat dst from_ (n + 1) = Y.set n (mixI x.toNat (Y.getD n 0) m) := by
        show (mixN x.toNat dst from_ n).set n _ = _
        rw [hY.out, hm]
      rw [hY.out] at hO hml
      obtain ⟨u, hu⟩ : ∃ u, Hid (Y.getD n 0 = u) := ⟨_, rfl⟩
      rw [hu.out] at hstep
      have hub : 0 ≤ u ∧ u ≤ 255 := by rw [← hu.out]; exact hYB.getD n
      have e2 : wr.cell? ⟨g, n, none⟩ = some (.int .u8 u) := by
        rw [World.ownsRow.cellAt hO.out n (by omega), ← hu.out]
        simp [List.getD, List.getElem?_eq_getElem (show n < Y.length by omega)]
      have f2 : wr.frozen? ⟨g, n, none⟩ = false := World.ownsRow.frozenAt hO.out _
      have e3 : wr.cell? ⟨gt, m, none⟩ = some (.int .u8 ((gmul x.toNat m : Nat) : Int)) := by rw [hT.out.cell m, tabV_get _ _ hm2]
      have hst := World.ownsRow.stored hO.out n (.int .u8 (bits .xor .u8 u ((gmul x.toNat m : Nat) : Int)))
      rw [← List.map_set] at hst
      have HST := Lib.hid hst.1
      have HSTEP : Hid (mixN x.toNat dst from_ (n + 1) = Y.set n (bits .xor .u8 u ((gmul x.toNat m : Nat) : Int))) := hstep
      have hTs := Lib.hid ((hT.out.other (⟨g, n, none⟩ : Addr) hne (.int .u8 (bits .xor .u8 u ((gmul x.toNat m : Nat) : Int)))).drew)
      have hLs : Hid (w.grownBy (wr.setCell ⟨g, n, none⟩ (.int .u8 (bits .xor .u8 u ((gmul x.toNat m : Nat) : Int)))).drew (some g)) := gb_drew (hL.out.trans (gb_set wr g n _))
      have i1 : (n : Int) < (lf : Int) := by omega
      have i2 : (n : Int) < (len : Int) := by omega
      have i3 : (m : Int) < 256 := by omega
      clear hst hstep hfb hc1 hr hm
      go_wp2
      go_region
      go_wp2
      go_roundw
      case rel => exact ⟨n + 1, by omega, by go_num, by rw [HSTEP.out]; exact HST.out, hTs, hLs⟩
      case measure => simp [intOf]; omega
    · obtain rfl : n = lf := by omega
      go_wp2_with fail
      go_end0
      exact ⟨rfl, hO.out, hL.out⟩
/-- Rows of bytes that the call made, of any lengths, each in a block of its own; all in one block. -/
structure Outs (w : World) (B g n : Nat) (vs : List Value) (L : List (List Int)) : Prop where
  out : Own w B 22 1 (some ⟨g, 0, none⟩) n n vs
  len : L.length = n
  row : ∀ i, i < n → ∃ a c, vs[i]? = some (.slice a (L.getD i []).length c) ∧ Own w B 5 1 a (L.getD i []).length c ((L.getD i []).map (.int .u8)) ∧ Byt (L.getD i [])
  ne : Apart vs
theorem Outs.vl {w : World} {B g n : Nat} {vs : List Value} {L : List (List Int)} (h : Outs w B g n vs L) : vs.length = n := by have := h.out.row.hlen; omega
theorem Outs.below {w w' : World} {B g n : Nat} {vs : List Value} {L : List (List Int)} (h : Outs w B g n vs L) (hb : Below w.heap.size w w') : Outs w' B g n vs L :=
  ⟨h.out.below hb, h.len, fun i hi => by obtain ⟨a, c, h1, h2, h3⟩ := h.row i hi; exact ⟨a, c, h1, h2.below hb, h3⟩, h.ne⟩
theorem Outs.start {w : World} {B g n : Nat} (h : Own w B 22 1 (some ⟨g, 0, none⟩) n n (List.replicate n (.slice none 0 0))) : Outs w B g n (List.replicate n (.slice none 0 0)) (List.replicate n []) := by
  refine ⟨h, by simp, fun i hi => ?_, fun i j v v' hij hv hv' g hg => ?_⟩
  · have e : (List.replicate n ([] : List Int)).getD i [] = [] := by simp [List.getD, List.getElem?_replicate]; split <;> rfl
    rw [e]
    exact ⟨none, 0, by simp [hi], Own.nil .., fun x hx => by cases hx⟩
  · have := List.eq_of_mem_replicate (List.mem_of_getElem? hv)
    rw [this] at hg; cases hg
theorem Outs.get {w : World} {B g n : Nat} {vs : List Value} {L : List (List Int)} (h : Outs w B g n vs L) (i : Nat) (hi : i < n) :
    ∃ a c, vs[i]? = some (.slice a (L.getD i []).length c) ∧ w.cell? ⟨g, i, none⟩ = some (.slice a (L.getD i []).length c) ∧ Own w B 5 1 a (L.getD i []).length c ((L.getD i []).map (.int .u8)) ∧ Byt (L.getD i []) := by
  obtain ⟨a, c, h1, h2, h3⟩ := h.row i hi
  exact ⟨a, c, h1, by rw [World.ownsRow.cellAt h.out i (by omega), h1], h2, h3⟩
theorem getDL_set (L : List (List Int)) (i j : Nat) (x : List Int) (hi : i < L.length) : (L.set i x).getD j [] = if i = j then x else L.getD j [] := by
  rw [List.getD, List.getElem?_set]
  by_cases h : i = j
  · rw [if_pos h, if_pos h, if_pos hi]; rfl
  · rw [if_neg h, if_neg h]; rfl
/-- A row laid into its place. -/
theorem Outs.put {w : World} {B g n : Nat} {vs : List Value} {L : List (List Int)} (h : Outs w B g n vs L) (i : Nat) (hi : i < n) {a : Option Addr} {len c : Nat} {x : List Int} (hl : x.length = len) (ho : Own w B 5 1 a len c (x.map (.int .u8))) (hb : Byt x)
    (hnew : ∀ (j : Nat) (v : Value) (k : Nat), vs[j]? = some v → v.ownBlock = some k → (Value.slice a len c).ownBlock ≠ some k) :
    Outs (w.setCell ⟨g, i, none⟩ (.slice a len c)) B g n (vs.set i (.slice a len c)) (L.set i x) := by
  subst hl
  have hvl := h.vl
  have hst := World.ownsRow.stored h.out i (.slice a x.length c)
  have other : ∀ {a' : Option Addr} {l' c' : Nat} {us : List Value}, Own w B 5 1 a' l' c' us → Own (w.setCell ⟨g, i, none⟩ (.slice a x.length c)) B 5 1 a' l' c' us :=
    fun hx => hx.grownOther hst.2 (fun k' hk' e' => own_apart hx h.out (by decide) k' hk' e'.symm)
  refine ⟨hst.1, by simp [h.len], fun j hj => ?_, fun p q v v' hpq hv hv' k hk => ?_⟩
  · rw [getDL_set _ _ _ _ (by rw [h.len]; exact hi)]
    by_cases e : i = j
    · subst e
      rw [if_pos rfl]
      exact ⟨a, c, by rw [List.getElem?_set_self (by omega)], other ho, hb⟩
    · rw [if_neg e]
      obtain ⟨a', c', h1, h2, h3⟩ := h.row j hj
      exact ⟨a', c', by rw [List.getElem?_set_ne e]; exact h1, other h2, h3⟩
  · by_cases ep : i = p
    · subst ep
      rw [List.getElem?_set_self (by omega)] at hv
      injection hv with hv
      subst hv
      rw [List.getElem?_set_ne hpq] at hv'
      intro hk2
      exact hnew q v' k hv' hk2 hk
    · rw [List.getElem?_set_ne ep] at hv
      by_cases eq : i = q
      · subst eq
        rw [List.getElem?_set_self (by omega)] at hv'
        injection hv' with hv'
        subst hv'
        exact hnew p v k hv hk
      · rw [List.getElem?_set_ne eq] at hv'
        exact h.ne p q v v' hpq hv hv' k hk
/-- One row's bytes turned into others. -/
theorem Outs.turn {w w' : World} {B g n : Nat} {vs : List Value} {L : List (List Int)} (h : Outs w B g n vs L) (i : Nat) (hi : i < n) {b len c : Nat} {y : List Int} (hv : vs[i]? = some (.slice (some ⟨b, 0, none⟩) len c)) (hl : y.length = len) (hlen : (L.getD i []).length = len)
    (ho : Own w' B 5 1 (some ⟨b, 0, none⟩) len c (y.map (.int .u8))) (hb : Byt y) (hg : w.grownBy w' (some b)) : Outs w' B g n vs (L.set i y) := by
  subst hl
  obtain ⟨a0, c0, q1, q2, q3⟩ := h.row i hi
  rw [hv] at q1
  injection q1 with q1
  injection q1 with e1 e2 e3
  subst e1 e3
  rw [hlen] at q2
  refine ⟨h.out.grownOther hg (fun k hk e => own_apart q2 h.out (by decide) k (show some b = some k from e.symm) hk), by simp [h.len], fun j hj => ?_, h.ne⟩
  rw [getDL_set _ _ _ _ (by rw [h.len]; exact hi)]
  by_cases e : i = j
  · subst e
    rw [if_pos rfl]
    exact ⟨_, c, hv, ho, hb⟩
  · rw [if_neg e]
    obtain ⟨a', c', h1, h2, h3⟩ := h.row j hj
    refine ⟨a', c', h1, h2.grownOther hg (fun k hk e' => ?_), h3⟩
    injection e' with e'
    subst e'
    exact h.ne i j _ _ e hv h1 _ rfl hk
/-- As what one who only reads it wants: the first m of them. -/
theorem Outs.srow {w : World} {B g n : Nat} {vs : List Value} {L : List (List Int)} (h : Outs w B g n vs L) (m : Nat) (hm : m ≤ n) : SRow (Lay.int .u8).slice w (fun _ => True) (some ⟨g, 0, none⟩) m n (L.take m) := by
  have hvl := h.vl
  have hf : ((vs.take m).map fun v => [v]).flatten = vs.take m := by
    generalize vs.take m = us
    induction us with
    | nil => rfl
    | cons v us ih => simp only [List.map_cons, List.flatten_cons, ih]; rfl
  have hlm : (L.take m).length = m := by rw [List.length_take, h.len]; omega
  refine ⟨hlm, fun _ _ _ => trivial, (vs.take m).map fun v => [v], ?_, by simp [hvl, h.len], fun i x v hx hv => ?_⟩
  · rw [hf]
    have hr := h.out.row
    refine ⟨by simp [hvl, Lay.slice]; omega, hm, hr.hmax, (fun e => by cases e), .inr ⟨g, 0, rfl, fun i hi => ?_⟩⟩
    have hi' : i < m := by simpa [Lay.slice] using hi
    rw [Nat.zero_add, World.ownsRow.cellAt h.out i (by omega), List.getElem?_take, if_pos hi']
  · have hi : i < m := by rw [← hlm]; exact (List.getElem?_eq_some_iff.1 hx).1
    obtain ⟨a, c, h1, h2, h3⟩ := h.row i (by omega)
    rw [List.getElem?_take, if_pos hi] at hx
    rw [List.getElem?_map, List.getElem?_take, if_pos hi, h1] at hv
    obtain rfl : [Value.slice a (L.getD i []).length c] = v := by injection hv
    have hxg : L.getD i [] = x := by simp [List.getD, hx]
    rw [hxg] at h2 h3 ⊢
    exact ⟨a, _, c, rfl, (h2.row.toRow (fun y hy => WalkArith.wf_u8 (h3 y hy))).toS (fun _ _ _ => trivial)⟩
def Cloned (xs : List Int) (len : Nat) (w : World) (e : Ending) (w' : World) : Prop := ∃ a c, e = .returned (.slice a len c) ∧ Hid (Own w' w.heap.size 5 1 a len c (xs.map (.int .u8))) ∧ Hid (Below w.heap.size w w')
set_option maxHeartbeats 2000000 in
theorem cloneB (a : Option Addr) (len cap : Nat) (xs : List Int) (w : World) (h : Row .u8 w a len cap xs) (hb : len ≤ 1000000) :
    Calls Try.prog 24 #[.slice a len cap] w (Cloned xs len w) := by
  have hle := h.hle
  have hmx := h.hmax
  have hln := h.hlen
  unfold maxLen at hmx
  have HR := Lib.hid h
  have qT : ∀ (w : World) (a : Option Addr) (n c n' c' : Nat), (binOp .eql 22 (.slice a n c) (.slice none n' c')).run Try.prog w = .ok (.bool a.isNone) w := fun w a n c n' c' => Lib.run_eql_slice_nil w _ _ a n c n' c' Try.underlying22
  cases a with
  | none =>
    have h0 := h.hnil rfl
    have hx0 : xs = [] := List.eq_nil_of_length_eq_zero (by omega)
    subst hx0
    have hl0 : len = 0 := by simpa using hln.symm
    subst hl0
    clear h h0 hln HR
    go_enter Try.func24, Try.ntmps24
    go_wp2_with fail
    go_ret
    exact ⟨none, 0, rfl, Own.nil .., Below.refl _ _⟩
  | some p =>
    have hone : ∀ u ∈ xs.map (Value.int .u8), u.oneCell' = true := fun u hu => by obtain ⟨x, _, rfl⟩ := List.mem_map.1 hu; rfl
    clear h
    go_enter Try.func24, Try.ntmps24
    have hown0 : Own (w.alloc (.cells #[] 5)) w.heap.size 5 1 (some ⟨w.heap.size, 0, none⟩) 0 0 [] :=
      ⟨rfl, .inr ⟨w.heap.size, 0, #[], rfl, Nat.le_refl _, heap_alloc_new w _, Nat.le_refl _, Nat.zero_le _, rfl, rfl⟩⟩
    have HR1 := Lib.hid (HR.out.below (Below_alloc1 (.cells #[] 5)))
    have HO0 := Lib.hid hown0
    have HONE := Lib.hid hone
    clear hown0 hone
    go_wp2_with (at_builtin; refine wpList_append_any rfl (.tmp 5) (.tmp 6) 22 rfl w.heap.size 5 _ 1 1 Try.underlying22 info_byte rfl (by decide) (some ⟨w.heap.size, 0, none⟩) 0 0 [] rfl HO0.out (some p) len cap (xs.map (.int .u8)) rfl HR1.out.toV HONE.out (by unfold maxLen; omega) (by omega) (by simp) ?_)
    intro a1 c1 w1 ho hg
    have LB1 : Hid (Below w.heap.size w w1) := (Below_alloc1 _).grown hg (by simp) (fun k hk => by
      have e : w.heap.size = k := by injection hk
      omega)
    have HO : Hid (Own w1 w.heap.size 5 1 a1 len c1 (xs.map (.int .u8))) := by simpa [Hid] using ho
    clear ho hg HO0 HR1
    go_wp2_with fail
    go_ret
    exact ⟨a1, c1, rfl, HO, LB1⟩
end Go.Proofs.Ytkjaddiagembaaa
