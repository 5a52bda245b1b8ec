/- Texts that belong together: GaL. -/
import Derived.Test.YtkjaddiagembaaaZ19
/- Package stripe: Lay. -/
namespace Go.Proofs.Ytkjaddiagembaaa
open Go.RowKit
set_option linter.unusedVariables false
set_option maxRecDepth 100000

theorem own_kind {w : World} {base : Nat} {e : TypeId} {size : Nat} {a : Option Addr} {len cap : Nat} {vs : List Value} (h : Own w base e size a len cap vs) (b : Nat) (hb : (Value.slice a len cap).ownBlock = some b) : ∃ cur, w.heap[b]? = some (.cells cur e (0, 0)) := by
  rcases h.form with ⟨rfl, _⟩ | ⟨g, cur, rfl, _, hg, _⟩
  · cases hb
  · obtain rfl : g = b := by simpa [Value.ownBlock] using hb
    exact ⟨cur, hg⟩
/-- A row of slices of bytes of the call's own, each byte row in a block of its own kind. -/
structure Sl (w : World) (B g n : Nat) (vs : List Value) (L : List (List Int)) : Prop where
  out : Own w B 22 1 (some ⟨g, 0, none⟩) n n vs
  len : L.length = n
  row : ∀ i, i < n → ∃ a c, vs[i]? = some (.slice a (L.getD i []).length c) ∧ Own w 0 5 1 a (L.getD i []).length c ((L.getD i []).map (.int .u8))
theorem Sl.vl {w : World} {B g n : Nat} {vs : List Value} {L : List (List Int)} (h : Sl w B g n vs L) : vs.length = n := by have := h.out.row.hlen; omega
theorem Sl.ne {w : World} {B g n : Nat} {vs : List Value} {L : List (List Int)} (h : Sl w B g n vs L) {a : Option Addr} {len c : Nat} {us : List Value} (ho : Own w 0 5 1 a len c us) : (Value.slice a len c).ownBlock ≠ some g := fun e => by
  obtain ⟨x1, e1⟩ := own_kind h.out g rfl
  obtain ⟨x2, e2⟩ := own_kind ho g e
  rw [e1] at e2
  simp at e2
theorem Sl.below {w w' : World} {B g n : Nat} {vs : List Value} {L : List (List Int)} (h : Sl w B g n vs L) (hb : Below w.heap.size w w') : Sl w' B g n vs L :=
  ⟨h.out.below hb, h.len, fun i hi => by obtain ⟨a, c', h1, h2⟩ := h.row i hi; exact ⟨a, c', h1, h2.below hb⟩⟩
theorem Sl.grown {w w' : World} {B g n : Nat} {vs : List Value} {L : List (List Int)} (h : Sl w B g n vs L) {r : Option Nat} (hg : w.grownBy w' r) (hne : r ≠ some g) (hk : ∀ b, r = some b → ∃ cur, w.heap[b]? = some (.cells cur 22 (0, 0))) : Sl w' B g n vs L := by
  refine ⟨h.out.grownOther hg (fun k hk e => hne (by rw [← e, ← hk]; rfl)), h.len, fun i hi => ?_⟩
  obtain ⟨a, c', h1, h2⟩ := h.row i hi
  refine ⟨a, c', h1, h2.grownOther hg (fun k hk' e => ?_)⟩
  obtain ⟨x1, e1⟩ := own_kind h2 k hk'
  obtain ⟨x2, e2⟩ := hk k e.symm
  rw [e1] at e2
  simp at e2
theorem Sl.put {w : World} {B g n : Nat} {vs : List Value} {L : List (List Int)} (h : Sl w B g n vs L) (i : Nat) (hi : i < n) {a : Option Addr} {cap : Nat} {x : List Int} (hx : Own w 0 5 1 a x.length cap (x.map (.int .u8))) :
    Sl (w.setCell ⟨g, i, none⟩ (.slice a x.length cap)) B g n (vs.set i (.slice a x.length cap)) (L.set i x) := by
  have hvl := h.vl
  have hst := World.ownsRow.stored h.out i (.slice a x.length cap)
  have other : ∀ {a' : Option Addr} {l' c' : Nat} {us : List Value}, Own w 0 5 1 a' l' c' us → Own (w.setCell ⟨g, i, none⟩ (.slice a x.length cap)) 0 5 1 a' l' c' us :=
    fun ho => ho.grownOther hst.2 (fun k hk e => h.ne ho (by rw [hk]; exact e))
  refine ⟨hst.1, by simp [h.len], fun j hj => ?_⟩
  rw [getDL_set _ _ _ _ (by rw [h.len]; exact hi)]
  by_cases e : i = j
  · subst e
    rw [if_pos rfl]
    exact ⟨a, cap, by rw [List.getElem?_set_self (by omega)], other hx⟩
  · rw [if_neg e]
    obtain ⟨a', c', h1, h2⟩ := h.row j hj
    exact ⟨a', c', by rw [List.getElem?_set_ne e]; exact h1, other h2⟩
theorem Sl.cellAt {w : World} {B g n : Nat} {vs : List Value} {L : List (List Int)} (h : Sl w B g n vs L) (i : Nat) (hi : i < n) : (∃ u, w.cell? ⟨g, i, none⟩ = some u) ∧ w.frozen? ⟨g, i, none⟩ = false ∧ g < w.heap.size := by
  obtain ⟨a, c', h1, h2⟩ := h.row i hi
  exact ⟨⟨_, by rw [World.ownsRow.cellAt h.out i (by omega), h1]⟩, World.ownsRow.frozenAt h.out _, (World.ownsRow.lt h.out g rfl).2⟩
theorem wpList_copy_front {P : Program} {w : World} {ops : Array Oper} {rest : List Oper} {o : Oper} {a : Act} {Q : Exit → Act → World → Prop} (hgd : o.guard = none) (d s : Operand) (dT sT : TypeId)
    (ho : o.op = .call { callee := .builtin .copy, args := #[d, s], argTypes := #[dT, sT] }) (elem : TypeId) (hu : P.underlying dT = some (.slice elem)) (hsz : (P.info? elem).map (·.size) = some 1)
    (g n : Nat) (e : TypeId) (vs : List Value) (hd : a.eval d = .slice (some ⟨g, 0, none⟩) n n) (hg : w.heap[g]? = some (.cells vs.toArray e (0, 0))) (hvl : vs.length = n)
    (ad : Addr) (m c : Nat) (cs : List Value) (hs : a.eval s = .slice (some ad) m c) (hcl : cs.length = m) (hmn : m ≤ n) (hsrc : ∀ j v, cs[j]? = some v → w.cell? (ad.add j) = some v) (h1 : ∀ v ∈ cs, v.oneCell' = true)
    (h : ∀ w', w'.heap[g]? = some (.cells (cs ++ vs.drop m).toArray e (0, 0)) → w.grownBy w' (some g) → wpList P ops Q rest (a.put o.dst (goInt m)) w') : wpList P ops Q (o :: rest) a w := by
  refine wpList_copy_own hgd d s dT sT ho elem hu hsz g 0 n n ad m c hd hs vs.toArray e hg cs (by rw [hcl, show Nat.min m n = min m n from rfl]; omega) hsrc (by simp [hvl, hcl]; omega) h1 ?_
  have h2 := h (w.setRow g (cs ++ vs.drop m).toArray) (setRow_heap w g _ _ e _ hg) (grownBy_setRow w g _)
  simpa [hcl] using h2
theorem srow_box {w : World} {g n : Nat} {vs : List Value} {L : List (List Int)} (hbox : w.heap[g]? = some (.cells vs.toArray 22 (0, 0))) (hl : vs.length = n) (hn : n ≤ maxLen) (hL : L.length = n)
    (hrow : ∀ i, i < n → ∃ a len c, vs[i]? = some (.slice a len c) ∧ SRow (Lay.int .u8) w (fun _ => True) a len c (L.getD i [])) : SRow (Lay.int .u8).slice w (fun _ => True) (some ⟨g, 0, none⟩) n n L := by
  have hf : (vs.map fun v => [v]).flatten = vs := by
    clear hl hrow hbox
    induction vs with
    | nil => rfl
    | cons v us ih => simp only [List.map_cons, List.flatten_cons, ih]; rfl
  refine ⟨hL, fun _ _ _ => trivial, vs.map fun v => [v], by rw [hf]; exact (box_own (B := 0) hbox (Nat.zero_le _) hl hn).row, by simp [hl, hL], fun i x v hx hv => ?_⟩
  have hi : i < n := by rw [← hL]; exact (List.getElem?_eq_some_iff.1 hx).1
  obtain ⟨a, l, c', h1, h2⟩ := hrow i hi
  rw [List.getElem?_map, h1] at hv
  obtain rfl : [Value.slice a l c'] = v := by injection hv
  have hxg : L.getD i [] = x := by simp [List.getD, hx]
  rw [hxg] at h2
  exact ⟨a, l, c', rfl, h2⟩
/-- The bytes, filled up to whole sectors. -/
def padB (C : Nat) (data : List Int) : List Int := fillC (C * 128) data
/-- The rows of out, k data columns of it being there. -/
def outTo (b : Blk) (pd : List Int) (k : Nat) : List (List Int) := List.replicate b.p [] ++ ((List.range k).map (b.part pd) ++ List.replicate (b.m - k) [])
theorem outTo_set (b : Blk) (pd : List Int) {k : Nat} (hk : k < b.m) : (outTo b pd k).set (b.p + k) (b.part pd k) = outTo b pd (k + 1) := by
  unfold outTo
  rw [List.set_append_right _ _ (by simp), List.length_replicate, Nat.add_sub_cancel_left, List.set_append_right _ _ (by simp), List.length_map, List.length_range, Nat.sub_self,
    show b.m - k = (b.m - (k + 1)) + 1 by omega, List.replicate_succ, List.set_cons_zero, List.range_succ, List.map_append, List.append_assoc]
  rfl
theorem outTo_get (b : Blk) (pd : List Int) {k : Nat} (hk : k < b.m) : (outTo b pd (k + 1)).getD (b.p + k) [] = b.part pd k := by
  unfold outTo
  rw [List.getD, List.getElem?_append_right (by simp), List.length_replicate, Nat.add_sub_cancel_left, List.getElem?_append_left (by simp)]
  simp
theorem outTo_all (b : Blk) (pd : List Int) {i : Nat} (h1 : b.p ≤ i) (h2 : i < b.p + b.m) : (outTo b pd b.m).getD i [] = b.part pd (i - b.p) := by
  unfold outTo
  rw [List.getD, List.getElem?_append_right (by simp; omega), List.length_replicate, List.getElem?_append_left (by simp; omega)]
  simp [show i - b.p < b.m by omega]
theorem parts_take (b : Blk) (pd : List Int) {k : Nat} (hk : k < b.m) : (b.parts pd).take (k + 1) = (b.parts pd).take k ++ [fillC b.long (b.part pd k)] := by
  rw [List.take_add_one]
  congr 1
  unfold Blk.parts
  simp [hk]
set_option maxHeartbeats 8000000 in
theorem layW (D P a n C : Nat) (b : Blk) (hb : IsBlk b D P C) (h1 : 2 ≤ D) (h2 : D ≤ 8) (h3 : 1 ≤ P) (h4 : P ≤ 3) (h5 : P < D) (h6 : 1 ≤ n) (h7 : n ≤ 1024) (h8 : a ≤ 65536) (hC : C = (n + 127) / 128) (ad : Option Addr) (cd : Nat) (data : List Int) (w : World) (hd : Row .u8 w ad n cd data) :
    Calls Try.prog 16 #[.int .i64 (D : Int), .int .i64 (P : Int), .int .i64 (a : Int), .slice ad n cd] w fun e w' => ∃ a' c', e = .returned (.tuple #[.slice a' (b.p + b.m) c', .int .i64 0]) ∧ Hid (SRow (Lay.int .u8).slice w' (fun _ => True) a' (b.p + b.m) c' ((List.range (b.p + b.m)).map (b.col (padB C data)))) ∧ Below w.heap.size w w' := by
  obtain ⟨nn, hnn⟩ : ∃ nn, b.p + b.m = nn := ⟨_, rfl⟩
  obtain ⟨lo, hlo⟩ : ∃ lo, b.long = lo := ⟨_, rfl⟩
  obtain ⟨mm, hmm⟩ : ∃ mm, b.m = mm := ⟨_, rfl⟩
  have hpp := hb.p
  have HSH : Hid (∀ w0, Calls Try.prog 17 #[.int .i64 (D : Int), .int .i64 (P : Int), .int .i64 (a : Int), .int .i64 (n : Int)] w0 fun e w' => ∃ g cap, e = .returned (.tuple #[.agg #[.slice (some ⟨g, 0, none⟩) nn cap, .int .i64 (P : Int), .int .i64 (lo : Int)], .int .i64 0]) ∧ Hid (BCols b g cap w') ∧ w0.heap.size ≤ g ∧ Below w0.heap.size w0 w') := by
    intro w0
    have := shapedW D P a n C b hb h1 h2 h3 h4 h5 h6 (by omega) h8 hC w0
    unfold blkV at this
    rw [hnn, hlo, hpp] at this
    exact this
  have HSE := Lib.hid (fun w0 => sectorsW n (by omega) w0)
  have hC8 : C ≤ 8 := by omega
  have hC1 : 1 ≤ C := by omega
  have hnC : n ≤ C * 128 := by omega
  rw [← hC] at HSE
  have hnm : P + mm = nn := by rw [← hpp, ← hmm]; exact hnn
  have hn8 : nn ≤ 8 := by have := b.h2.2; omega
  have hm1 : 1 ≤ mm := by have := b.h2.1; omega
  have hlong := b.long_le
  rw [hlo] at hlong
  have HB := Lib.hid hb
  have HPP := Lib.hid hpp
  have HMM := Lib.hid hmm
  have HLO := Lib.hid hlo
  have HNN := Lib.hid hnn
  have HD := Lib.hid hd
  have hdl : Hid (data.length = n) := hd.hlen
  have hcd := hd.hmax
  have hcd2 := hd.hle
  unfold maxLen at hcd
  rw [hnn]
  have ws : IntKind.i64.wrap ((C : Int) * 128) = ((C * 128 : Nat) : Int) := by rw [IntWalk.i64_in _ (by omega)]; push_cast; rfl
  obtain ⟨T, hT⟩ : ∃ T, C * 128 = T := ⟨_, rfl⟩
  rw [hT] at ws hnC
  have hTb : T ≤ 1024 := by omega
  have HT := Lib.hid hT
  clear hC hb hd hpp hlo hnn hmm hT
  go_enter Try.func16, Try.ntmps16
  go_upto_region 4 with (go_at_call 17; refine (HSH.out _).mono ?_; rintro e w1 ⟨g, cap, rfl, hBC, hg, hb1⟩)
  obtain ⟨h0, hh0⟩ : ∃ h0, w1.heap.size = h0 := ⟨_, rfl⟩
  obtain ⟨V, hV⟩ : ∃ V, V = w1.alloc (.cells #[.slice (some ⟨g, 0, none⟩) nn cap, .int .i64 (P : Int), .int .i64 (lo : Int)] 52) := ⟨_, rfl⟩
  obtain ⟨B, hB⟩ : ∃ B, Hid (h0 + 1 = B) := ⟨_, rfl⟩
  have hsV : V.heap.size = B := by rw [hV, World.size_alloc, hh0]; exact hB.out
  have HBX : Hid (Box V h0 #[.slice (some ⟨g, 0, none⟩) nn cap, .int .i64 (P : Int), .int .i64 (lo : Int)] 52) := by show Box _ _ _ _; rw [hV]; exact Box.new hh0.symm
  have hbv : Below w1.heap.size w1 V := by rw [hV]; exact Below_alloc1 _
  have HC := Lib.hid (hBC.out.below hbv)
  have HBV := Lib.hid (hb1.trans (hbv.mono hb1.size))
  have HD2 := Lib.hid (HD.out.below HBV.out)
  have hgh : g < h0 := by have := hBC.out.lt; omega
  have hwh : w.heap.size ≤ h0 := by have := hb1.size; omega
  rw [← hV, hh0]
  clear hV hBC hb1 hbv
  go_upto_region 5 with (first
    | (go_at_call 23; refine (HSE.out _).mono ?_; rintro e w' ⟨rfl, hw⟩; rw [hw]; clear hw)
    | (refine wpList_make_zeros rfl _ _ 22 rfl 5 (.int .u8 0) 1 Try.underlying22 info_byte rfl .i64 .i64 (T : Int) (T : Int) T rfl rfl rfl rfl (by omega) (by unfold maxLen; omega) ?_; intro w2 hO2 hB2; have HO2 := Lib.hid hO2; have HB2 := Lib.hid hB2; clear hO2 hB2))
  have HD3 := Lib.hid (HD2.out.below HB2.out)
  rw [hsV] at HO2 HB2
  go_upto_region 6 with (refine wpList_copy_fill rfl (.tmp 35) (.tmp 36) 22 22 rfl 5 Try.underlying22 (by kernel_rfl) B T B 5 rfl HO2.out ad n cd data rfl HD3.out hnC ?_; intro w3 hO3 hB3; have HO3 := Lib.hid hO3; have HB3 := Lib.hid hB3; clear hO3 hB3)
  have hBV3 : Hid (Below B V w3) := HB2.out.trans HB3.out
  have e00 : w3.cell? ⟨h0, 0, none⟩ = some (.slice (some ⟨g, 0, none⟩) nn cap) := (HBX.out.below hBV3.out (by have := hB.out; omega)).cell 0
  go_upto_region 7 with (refine wpList_make_zeros rfl _ _ 46 rfl 22 (.slice none 0 0) 24 Try.underlying46 info_bytes rfl .i64 .i64 (nn : Int) (nn : Int) nn rfl rfl rfl rfl (by omega) (by unfold maxLen; omega) ?_; intro w4 hO4 hB4; have HO4 := Lib.hid hO4; have HB4 := Lib.hid hB4; clear hO4 hB4)
  obtain ⟨G0, hG0⟩ : ∃ G0, w3.heap.size = G0 := ⟨_, rfl⟩
  obtain ⟨pd, hpd⟩ : ∃ pd, padB C data = pd := ⟨_, rfl⟩
  have hO3' : Hid (Own w3 B 5 1 (some ⟨B, 0, none⟩) T T (pd.map (.int .u8))) := by
    show Own _ _ _ _ _ _ _ _
    rw [← hpd]; unfold padB; rw [HT.out]; exact HO3.out
  have hpdl : Hid (pd.length = T) := by show _ = _; rw [← hpd]; unfold padB; rw [HT.out]; exact fillC_len (by rw [hdl.out]; exact hnC)
  have hpdb : Hid (Byt pd) := by show Byt _; rw [← hpd]; exact fillC_byt (fun v hv => byte_range (HD.out.hwf v hv))
  have hBG : B < G0 := by
    have := (World.ownsRow.lt HO3.out B rfl).2
    omega
  rw [hG0] at HO4 HB4 ⊢
  have HPD := Lib.hid hpd
  have hL4 : Hid (Below G0 w3 w4) := HB4.out
  have HRS : Hid (Own w4 B 5 1 (some ⟨B, 0, none⟩) T T (pd.map (.int .u8))) := Own.below hO3'.out (by rw [hG0]; exact HB4.out)
  have hBT : Hid (b.off mm = T) := by show _ = _; rw [← HMM.out, ← HT.out]; exact HB.out.s
  have hSl0 : Hid (Sl w4 G0 G0 nn (List.replicate nn (.slice none 0 0)) (outTo b pd 0)) := by
    refine ⟨HO4.out, ?_, fun i hi => ⟨none, 0, ?_⟩⟩
    · unfold outTo; rw [HPP.out, HMM.out]; simp; omega
    · have : (outTo b pd 0).getD i [] = [] := by
        unfold outTo
        simp [List.getD, List.getElem?_replicate]
        split <;> rfl
      rw [this]; exact ⟨by rw [List.getElem?_replicate, if_pos hi]; rfl, Own.nil ..⟩
  obtain ⟨B1, hB1⟩ : ∃ B1, Hid (w4.heap.size = B1) := ⟨_, rfl⟩
  have hGB1 : G0 < B1 := by have := (World.ownsRow.lt HO4.out G0 rfl).2; have := hB1.out; omega
  have hh0B : h0 < B := by have := hB.out; omega
  have HBX4 : Hid (Box w4 h0 #[.slice (some ⟨g, 0, none⟩) nn cap, .int .i64 (P : Int), .int .i64 (lo : Int)] 52) := Box.below (HBX.out.below hBV3.out hh0B) hL4.out (by omega)
  have HC4 : Hid (BCols b g cap w4) := (HC.out.below (hsV ▸ hBV3.out)).below (hG0 ▸ hL4.out)
  have S0 : Hid (SOwn (Lay.int .u8).slice w4 B1 22 (fun b => B1 ≤ b) none 0 0 ((b.parts pd).take 0)) := SOwn.nil ..
  have HBW4 : Hid (Below w.heap.size w w4) := by
    have h1 := HBV.out
    have h2 := h1.size
    have h3 : Below B V w4 := hBV3.out.trans (hL4.out.mono (by omega))
    exact h1.trans (h3.mono (by omega))
  clear hO3' HO2 HO3 HB2 HB3 HB4 HO4 hpd HBX HC hL4 hBV3 HBV HD2 HD3 e00
  go_wp2_with fail
  go_loopw [12, 14, 15] (fun rv wv cv wr => ∃ (k : Nat) (ar aw : Option Addr) (cw : Nat) (vs : List Value), k ≤ mm ∧ cv = .int .i64 ((P + k : Nat) : Int) ∧ rv = .slice ar (T - b.off k) (T - b.off k) ∧ (k < mm → ar = some ⟨B, b.off k, none⟩) ∧ wv = .slice aw k cw ∧
    Hid (SOwn (Lay.int .u8).slice wr B1 22 (fun b => B1 ≤ b) aw k cw ((b.parts pd).take k)) ∧ Hid (Sl wr G0 G0 nn vs (outTo b pd k)) ∧ Hid (Below G0 w4 wr)) (fun _ _ cv _ => nn - (intOf cv).toNat)
  case atStart => exact ⟨0, some ⟨B, 0, none⟩, none, 0, _, Nat.zero_le _, rfl, rfl, fun _ => rfl, rfl, S0, hSl0, Below.refl _ _⟩
  case round =>
    obtain ⟨k, ar, aw, cw, vs, hk, rfl, rfl, har, rfl, hO, hS, hL⟩ := hrel
    have hszr : B1 ≤ wr.heap.size := by have := hL.out.size; have := hB1.out; omega
    have hnm' := hnm
    by_cases hlt : k < mm
    · obtain rfl := har hlt
      have ci : ((P + k : Nat) : Int) < (nn : Int) := by omega
      have hkm : k < b.m := by rw [HMM.out]; exact hlt
      have hoff : Hid (b.off (k + 1) = b.off k + b.sz (P + k)) := by show b.off k + b.sz (b.p + k) = _; rw [HPP.out]
      have hoT : b.off (k + 1) ≤ T := by rw [← hBT.out]; exact b.off_mono (by omega)
      rw [hoff.out] at hoT
      have hszl : b.sz (P + k) ≤ lo := by
        have := b.sz_le (c := P + k) (by rw [HPP.out, HMM.out]; omega)
        rw [HLO.out] at this; exact this
      have HPT : Hid ((b.part pd k).length = b.sz (P + k)) := by
        have := b.part_len (pd := pd) (by rw [hpdl.out]; show T = b.off b.m; rw [HMM.out, hBT.out]) hkm
        rw [HPP.out] at this; exact this
      have HRR : Hid (Row .u8 wr (some ⟨B, b.off k, none⟩) (b.sz (P + k)) (T - b.off k) (b.part pd k)) := by
        refine ⟨HPT.out, by omega, by unfold maxLen; omega, fun h => (by cases h), fun x hx => WalkArith.wf_u8 (b.part_byt hpdb.out k x hx), .inr ⟨B, b.off k, rfl, fun i hi => ?_⟩⟩
        have h1 := World.ownsRow.cellAt HRS.out (b.off k + i) (by omega)
        rw [hL.out.cell (p := ⟨B, b.off k + i, none⟩) hBG, h1, List.getElem?_map]
        unfold Blk.part
        rw [List.getD, List.getElem?_take, HPP.out, if_pos hi, List.getElem?_drop, List.getElem?_eq_getElem (show b.off k + i < pd.length by rw [hpdl.out]; omega)]
        rfl
      obtain ⟨ok, hok⟩ : ∃ ok, Hid (b.off k = ok) := ⟨_, rfl⟩
      obtain ⟨sz, hsz⟩ : ∃ sz, Hid (b.sz (P + k) = sz) := ⟨_, rfl⟩
      rw [hok.out, hsz.out] at hoT HRR
      rw [hsz.out] at hszl
      rw [hok.out]
      have hh0r : h0 < wr.heap.size := by omega
      have HBXr := Lib.hid (HBX4.out.below hL.out (by omega))
      have e0 : wr.cell? ⟨h0, 0, none⟩ = some (.slice (some ⟨g, 0, none⟩) nn cap) := HBXr.out.cell 0
      have e1 : wr.cell? ⟨h0, 1, none⟩ = some (.int .i64 (P : Int)) := HBXr.out.cell 1
      have e2 : wr.cell? ⟨h0, 2, none⟩ = some (.int .i64 (lo : Int)) := HBXr.out.cell 2
      have HCr : Hid (BCols b g cap wr) := by
        have h4 := HC4.out
        have hg4 : g < G0 := by omega
        exact ⟨by have := h4.lt; omega, h4.cap1, h4.cap2, fun c hc => (hL.out.cell hg4).trans (h4.cnt c hc)⟩
      have HSZ : Hid (∀ w0, Below wr.heap.size wr w0 → Calls Try.prog 18 #[.agg #[.slice (some ⟨g, 0, none⟩) nn cap, .int .i64 (P : Int), .int .i64 (lo : Int)], .int .i64 ((P + k : Nat) : Int)] w0 fun e w' => e = .returned (.int .i64 (sz : Int)) ∧ Below w0.heap.size w0 w') := by
        intro w0 hb0
        have := sizeW b g cap (P + k) (by rw [HPP.out, HMM.out]; omega) w0 (HCr.out.below hb0)
        unfold blkV at this
        rw [HPP.out, HMM.out, hnm, HLO.out, hsz.out] at this
        exact this
      have HCL : Hid (∀ w0, Below wr.heap.size wr w0 → Calls Try.prog 24 #[.slice (some ⟨B, ok, none⟩) sz (T - ok)] w0 (Cloned (b.part pd k) sz w0)) := fun w0 hb0 => cloneB _ _ _ _ w0 (HRR.out.below hb0) (by omega)
      have HS := Lib.hid hS.out
      have HKC : Hid (∀ (w0 : World), Below wr.heap.size wr w0 → (∃ u, w0.cell? ⟨G0, P + k, none⟩ = some u) ∧ w0.frozen? ⟨G0, P + k, none⟩ = false ∧ G0 < w0.heap.size) := fun w0 hb0 => (HS.out.below hb0).cellAt (P + k) (by omega)
      obtain ⟨pk, hpk⟩ : ∃ pk, Hid (P + k = pk) := ⟨_, rfl⟩
      rw [hpk.out] at ci HSZ HKC ⊢
      have s1 : ((sz : Int) ≤ ((T - ok : Nat) : Int)) := by omega
      have s2 : sz ≤ T - ok := by omega
      clear hS
      go_upto_region 11 with fail
      go_cut [12] from 49 to 62 (fun v12 wx => ∃ (ar' : Option Addr) (vs' : List Value), v12 = .slice ar' (T - ok - sz) (T - ok - sz) ∧ (k + 1 < mm → ar' = some ⟨B, ok + sz, none⟩) ∧ Hid (Sl wx G0 G0 nn vs' (outTo b pd (k + 1))) ∧ Hid (SOwn (Lay.int .u8).slice wx B1 22 (fun b => B1 ≤ b) aw k cw ((b.parts pd).take k)) ∧ Hid (Below G0 w4 wx))
      case first =>
        have HEND : Hid (∀ (w5 : World) (a6 : Option Addr) (c6 : Nat), Below wr.heap.size wr w5 → Own w5 wr.heap.size 5 1 a6 sz c6 ((b.part pd k).map (.int .u8)) → ∃ vs', Hid (Sl (w5.setCell ⟨G0, pk, none⟩ (.slice a6 sz c6)) G0 G0 nn vs' (outTo b pd (k + 1))) ∧ Hid (SOwn (Lay.int .u8).slice (w5.setCell ⟨G0, pk, none⟩ (.slice a6 sz c6)) B1 22 (fun b => B1 ≤ b) aw k cw ((b.parts pd).take k)) ∧ Hid (Below G0 w4 (w5.setCell ⟨G0, pk, none⟩ (.slice a6 sz c6)))) := by
          intro w5 a6 c6 hb5 ho5
          have hx : Own w5 0 5 1 a6 (b.part pd k).length c6 ((b.part pd k).map (.int .u8)) := by rw [HPT.out, hsz.out]; exact ho5.mono (Nat.zero_le _)
          have h1 := (HS.out.below hb5).put pk (by have := hpk.out; omega) hx
          have e1 : (outTo b pd k).set pk (b.part pd k) = outTo b pd (k + 1) := by
            have := outTo_set b pd hkm
            rw [HPP.out, hpk.out] at this
            exact this
          rw [e1, HPT.out, hsz.out] at h1
          refine ⟨_, h1, ?_, ?_⟩
          · have hss : (w5.setCell ⟨G0, pk, none⟩ (.slice a6 sz c6)).heap.size = w5.heap.size := by simp [World.setCell]
            exact (hO.out.below hb5).keep (by omega) (fun b hlt hb => Below.heap_setCell _ _ _ _ (by show b ≠ G0; rcases hb with hb | hb <;> omega))
          · exact (hL.out.trans (hb5.mono (by omega))).setCell (Nat.le_refl _) _
        have hmore : Hid (k + 1 < mm → ok + sz < T) := fun h => by
          have h1 : b.off (k + 2) ≤ b.off mm := b.off_mono (by omega)
          have h2 : b.off (k + 2) = b.off (k + 1) + b.cnt (b.p + (k + 1)) * 128 := rfl
          have h3 := (b.h3 (b.p + (k + 1)) (by rw [HMM.out]; omega)).1
          rw [hBT.out] at h1
          have h4 := hoff.out
          rw [hok.out, hsz.out] at h4
          omega
        have HW : Hid (Below wr.heap.size wr wr.drew) := (Below.refl _ wr).drew
        have k0 := HKC.out _ HW.out
        obtain ⟨⟨u0, k1⟩, k2, k3⟩ := k0
        go_region_law (first
          | (go_simp; go_at_call 18; refine (HSZ.out _ HW.out).mono ?_; rintro e w5 ⟨rfl, hb5⟩; replace HW := Lib.hid (HW.out.trans (hb5.mono HW.out.size)); have f0 := (HW.out.cell hh0r).trans e0; have f1 := (HW.out.cell hh0r).trans e1; have f2 := (HW.out.cell hh0r).trans e2; obtain ⟨⟨u5, k5⟩, k6, k7⟩ := HKC.out _ HW.out; (try have HO7 := Lib.hid (Own.mono (Own.below HO6.out hb5) HW6.out.size)); clear hb5)
          | (go_simp; go_at_call 24; refine (HCL.out _ HW.out).mono ?_; rintro e w6 ⟨a6, c6, rfl, ho6, hb6⟩; have HO6 := Lib.hid ho6.out; have HW6 := Lib.hid HW.out; replace HW := Lib.hid (HW.out.trans (hb6.out.mono HW.out.size)); have f0 := (HW.out.cell hh0r).trans e0; have f1 := (HW.out.cell hh0r).trans e1; have f2 := (HW.out.cell hh0r).trans e2; obtain ⟨⟨u6, k8⟩, k9, k10⟩ := HKC.out _ HW.out; clear ho6 hb6))
        all_goals go_wp2_with fail
        all_goals go_meet
        all_goals
          obtain ⟨vs', n1, n2, n3⟩ := HEND.out _ _ _ HW.out HO7.out
          first
            | exact ⟨some ⟨B, ok, none⟩, vs', by rw [show T - ok - sz = 0 by omega], fun h => absurd (hmore.out h) (by omega), n1, n2, n3⟩
            | exact ⟨_, vs', rfl, fun _ => rfl, n1, n2, n3⟩
      case rest =>
        obtain ⟨ar', vs', rfl, har', hS', hO', hL'⟩ := hcut
        obtain ⟨ax, cx, hvx, hox⟩ := hS'.out.row pk (by have := hpk.out; omega)
        have hgx : (outTo b pd (k + 1)).getD pk [] = b.part pd k := by
          have := outTo_get b pd hkm
          rw [HPP.out, hpk.out] at this; exact this
        rw [hgx, HPT.out, hsz.out] at hvx hox
        have hcx : wc.cell? ⟨G0, pk, none⟩ = some (.slice ax sz cx) := by rw [World.ownsRow.cellAt hS'.out.out pk (by omega), hvx]
        have HROW : Hid (Row .u8 wc ax sz cx (b.part pd k)) := hox.row.toRow (fun v hv => WalkArith.wf_u8 (b.part_byt hpdb.out k v hv))
        have HFW : Hid (∀ w0, Row .u8 w0 ax sz cx (b.part pd k) → Calls Try.prog 25 #[.agg #[.slice (some ⟨g, 0, none⟩) nn cap, .int .i64 (P : Int), .int .i64 (lo : Int)], .slice ax sz cx] w0 fun e w' => ∃ g', e = .returned (.slice (some ⟨g', 0, none⟩) lo lo) ∧ Hid (Own w' w0.heap.size 5 1 (some ⟨g', 0, none⟩) lo lo ((fillC lo (b.part pd k)).map (.int .u8))) ∧ Below w0.heap.size w0 w') := by
          intro w0 hr
          have := filledW b g cap ax sz cx (b.part pd k) w0 hr (by rw [HLO.out]; exact hszl)
          unfold blkV at this
          rw [HPP.out, HMM.out, hnm, HLO.out] at this
          exact this
        have hszc : B1 ≤ wc.heap.size := by have := hL'.out.size; have := hB1.out; omega
        have hG0c : G0 < wc.heap.size := by omega
        have HBXc := Lib.hid (HBX4.out.below hL'.out (by omega))
        have f0 : wc.cell? ⟨h0, 0, none⟩ = some (.slice (some ⟨g, 0, none⟩) nn cap) := HBXc.out.cell 0
        have f1 : wc.cell? ⟨h0, 1, none⟩ = some (.int .i64 (P : Int)) := HBXc.out.cell 1
        have f2 : wc.cell? ⟨h0, 2, none⟩ = some (.int .i64 (lo : Int)) := HBXc.out.cell 2
        have HBYT : Hid (Byt (fillC lo (b.part pd k))) := fillC_byt (b.part_byt hpdb.out k)
        clear hvx hox hgx e0 e1 e2
        go_upto_region 12 with fail
        have HWD : Hid (Below wc.heap.size wc wc.drew) := (Below.refl _ wc).drew
        have w9 : IntKind.i64.wrap ((pk : Int) + 1) = ((P + (k + 1) : Nat) : Int) := by have := hpk.out; rw [IntWalk.i64_in _ (by omega)]; omega
        go_region_law (first
          | (go_simp; go_at_call 25; refine (HFW.out _ (HROW.out.drewN 1)).mono ?_; rintro e w7 ⟨g7, rfl, ho7, hb7⟩; have hb7' := HWD.out.trans hb7; have HB7 := Lib.hid hb7'; have O7 := Lib.hid (hO'.out.below hb7'); have HR7 := Lib.hid (ho7.out.row.toRow (fun v hv => WalkArith.wf_u8 (HBYT.out v hv))); have hg7 := World.ownsRow.lt ho7.out g7 rfl; have hg7a : wc.heap.size ≤ g7 := hg7.1; have hg7b : g7 < w7.heap.size := hg7.2; have hno : Hid ((Value.slice aw k cw).ownBlock ≠ some g7) := (fun e => (by have := (hO'.out.lt g7 e).2; omega)); have hBr7 : B1 ≤ w7.heap.size := (by omega); have f0' := (hb7'.cell (p := ⟨h0, 0, none⟩) (by show h0 < _; omega)).trans f0; have f1' := (hb7'.cell (p := ⟨h0, 1, none⟩) (by show h0 < _; omega)).trans f1; have f2' := (hb7'.cell (p := ⟨h0, 2, none⟩) (by show h0 < _; omega)).trans f2; have hcx' := (hb7'.cell (p := ⟨G0, pk, none⟩) hG0c).trans hcx; clear ho7 hb7 hb7' hg7)
          | (refine step_append_one (L := (Lay.int .u8).slice) (wr := w7) rfl (.tmp 63) (.tmp 70) 46 rfl B1 22 _ 24 Try.underlying46 info_bytes rfl (fun b => B1 ≤ b) aw k cw _ rfl O7.out #[.slice (some ⟨g7, 0, none⟩) lo lo] (fillC lo (b.part pd k)) rfl (fun b => b = g7) ⟨_, _, _, rfl, Row.toS HR7.out (fun x hx _ => by cases hx; rfl)⟩ (fun b h => by subst h; exact ⟨by omega, hg7b, hno.out⟩) (by unfold maxLen; omega) (by omega) hBr7 ?_; intro a8 c8 w8 hown8 hg8; have HO8 := Lib.hid hown8; have HG8 := Lib.hid hg8; clear hown8 hg8))
        all_goals go_wp2_with fail
        all_goals
          have hS8 : Sl w8 G0 G0 nn vs' (outTo b pd (k + 1)) := (hS'.out.below HB7.out).grown HG8.out (fun e => by have := (O7.out.lt G0 e).1; omega) (fun b' hb' => by
            obtain ⟨_, vss, F, ho, _, _⟩ := O7.out
            exact own_kind ho b' hb')
          have hL8 : Below G0 w4 w8 := O7.out.grown (hL'.out.trans (HB7.out.mono (by omega))) (by omega) (by omega) HG8.out
          have ho8 : b.off (k + 1) = ok + sz := by rw [hoff.out, hok.out, hsz.out]
          have hpk' := hpk.out
          refine ⟨⟨k + 1, ar', a8, c8, vs', by omega, by push_cast; rfl, ?_, ?_, rfl, ?_, hS8, hL8⟩, ?_⟩
          · rw [ho8, show T - (ok + sz) = T - ok - sz by omega]
          · rw [ho8]; exact har'
          · show SOwn _ _ _ _ _ _ _ _ _
            rw [parts_take b pd hkm, HLO.out]
            exact HO8.out
          · simp [intOf]; omega
    · obtain rfl : k = mm := by omega
      have htk : (b.parts pd).take k = b.parts pd := by rw [List.take_of_length_le (by rw [b.parts_len, HMM.out]; exact Nat.le_refl _)]
      rw [htk] at hO
      have HENC : Hid (∀ w0, SRow (Lay.int .u8).slice w0 (fun _ => True) aw k cw (b.parts pd) → Calls Try.prog 26 #[.slice aw k cw, .int .i64 (P : Int)] w0 (EncPost (b.parts pd) lo P w0)) := by
        intro w0 h0
        have hc := b.parts_cols (pd := pd) (by rw [hpdl.out]; show T = b.off b.m; rw [HMM.out, hBT.out])
        rw [HLO.out] at hc
        exact encodeP aw k cw (b.parts pd) lo P w0 h0 hc ⟨h3, h4⟩
      have HSR : Hid (SRow (Lay.int .u8).slice wr (fun _ => True) aw k cw (b.parts pd)) := (hO.out.row (fun b hb => hb)).keep (fun _ _ => trivial) (fun _ _ _ => rfl)
      go_upto_region 14 with (go_at_call 26; refine (HENC.out _ HSR.out).mono ?_; rintro e w5 ⟨a5, c5, rfl, hO5, hB5⟩)
      obtain ⟨hol, hob⟩ := own_box (hS.out.below hB5.out).out
      have hvl := hS.out.vl
      obtain ⟨hel, vss, F5, ho5, hp5, hF5⟩ := hO5.out
      have hel' : (encAll (b.parts pd) lo P).length = P := hel
      have hcl : vss.flatten.length = P := by have := ho5.row.hlen; rw [this]; show P * 1 = P; omega
      have hvssl : vss.length = P := by rw [← hp5.1]; exact hel'
      obtain ⟨pa, hpa⟩ : ∃ pa, a5 = some pa := by
        rcases ho5.form with ⟨_, hz, _⟩ | ⟨g', cur, hg', _⟩
        · omega
        · exact ⟨_, hg'⟩
      subst hpa
      have HSRC : Hid (∀ j v, vss.flatten[j]? = some v → w5.cell? (pa.add j) = some v) := by
        rcases ho5.row.hat with hz | ⟨b', off, hpa, hc⟩
        · have : P * 1 = 0 := hz
          omega
        · obtain rfl : pa = ⟨b', off, none⟩ := by simpa using hpa
          intro j v hv
          have hjl : j < vss.flatten.length := (List.getElem?_eq_some_iff.1 hv).1
          have hadd : (⟨b', off, none⟩ : Addr).add j = ⟨b', off + j, none⟩ := by unfold Addr.add; split <;> simp_all
          rw [hadd, hc j (by show j < P * 1; omega), hv]
      have HC1 : Hid (∀ v ∈ vss.flatten, v.oneCell' = true) := hp5.one
      have HOL := Lib.hid hol
      have HCL := Lib.hid hcl
      have HVL := Lib.hid hvl
      have hB5s : G0 < w5.heap.size := by have := hB5.out.size; omega
      have hPn : P ≤ nn := by omega
      clear hol hcl hvl
      go_wp2_with (refine wpList_copy_front rfl (.tmp 78) (.tmp 79) 46 46 rfl 22 Try.underlying46 (by kernel_rfl) G0 nn 22 vs rfl HOL.out HVL.out pa P c5 vss.flatten rfl HCL.out hPn HSRC.out HC1.out ?_; intro w6 hb6 hg6; have HB6 := Lib.hid hb6; have HG6 := Lib.hid hg6; clear hb6 hg6)
      go_ret2
      have hfin : Below w.heap.size w w6 := by
        have h1 := HBW4.out
        have h2 := hL.out.trans (hB5.out.mono (by omega : G0 ≤ wr.heap.size))
        have h3 : Below G0 w4 w6 := h2.grown HG6.out (by omega) (fun r hr => by have e : G0 = r := (by simpa using hr); omega)
        exact h1.trans (h3.mono (by omega))
      refine ⟨some ⟨G0, 0, none⟩, nn, rfl, ?_, hfin⟩
      show SRow _ _ _ _ _ _ _
      rw [HPD.out]
      refine srow_box (vs := vss.flatten ++ vs.drop P) HB6.out (by simp [HCL.out, HVL.out]; omega) (by unfold maxLen; omega) (by simp) (fun i hi => ?_)
      have hgi : ((List.range nn).map (b.col pd)).getD i [] = b.col pd i := by simp [List.getD, hi]
      rw [hgi]
      by_cases hiP : i < P
      · have hv : i < vss.length := by omega
        obtain ⟨a', l', c', e, hr⟩ := hp5.2 i _ _ (List.getElem?_eq_getElem (show i < (encAll (b.parts pd) lo P).length by omega)) (List.getElem?_eq_getElem hv)
        refine ⟨a', l', c', ?_, ?_⟩
        · rw [List.getElem?_append_left (by rw [HCL.out]; exact hiP)]
          have := flatten_at 1 vss hp5.sizes i 0 (by decide)
          rw [Nat.mul_one, Nat.add_zero, List.getElem?_eq_getElem hv] at this
          rw [this, e]; rfl
        · have hcol : b.col pd i = (encAll (b.parts pd) lo P)[i]'(by omega) := by
            unfold Blk.col
            rw [HPP.out, if_pos hiP, HLO.out, ← b.parts_len pd]
            simp [encAll]
          rw [hcol]
          exact hr.keep (fun _ _ => trivial) (fun b' hb' hlt => HG6.out.block b' hlt (fun e => by
            have h1 := (hF5 b' hb').1
            have h2 : b' = G0 := by simpa using e
            omega))
      · obtain ⟨a', c', h1, h2⟩ := hS.out.row i hi
        have hcol : (outTo b pd k).getD i [] = b.col pd i := by
          have h3 := outTo_all b pd (i := i) (by rw [HPP.out]; omega) (by rw [HPP.out, HMM.out]; omega)
          rw [HMM.out] at h3
          rw [h3]
          unfold Blk.col
          rw [if_neg (by rw [HPP.out]; exact hiP)]
        rw [hcol] at h1 h2
        refine ⟨a', (b.col pd i).length, c', ?_, ?_⟩
        · rw [List.getElem?_append_right (by rw [HCL.out]; omega), HCL.out, List.getElem?_drop, show P + (i - P) = i by omega, h1]
        · have ho6 : Own w6 0 5 1 a' (b.col pd i).length c' ((b.col pd i).map (.int .u8)) := (h2.below hB5.out).grownOther HG6.out (fun r hr e => (hS.out.below hB5.out).ne (h2.below hB5.out) (by rw [hr]; exact e))
          exact (ho6.row.toRow (fun v hv => WalkArith.wf_u8 (b.col_byt hpdb.out i v hv))).toS (fun _ _ _ => trivial)
end Go.Proofs.Ytkjaddiagembaaa
