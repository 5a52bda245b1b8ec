/- Texts that belong together: GaB, GaE, GaH. -/
import Derived.Test.YtkjaddiagembaaaZ20
import Derived.Test.YtkjaddiagembaaaZ21
/- The laws' own Block, padded. -/
namespace Go.Proofs.Ytkjaddiagembaaa
open Go.RowKit
set_option linter.unusedVariables false
set_option maxRecDepth 100000

def blockB (xs : List Int) (n : Nat) : List Int := if xs = [] then [7] else xs.take n
theorem blockB_len (xs : List Int) (n : Nat) (hn : 1 ≤ n) : 1 ≤ (blockB xs n).length ∧ (blockB xs n).length ≤ n := by
  unfold blockB
  split
  · simp; omega
  · rename_i h
    have : 0 < xs.length := List.length_pos_iff.2 h
    rw [List.length_take]; omega
theorem ones8 (l : List Int) : ∀ u ∈ l.map (Value.int .u8), u.oneCell' = true := fun u hu => by obtain ⟨x, _, rfl⟩ := List.mem_map.1 hu; rfl
theorem Row.takeB {k : IntKind} {w : World} {b off len cap : Nat} {xs : List Int} (h : Row k w (some ⟨b, off, none⟩) len cap xs) (m : Nat) (hm : m ≤ len) : Row k w (some ⟨b, off, none⟩) m cap (xs.take m) := by
  have hl := h.hlen
  refine ⟨by rw [List.length_take]; omega, by have := h.hle; omega, h.hmax, h.hnil, fun x hx => h.hwf x (List.mem_of_mem_take hx), ?_⟩
  rcases h.hat with h0 | ⟨b', off', e, hc⟩
  · exact .inl (by omega)
  · refine .inr ⟨b', off', e, fun i hi => ?_⟩
    rw [hc i (by omega)]
    congr 2
    rw [List.getD_eq_getElem?_getD, List.getD_eq_getElem?_getD, List.getElem?_take, if_pos hi]
set_option maxHeartbeats 4000000 in
theorem blockW (a : Option Addr) (len cap : Nat) (xs : List Int) (n : Nat) (w : World) (h : Row .u8 w a len cap xs) (hn : 0 < n) (hn2 : n ≤ 4096) :
    Calls Try.prog 9 #[.slice a len cap, .int .i64 n] w fun e w' => ∃ a' c', e = .returned (.slice a' (blockB xs n).length c') ∧ Hid (Own w' w.heap.size 5 1 a' (blockB xs n).length c' ((blockB xs n).map (.int .u8))) ∧ Below w.heap.size w w' := by
  have hl := h.hlen
  have hle := h.hle
  have hmx := h.hmax
  unfold maxLen at hmx
  by_cases h0 : len = 0
  · subst h0
    have hx : blockB xs n = [7] := by unfold blockB; rw [if_pos (List.eq_nil_of_length_eq_zero hl)]
    rw [hx]
    have T : Hid (Own (w.alloc (.cells #[.int .u8 7] 5)) w.heap.size 5 1 (some ⟨w.heap.size, 0, none⟩) 1 1 ([7].map (.int .u8))) :=
      box_own (Box.new rfl) (Nat.le_refl _) rfl (by unfold maxLen; omega)
    have HB := Below_alloc1 (wr := w) (.cells #[.int .u8 7] 5)
    clear h hx
    go_enter Try.func9, Try.ntmps9
    go_wp2_with fail
    go_ret
    exact ⟨some ⟨w.heap.size, 0, none⟩, 1, rfl, T, HB⟩
  · obtain ⟨b, off, rfl⟩ : ∃ b off, a = some ⟨b, off, none⟩ := by
      rcases h.hat with h1 | ⟨b, off, e, _⟩
      · exact absurd h1 h0
      · exact ⟨b, off, e⟩
    obtain ⟨m, hm⟩ : ∃ m, min len n = m := ⟨_, rfl⟩
    have hx : blockB xs n = xs.take m := by
      unfold blockB
      rw [if_neg (by intro e; rw [e] at hl; simp at hl; omega)]
      by_cases hc : n ≤ len
      · rw [show m = n by omega]
      · rw [show m = len by omega, List.take_of_length_le (l := xs) (i := n) (by omega), List.take_of_length_le (by omega)]
    rw [hx]
    have hR := h.takeB m (by omega)
    have hlm : (xs.take m).length = m := hR.hlen
    rw [hlm]
    have HV : Hid (VRow w 1 (some ⟨b, off, none⟩) m cap ((xs.take m).map (.int .u8))) := hR.toV
    have hz : ((len : Int) == 0) = false := by simp; omega
    have hmc : (m : Int) ≤ (cap : Int) := by omega
    have hm0 : (0 : Int) ≤ (m : Int) := by omega
    have hml : m ≤ 4096 := by omega
    by_cases hc : n < len
    · have q1 : (n : Int) < (len : Int) := by omega
      have q2 : ¬ ((len : Int) ≤ (n : Int)) := by omega
      obtain rfl : m = n := by omega
      clear h hR hx hm hl h0 hc hlm
      go_enter Try.func9, Try.ntmps9
      go_wp2_with (at_builtin; refine wpList_append_any rfl (.const (.slice none 0 0)) (.tmp 14) 22 rfl w.heap.size 5 _ 1 1 Try.underlying22 info_u8 rfl (by decide) none 0 0 [] rfl (Own.nil _ _ _ _) (some ⟨b, off, none⟩) m cap _ rfl HV.out (ones8 _) (by unfold maxLen; omega) (by omega) (Nat.le_refl _) ?_; intro a2 c2 w2 T2 G2; have T3 := Lib.hid T2; rw [Nat.zero_add, List.nil_append] at T3; have G3 := Lib.hid G2; clear T2 G2; rw [Nat.zero_add])
      go_ret
      rw [List.map_take] at T3
      exact ⟨a2, c2, rfl, T3, Own.grown (Own.nil w w.heap.size 5 1) (Below.refl _ _) (Nat.le_refl _) (Nat.le_refl _) G3.out⟩
    · have q1 : ¬ ((n : Int) < (len : Int)) := by omega
      have q2 : (len : Int) ≤ (n : Int) := by omega
      obtain rfl : m = len := by omega
      clear h hR hx hm hl h0 hc hlm
      go_enter Try.func9, Try.ntmps9
      go_wp2_with (at_builtin; refine wpList_append_any rfl (.const (.slice none 0 0)) (.tmp 14) 22 rfl w.heap.size 5 _ 1 1 Try.underlying22 info_u8 rfl (by decide) none 0 0 [] rfl (Own.nil _ _ _ _) (some ⟨b, off, none⟩) m cap _ rfl HV.out (ones8 _) (by unfold maxLen; omega) (by omega) (Nat.le_refl _) ?_; intro a2 c2 w2 T2 G2; have T3 := Lib.hid T2; rw [Nat.zero_add, List.nil_append] at T3; have G3 := Lib.hid G2; clear T2 G2; rw [Nat.zero_add])
      go_ret
      rw [List.map_take] at T3
      exact ⟨a2, c2, rfl, T3, Own.grown (Own.nil w w.heap.size 5 1) (Below.refl _ _) (Nat.le_refl _) (Nat.le_refl _) G3.out⟩
end Go.Proofs.Ytkjaddiagembaaa
/- The laws' own padded. -/
namespace Go.Proofs.Ytkjaddiagembaaa
open Go.RowKit
set_option linter.unusedVariables false
set_option maxRecDepth 100000

def lenS : Value → Nat | .slice _ n _ => n | _ => 0
def padTo (xs : List Int) (i : Nat) : List Int := xs ++ List.replicate i 0
theorem padTo_succ (xs : List Int) (i : Nat) : padTo xs (i + 1) = padTo xs i ++ [0] := by unfold padTo; rw [List.replicate_succ', List.append_assoc]
set_option maxHeartbeats 4000000 in
theorem paddedW (a : Option Addr) (n cap : Nat) (xs : List Int) (C : Nat) (w : World) (h : Row .u8 w a n cap xs) (hn : n ≤ 4096) (hC : C = (n + 127) / 128) :
    Calls Try.prog 15 #[.slice a n cap] w fun e w' => ∃ a' c', e = .returned (.slice a' (C * 128) c') ∧ Hid (Own w' w.heap.size 5 1 a' (C * 128) c' ((padB C xs).map (.int .u8))) ∧ Below w.heap.size w w' := by
  have hl := h.hlen
  have hle := h.hle
  have hmx := h.hmax
  unfold maxLen at hmx
  obtain ⟨L, hL⟩ : ∃ L, C * 128 = L := ⟨_, rfl⟩
  have hLn : n ≤ L := by omega
  have hLn2 : L ≤ n + 127 := by omega
  have hL8 : L % 128 = 0 := by omega
  have HPB : Hid (padTo xs (L - n) = padB C xs) := by show padTo _ _ = _; unfold padTo padB fillC; rw [hL, hl]
  rw [hL]
  have HL := Lib.hid hL
  have HV : Hid (VRow w 1 a n cap (xs.map (.int .u8))) := h.toV
  have HLen := Lib.hid hl
  obtain ⟨B, hB⟩ : ∃ B, w.heap.size = B := ⟨_, rfl⟩
  rw [hB]
  have HB := Lib.hid hB
  clear h hl hL hC
  go_enter Try.func15, Try.ntmps15
  go_wp2_with (at_builtin; refine wpList_append_any rfl (.const (.slice none 0 0)) (.tmp 4) 22 rfl B 5 _ 1 1 Try.underlying22 info_u8 rfl (by decide) none 0 0 [] rfl (Own.nil _ _ _ _) a n cap _ rfl HV.out (ones8 _) (by unfold maxLen; omega) (by omega) (by omega) ?_; intro a2 c2 w2 T2 G2; have T3 := Lib.hid T2; rw [Nat.zero_add, List.nil_append] at T3; have G3 := Lib.hid G2; clear T2 G2; rw [Nat.zero_add])
  have B2 : Hid (Below B w w2) := Own.grown (Own.nil w B 5 1) (Below.refl _ _) (Nat.le_refl _) (by omega) G3.out
  have T0 : Hid (Own w2 B 5 1 a2 (n + 0) c2 ((padTo xs 0).map (.int .u8))) := by simpa [padTo] using T3
  clear T3 G3
  go_loopw [3] (fun ov wr => ∃ (i : Nat) (ao : Option Addr) (co : Nat), n + i ≤ L ∧ ov = .slice ao (n + i) co ∧ Hid (Own wr B 5 1 ao (n + i) co ((padTo xs i).map (.int .u8))) ∧ Hid (Below B w wr)) (fun ov _ => L - lenS ov)
  case atStart => exact ⟨0, _, _, hLn, rfl, T0, B2⟩
  case round =>
    obtain ⟨i, ao, co, hi, rfl, hO, hW⟩ := hrel
    have hBr : B ≤ wr.heap.size := by have := hW.out.size; have := HB.out; omega
    by_cases hd : n + i = L
    · have m1 : ((n : Int) + (i : Int)) % 128 = 0 := by omega
      have m0 : (((n : Int) + (i : Int)) % 128 != 0) = false := by rw [m1]; rfl
      have hpb : padTo xs i = padB C xs := by rw [← HPB.out]; congr 1; omega
      have HF : Hid (Own wr B 5 1 ao L co ((padB C xs).map (.int .u8))) := by show Own _ _ _ _ _ _ _ _; rw [← hpb, ← hd]; exact hO.out
      clear hO m1
      go_wp2_with fail
      go_ret
      exact ⟨ao, co, by rw [← hd]; rfl, HF, hW.out⟩
    · have m1 : ((n : Int) + (i : Int)) % 128 ≠ 0 := by omega
      have m0 : (((n : Int) + (i : Int)) % 128 != 0) = true := by simpa using m1
      have hO1 : Hid (Own (wr.alloc (.cells #[.int .u8 0] 5)) B 5 1 ao (n + i) co ((padTo xs i).map (.int .u8))) := (show Own _ _ _ _ _ _ _ _ from hO.out).alloc _
      have hV1 : Hid (VRow (wr.alloc (.cells #[.int .u8 0] 5)) 1 (some ⟨wr.heap.size, 0, none⟩) 1 1 ([0].map (.int .u8))) :=
        Own.row (base := B) (e := 5) (box_own (Box.new rfl) hBr rfl (by unfold maxLen; omega))
      have hB1 : Hid (Below B w (wr.alloc (.cells #[.int .u8 0] 5))) := hW.out.alloc (by omega) _
      have hs1 : B ≤ (wr.alloc (.cells #[.int .u8 0] 5)).heap.size := by rw [World.size_alloc]; omega
      have hB0 : B ≤ w.heap.size := by have := HB.out; omega
      clear hO m1
      go_wp2_with (at_builtin; refine wpList_append_any rfl (.tmp 10) (.tmp 11) 22 rfl B 5 _ 1 1 Try.underlying22 info_u8 rfl (by decide) ao (n + i) co _ rfl hO1.out (some ⟨wr.heap.size, 0, none⟩) 1 1 _ rfl hV1.out (ones8 _) (by unfold maxLen; omega) (by omega) hs1 ?_; intro a3 c3 w3 T3 G3; rw [← List.map_append, ← padTo_succ] at T3; have T4 := Lib.hid T3; have G4 := Lib.hid (Own.grown hO1.out hB1.out (Nat.le_refl _) hs1 G3); clear T3 G3)
      refine ⟨⟨i + 1, a3, c3, by omega, rfl, T4, G4⟩, ?_⟩
      simp [lenS]; omega
end Go.Proofs.Ytkjaddiagembaaa
/- The laws' own laid. -/
namespace Go.Proofs.Ytkjaddiagembaaa
open Go.RowKit
set_option linter.unusedVariables false
set_option maxRecDepth 100000

theorem info_piece : (Try.prog.info? 35).map (fun i => (i.zero, i.size, i.bytes)) = some (some (.agg #[.bool false, .slice none 0 0]), pcL.size, 32) := by kernel_rfl
def pieces (b : Blk) (pd : List Int) (n : Nat) : List (Bool × List Int) := (List.range n).map fun c => (false, b.col pd c)
theorem pieces_succ (b : Blk) (pd : List Int) (n : Nat) : pieces b pd (n + 1) = pieces b pd n ++ [(false, b.col pd n)] := by simp [pieces, List.range_succ]
def sumF (xs : List Int) : Four := Four.zero.words (wordsOf xs)
def SumV (s : Four) (cs : Array Value) : Prop := ∃ a b c d, s = ⟨a, b, c, d⟩ ∧ cs = #[.int .i64 a, .int .i64 b, .int .i64 c, .int .i64 d]
/-- A row among rows: its parts. -/
theorem sliceRow {w : World} {F : Nat → Prop} {a : Option Addr} {len cap : Nat} {xs : List (List Int)} (h : SRow (Lay.int .u8).slice w F a len cap xs) (i : Nat) (x : List Int) (hx : xs[i]? = some x) :
    ∃ b off ad nd cd, a = some ⟨b, off, none⟩ ∧ b < w.heap.size ∧ i < len ∧ w.cell? ⟨b, off + i, none⟩ = some (.slice ad nd cd) ∧ Row .u8 w ad nd cd x := by
  have hi : i < len := by have := (List.getElem?_eq_some_iff.1 hx).1; have := h.1; omega
  obtain ⟨b, off, vs, ha, _, hb, hv, hc⟩ := h.get i hi
  obtain ⟨ad, nd, cd, rfl, hd⟩ := hv x hx
  exact ⟨b, off, ad, nd, cd, ha, hb, hi, by have := hc 0 (by decide); simpa [Lay.slice] using this, hd.toRow⟩
theorem Row.lt8 {k : IntKind} {w : World} {a : Option Addr} {len cap : Nat} {xs : List Int} (h : Row k w a len cap xs) : ∀ x, a = some x → 0 < len → x.block < w.heap.size := by
  intro x hx h0
  rcases h.hat with h1 | ⟨b, off, ha, hc⟩
  · omega
  · obtain rfl : x = ⟨b, off, none⟩ := by rw [ha] at hx; injection hx with hx; exact hx.symm
    exact World.block_lt_of_cell? _ _ (hc 0 h0)
theorem Row.notInts {w : World} {a : Option Addr} {len cap : Nat} {xs : List Int} (h : Row .u8 w a len cap xs) {g : Nat} {p q r s : Int} {t : TypeId} (hb : Box w g #[.int .i64 p, .int .i64 q, .int .i64 r, .int .i64 s] t) : ∀ x, a = some x → 0 < len → x.block ≠ g := by
  intro x hx h0 e
  rcases h.hat with h1 | ⟨b, off, ha, hc⟩
  · omega
  · obtain rfl : x = ⟨b, off, none⟩ := by rw [ha] at hx; injection hx with hx; exact hx.symm
    obtain rfl : b = g := e
    have h2 := hc 0 h0
    have h3 := hb.cell (off + 0)
    rw [h2] at h3
    have h4 : off + 0 < 4 := by
      by_cases h5 : off + 0 < 4
      · exact h5
      · rw [Array.getElem?_eq_none (by simp; omega)] at h3; cases h3
    have : off = 0 ∨ off = 1 ∨ off = 2 ∨ off = 3 := by omega
    rcases this with rfl | rfl | rfl | rfl <;> simp at h3
set_option maxHeartbeats 8000000 in
theorem laidW (D P a n C : Nat) (b : Blk) (hb : IsBlk b D P C) (h1 : 2 ≤ D) (h2 : D ≤ 8) (h3 : 1 ≤ P) (h4 : P ≤ 3) (h5 : P < D) (h6 : 1 ≤ n) (h7 : n ≤ 1024) (h8 : a ≤ 65536) (hC : C = (n + 127) / 128) (ad : Option Addr) (cd : Nat) (data : List Int) (w : World) (hd : Row .u8 w ad n cd data) :
    Calls Try.prog 10 #[.int .i64 (D : Int), .int .i64 (P : Int), .int .i64 (a : Int), .slice ad n cd] w fun e w' => ∃ a' c' s, e = .returned (.tuple #[.slice a' (b.p + b.m) c', .agg s, .bool true]) ∧ Hid (SumV (sumF (padB C data)) s) ∧ Hid (SOwn pcL w' w.heap.size 35 (fun _ => True) a' (b.p + b.m) c' (pieces b (padB C data) (b.p + b.m))) ∧ Below w.heap.size w w' := by
  have HLW : Hid (∀ w0, Row .u8 w0 ad n cd data → _) := fun w0 h0 => layW D P a n C b hb h1 h2 h3 h4 h5 h6 h7 h8 hC ad cd data w0 h0
  have HPW : Hid (∀ w0, Row .u8 w0 ad n cd data → _) := fun w0 h0 => paddedW ad n cd data C w0 h0 (by omega) hC
  have hpp := hb.p
  have hm1 := b.h2.1
  have hn8 : b.p + b.m ≤ 8 := b.h2.2
  obtain ⟨nn, hnn⟩ : ∃ nn, b.p + b.m = nn := ⟨_, rfl⟩
  rw [hnn] at HLW hn8 ⊢
  obtain ⟨pd, hpd⟩ : ∃ pd, padB C data = pd := ⟨_, rfl⟩
  rw [hpd] at HLW HPW ⊢
  have hPn : P < nn := by omega
  have HPD : Hid (∀ v ∈ pd, (Lit.int .u8 v).wf = true) := by
    show ∀ v ∈ pd, _
    intro v hv
    rw [← hpd] at hv
    exact WalkArith.wf_u8 (fillC_byt (fun v hv => byte_range (hd.hwf v hv)) v hv)
  have HB := Lib.hid hb
  have hC8 : C ≤ 8 := by omega
  obtain ⟨T, hT⟩ : ∃ T, C * 128 = T := ⟨_, rfl⟩
  rw [hT] at HPW
  have hT4 : T % 4 = 0 := by omega
  have hT1 : T ≤ 1024 := by omega
  have HD := Lib.hid hd
  clear hd hb hT hC hpp hm1 hpd
  obtain ⟨H, hH⟩ : ∃ H, w.heap.size = H := ⟨_, rfl⟩
  rw [hH]
  have HH := Lib.hid hH
  have BX0 : Hid (Box (w.alloc (.cells #[.int .i64 0, .int .i64 0, .int .i64 0, .int .i64 0] 30)) H #[.int .i64 0, .int .i64 0, .int .i64 0, .int .i64 0] 30) := by show Box _ _ _ _; rw [← hH]; exact Box.new rfl
  have L0 : Hid (Below H w (w.alloc (.cells #[.int .i64 0, .int .i64 0, .int .i64 0, .int .i64 0] 30))) := by show Below _ _ _; rw [← hH]; exact Below_alloc1 _
  have hs0 : H < (w.alloc (.cells #[.int .i64 0, .int .i64 0, .int .i64 0, .int .i64 0] 30)).heap.size := by rw [World.size_alloc]; omega
  have HD0 : Hid (Row .u8 (w.alloc (.cells #[.int .i64 0, .int .i64 0, .int .i64 0, .int .i64 0] 30)) ad n cd data) := HD.out.below (Below_alloc1 _)
  clear hH
  go_enter Try.func10, Try.ntmps10
  go_wp2_with fail
  rw [HH.out]
  generalize hV0 : (w.alloc (.cells #[.int .i64 0, .int .i64 0, .int .i64 0, .int .i64 0] 30)) = V0 at *
  refine (HLW.out _ HD0.out).mono ?_; rintro e w1 ⟨a1, c1, rfl, R1, B1⟩
  have LB1 := Lib.hid B1
  have BX1 : Hid (Box w1 H #[.int .i64 0, .int .i64 0, .int .i64 0, .int .i64 0] 30) := BX0.out.below B1 hs0
  have HD1 : Hid (Row .u8 w1 ad n cd data) := HD0.out.below B1
  have L1 : Hid (Below H w w1) := L0.out.trans (B1.mono (by omega))
  have hs1 : H < w1.heap.size := by have := B1.size; omega
  clear BX0 HD0 L0 B1 LB1 hV0
  go_wp2_with fail
  refine (HPW.out _ HD1.out).mono ?_; rintro e w2 ⟨a2, c2, rfl, O2, B2⟩
  have HR2 : Hid (Row .u8 w2 a2 T c2 pd) := O2.out.row.toRow HPD.out
  have BX2 : Hid (Box w2 H #[.int .i64 0, .int .i64 0, .int .i64 0, .int .i64 0] 30) := BX1.out.below B2 hs1
  have L2 : Hid (Below H w w2) := L1.out.trans (B2.mono (by omega))
  have hs2 : H < w2.heap.size := by have := B2.size; omega
  have R2 := Lib.hid (R1.out.below B2)
  clear BX1 HD1 L1 B2 O2 R1
  go_wp2_with fail
  refine (of_bytes a2 T c2 pd w2 HR2.out hT4).mono ?_; rintro e w3 ⟨sa, sb, sc, sd, HS, rfl, B3⟩
  have BX3 : Hid (Box w3 H #[.int .i64 0, .int .i64 0, .int .i64 0, .int .i64 0] 30) := BX2.out.below B3 hs2
  have L3 : Hid (Below H w w3) := L2.out.trans (B3.mono (by omega))
  have hs3 : H < w3.heap.size := by have := B3.size; omega
  have R3 := Lib.hid (R2.out.below B3)
  clear BX2 L2 R2 B3 HR2
  have ci : ¬ ((nn : Int) ≤ (P : Int)) := by omega
  have ci2 : decide ((nn : Int) ≤ (P : Int)) = false := by simp; omega
  have ci4 : decide (nn ≤ P) = false := by simp; omega
  go_wp2_with (refine wpList_store_box rfl 30 (.tmp 13) (.tmp 29) rfl w3.heap.size #[.int .i64 sa, .int .i64 sb, .int .i64 sc, .int .i64 sd] rfl rfl 30 _ (Box.new rfl) (by kernel_rfl) rfl rfl ?_; intro w4 BX4 G4; have BX4 := Lib.hid BX4; have G4 := Lib.hid G4)
  have HS4 : Hid (w3.heap.size < w4.heap.size) := BX4.out.lt
  have B4 : Below w3.heap.size w3 w4 := (Below_alloc1 _).grown G4.out (by rw [World.size_alloc]; omega) (fun k hk => by injection hk with hk; omega)
  have BX5 : Hid (Box w4 H #[.int .i64 0, .int .i64 0, .int .i64 0, .int .i64 0] 30) := BX3.out.below B4 hs3
  have L4 : Hid (Below H w w4) := L3.out.trans (B4.mono (by omega))
  have R4 := Lib.hid (R3.out.below B4)
  obtain ⟨S, hS⟩ : ∃ S, w3.heap.size = S := ⟨_, rfl⟩
  rw [hS] at BX4 HS4 hs3 ⊢
  have hSM := HS4.out
  obtain ⟨M, hM⟩ : ∃ M, Hid (w4.heap.size = M) := ⟨_, rfl⟩
  have hSM2 : S < M := by have := hM.out; omega
  clear BX3 L3 R3 B4 hS HS4 G4 hSM
  have S0 : Hid (SOwn pcL w4 M 35 (fun b => b ≠ H) none 0 0 (pieces b pd 0)) := SOwn.nil ..
  go_loopw [15, 16] (fun ov cv wr => ∃ (k : Nat) (ao : Option Addr) (co : Nat), k ≤ nn ∧ cv = .int .i64 (k : Int) ∧ ov = .slice ao k co ∧ Hid (SOwn pcL wr M 35 (fun b => b ≠ H) ao k co (pieces b pd k)) ∧ Hid (Below M w4 wr)) (fun _ cv _ => nn - (intOf cv).toNat)
  case atStart => exact ⟨0, none, 0, Nat.zero_le _, rfl, rfl, S0, Below.refl _ _⟩
  case round =>
    obtain ⟨k, ao, co, hk, rfl, rfl, hO, hL⟩ := hrel
    have hMr : M ≤ wr.heap.size := by have := hL.out.size; have := hM.out; omega
    by_cases hlt : k < nn
    · have ci3 : (k : Int) < (nn : Int) := by omega
      obtain ⟨b1, o1, ax, nx, cx, rfl, hb1, _, hc1, hrow⟩ := sliceRow R4.out k (b.col pd k) (by simp [hlt])
      have hb1M : b1 < M := by have := hM.out; omega
      have hc1' : wr.cell? ⟨b1, o1 + k, none⟩ = some (.slice ax nx cx) := (hL.out.cell (p := ⟨b1, o1 + k, none⟩) hb1M).trans hc1
      have HX : Hid (SRow (Lay.int .u8) wr (fun b => b < M ∧ b ≠ H) ax nx cx (b.col pd k)) := Row.toS (hrow.below (hM.out.symm ▸ hL.out)) (fun x hx h0 => ⟨hM.out ▸ hrow.lt8 x hx h0, hrow.notInts BX5.out x hx h0⟩)
      have HNO : Hid (∀ b', b' < M → (Value.slice ao k co).ownBlock ≠ some b') := fun b' hb' e => (by have := (hO.out.lt b' e).1; omega)
      clear hc1 hrow hb1 hb1M
      go_wp2_with (at_builtin; refine wpList_append_one (L := pcL) rfl (.tmp 50) (.tmp 56) 28 rfl M 35 _ 32 Try.underlying28 info_piece rfl (fun b => b ≠ H) ao k co _ rfl hO.out #[.bool false, .slice ax nx cx] (false, b.col pd k) rfl (fun b => b < M ∧ b ≠ H) ⟨[.bool false], [.slice ax nx cx], rfl, rfl, ax, nx, cx, rfl, HX.out⟩ (fun b' hb' => ⟨hb'.2, Nat.lt_of_lt_of_le hb'.1 hMr, HNO.out b' hb'.1⟩) (by unfold maxLen; omega) (by omega) hMr ?_; intro a5 c5 w5 O5 G5; rw [← pieces_succ] at O5; have L5 := Lib.hid (hO.out.grown hL.out (Nat.le_refl _) hMr G5); have O6 := Lib.hid O5; clear O5 G5)
      go_roundw
      case rel =>
        exact ⟨k + 1, a5, c5, by omega, by push_cast; rfl, rfl, O6, L5⟩
      case measure => simp [intOf]; omega
    · obtain rfl : k = nn := by omega
      have hHM : H < M := by omega
      have BXH : Hid (Box wr H #[.int .i64 0, .int .i64 0, .int .i64 0, .int .i64 0] 30) := BX5.out.below hL.out hHM
      have BXS : Hid (Box wr S #[.int .i64 sa, .int .i64 sb, .int .i64 sc, .int .i64 sd] 30) := BX4.out.below hL.out hSM2
      have LW : Hid (Below H w wr) := L4.out.trans (hL.out.mono (by omega))
      have s0 := BXS.out.cell 0
      have s1 := BXS.out.cell 1
      have s2 := BXS.out.cell 2
      have s3 := BXS.out.cell 3
      have t0 := BXH.out.cell 0
      have t1 := BXH.out.cell 1
      have t2 := BXH.out.cell 2
      have t3 := BXH.out.cell 3
      have f0 := BXH.out.free 0
      have f1 := BXH.out.free 1
      have f2 := BXH.out.free 2
      have f3 := BXH.out.free 3
      clear BX4 BX5 L4 R4
      go_upto_region 10 with fail
      go_region
      have HBS := Lib.hid ((((BXH.out.set 0 (.int .i64 sa)).set 1 (.int .i64 sb)).set 2 (.int .i64 sc)).set 3 (.int .i64 sd))
      have LS := Lib.hid ((((LW.out.setCell (p := ⟨H, 0, none⟩) (Nat.le_refl _) (.int .i64 sa)).setCell (p := ⟨H, 1, none⟩) (Nat.le_refl _) (.int .i64 sb)).setCell (p := ⟨H, 2, none⟩) (Nat.le_refl _) (.int .i64 sc)).setCell (p := ⟨H, 3, none⟩) (Nat.le_refl _) (.int .i64 sd)).drew
      have RS := Lib.hid ((hO.out.keep (w' := ((((wr.setCell ⟨H, 0, none⟩ (.int .i64 sa)).setCell ⟨H, 1, none⟩ (.int .i64 sb)).setCell ⟨H, 2, none⟩ (.int .i64 sc)).setCell ⟨H, 3, none⟩ (.int .i64 sd)).drew) (by show wr.heap.size ≤ ((((wr.setCell _ _).setCell _ _).setCell _ _).setCell _ _).heap.size; simp [World.setCell]) (fun b' _ hb' => (by
          have hbH : b' ≠ H := by rcases hb' with h | h; · exact h
                                  · omega
          exact (Below.heap_setCell _ _ _ _ hbH).trans ((Below.heap_setCell _ _ _ _ hbH).trans ((Below.heap_setCell _ _ _ _ hbH).trans (Below.heap_setCell _ _ _ _ hbH)))))).mono (show H ≤ M by omega) (fun _ _ => trivial))
      have HSV : Hid (SumV (sumF pd) #[.int .i64 sa, .int .i64 sb, .int .i64 sc, .int .i64 sd]) := ⟨sa, sb, sc, sd, HS.out, rfl⟩
      clear s0 s1 s2 s3 t0 t1 t2 t3 f0 f1 f2 f3
      go_wp2_with fail
      generalize (((wr.setCell ⟨H, 0, none⟩ (.int .i64 sa)).setCell ⟨H, 1, none⟩ (.int .i64 sb)).setCell ⟨H, 2, none⟩ (.int .i64 sc)).setCell ⟨H, 3, none⟩ (.int .i64 sd) = W at *
      have q0 : W.cell? ⟨H, 0, none⟩ = some (.int .i64 sa) := HBS.out.cell 0
      have q1 : W.cell? ⟨H, 1, none⟩ = some (.int .i64 sb) := HBS.out.cell 1
      have q2 : W.cell? ⟨H, 2, none⟩ = some (.int .i64 sc) := HBS.out.cell 2
      have q3 : W.cell? ⟨H, 3, none⟩ = some (.int .i64 sd) := HBS.out.cell 3
      refine bodyPost_ret (by simp [results, Try.results10, go_sem, q0, q1, q2, q3]) rfl ⟨ao, co, _, rfl, HSV, RS, LS.out⟩
end Go.Proofs.Ytkjaddiagembaaa
