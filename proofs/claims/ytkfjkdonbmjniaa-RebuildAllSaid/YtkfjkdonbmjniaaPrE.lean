/- The walk of package par: encode, May, Encode. -/
import Derived.Test.YtkfjkdonbmjniaaPrT
namespace Go.Proofs.Ytkfjkdonbmjniaa
open Go.RowKit
set_option linter.unusedVariables false
set_option maxRecDepth 100000

theorem nest_get {w : World} {F : Nat → Prop} {a : Option Addr} {len cap : Nat} {L : List (List Int)} (h : SRow (Lay.int .u8).slice w F a len cap L) (i : Nat) (hi : i < len) :
    ∃ b off a' l' c', a = some ⟨b, off, none⟩ ∧ b < w.heap.size ∧ w.cell? ⟨b, off + i, none⟩ = some (.slice a' l' c') ∧ Row .u8 w a' l' c' (L.getD i []) := by
  obtain ⟨b, off, vs, rfl, _, hb, hx, hc⟩ := h.get i hi
  have hl : i < L.length := by rw [h.1]; exact hi
  obtain ⟨a', l', c', rfl, hr⟩ := hx _ (List.getElem?_eq_getElem hl)
  refine ⟨b, off, a', l', c', rfl, hb, ?_, ?_⟩
  · have := hc 0 (by decide)
    simpa [Lay.slice] using this
  · rw [show L.getD i [] = L[i] by simp [List.getD, hl]]
    exact hr.toRow
/-- A parity column, of whose data columns the first n have been added. -/
def encN (D : List (List Int)) (size j : Nat) : Nat → List Int
  | 0 => List.replicate size 0
  | n + 1 => mixN (twos (n * j)) (encN D size j n) (D.getD n []) size
theorem encN_length (D : List (List Int)) (size j : Nat) : ∀ n, (encN D size j n).length = size
  | 0 => by simp [encN]
  | n + 1 => by unfold encN; rw [mixN_length, encN_length]
theorem encN_byt (D : List (List Int)) (size j : Nat) : ∀ n, Byt (encN D size j n)
  | 0 => by intro v hv; rw [List.eq_of_mem_replicate hv]; omega
  | n + 1 => by unfold encN; exact mixN_byt (twos_lt _) (encN_byt D size j n) size
/-- Data columns that may be: all of one length. -/
def Cols (D : List (List Int)) (size : Nat) : Prop := 1 ≤ D.length ∧ D.length ≤ 12 ∧ size ≤ 4096 ∧ ∀ c ∈ D, c.length = size
theorem Cols.get {D : List (List Int)} {size : Nat} (h : Cols D size) (i : Nat) (hi : i < D.length) : (D.getD i []).length = size := by
  rw [show D.getD i [] = D[i] by simp [List.getD, hi]]; exact h.2.2.2 _ (List.getElem_mem hi)
theorem info_byte : (Try.prog.info? 5).map (fun i => (i.zero, i.size, i.bytes)) = some (some (.int .u8 0), 1, 1) := by kernel_rfl
def Made (v : List Int) (w : World) (e : Ending) (w' : World) : Prop := ∃ g c, e = .returned (.slice (some ⟨g, 0, none⟩) v.length c) ∧ Hid (Own w' w.heap.size 5 1 (some ⟨g, 0, none⟩) v.length c (v.map (.int .u8))) ∧ Hid (Below w.heap.size w w')
set_option maxHeartbeats 2000000 in
theorem encode (a : Option Addr) (len cap : Nat) (D : List (List Int)) (size : Nat) (j : Nat) (w : World) {F : Nat → Prop} (h : SRow (Lay.int .u8).slice w F a len cap D) (hc : Cols D size) (hj : j ≤ 3) :
    Calls Try.prog 52 #[.slice a len cap, .int .i64 j] w (Made (encN D size j D.length) w) := by
  have hDl := h.1
  have hmx := h.hmax
  have hle := h.hle
  unfold maxLen at hmx
  obtain ⟨hc1, hc12, hcs, hcl⟩ := hc
  have hcg := fun i hi => Cols.get ⟨hc1, hc12, hcs, hcl⟩ i hi
  have HS := Lib.hid h
  obtain ⟨b, off, a0, l0, c0, rfl, hb, hcell, hr0⟩ := nest_get h 0 (by omega)
  have hl0 : l0 = size := by rw [← hr0.hlen]; exact hcg 0 (by omega)
  subst hl0
  have hm0 := hr0.hmax
  unfold maxLen at hm0
  rw [Nat.add_zero] at hcell
  clear h hcl hr0
  obtain ⟨B, hB⟩ : ∃ B, Hid (w.heap.size = B) := ⟨_, rfl⟩
  go_enter Try.func52, Try.ntmps52
  go_wp2_with (refine wpList_make_zeros rfl _ _ 45 rfl 5 _ 1 Try.underlying45 info_byte rfl _ _ _ _ l0 rfl rfl rfl rfl (by omega) (by unfold maxLen; omega) ?_)
  intro w1 ho hle1
  rw [hB.out] at ho hle1 ⊢
  have O1 := Lib.hid ho
  have L1 := Lib.hid hle1
  clear ho hle1
  go_wp2_with fail
  go_loopw [15] (fun i wr => ∃ n : Nat, n ≤ len ∧ i = .int .i64 n ∧ Hid (Own wr B 5 1 (some ⟨B, 0, none⟩) l0 l0 ((encN D l0 j n).map (.int .u8))) ∧ Hid (Below B w wr)) (fun i _ => len - (intOf i).toNat)
  case atStart => exact ⟨0, by omega, rfl, by rw [show (encN D l0 j 0).map (Value.int .u8) = List.replicate l0 (Value.int .u8 0) by simp [encN]]; exact O1, L1⟩
  case round =>
    obtain ⟨n, hn, rfl, hO, hL⟩ := hrel
    by_cases hlt : n < len
    · obtain ⟨b', off', a1, l1, c1, heq, _, hcell1, hr1⟩ := nest_get HS.out n hlt
      injection heq with heq; injection heq with e1 e2
      subst e1 e2
      have hl1 : l1 = l0 := by rw [← hr1.hlen]; exact hcg n (by omega)
      subst hl1
      have e1 : wr.cell? ⟨b, off + n, none⟩ = some (.slice a1 l1 c1) := (hL.out.cell (p := ⟨b, off + n, none⟩) (by show b < B; rw [← hB.out]; exact hb)).trans hcell1
      have HR : Hid (∀ w', Below B w w' → Row .u8 w' a1 l1 c1 (D.getD n [])) := fun w' hl => hr1.below (by rw [hB.out]; exact hl)
      have hlen := encN_length D l1 j n
      have hbyt := encN_byt D l1 j n
      have htw := twos_lt (n * j)
      have hsz := hL.out.size
      have hBr : B ≤ wr.heap.size := by have := hB.out; omega
      clear hr1 hcell1
      go_wp2_with fail
      refine (factor j n wr hj (by omega)).mono ?_
      rintro e w2 ⟨rfl, hle2⟩
      have O2 := Lib.hid (hO.out.below hle2)
      have L2 : Hid (Below B w w2) := hL.out.trans (hle2.mono hBr)
      have hBr2 : B ≤ w2.heap.size := by have := hle2.size; omega
      clear hle2
      go_wp2_with fail
      refine (mix B l1 l1 (encN D l1 j n) a1 l1 c1 (D.getD n []) (twos (n * j)) w2 B O2.out hBr2 (fun w' hl => HR.out w' (L2.out.trans hl)) (Nat.le_refl _) (by omega) hbyt).mono ?_
      rintro e w3 ⟨rfl, ho3, hle3⟩
      have O3 : Hid (Own w3 B 5 1 (some ⟨B, 0, none⟩) l1 l1 ((encN D l1 j (n + 1)).map (.int .u8))) := ho3
      have L3 : Hid (Below B w w3) := L2.out.trans hle3
      clear ho3 hle3 O2 L2
      go_wp2_with fail
      go_roundw
      case rel => exact ⟨n + 1, by omega, by go_num, O3, L3⟩
      case measure => simp [intOf]; omega
    · obtain rfl : n = len := by omega
      go_wp2_with fail
      go_ret
      have hl := encN_length D l0 j D.length
      refine ⟨B, l0, by rw [hl]; rfl, ?_, by rw [hB.out]; exact hL⟩
      rw [hl, hB.out, hDl]
      exact hO
set_option maxHeartbeats 1000000 in
theorem even1 (a : Option Addr) (size cap : Nat) (gl b off len cap0 : Nat) (a0 : Option Addr) (c0 : Nat) (w : World) (h1 : w.cell? ⟨gl, 0, none⟩ = some (.slice (some ⟨b, off, none⟩) len cap0)) (h2 : w.cell? ⟨b, off, none⟩ = some (.slice a0 size c0)) (hs : size ≤ 4096) (hl : 1 ≤ len) :
    Calls Try.prog 67 #[.slice a size cap, .pointer (some ⟨gl, 0, none⟩)] w fun e w' => e = .returned (.bool false) ∧ w = w' := by
  have s1 : ((size : Int) != (size : Int)) = false := by simp
  have s2 : decide ((4096 : Int) < (size : Int)) = false := decide_eq_false (by omega)
  go_enter Try.func67, Try.ntmps67
  go_wp2_with fail
  go_ret
  first | exact ⟨rfl, rfl⟩ | exact ⟨rfl, trivial⟩
set_option maxHeartbeats 1000000 in
theorem index_even (a : Option Addr) (len cap : Nat) (D : List (List Int)) (size gl : Nat) (w : World) {F : Nat → Prop} (h : SRow (Lay.int .u8).slice w F a len cap D) (hc : Cols D size) (hg : w.cell? ⟨gl, 0, none⟩ = some (.slice a len cap)) :
    Calls Try.prog 72 #[.slice a len cap, .func (.func 67) #[] #[.pointer (some ⟨gl, 0, none⟩)]] w fun e w' => e = .returned (.int .i64 (-1)) ∧ w = w' := by
  have hDl := h.1
  have hmx := h.hmax
  have hle := h.hle
  unfold maxLen at hmx
  obtain ⟨hc1, hc12, hcs, hcl⟩ := hc
  have hcg := fun i hi => Cols.get ⟨hc1, hc12, hcs, hcl⟩ i hi
  have HS := Lib.hid h
  obtain ⟨b, off, a0, l0, c0, rfl, hb, hcell, hr0⟩ := nest_get h 0 (by omega)
  have hl0 : l0 = size := by rw [← hr0.hlen]; exact hcg 0 (by omega)
  subst hl0
  rw [Nat.add_zero] at hcell
  clear h hcl hr0
  go_enter Try.func72, Try.ntmps72
  go_wp2_with fail
  go_loopw [8] (fun i wr => ∃ n : Nat, n ≤ len ∧ i = .int .i64 n ∧ w = wr) (fun i _ => len - (intOf i).toNat)
  case atStart => exact ⟨0, by omega, rfl, rfl⟩
  case round =>
    obtain ⟨n, hn, rfl, rfl⟩ := hrel
    by_cases hlt : n < len
    · obtain ⟨b', off', a1, l1, c1, heq, _, hcell1, hr1⟩ := nest_get HS.out n hlt
      injection heq with heq; injection heq with e1 e2
      subst e1 e2
      have hl1 : l1 = l0 := by rw [← hr1.hlen]; exact hcg n (by omega)
      subst hl1
      clear hr1
      go_wp2_with fail
      refine (even1 a1 l1 c1 gl b off len cap a0 c0 w hg hcell hcs (by omega)).mono ?_
      rintro e w2 ⟨rfl, rfl⟩
      go_wp2_with fail
      go_roundw
      case rel => first | exact ⟨n + 1, by omega, by go_num, rfl⟩ | exact ⟨n + 1, by omega, by go_num, trivial⟩
      case measure => simp [intOf]; omega
    · go_wp2_with fail
      go_ret
      first | exact ⟨rfl, rfl⟩ | exact ⟨rfl, trivial⟩
set_option maxHeartbeats 1000000 in
theorem even (a : Option Addr) (len cap : Nat) (D : List (List Int)) (size : Nat) (w : World) {F : Nat → Prop} (h : SRow (Lay.int .u8).slice w F a len cap D) (hc : Cols D size) :
    Calls Try.prog 53 #[.slice a len cap] w fun e w' => e = .returned (.bool true) ∧ Below w.heap.size w w' := by
  have c0 : (w.alloc (.cells #[.slice a len cap] 46)).cell? ⟨w.heap.size, 0, none⟩ = some (.slice a len cap) := (Box.new rfl).cell 0
  have HS := Lib.hid (h.below (Below_alloc1 (.cells #[.slice a len cap] 46)))
  clear h
  go_enter Try.func53, Try.ntmps53
  go_wp2_with (go_at_call 66; go_in)
  refine (index_even a len cap D size w.heap.size _ HS.out hc c0).mono ?_
  rintro e w2 ⟨rfl, rfl⟩
  go_wp2_with fail
  go_ret
  exact ⟨rfl, Below_alloc1 _⟩
set_option maxHeartbeats 1000000 in
theorem mayP (a : Option Addr) (len cap : Nat) (D : List (List Int)) (size : Nat) (w : World) {F : Nat → Prop} (h : SRow (Lay.int .u8).slice w F a len cap D) (hc : Cols D size) :
    Calls Try.prog 34 #[.slice a len cap] w fun e w' => e = .returned (.bool true) ∧ Below w.heap.size w w' := by
  have h1 : 1 ≤ len := by rw [← h.1]; exact hc.1
  have h2 : len ≤ 12 := by rw [← h.1]; exact hc.2.1
  have hmx := h.hmax
  unfold maxLen at hmx
  have HS := Lib.hid h
  have HC := Lib.hid hc
  clear h hc
  go_enter Try.func34, Try.ntmps34
  go_wp2_with fail
  refine (even a len cap D size w HS.out HC.out).mono ?_
  rintro e w2 ⟨rfl, hle⟩
  go_wp2_with fail
  go_ret
  exact ⟨rfl, hle⟩
theorem someP (p : Int) (w : World) (h : 1 ≤ p ∧ p ≤ 3) : Calls Try.prog 51 #[.int .i64 p] w fun e w' => e = .returned (.bool true) ∧ w = w' := by
  obtain ⟨h1, h2⟩ := h
  go_enter Try.func51, Try.ntmps51
  go_wp2_with fail
  go_ret
  first | exact ⟨rfl, rfl⟩ | exact ⟨rfl, trivial⟩
theorem info_bytes : (Try.prog.info? 45).map (fun i => (i.zero, i.size, i.bytes)) = some (some (.slice none 0 0), 1, 24) := by kernel_rfl
/-- The parity columns. -/
def encAll (D : List (List Int)) (size n : Nat) : List (List Int) := (List.range n).map fun j => encN D size j D.length
theorem encAll_succ (D : List (List Int)) (size n : Nat) : encAll D size (n + 1) = encAll D size n ++ [encN D size n D.length] := by simp [encAll, List.range_succ]
def EncPost (D : List (List Int)) (size p : Nat) (w : World) (e : Ending) (w' : World) : Prop :=
  ∃ a c, e = .returned (.tuple #[.slice a p c, .int .i64 0]) ∧ Hid (SOwn (Lay.int .u8).slice w' w.heap.size 45 (fun b => w.heap.size ≤ b) a p c (encAll D size p)) ∧ Hid (Below w.heap.size w w')
set_option maxHeartbeats 2000000 in
theorem encodeP (a : Option Addr) (len cap : Nat) (D : List (List Int)) (size p : Nat) (w : World) {F : Nat → Prop} (h : SRow (Lay.int .u8).slice w F a len cap D) (hc : Cols D size) (hp : 1 ≤ p ∧ p ≤ 3) :
    Calls Try.prog 33 #[.slice a len cap, .int .i64 p] w (EncPost D size p w) := by
  have hmx := h.hmax
  unfold maxLen at hmx
  have HS := Lib.hid h
  have HC := Lib.hid hc
  clear h hc
  obtain ⟨hp1, hp3⟩ := hp
  obtain ⟨B, hB⟩ : ∃ B, Hid (w.heap.size = B) := ⟨_, rfl⟩
  go_enter Try.func33, Try.ntmps33
  go_wp2_with fail
  refine (mayP a len cap D size w HS.out HC.out).mono ?_
  rintro e w1 ⟨rfl, hle⟩
  have L1 : Hid (Below B w w1) := by rw [← hB.out]; exact hle
  clear hle
  go_wp2_with fail
  refine (someP p w1 ⟨by omega, by omega⟩).mono ?_
  rintro e w2 ⟨rfl, rfl⟩
  go_wp2_with fail
  go_loopw [6, 15] (fun ov i wr => ∃ (n : Nat) (ao : Option Addr) (co : Nat), n ≤ p ∧ i = .int .i64 n ∧ ov = .slice ao n co ∧ Hid (SOwn (Lay.int .u8).slice wr B 45 (fun b => B ≤ b) ao n co (encAll D size n)) ∧ Hid (Below B w wr)) (fun _ i _ => p - (intOf i).toNat)
  case atStart => exact ⟨0, none, 0, by omega, rfl, rfl, SOwn.nil .., L1⟩
  case round =>
    obtain ⟨n, ao, co, hn, rfl, rfl, hO, hL⟩ := hrel
    by_cases hlt : n < p
    · have hBr : B ≤ wr.heap.size := by have := hL.out.size; have := hB.out; omega
      go_wp2_with fail
      refine (encode a len cap D size n wr (HS.out.below (by rw [hB.out]; exact hL.out)) HC.out (by omega)).mono ?_
      rintro e w3 ⟨g, c, rfl, hown, hle⟩
      have hlen := encN_length D size n D.length
      have hbyt := encN_byt D size n D.length
      rw [hlen] at hown
      have L3 : Hid (Below B w w3) := hL.out.trans (hle.out.mono hBr)
      have O3 := Lib.hid (hO.out.below hle.out)
      have hgw := (World.ownsRow.lt hown.out g rfl)
      have hno : Hid ((Value.slice ao n co).ownBlock ≠ some g) := fun e => by have := (hO.out.lt g e).2; omega
      have HR := Lib.hid (hown.out.row.toRow (fun v hv => WalkArith.wf_u8 (hbyt v hv)))
      have hBr3 : B ≤ w3.heap.size := by have := hle.out.size; omega
      clear hown hle hO
      rw [hlen]
      go_wp2_with (at_builtin; refine wpList_append_one (L := (Lay.int .u8).slice) rfl (.tmp 18) (.tmp 22) 46 rfl B 45 _ 24 Try.underlying46 info_bytes rfl (fun b => B ≤ b) ao n co _ rfl O3.out #[.slice (some ⟨g, 0, none⟩) size c] (encN D size n D.length) rfl (fun b => b = g) ⟨_, _, _, rfl, Row.toS HR.out (fun x hx _ => by cases hx; rfl)⟩ (fun b h => by subst h; exact ⟨by omega, hgw.2, hno.out⟩) (by unfold maxLen; omega) (by omega) hBr3 ?_)
      intro a5 c5 w5 hown5 hg5
      have L5 : Hid (Below B w w5) := O3.out.grown L3.out (Nat.le_refl _) hBr3 hg5
      rw [← encAll_succ] at hown5
      have O5 := Lib.hid hown5
      clear hown5 hg5 O3 L3 HR hno
      go_wp2_with fail
      go_roundw
      case rel => exact ⟨n + 1, a5, c5, by omega, by go_num, rfl, O5, L5⟩
      case measure => simp [intOf]; omega
    · obtain rfl : n = p := by omega
      go_wp2_with fail
      go_ret2
      exact ⟨ao, co, rfl, by rw [hB.out]; exact hO, by rw [hB.out]; exact hL⟩
end Go.Proofs.Ytkfjkdonbmjniaa
