/- Texts that belong together: RbA, RbB, RbC, Open, PrO. -/
import Derived.Deep.CutBlock
import Derived.Deep.Slices
import Derived.Deep.Fields
import Derived.ChangeSame
import Derived.Test.YtkjaddiagembaaaZ5
import Derived.Test.YtkjaddiagembaaaZ3
/- Package par: even of more columns, left, refused; what Several counts. -/
namespace Go.Proofs.Ytkjaddiagembaaa
open Go.RowKit
set_option linter.unusedVariables false
set_option maxRecDepth 100000

/-- Columns all of one length, however many. -/
def Evn (D : List (List Int)) (size : Nat) : Prop := 1 ≤ D.length ∧ size ≤ 4096 ∧ ∀ c ∈ D, c.length = size
theorem Evn.get {D : List (List Int)} {size : Nat} (h : Evn D size) (i : Nat) (hi : i < D.length) : (D.getD i []).length = size := by
  rw [show D.getD i [] = D[i] by simp [List.getD, hi]]; exact h.2.2 _ (List.getElem_mem hi)
set_option maxHeartbeats 1000000 in
theorem index_even2 (a : Option Addr) (len cap : Nat) (D : List (List Int)) (size gl : Nat) (w : World) {F : Nat → Prop} (h : SRow (Lay.int .u8).slice w F a len cap D) (hc : Evn D size) (hg : w.cell? ⟨gl, 0, none⟩ = some (.slice a len cap)) :
    Calls Try.prog 52 #[.slice a len cap, .func (.func 48) #[] #[.pointer (some ⟨gl, 0, none⟩)]] w fun e w' => e = .returned (.int .i64 (-1)) ∧ w = w' := by
  have hDl := h.1
  have hmx := h.hmax
  have hle := h.hle
  unfold maxLen at hmx
  obtain ⟨hc1, hcs, hcl⟩ := hc
  have hcg := fun i hi => Evn.get ⟨hc1, hcs, hcl⟩ i hi
  have HS := Lib.hid h
  obtain ⟨b, off, a0, l0, c0, rfl, hb, hcell, hr0⟩ := nest_get h 0 (by omega)
  have hl0 : l0 = size := by rw [← hr0.hlen]; exact hcg 0 (by omega)
  subst hl0
  rw [Nat.add_zero] at hcell
  clear h hcl hr0
  go_enter Try.func52, Try.ntmps52
  go_wp2_with fail
  go_loopw [8] (fun i wr => ∃ n : Nat, n ≤ len ∧ i = .int .i64 n ∧ w = wr) (fun i _ => len - (intOf i).toNat)
  case atStart => exact ⟨0, by omega, rfl, rfl⟩
  case round =>
    obtain ⟨n, hn, rfl, rfl⟩ := hrel
    by_cases hlt : n < len
    · obtain ⟨b', off', a1, l1, c1, heq, _, hcell1, hr1⟩ := nest_get HS.out n hlt
      injection heq with heq; injection heq with e1 e2
      subst e1 e2
      have hl1 : l1 = l0 := by rw [← hr1.hlen]; exact hcg n (by omega)
      subst hl1
      clear hr1
      go_wp2_with fail
      refine (even1 a1 l1 c1 gl b off len cap a0 c0 w hg hcell hcs (by omega)).mono ?_
      rintro e w2 ⟨rfl, rfl⟩
      go_wp2_with fail
      go_roundw
      case rel => first | exact ⟨n + 1, by omega, by go_num, rfl⟩ | exact ⟨n + 1, by omega, by go_num, trivial⟩
      case measure => simp [intOf]; omega
    · go_wp2_with fail
      go_ret
      first | exact ⟨rfl, rfl⟩ | exact ⟨rfl, trivial⟩
set_option maxHeartbeats 1000000 in
theorem even2 (a : Option Addr) (len cap : Nat) (D : List (List Int)) (size : Nat) (w : World) {F : Nat → Prop} (h : SRow (Lay.int .u8).slice w F a len cap D) (hc : Evn D size) :
    Calls Try.prog 42 #[.slice a len cap] w fun e w' => e = .returned (.bool true) ∧ Below w.heap.size w w' := by
  have c0 : (w.alloc (.cells #[.slice a len cap] 46)).cell? ⟨w.heap.size, 0, none⟩ = some (.slice a len cap) := (Box.new rfl).cell 0
  have HS := Lib.hid (h.below (Below_alloc1 (.cells #[.slice a len cap] 46)))
  clear h
  go_enter Try.func42, Try.ntmps42
  go_wp2_with (go_at_call 47; go_in)
  refine (index_even2 a len cap D size w.heap.size _ HS.out hc c0).mono ?_
  rintro e w2 ⟨rfl, rfl⟩
  go_wp2_with fail
  go_ret
  exact ⟨rfl, Below_alloc1 _⟩
/-- Those that were not lost, of the first n. -/
def leftN (D : List (List Int)) (hs : List Bool) : Nat → List (List Int)
  | 0 => []
  | n + 1 => if hs.getD n false then leftN D hs n else leftN D hs n ++ [D.getD n []]
theorem leftN_mem (D : List (List Int)) (hs : List Bool) : ∀ n, ∀ x ∈ leftN D hs n, ∃ i, i < n ∧ x = D.getD i []
  | 0, x, h => by cases h
  | n + 1, x, h => by
    unfold leftN at h
    split at h
    · obtain ⟨i, h1, h2⟩ := leftN_mem D hs n x h; exact ⟨i, by omega, h2⟩
    · rcases List.mem_append.1 h with h | h
      · obtain ⟨i, h1, h2⟩ := leftN_mem D hs n x h; exact ⟨i, by omega, h2⟩
      · exact ⟨n, by omega, List.mem_singleton.1 h⟩
theorem leftN_pos (D : List (List Int)) (hs : List Bool) : ∀ n i, i < n → hs.getD i false = false → 1 ≤ (leftN D hs n).length
  | 0, i, h, _ => absurd h (by omega)
  | n + 1, i, h, hf => by
    unfold leftN
    by_cases e : i = n
    · subst e; rw [if_neg (by rw [hf]; decide), List.length_append]; simp
    · have := leftN_pos D hs n i (by omega) hf
      split
      · exact this
      · rw [List.length_append]; omega
theorem leftN_len (D : List (List Int)) (hs : List Bool) : ∀ n, (leftN D hs n).length ≤ n
  | 0 => by simp [leftN]
  | n + 1 => by
    have := leftN_len D hs n
    unfold leftN
    split
    · omega
    · rw [List.length_append]; simp; omega
theorem leftN_evn {D : List (List Int)} {size : Nat} {hs : List Bool} (h : Evn D size) {i : Nat} (hi : i < D.length) (hf : hs.getD i false = false) : Evn (leftN D hs D.length) size :=
  ⟨leftN_pos D hs _ i hi hf, h.2.1, fun x hx => by
    obtain ⟨j, hj, rfl⟩ := leftN_mem D hs _ x hx
    exact h.get j hj⟩
theorem info_bytes2 : (Try.prog.info? 22).map (fun i => (i.zero, i.size, i.bytes)) = some (some (.slice none 0 0), 1, 24) := by kernel_rfl
def LeftPost (X : List (List Int)) (w : World) (e : Ending) (w' : World) : Prop := ∃ a l c, e = .returned (.slice a l c) ∧ Hid (SRow (Lay.int .u8).slice w' (fun _ => True) a l c X) ∧ Hid (Below w.heap.size w w')
set_option maxHeartbeats 2000000 in
theorem leftW (a : Option Addr) (len cap : Nat) (D : List (List Int)) (gg : Nat) (hs : List Bool) (w : World) {F : Nat → Prop} (h : SRow (Lay.int .u8).slice w F a len cap D) (hb : Box w gg (hs.map Value.bool).toArray 4) (hl : hs.length = len) (hlen : len ≤ 100) :
    Calls Try.prog 43 #[.slice a len cap, .slice (some ⟨gg, 0, none⟩) len len] w (LeftPost (leftN D hs len) w) := by
  obtain ⟨B, hB⟩ : ∃ B, Hid (w.heap.size = B) := ⟨_, rfl⟩
  have hDl := h.1
  have hmx := h.hmax
  have hle := h.hle
  unfold maxLen at hmx
  have HS := Lib.hid h
  have HB := Lib.hid hb
  clear h hb
  go_enter Try.func43, Try.ntmps43
  go_wp2_with fail
  go_loopw [5, 10] (fun ov iv wr => ∃ (i lo : Nat) (ao : Option Addr) (co : Nat), i ≤ len ∧ lo ≤ i ∧ iv = .int .i64 i ∧ ov = .slice ao lo co ∧ Hid (SOwn (Lay.int .u8).slice wr B 22 (fun b => b < B) ao lo co (leftN D hs i)) ∧ Hid (Below B w wr)) (fun _ iv _ => len - (intOf iv).toNat)
  case atStart => exact ⟨0, 0, none, 0, by omega, by omega, rfl, rfl, SOwn.nil .., Below.refl _ _⟩
  case round =>
    obtain ⟨i, lo, ao, co, hi, hlo, rfl, rfl, hO, hL⟩ := hrel
    have hBr : B ≤ wr.heap.size := by have := hL.out.size; have := hB.out; omega
    have hLw : Below w.heap.size w wr := by rw [hB.out]; exact hL.out
    by_cases hlt : i < len
    · have i1 : (i : Int) < (len : Int) := by omega
      obtain ⟨b, off, a1, l1, c1, rfl, hbl, hcell, hrow⟩ := nest_get HS.out i hlt
      have e1 : wr.cell? ⟨b, off + i, none⟩ = some (.slice a1 l1 c1) := (hLw.cell (World.block_lt_of_cell? _ _ hcell)).trans hcell
      have hBX := HB.out.below hLw HB.out.lt
      have e2 : wr.cell? ⟨gg, i, none⟩ = some (.bool (hs.getD i false)) := by
        rw [hBX.cell i]
        simp [List.getD, hl, hlt]
      obtain ⟨d, hd⟩ : ∃ d, D.getD i [] = d := ⟨_, rfl⟩
      rw [hd] at hrow
      have HDD := Lib.hid hd
      have hat : (Lay.int .u8).slice.at_ wr (fun b => b < B) d [.slice a1 l1 c1] := ⟨_, _, _, rfl, (hrow.below hLw).toS (fun x hx h0 => by
        rcases hrow.hat with h | ⟨b2, o2, h2, h3⟩
        · omega
        · rw [hx] at h2; injection h2 with h2; subst h2
          have := World.block_lt_of_cell? _ _ (h3 0 h0)
          show b2 < B
          have := hB.out
          simp at *; omega)⟩
      have HAT := Lib.hid hat
      have HF2 : Hid (∀ b, b < B → b < B ∧ b < wr.heap.size ∧ (Value.slice ao lo co).ownBlock ≠ some b) := fun b hb => ⟨hb, by omega, fun e => by have := (hO.out.lt b e).1; omega⟩
      clear hat hcell hrow hBX hLw hd
      cases hv : hs.getD i false with
      | true =>
        have hn : Hid (leftN D hs (i + 1) = leftN D hs i) := by show (if _ then _ else _) = _; rw [if_pos hv]
        rw [hv] at e2
        clear hv
        go_wp2_with fail
        go_roundw
        case rel => exact ⟨i + 1, lo, ao, co, by omega, by omega, by go_num, rfl, by rw [hn.out]; exact hO, hL⟩
        case measure => simp [intOf]; omega
      | false =>
        have hn : Hid (leftN D hs (i + 1) = leftN D hs i ++ [d]) := by show (if _ then _ else _) = _; rw [if_neg (by rw [hv]; decide), HDD.out]
        rw [hv] at e2
        clear hv
        go_wp2_with (at_builtin; refine wpList_append_one (L := (Lay.int .u8).slice) (wr := wr) rfl (.tmp 20) (.tmp 22) 46 rfl B 22 _ 24 Try.underlying46 info_bytes2 rfl (fun b => b < B) ao lo co _ rfl hO.out #[.slice a1 l1 c1] d rfl (fun b => b < B) HAT.out HF2.out (by unfold maxLen; omega) (by omega) hBr ?_)
        intro a5 c5 w5 hown5 hg5
        have L5 := Lib.hid (hO.out.grown hL.out (Nat.le_refl _) hBr hg5)
        have O5 := Lib.hid hown5
        clear hown5 hg5 hO hL HAT HF2
        go_wp2_with fail
        go_roundw
        case rel => exact ⟨i + 1, lo + 1, a5, c5, by omega, by omega, by go_num, rfl, by rw [hn.out]; exact O5, L5⟩
        case measure => simp [intOf]; omega
    · obtain rfl : i = len := by omega
      go_wp2_with fail
      go_ret
      exact ⟨_, _, _, rfl, hO.out.sRow, by show Below _ _ _; rw [hB.out]; exact hL.out⟩
/-- Numbers, marked. -/
def markB (hs : List Bool) (p : List Nat) : List Bool := p.foldl (fun hs x => hs.set x true) hs
theorem markB_length (hs : List Bool) (p : List Nat) : (markB hs p).length = hs.length := by
  induction p generalizing hs with
  | nil => rfl
  | cons x p ih => show (markB (hs.set x true) p).length = _; rw [ih]; simp
theorem markB_snoc (hs : List Bool) (p : List Nat) (x : Nat) : markB hs (p ++ [x]) = (markB hs p).set x true := by
  unfold markB; rw [List.foldl_append]; rfl
theorem markB_getD (hs : List Bool) (p : List Nat) (i : Nat) (h : ∀ x ∈ p, x < hs.length) : (markB hs p).getD i false = (hs.getD i false || decide (i ∈ p)) := by
  induction p generalizing hs with
  | nil => simp [markB]
  | cons x p ih =>
    show (markB (hs.set x true) p).getD i false = _
    rw [ih _ (fun y hy => by rw [List.length_set]; exact h y (List.mem_cons_of_mem _ hy))]
    have hx := h x (List.mem_cons_self ..)
    rw [List.getD, List.getElem?_set]
    by_cases e : x = i
    · subst e; simp [hx]
    · rw [if_neg e]
      have : (decide (i ∈ x :: p)) = decide (i ∈ p) := by
        congr 1; simp; omega
      rw [this]; rfl
theorem take_nats (p : List Nat) (k : Nat) (hk : k < p.length) : p.take (k + 1) = p.take k ++ [p.getD k 0] := by
  rw [List.take_succ_eq_append_getElem hk]; simp [List.getD, hk]
theorem nats_getD (p : List Nat) (k : Nat) : (nats p).getD k 0 = ((p.getD k 0 : Nat) : Int) := by
  unfold nats
  rw [List.getD, List.getElem?_map, List.getD]
  cases p[k]? <;> rfl
theorem mark_bools (hs : List Bool) (k : Nat) : (hs.map Value.bool).toArray.setIfInBounds k (.bool true) = ((hs.set k true).map Value.bool).toArray := by simp [List.map_set]
theorem zeros_box {w : World} {g n : Nat} (h : Own w g 4 1 (some ⟨g, 0, none⟩) n n (List.replicate n (Value.bool false))) : Box w g ((List.replicate n false).map Value.bool).toArray 4 := by
  have := h.box
  rwa [show List.replicate n (Value.bool false) = (List.replicate n false).map Value.bool by simp] at this
theorem info_bool2 : (Try.prog.info? 4).map (fun i => (i.zero, i.size, i.bytes)) = some (some (.bool false), 1, 1) := by kernel_rfl
set_option maxHeartbeats 4000000 in
theorem refusedW (a : Option Addr) (len cap : Nat) (D : List (List Int)) (size : Nat) (al : Option Addr) (ll cl : Nat) (p : List Nat) (code : Int) (w : World) {F : Nat → Prop} (h : SRow (Lay.int .u8).slice w F a len cap D) (hc : Evn D size) (hp : Row .i64 w al ll cl (nats p)) (hpl : ∀ x ∈ p, x < len) (hlen : len ≤ 100) (hex : ∃ i, i < len ∧ i ∉ p) :
    Calls Try.prog 41 #[.slice a len cap, .slice al ll cl, .int .i64 code] w fun e w' => e = .returned (.tuple #[.slice none 0 0, .int .i64 code]) ∧ Below w.heap.size w w' := by
  have hDl := h.1
  have hmx := h.hmax
  have hle := h.hle
  have hql := hp.hle
  have hqm := hp.hmax
  have hqn : p.length = ll := by have := hp.hlen; simpa [nats] using this
  unfold maxLen at hmx hqm
  have HS := Lib.hid h
  have HP := Lib.hid hp
  have HC := Lib.hid hc
  have HPL := Lib.hid hpl
  have HEX := Lib.hid hex
  clear h hp hc hpl hex
  go_enter Try.func41, Try.ntmps41
  go_wp2_with (refine wpList_make_zeros rfl _ _ 49 rfl 4 (.bool false) 1 Try.underlying49 info_bool2 rfl _ _ _ _ len rfl rfl rfl rfl (by omega) (by unfold maxLen; omega) ?_)
  intro w1 hoz hb1
  have B1 := Lib.hid (zeros_box hoz)
  obtain ⟨g, hg⟩ : ∃ g, Hid (w.heap.size = g) := ⟨_, rfl⟩
  rw [hg.out] at B1 ⊢
  have L1 := Lib.hid hb1
  clear hoz hb1
  go_wp2_with fail
  go_loopw [16] (fun iv wr => ∃ k : Nat, k ≤ ll ∧ iv = .int .i64 k ∧ Hid (Box wr g ((markB (List.replicate len false) (p.take k)).map Value.bool).toArray 4) ∧ Hid (Below w.heap.size w wr)) (fun iv _ => ll - (intOf iv).toNat)
  case atStart => exact ⟨0, by omega, rfl, B1, L1⟩
  case round =>
    obtain ⟨k, hk, rfl, hB, hL⟩ := hrel
    by_cases hlt : k < ll
    · have k1 : (k : Int) < (ll : Int) := by omega
      have hrow := HP.out.below hL.out
      obtain ⟨bl, ol, rfl, hcl⟩ : ∃ bl ol, al = some ⟨bl, ol, none⟩ ∧ ∀ t, t < ll → wr.cell? ⟨bl, ol + t, none⟩ = some (.int .i64 ((nats p).getD t 0)) := by
        rcases hrow.hat with h0 | h
        · omega
        · exact h
      have e0 := hcl k hlt
      rw [nats_getD] at e0
      obtain ⟨x, hx⟩ : ∃ x, p.getD k 0 = x := ⟨_, rfl⟩
      rw [hx] at e0
      have hxl : x < len := by
        rw [← hx]
        refine HPL.out _ ?_
        rw [show p.getD k 0 = p[k]'(by omega) by simp [List.getD, hqn, hlt]]
        exact List.getElem_mem _
      have hnext : Hid (markB (List.replicate len false) (p.take (k + 1)) = (markB (List.replicate len false) (p.take k)).set x true) := by
        show _ = _
        rw [take_nats p k (by omega), markB_snoc, hx]
      have hml : (markB (List.replicate len false) (p.take k)).length = len := by rw [markB_length]; simp
      have x1 : (x : Int) < (len : Int) := by omega
      obtain ⟨u, e1⟩ : ∃ u, wr.cell? ⟨g, x, none⟩ = some u := ⟨_, by
        rw [hB.out.cell x]
        exact Array.getElem?_eq_getElem (by simp [hml]; exact hxl)⟩
      have f1 : wr.frozen? ⟨g, x, none⟩ = false := hB.out.free x
      have BN := hB.out.set x (.bool true)
      rw [mark_bools] at BN
      have HBN := Lib.hid BN
      have LN := Lib.hid (hL.out.setCell (p := ⟨g, x, none⟩) (by rw [hg.out]; exact Nat.le_refl _) (.bool true))
      clear hcl hrow hx hml BN hB hL
      go_wp2_with fail
      go_roundw
      case rel => exact ⟨k + 1, by omega, by go_num, by rw [hnext.out]; exact HBN, LN⟩
      case measure => simp [intOf]; omega
    · obtain rfl : k = ll := by omega
      rw [List.take_of_length_le (by omega : p.length ≤ k)] at hB
      obtain ⟨hs, hhs⟩ : ∃ hs, Hid (markB (List.replicate len false) p = hs) := ⟨_, rfl⟩
      have hsl : hs.length = len := by rw [← hhs.out, markB_length]; simp
      rw [hhs.out] at hB
      have HE : Hid (Evn (leftN D hs len) size) := by
        obtain ⟨i, hi, hip⟩ := HEX.out
        have := leftN_evn (hs := hs) HC.out (i := i) (by rw [hDl]; exact hi) (by
          rw [← hhs.out, markB_getD _ _ _ (fun x hx => by simp; exact HPL.out x hx)]
          simp [hip, hi])
        rw [hDl] at this; exact this
      go_wp2_with fail
      refine (leftW a len cap D g hs wr (HS.out.below hL.out) hB.out hsl hlen).mono ?_
      rintro e w3 ⟨a3, l3, c3, rfl, hX, hb3⟩
      have L3 := Lib.hid (hL.out.trans (hb3.out.mono hL.out.size))
      clear hb3 hB hL
      go_wp2_with fail
      refine (even2 a3 l3 c3 _ size w3 hX.out HE.out).mono ?_
      rintro e w4 ⟨rfl, hb4⟩
      have L4 := Lib.hid (L3.out.trans (hb4.mono L3.out.size))
      clear hb4
      go_wp2_with fail
      go_ret2
      exact ⟨rfl, L4.out⟩
end Go.Proofs.Ytkjaddiagembaaa
/- Package par: Rebuild of too many; what Several counts; the law RebuildMany. -/
namespace Go.Proofs.Ytkjaddiagembaaa
open Go.RowKit
set_option linter.unusedVariables false
set_option maxRecDepth 100000

/-- How many of the first n are so. -/
def cntB (hs : List Bool) : Nat → Nat
  | 0 => 0
  | n + 1 => cntB hs n + if hs.getD n false then 1 else 0
theorem sevTo_count (hs : List Bool) : ∀ n, (sevTo hs n).length = cntB hs n
  | 0 => rfl
  | n + 1 => by
    rw [sevTo_succ, List.length_append, sevTo_count hs n]
    show _ = cntB hs n + if hs.getD n false then 1 else 0
    split <;> rfl
theorem cntB_set (hs : List Bool) (j : Nat) (hj : j < hs.length) (hf : hs.getD j false = false) : ∀ n, cntB (hs.set j true) n = cntB hs n + if j < n then 1 else 0
  | 0 => rfl
  | n + 1 => by
    show cntB (hs.set j true) n + (if (hs.set j true).getD n false then 1 else 0) = cntB hs n + (if hs.getD n false then 1 else 0) + _
    rw [cntB_set hs j hj hf n]
    have e : (hs.set j true).getD n false = if j = n then true else hs.getD n false := by
      rw [List.getD, List.getElem?_set]
      by_cases h : j = n
      · rw [if_pos h, if_pos hj, if_pos h]; rfl
      · rw [if_neg h, if_neg h]; rfl
    rw [e]
    by_cases h : j = n
    · subst h; rw [if_pos rfl, hf, if_pos rfl, if_neg (by omega), if_neg (by decide), if_pos (by omega)]
    · rw [if_neg h]
      by_cases h2 : j < n
      · have h3 : j < n + 1 := by omega
        rw [if_pos h2, if_pos h3]; omega
      · have h3 : ¬ j < n + 1 := by omega
        rw [if_neg h2, if_neg h3]; omega
theorem cntB_ge (hs : List Bool) (m : Nat) (h : ∀ k, k < m → hs.getD k false = true) : ∀ n, min m n ≤ cntB hs n
  | 0 => by simp
  | n + 1 => by
    have ih := cntB_ge hs m h n
    unfold cntB
    by_cases hn : n < m
    · rw [if_pos (h n hn)]; omega
    · omega
/-- What Several knows between two numbers. -/
def SevOk (n most : Nat) (st : List Bool × Nat) : Prop := st.1.length = n ∧ st.2 = cntB st.1 n ∧ st.2 ≤ most
theorem sevStep_ok {n most : Nat} (hn : 0 < n) {st : List Bool × Nat} (h : SevOk n most st) (x : Int) : SevOk n most (sevStep n most st x) ∧ (∀ k, st.1.getD k false = true → (sevStep n most st x).1.getD k false = true) ∧ ((sevStep n most st x).2 < most → (sevStep n most st x).1.getD (x % (n : Int)).toNat false = true) := by
  obtain ⟨h1, h2, h3⟩ := h
  have hx : (x % (n : Int)).toNat < n := by
    have a := Int.emod_nonneg x (b := (n : Int)) (by omega)
    have b := Int.emod_lt_of_pos x (b := (n : Int)) (by omega)
    omega
  unfold sevStep
  by_cases hm : st.2 < most
  · rw [if_pos hm]
    by_cases hv : st.1.getD (x % (n : Int)).toNat false = true
    · rw [if_pos hv]
      exact ⟨⟨h1, h2, h3⟩, fun k hk => hk, fun _ => hv⟩
    · have hv2 : st.1.getD (x % (n : Int)).toNat false = false := by simpa using hv
      rw [if_neg hv]
      have hset : ∀ k, (st.1.set (x % (n : Int)).toNat true).getD k false = if (x % (n : Int)).toNat = k then true else st.1.getD k false := fun k => by
        rw [List.getD, List.getElem?_set]
        by_cases h : (x % (n : Int)).toNat = k
        · rw [if_pos h, if_pos (by omega), if_pos h]; rfl
        · rw [if_neg h, if_neg h]; rfl
      refine ⟨⟨by rw [List.length_set]; exact h1, ?_, by show st.2 + 1 ≤ most; omega⟩, fun k hk => ?_, fun _ => ?_⟩
      · show st.2 + 1 = cntB (st.1.set _ true) n
        rw [cntB_set _ _ (by omega) hv2, if_pos hx, h2]
      · show (st.1.set _ true).getD k false = true
        rw [hset]; split
        · rfl
        · exact hk
      · show (st.1.set _ true).getD _ false = true
        rw [hset, if_pos rfl]
  · rw [if_neg hm]
    exact ⟨⟨h1, h2, h3⟩, fun k hk => hk, fun h => absurd h hm⟩
theorem sevFold_ok {n most : Nat} (hn : 0 < n) : ∀ (l : List Int) (st : List Bool × Nat), SevOk n most st → SevOk n most (l.foldl (sevStep n most) st) ∧ (∀ k, st.1.getD k false = true → (l.foldl (sevStep n most) st).1.getD k false = true) ∧ ((l.foldl (sevStep n most) st).2 < most → ∀ x ∈ l, (l.foldl (sevStep n most) st).1.getD (x % (n : Int)).toNat false = true)
  | [], st, h => ⟨h, fun k hk => hk, fun _ x hx => by cases hx⟩
  | y :: l, st, h => by
    obtain ⟨a1, a2, a3⟩ := sevStep_ok hn h y
    obtain ⟨b1, b2, b3⟩ := sevFold_ok hn l _ a1
    refine ⟨b1, fun k hk => b2 k (a2 k hk), fun hlt x hx => ?_⟩
    rcases List.mem_cons.1 hx with rfl | hx
    · refine b2 _ (a3 ?_)
      -- the count never falls
      refine Classical.byContradiction fun hge => ?_
      have := sevFold_full n most l _ hge
      rw [List.foldl_cons, this] at hlt
      exact hge hlt
    · exact b3 hlt x hx
theorem replicate_cnt (n : Nat) : ∀ m, cntB (List.replicate n false) m = 0
  | 0 => rfl
  | m + 1 => by
    unfold cntB
    rw [replicate_cnt n m]
    have : (List.replicate n false).getD m false = false := by
      rw [List.getD, List.getElem?_replicate]; split <;> rfl
    rw [this]; rfl
theorem several_length {n most : Nat} (hn : 0 < n) (l : List Int) (m : Nat) (hm : m ≤ n) (hmost : most ≤ m) (h : ∀ k : Nat, k < m → (k : Int) ∈ l) : (several l most n).length = most := by
  have h0 : SevOk n most (List.replicate n false, 0) := ⟨List.length_replicate, (replicate_cnt n n).symm, Nat.zero_le _⟩
  obtain ⟨b1, _, b3⟩ := sevFold_ok hn l _ h0
  show (sevTo (sevRun n most l).1 n).length = most
  unfold sevRun
  rw [sevTo_count, ← b1.2.1]
  refine Nat.le_antisymm b1.2.2 (Nat.le_of_not_lt fun hlt => ?_)
  have hall := b3 hlt
  have := cntB_ge (l.foldl (sevStep n most) (List.replicate n false, 0)).1 m (fun k hk => by
    have := hall k (h k hk)
    rwa [show (((k : Nat) : Int) % (n : Int)).toNat = k by rw [Int.emod_eq_of_lt (by omega) (by omega)]; simp] at this) n
  rw [← b1.2.1] at this
  omega
theorem several_lt (l : List Int) (most n : Nat) : ∀ x ∈ several l most n, x < n := fun x hx => by
  have := (List.mem_filter.1 hx).1
  exact List.mem_range.1 this
theorem several_nodup (l : List Int) (most n : Nat) : (several l most n).Nodup := List.Pairwise.filter _ List.nodup_range
theorem exists_not_mem {p : List Nat} {n : Nat} (h : p.length < n) (hd : p.Nodup) : ∃ i, i < n ∧ i ∉ p := by
  refine Classical.byContradiction fun hc => ?_
  have hall : ∀ i ∈ List.range n, i ∈ p := fun i hi => Classical.byContradiction fun hn => hc ⟨i, List.mem_range.1 hi, hn⟩
  have := (List.nodup_range (n := n)).length_le_of_subset hall
  rw [List.length_range] at this
  omega
end Go.Proofs.Ytkjaddiagembaaa
/- Package par: Rebuild where too many were lost. -/
namespace Go.Proofs.Ytkjaddiagembaaa
open Go.RowKit
set_option linter.unusedVariables false
set_option maxRecDepth 100000

theorem take_not_mem {p : List Nat} (hn : p.Nodup) (k : Nat) (hk : k < p.length) : p.getD k 0 ∉ p.take k := fun hm => by
  obtain ⟨j, hj, e⟩ := List.mem_iff_getElem.1 hm
  rw [List.length_take] at hj
  rw [List.getElem_take] at e
  have e2 : p.getD k 0 = p[k] := by simp [List.getD, hk]
  rw [e2] at e
  have hlt : j < k := by omega
  exact absurd e ((List.pairwise_iff_getElem.1 hn) j k (by omega) hk hlt)
set_option maxHeartbeats 8000000 in
theorem rebuild_lost (a : Option Addr) (len cap : Nat) (D : List (List Int)) (size : Nat) (parity : Nat) (al : Option Addr) (ll cl : Nat) (p : List Nat) (w : World) {F : Nat → Prop} (h : SRow (Lay.int .u8).slice w F a len cap D) (hc : Evn D size) (hp : Row .i64 w al ll cl (nats p)) (hpl : ∀ x ∈ p, x < len) (hnd : p.Nodup) (h1 : 1 ≤ parity) (h3 : parity ≤ 3) (hpp : parity < len) (hlen : len ≤ parity + 12) (hll : parity < ll) (hll2 : ll < len) :
    Calls Try.prog 31 #[.slice a len cap, .int .i64 parity, .slice al ll cl] w fun e w' => e = .returned (.tuple #[.slice none 0 0, .int .i64 12]) ∧ Below w.heap.size w w' := by
  have hDl := h.1
  have hmx := h.hmax
  have hle := h.hle
  have hql := hp.hle
  have hqm := hp.hmax
  have hqn : p.length = ll := by have := hp.hlen; simpa [nats] using this
  unfold maxLen at hmx hqm
  have HS := Lib.hid h
  have HP := Lib.hid hp
  have HC := Lib.hid hc
  have HPL := Lib.hid hpl
  have HND := Lib.hid hnd
  clear h hp hc hpl hnd
  obtain ⟨nn, hnn⟩ : ∃ nn : Nat, len = nn + parity := ⟨len - parity, by omega⟩
  have hnn1 : 1 ≤ nn := by omega
  have hnn2 : nn ≤ 12 := by omega
  go_enter Try.func31, Try.ntmps31
  go_upto_region 2 with fail
  clear hnn
  have n1 : (1 : Int) ≤ (nn : Int) := by omega
  have n2 : (nn : Int) ≤ 12 := by omega
  have n3 : decide ((nn : Int) < 1) = false := by simp; omega
  have n4 : decide ((12 : Int) < (nn : Int)) = false := by simp; omega
  go_wp2_with fail
  refine (someP parity w ⟨by omega, by omega⟩).mono ?_
  rintro e w2 ⟨rfl, rfl⟩
  go_wp2_with (refine wpList_make_zeros rfl _ _ 49 rfl 4 (.bool false) 1 Try.underlying49 info_bool2 rfl _ _ _ _ len rfl rfl rfl rfl (by omega) (by unfold maxLen; omega) ?_)
  intro w1 hoz hb1
  have B1 := Lib.hid (zeros_box hoz)
  obtain ⟨g, hg⟩ : ∃ g, Hid (w.heap.size = g) := ⟨_, rfl⟩
  rw [hg.out] at B1 ⊢
  have L1 := Lib.hid hb1
  clear hoz hb1
  go_wp2_with fail
  go_loopw [10, 37] (fun cv iv wr => ∃ k : Nat, k ≤ ll ∧ cv = .int .i64 0 ∧ iv = .int .i64 k ∧ Hid (Box wr g ((markB (List.replicate len false) (p.take k)).map Value.bool).toArray 4) ∧ Hid (Below w.heap.size w wr)) (fun _ iv _ => ll - (intOf iv).toNat)
  case atStart => exact ⟨0, by omega, rfl, rfl, B1, L1⟩
  case round =>
    obtain ⟨k, hk, rfl, rfl, hB, hL⟩ := hrel
    by_cases hlt : k < ll
    · have k1 : (k : Int) < (ll : Int) := by omega
      have hrow := HP.out.below hL.out
      obtain ⟨bl, ol, rfl, hcl⟩ : ∃ bl ol, al = some ⟨bl, ol, none⟩ ∧ ∀ t, t < ll → wr.cell? ⟨bl, ol + t, none⟩ = some (.int .i64 ((nats p).getD t 0)) := by
        rcases hrow.hat with h0 | h
        · omega
        · exact h
      have e0 := hcl k hlt
      rw [nats_getD] at e0
      have hnm := take_not_mem HND.out k (by omega)
      obtain ⟨x, hx⟩ : ∃ x, p.getD k 0 = x := ⟨_, rfl⟩
      rw [hx] at e0 hnm
      have hxl : x < len := by
        rw [← hx]
        refine HPL.out _ ?_
        rw [show p.getD k 0 = p[k]'(by omega) by simp [List.getD, hqn, hlt]]
        exact List.getElem_mem _
      have hnext : Hid (markB (List.replicate len false) (p.take (k + 1)) = (markB (List.replicate len false) (p.take k)).set x true) := by
        show _ = _
        rw [take_nats p k (by omega), markB_snoc, hx]
      have hml : (markB (List.replicate len false) (p.take k)).length = len := by rw [markB_length]; simp
      have hmx2 : (markB (List.replicate len false) (p.take k)).getD x false = false := by
        rw [markB_getD _ _ _ (fun y hy => by simp; exact HPL.out y (List.mem_of_mem_take hy))]
        simp [hnm, hxl]
      have x0 : decide ((x : Int) < 0) = false := by simp
      have x1 : (x : Int) < (len : Int) := by omega
      have x2 : decide ((len : Int) ≤ (x : Int)) = false := by simp; omega
      have e1 : wr.cell? ⟨g, x, none⟩ = some (.bool false) := by
        rw [hB.out.cell x]
        have e : (markB (List.replicate len false) (p.take k))[x]? = some false := by
          rw [List.getElem?_eq_getElem (by omega)]
          rw [List.getD, List.getElem?_eq_getElem (by omega)] at hmx2
          exact congrArg some hmx2
        rw [List.getElem?_toArray, List.getElem?_map, e]; rfl
      have f1 : wr.frozen? ⟨g, x, none⟩ = false := hB.out.free x
      have BN := hB.out.set x (.bool true)
      rw [mark_bools] at BN
      have HBN := Lib.hid BN
      have LN := Lib.hid (hL.out.setCell (p := ⟨g, x, none⟩) (by rw [hg.out]; exact Nat.le_refl _) (.bool true))
      clear hcl hrow hx hml BN hB hL hnm hmx2
      go_wp2_with fail
      go_roundw
      case rel => exact ⟨k + 1, by omega, rfl, by go_num, by rw [hnext.out]; exact HBN, LN⟩
      case measure => simp [intOf]; omega
    · obtain rfl : k = ll := by omega
      have kp : (parity : Int) < (k : Int) := by omega
      have kp2 : decide ((parity : Int) < (k : Int)) = true := by simp; omega
      have HEX : Hid (∃ i, i < len ∧ i ∉ p) := exists_not_mem (by omega) HND.out
      clear hB
      go_wp2_with fail
      refine (refusedW a len cap D size al k cl p 12 wr (HS.out.below hL.out) HC.out (HP.out.below hL.out) HPL.out (by omega) HEX.out).mono ?_
      rintro e w4 ⟨rfl, hb4⟩
      have L4 := Lib.hid (hL.out.trans (hb4.mono hL.out.size))
      clear hb4 hL
      go_wp2_with fail
      go_ret2
      exact ⟨rfl, L4.out⟩
end Go.Proofs.Ytkjaddiagembaaa
/- What the frame of a law's proof says of the arguments, turned into data. -/
namespace Go.Proofs.Ytkjaddiagembaaa
open Go.RowKit Go.ChangeShapes Go.WideShapes Go.Deep
set_option linter.unusedVariables false

/-- Whatever reads as data of type t is a datum of the layout L. -/
def Opens {α : Type} (P : Program) (t : TypeId) (L : Lay α) : Prop :=
  ∀ {H : Type} {enc : TypeId × Value → H} {w : World} {base : Nat} {spare : Nat → Bool} {held : Bool} {fuel : Nat} {cs : List Value} {x : DataW H × List MemPlace},
    DataW.trod enc P w base spare held fuel t cs = some x → ∃ d, L.at_ w (fun _ => True) d cs
theorem opens_int {P : Program} {t : TypeId} {k : IntKind} (ht : P.underlying t = some (.int k)) : Opens P t (Lay.int k) := by
  intro H enc w base spare held fuel cs x h
  obtain ⟨n, rfl, _, hw⟩ := DataW.trod_int ht h
  exact ⟨n, rfl, hw⟩
theorem addr_add (b off i : Nat) : (⟨b, off, none⟩ : Addr).add i = ⟨b, off + i, none⟩ := by unfold Addr.add; split <;> simp_all
theorem opens_slice {α : Type} [Inhabited α] {P : Program} {t e : TypeId} {L : Lay α} (ht : P.underlying t = some (.slice e)) (he : Opens P e L) (hC : P.cellsOf e = L.size) : Opens P t L.slice := by
  intro H enc w base spare held fuel cs x h
  rcases open_slice ht h with ⟨rfl, _⟩ | ⟨a, len, cap, m, n, D, Pl, rfl, hb, hl, hm, hmm, _, hi⟩
  · exact ⟨[], none, 0, 0, rfl, SRow.nil _ _ _⟩
  · have hlm : len ≤ m := by rw [hmm]; split <;> omega
    rw [hC] at hi
    have hpos := L.pos
    obtain ⟨V, hV⟩ := choose_lt (α := List Value × α) (n := len) (p := fun i v => (∀ j, j < L.size → w.cell? ((a.add (i * L.size)).add j) = v.1[j]?) ∧ L.at_ w (fun _ => True) v.2 v.1) (fun i hi' => by
      obtain ⟨cs', h1, h2⟩ := hi i (by omega)
      obtain ⟨d, hd⟩ := he h2
      exact ⟨(cs', d), (World.cells?_some h1).2.2, hd⟩)
    have hsz : ∀ vs ∈ (List.range len).map (fun i => (V i).1), vs.length = L.size := by
      intro vs hv
      obtain ⟨i, hi', rfl⟩ := List.mem_map.1 hv
      exact L.len (hV i (List.mem_range.1 hi')).2
    refine ⟨(List.range len).map (fun i => (V i).2), some a, len, cap, rfl, by simp, fun _ _ _ => trivial, (List.range len).map (fun i => (V i).1), ⟨?_, hl, hm, (fun h => by cases h), ?_⟩, ?_⟩
    · rw [flatten_length L.size _ hsz]; simp
    · by_cases h0 : len = 0
      · left; rw [h0, Nat.zero_mul]
      · right
        obtain ⟨b, off, spot⟩ := a
        have hsp : spot = none := by
          have h1 := (hV 0 (by omega)).1 0 hpos
          have h2 := L.len (hV 0 (by omega)).2
          rw [List.getElem?_eq_getElem (by omega)] at h1
          simpa [Addr.add] using World.cell?_spot h1
        subst hsp
        refine ⟨b, off, rfl, fun i hi' => ?_⟩
        have hq : i / L.size < len := Nat.div_lt_of_lt_mul (by rw [Nat.mul_comm]; exact hi')
        have hr : i % L.size < L.size := Nat.mod_lt _ hpos
        have e : i = (i / L.size) * L.size + i % L.size := by rw [Nat.mul_comm]; exact (Nat.div_add_mod i L.size).symm
        have h1 := (hV _ hq).1 _ hr
        have hadd := addr_add b off i
        rw [add_add, ← e, hadd] at h1
        rw [h1]
        have h2 := flatten_at L.size ((List.range len).map (fun i => (V i).1)) hsz (i / L.size) (i % L.size) hr
        rw [← e] at h2
        rw [h2]
        simp [hq]
    · refine ⟨by simp, fun i x vs hx hv => ?_⟩
      rw [List.getElem?_map] at hx hv
      by_cases hi' : i < len
      · rw [List.getElem?_range hi'] at hx hv
        simp only [Option.map_some, Option.some.injEq] at hx hv
        subst hx hv
        exact (hV i hi').2
      · rw [List.getElem?_eq_none (by simp; omega)] at hx; cases hx
/-- A struct of integers: its cells. -/
theorem struct_ints {P : Program} {t : TypeId} {fs : Array Field} (ht : P.underlying t = some (.struct fs)) (hone : oneCellFields P fs = true) (hC : P.cellsOf t = fs.size) (hk : ∀ (j : Nat) (f : Field), fs[j]? = some f → P.underlying f.type = some (.int .i64))
    {H : Type} {enc : TypeId × Value → H} {w : World} {base : Nat} {spare : Nat → Bool} {held : Bool} {fuel : Nat} {cs : List Value} {x : DataW H × List MemPlace} (h : DataW.trod enc P w base spare held fuel t cs = some x) :
    cs.length = fs.size ∧ ∀ j, j < fs.size → ∃ z : Int, cs[j]? = some (.int .i64 z) := by
  obtain ⟨xs, n, _, _, hcl, hxl, hf⟩ := DataW.trod_struct ht h
  refine ⟨hcl.trans hC, fun j hj => ?_⟩
  obtain ⟨ho, hc1⟩ := hone_of hone j fs[j] (Array.getElem?_eq_getElem hj)
  have h1 := hf j fs[j] (Array.getElem?_eq_getElem hj)
  rw [ho, hc1, List.getElem?_eq_getElem (by omega)] at h1
  obtain ⟨z, hz, _⟩ := DataW.trod_int (hk j fs[j] (Array.getElem?_eq_getElem hj)) h1
  refine ⟨z, ?_⟩
  have : (List.take 1 (List.drop j cs))[0]? = some (.int .i64 z) := by rw [hz]; rfl
  simpa using this
end Go.Proofs.Ytkjaddiagembaaa
/- Bytes that came in. -/
namespace Go.Proofs.Ytkjaddiagembaaa
open Go.RowKit Go.ChangeShapes Go.WideShapes Go.Deep
set_option linter.unusedVariables false
theorem opens_bytes : Opens Try.prog 22 (Lay.int .u8).slice := opens_slice Try.underlying22 (opens_int Try.underlying5) (by kernel_rfl)
end Go.Proofs.Ytkjaddiagembaaa
