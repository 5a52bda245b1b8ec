/- Texts that belong together: FletP, FletW, FletQ, GaF. -/
import Derived.Test.YtkjaddiagembaaaZ1
import Derived.Test.YtkjaddiagembaaaZ3
/- Plain facts on the checksum: words, sums that wrap round, and what the exact sums say. No program here. -/
namespace Go.Proofs.Ytkjaddiagembaaa
open Go.RowKit
set_option linter.unusedVariables false

/-- the four sums -/
structure Four where
  a : Int
  b : Int
  c : Int
  d : Int
def Four.val (s : Four) : Value := .agg #[.int .i64 s.a, .int .i64 s.b, .int .i64 s.c, .int .i64 s.d]
/-- one word more, wrapping round -/
def Four.word (s : Four) (x : Int) : Four :=
  ⟨wrap64 (s.a + x), wrap64 (s.b + wrap64 (s.a + x)), wrap64 (s.c + wrap64 (s.b + wrap64 (s.a + x))), wrap64 (s.d + wrap64 (s.c + wrap64 (s.b + wrap64 (s.a + x))))⟩
def Four.zero : Four := ⟨0, 0, 0, 0⟩
def Four.words (s : Four) (l : List Int) : Four := l.foldl Four.word s
def wordOf (a b c d : Int) : Int := a + 256 * b + 65536 * c + 16777216 * d
def wordsOf : List Int → List Int
  | a :: b :: c :: d :: r => wordOf a b c d :: wordsOf r
  | _ => []

theorem wordsOf_append : ∀ (l m : List Int), l.length % 4 = 0 → wordsOf (l ++ m) = wordsOf l ++ wordsOf m
  | [], m, _ => rfl
  | [_], m, h => by simp at h
  | [_, _], m, h => by simp at h
  | [_, _, _], m, h => by simp at h
  | a :: b :: c :: d :: r, m, h => by
    have h' : r.length % 4 = 0 := by simp at h; omega
    show wordOf a b c d :: wordsOf (r ++ m) = _
    rw [wordsOf_append r m h']; rfl
theorem wordsOf_length : ∀ (l : List Int), (wordsOf l).length = l.length / 4
  | [] => rfl
  | [_] => by simp [wordsOf]
  | [_, _] => by simp [wordsOf]
  | [_, _, _] => by simp [wordsOf]
  | a :: b :: c :: d :: r => by
    show (wordsOf r).length + 1 = _
    rw [wordsOf_length r]; simp; omega
theorem words_append (s : Four) (l m : List Int) : s.words (l ++ m) = (s.words l).words m := by simp [Four.words]
theorem wordsOf_four (l : List Int) (k : Nat) (h : 4 * k + 4 ≤ l.length) :
    wordsOf (l.take (4 * (k + 1))) = wordsOf (l.take (4 * k)) ++ [wordOf (l.getD (4 * k + 0) 0) (l.getD (4 * k + 1) 0) (l.getD (4 * k + 2) 0) (l.getD (4 * k + 3) 0)] := by
  have e : l.take (4 * (k + 1)) = l.take (4 * k) ++ [l.getD (4 * k + 0) 0, l.getD (4 * k + 1) 0, l.getD (4 * k + 2) 0, l.getD (4 * k + 3) 0] := by
    rw [show 4 * (k + 1) = 4 * k + 1 + 1 + 1 + 1 by omega]
    rw [List.take_succ_eq_append_getElem (by omega), List.take_succ_eq_append_getElem (by omega), List.take_succ_eq_append_getElem (by omega), List.take_succ_eq_append_getElem (by omega)]
    have g : ∀ i (hi : i < l.length), l.getD i 0 = l[i] := fun i hi => by simp [List.getD, hi]
    rw [g _ (by omega), g _ (by omega), g _ (by omega), g _ (by omega)]
    simp only [List.append_assoc, List.cons_append, List.nil_append, Nat.add_zero]
  rw [e, wordsOf_append _ _ (by rw [List.length_take]; omega)]
  rfl
theorem words_nil (s : Four) : s.words [] = s := rfl
theorem words_cons (s : Four) (x : Int) (l : List Int) : s.words (x :: l) = (s.word x).words l := rfl
theorem words_snoc (s : Four) (x : Int) (l : List Int) : s.words (l ++ [x]) = (s.words l).word x := by simp [Four.words]
end Go.Proofs.Ytkjaddiagembaaa
/- The walks of package flet. -/
namespace Go.Proofs.Ytkjaddiagembaaa
set_option maxRecDepth 100000
open Go.RowKit
set_option linter.unusedVariables false

def Fours (s : Four) (w : World) (e : Ending) (w' : World) : Prop := ∃ a b c d, Hid (s = ⟨a, b, c, d⟩) ∧ e = .returned (.agg #[.int .i64 a, .int .i64 b, .int .i64 c, .int .i64 d]) ∧ Below w.heap.size w w'
theorem word (a b c d x : Int) (w : World) :
    Calls Try.prog 33 #[.agg #[.int .i64 a, .int .i64 b, .int .i64 c, .int .i64 d], .int .i64 x] w (Fours ((⟨a, b, c, d⟩ : Four).word x) w) := by
  go_enter Try.func33, Try.ntmps33
  go_wp2_with fail
  refine wp_loop_rounds 5 ?_
  repeat any_goals (rw [rounds_succ]; go_wp2)
  go_returns
  exact ⟨_, _, _, _, rfl, rfl, by go_grown⟩
theorem of_ (a b c d : Int) (w : World) :
    Calls Try.prog 32 #[.agg #[.int .i64 a, .int .i64 b, .int .i64 c, .int .i64 d]] w fun e w' => e = .returned (.agg #[.int .i64 a, .int .i64 b, .int .i64 c, .int .i64 d]) ∧ Below w.heap.size w w' := by
  go_enter Try.func32, Try.ntmps32
  go_wp2
  go_returns
  exact ⟨rfl, by go_grown⟩
theorem sum_ (a b c d : Int) (w : World) :
    Calls Try.prog 34 #[.agg #[.int .i64 a, .int .i64 b, .int .i64 c, .int .i64 d]] w fun e w' => e = .returned (.agg #[.int .i64 a, .int .i64 b, .int .i64 c, .int .i64 d]) ∧ Below w.heap.size w w' := by
  go_enter Try.func34, Try.ntmps34
  go_wp2
  go_returns
  exact ⟨rfl, by go_grown⟩

def Mores (s : Four) (w : World) (e : Ending) (w' : World) : Prop := ∃ a b c d, Hid (s = ⟨a, b, c, d⟩) ∧ e = .returned (.tuple #[.agg #[.int .i64 a, .int .i64 b, .int .i64 c, .int .i64 d], .int .i64 0]) ∧ Below w.heap.size w w'
set_option maxHeartbeats 1000000 in
theorem more (sa sb sc sd : Int) (a : Option Addr) (len cap : Nat) (xs : List Int) (w : World) (h : Row .u8 w a len cap xs) (h4 : len % 4 = 0) :
    Calls Try.prog 22 #[.agg #[.int .i64 sa, .int .i64 sb, .int .i64 sc, .int .i64 sd], .slice a len cap] w (Mores ((⟨sa, sb, sc, sd⟩ : Four).words (wordsOf xs)) w) := by
  obtain ⟨n, rfl⟩ : ∃ n, len = 4 * n := ⟨len / 4, by omega⟩
  have hmx := h.hmax
  have hle := h.hle
  unfold maxLen at hmx
  have hm4 : ((((4 * n : Nat) : Int) % 4) != 0) = false := by simp
  clear h4
  go_enter Try.func22, Try.ntmps22
  go_wp2_with fail
  refine (of_ _ _ _ _ _).mono ?_; rintro e w1 ⟨rfl, hb1⟩
  go_wp2_with fail
  have hsz : w.heap.size + 2 ≤ w1.heap.size := by have := hb1.size; simp at this; omega
  have hbw : Below w.heap.size w w1 := (((Below.refl _ _).alloc (Nat.le_refl _) _).alloc (by simp) _).trans (hb1.mono (by simp; omega))
  have hres : Box w1 (w.heap.size + 1) #[.int .i64 0, .int .i64 0, .int .i64 0, .int .i64 0] 30 := Box.below (Box.new (by simp)) hb1 (by simp)
  clear hb1
  obtain ⟨g, hg⟩ : ∃ g, Hid (w1.heap.size = g) := ⟨_, rfl⟩
  rw [hg.out]
  rw [hg.out] at hsz
  go_loopw [1] (fun v wr => ∃ (k j c : Nat) (ad : Option Addr) (a' b' c' d' : Int), Hid (k + j = n) ∧ v = .slice ad (4 * j) c ∧ 4 * j ≤ c ∧ c ≤ 9223372036854775807 ∧ Hid (0 < j → ∃ b off, ad = some ⟨b, off + 4 * k, none⟩ ∧ b < w.heap.size ∧ ∀ i, i < 4 * n → w.cell? ⟨b, off + i, none⟩ = some (.int .u8 (xs.getD i 0))) ∧
      Hid ((⟨a', b', c', d'⟩ : Four) = (⟨sa, sb, sc, sd⟩ : Four).words (wordsOf (xs.take (4 * k)))) ∧ Hid (Box wr g #[.int .i64 a', .int .i64 b', .int .i64 c', .int .i64 d'] 71) ∧
      Hid (Box wr (w.heap.size + 1) #[.int .i64 0, .int .i64 0, .int .i64 0, .int .i64 0] 30) ∧ Below w.heap.size w wr)
    (fun v _ => match v with | .slice _ l _ => l | _ => 0)
  case atStart =>
    refine ⟨0, n, cap, a, sa, sb, sc, sd, Nat.zero_add _, rfl, hle, by omega, ?_, rfl, Box.new hg.out.symm, hres.alloc _, hbw.alloc hbw.size _⟩
    intro hn
    rcases h.hat with h0 | ⟨b, off, rfl, hc⟩
    · omega
    · exact ⟨b, off, rfl, World.block_lt_of_cell? _ _ (hc 0 (by omega)), hc⟩
  case round =>
    obtain ⟨k, j, c, ad, a', b', c', d', hkj, rfl, hjc, hcm, hat, hst, hbox, hbr, hbl⟩ := hrel
    have z0 : wr.cell? ⟨g, 0, none⟩ = some (.int .i64 a') := hbox.out.cell 0
    have z1 : wr.cell? ⟨g, 1, none⟩ = some (.int .i64 b') := hbox.out.cell 1
    have z2 : wr.cell? ⟨g, 2, none⟩ = some (.int .i64 c') := hbox.out.cell 2
    have z3 : wr.cell? ⟨g, 3, none⟩ = some (.int .i64 d') := hbox.out.cell 3
    by_cases hj : 0 < j
    · obtain ⟨b, off, rfl, hbB, hc⟩ := hat.out hj
      have hkn : k + j = n := hkj.out
      have hcell : ∀ i, i < 4 → wr.cell? ⟨b, off + 4 * k + i, none⟩ = some (.int .u8 (xs.getD (4 * k + i) 0)) := fun i hi => by
        rw [Nat.add_assoc]
        exact (hbl.cell (p := ⟨b, off + (4 * k + i), none⟩) hbB).trans (hc _ (by omega))
      have e0 := hcell 0 (by omega)
      have e1 := hcell 1 (by omega)
      have e2 := hcell 2 (by omega)
      have e3 := hcell 3 (by omega)
      have r0 := h.byte (4 * k + 0)
      have r1 := h.byte (4 * k + 1)
      have r2 := h.byte (4 * k + 2)
      have r3 := h.byte (4 * k + 3)
      clear hcell hc
      obtain ⟨x0, hx0⟩ : ∃ x, Hid (xs.getD (4 * k + 0) 0 = x) := ⟨_, rfl⟩
      obtain ⟨x1, hx1⟩ : ∃ x, Hid (xs.getD (4 * k + 1) 0 = x) := ⟨_, rfl⟩
      obtain ⟨x2, hx2⟩ : ∃ x, Hid (xs.getD (4 * k + 2) 0 = x) := ⟨_, rfl⟩
      obtain ⟨x3, hx3⟩ : ∃ x, Hid (xs.getD (4 * k + 3) 0 = x) := ⟨_, rfl⟩
      rw [hx0.out] at e0 r0
      rw [hx1.out] at e1 r1
      rw [hx2.out] at e2 r2
      rw [hx3.out] at e3 r3
      rw [Nat.add_zero] at e0
      clear hkn
      have g0 : (0 : Int) < 4 * (j : Int) := by omega
      have g1 : (1 : Int) < 4 * (j : Int) := by omega
      have g2 : (2 : Int) < 4 * (j : Int) := by omega
      have g3 : (3 : Int) < 4 * (j : Int) := by omega
      have hwd := word_bits x0 x1 x2 x3 r0 r1 r2 r3
      have HW := Lib.hid hwd
      clear hwd
      go_wp2
      go_still_tail 23, (by kernel_rfl)
      rw [HW.out]
      obtain ⟨x, hx⟩ : ∃ x, Hid (x0 + 256 * x1 + 65536 * x2 + 16777216 * x3 = x) := ⟨_, rfl⟩
      rw [hx.out]
      change wpList _ _ _ _ _ wr.drew
      have hgl : g < wr.heap.size := hbox.out.lt
      have hrl : w.heap.size + 1 < wr.heap.size := hbr.out.lt
      go_wp2_with fail
      refine (word _ _ _ _ _ _).mono ?_; rintro e w2 ⟨a2, b2, c2, d2, hs2, rfl, hb2⟩
      have hB2 : Box w2 g #[.int .i64 a', .int .i64 b', .int .i64 c', .int .i64 d'] 71 := Box.below hbox.out.drew hb2 hgl
      have hR2 : Box w2 (w.heap.size + 1) #[.int .i64 0, .int .i64 0, .int .i64 0, .int .i64 0] 30 := Box.below hbr.out.drew hb2 hrl
      have hL2 : Below w.heap.size w w2 := (hbl.drew).trans (hb2.mono hbl.size)
      have HB2 := Lib.hid hB2
      have HR2 := Lib.hid hR2
      have y0 : w2.cell? ⟨g, 0, none⟩ = some (.int .i64 a') := hB2.cell 0
      have y1 : w2.cell? ⟨g, 1, none⟩ = some (.int .i64 b') := hB2.cell 1
      have y2 : w2.cell? ⟨g, 2, none⟩ = some (.int .i64 c') := hB2.cell 2
      have y3 : w2.cell? ⟨g, 3, none⟩ = some (.int .i64 d') := hB2.cell 3
      have f0 := hB2.free 0
      have f1 := hB2.free 1
      have f2 := hB2.free 2
      have f3 := hB2.free 3
      clear hB2 hR2 z0 z1 z2 z3 e0 e1 e2 e3
      have hnx : (⟨a2, b2, c2, d2⟩ : Four) = (⟨sa, sb, sc, sd⟩ : Four).words (wordsOf (xs.take (4 * (k + 1)))) := by
        have hkn : k + j = n := hkj.out
        have hl := h.hlen
        rw [wordsOf_four xs k (by omega), words_snoc, ← hst.out, hx0.out, hx1.out, hx2.out, hx3.out, wordOf, hx.out, hs2.out]
      have HNX := Lib.hid hnx
      clear hnx hbw hres hm4
      have HB3 : Hid (Box ((((w2.setCell ⟨g, 0, none⟩ (.int .i64 a2)).setCell ⟨g, 1, none⟩ (.int .i64 b2)).setCell ⟨g, 2, none⟩ (.int .i64 c2)).setCell ⟨g, 3, none⟩ (.int .i64 d2)) g #[.int .i64 a2, .int .i64 b2, .int .i64 c2, .int .i64 d2] 71) :=
        (((HB2.out.set 0 _).set 1 _).set 2 _).set 3 _
      have HR3 : Hid (Box ((((w2.setCell ⟨g, 0, none⟩ (.int .i64 a2)).setCell ⟨g, 1, none⟩ (.int .i64 b2)).setCell ⟨g, 2, none⟩ (.int .i64 c2)).setCell ⟨g, 3, none⟩ (.int .i64 d2)) (w.heap.size + 1) #[.int .i64 0, .int .i64 0, .int .i64 0, .int .i64 0] 30) := by
        have hne : g ≠ w.heap.size + 1 := by omega
        exact (((HR2.out.other ⟨g, 0, none⟩ hne _).other ⟨g, 1, none⟩ hne _).other ⟨g, 2, none⟩ hne _).other ⟨g, 3, none⟩ hne _
      have HL3 : Hid (Below w.heap.size w ((((w2.setCell ⟨g, 0, none⟩ (.int .i64 a2)).setCell ⟨g, 1, none⟩ (.int .i64 b2)).setCell ⟨g, 2, none⟩ (.int .i64 c2)).setCell ⟨g, 3, none⟩ (.int .i64 d2))) :=
        (((hL2.setCell (by show _ ≤ g; omega) _).setCell (by show _ ≤ g; omega) _).setCell (by show _ ≤ g; omega) _).setCell (by show _ ≤ g; omega) _
      clear HB2 HR2 hb2
      by_cases hc4 : c = 4
      · subst hc4
        have hj1 : j = 1 := by omega
        subst hj1
        go_wp2
        go_roundw
        case rel => exact ⟨k + 1, 0, 0, _, a2, b2, c2, d2, hkj.out, rfl, by omega, by omega, fun hh => absurd hh (by omega), HNX.out, HB3.out, HR3.out, HL3.out⟩
        case measure => show (0 : Nat) < 4 * 1; omega
      · go_wp2
        go_roundw
        case rel => exact ⟨k + 1, j - 1, c - 4, _, a2, b2, c2, d2, by have := hkj.out; show _ = _; omega, by rw [show 4 * j - 4 = 4 * (j - 1) from by omega], by omega, by omega, fun hh => by
          obtain ⟨b', off', hbo, r1, r2⟩ := hat.out hj
          have e1 : b = b' ∧ off + 4 * k = off' + 4 * k := by simpa using hbo
          obtain ⟨rfl, e2⟩ := e1
          obtain rfl : off = off' := by omega
          exact ⟨b, off, by rw [Nat.mul_succ]; rfl, r1, r2⟩, HNX.out, HB3.out, HR3.out, HL3.out⟩
        case measure => show 4 * j - 4 < 4 * j; omega
    · obtain rfl : j = 0 := by omega
      have hfin : (⟨a', b', c', d'⟩ : Four) = (⟨sa, sb, sc, sd⟩ : Four).words (wordsOf xs) := by
        have hkn : k + 0 = n := hkj.out
        have hl := h.hlen
        have := hst.out
        rw [List.take_of_length_le (by omega)] at this
        exact this
      have HF := Lib.hid hfin
      clear hfin hbw hres hm4
      have hrl : w.heap.size + 1 < wr.heap.size := hbr.out.lt
      go_wp2_with fail
      refine (sum_ _ _ _ _ _).mono ?_; rintro e w2 ⟨rfl, hb2⟩
      have hR2 : Box w2 (w.heap.size + 1) #[.int .i64 0, .int .i64 0, .int .i64 0, .int .i64 0] 30 := Box.below hbr.out hb2 hrl
      have hL2 : Below w.heap.size w w2 := hbl.trans (hb2.mono hbl.size)
      have y0 : w2.cell? ⟨w.heap.size + 1, 0, none⟩ = some (.int .i64 0) := hR2.cell 0
      have y1 : w2.cell? ⟨w.heap.size + 1, 1, none⟩ = some (.int .i64 0) := hR2.cell 1
      have y2 : w2.cell? ⟨w.heap.size + 1, 2, none⟩ = some (.int .i64 0) := hR2.cell 2
      have y3 : w2.cell? ⟨w.heap.size + 1, 3, none⟩ = some (.int .i64 0) := hR2.cell 3
      have f0 := hR2.free 0
      have f1 := hR2.free 1
      have f2 := hR2.free 2
      have f3 := hR2.free 3
      have HL2 := Lib.hid ((((hL2.setCell (p := ⟨w.heap.size + 1, 0, none⟩) (Nat.le_succ _) (.int .i64 a')).setCell (p := ⟨w.heap.size + 1, 1, none⟩) (Nat.le_succ _) (.int .i64 b')).setCell (p := ⟨w.heap.size + 1, 2, none⟩) (Nat.le_succ _) (.int .i64 c')).setCell (p := ⟨w.heap.size + 1, 3, none⟩) (Nat.le_succ _) (.int .i64 d'))
      have HB2 := Lib.hid ((((hR2.set 0 (.int .i64 a')).set 1 (.int .i64 b')).set 2 (.int .i64 c')).set 3 (.int .i64 d'))
      clear hR2 hb2 hL2
      go_wp2
      generalize (((w2.setCell ⟨w.heap.size + 1, 0, none⟩ (.int .i64 a')).setCell ⟨w.heap.size + 1, 1, none⟩ (.int .i64 b')).setCell ⟨w.heap.size + 1, 2, none⟩ (.int .i64 c')).setCell ⟨w.heap.size + 1, 3, none⟩ (.int .i64 d') = W at *
      have q0 : W.cell? ⟨w.heap.size + 1, 0, none⟩ = some (.int .i64 a') := HB2.out.cell 0
      have q1 : W.cell? ⟨w.heap.size + 1, 1, none⟩ = some (.int .i64 b') := HB2.out.cell 1
      have q2 : W.cell? ⟨w.heap.size + 1, 2, none⟩ = some (.int .i64 c') := HB2.out.cell 2
      have q3 : W.cell? ⟨w.heap.size + 1, 3, none⟩ = some (.int .i64 d') := HB2.out.cell 3
      clear y0 y1 y2 y3 f0 f1 f2 f3
      refine bodyPost_ret (by simp [results, Try.results22, go_sem, q0, q1, q2, q3]) rfl ⟨a', b', c', d', HF.out.symm, rfl, HL2.out⟩
end Go.Proofs.Ytkjaddiagembaaa
/- The exact sums (which never wrap), and how the wrapping ones follow from them. No program here. -/
namespace Go.Proofs.Ytkjaddiagembaaa
open Go.RowKit
set_option linter.unusedVariables false

theorem wrap_idem (x : Int) : wrap64 (wrap64 x) = wrap64 x := by unfold wrap64; omega
theorem wrap_add_l (x y : Int) : wrap64 (wrap64 x + y) = wrap64 (x + y) := by unfold wrap64; omega
theorem wrap_add_r (x y : Int) : wrap64 (x + wrap64 y) = wrap64 (x + y) := by unfold wrap64; omega
theorem wrap_mod (x m : Int) : wrap64 (x - 18446744073709551616 * m) = wrap64 x := by unfold wrap64; omega
theorem wrap_form (x : Int) : ∃ m, wrap64 x = x - 18446744073709551616 * m := ⟨(x + 9223372036854775808) / 18446744073709551616, by unfold wrap64; omega⟩
theorem wrap_mul_r (x y : Int) : wrap64 (x * wrap64 y) = wrap64 (x * y) := by
  obtain ⟨m, hm⟩ := wrap_form y
  rw [hm, Int.mul_sub, show x * (18446744073709551616 * m) = 18446744073709551616 * (x * m) from by rw [← Int.mul_assoc, Int.mul_comm x, Int.mul_assoc]]
  exact wrap_mod _ _
theorem wrap_eq {x y : Int} (h : wrap64 x = wrap64 y) (hb : -18446744073709551616 < x - y) (hb' : x - y < 18446744073709551616) : x = y := by
  unfold wrap64 at h; omega
theorem wrap_same {x : Int} (h : -9223372036854775808 ≤ x) (h' : x ≤ 9223372036854775807) : wrap64 x = x := by unfold wrap64; omega

def Four.wrap (s : Four) : Four := ⟨wrap64 s.a, wrap64 s.b, wrap64 s.c, wrap64 s.d⟩
/-- one word more, exactly -/
def Four.wordE (s : Four) (x : Int) : Four := ⟨s.a + x, s.b + (s.a + x), s.c + (s.b + (s.a + x)), s.d + (s.c + (s.b + (s.a + x)))⟩
def Four.wordsE (s : Four) (l : List Int) : Four := l.foldl Four.wordE s
theorem wrap_word (s : Four) (x : Int) : s.wrap.word x = (s.wordE x).wrap := by
  simp only [Four.wrap, Four.word, Four.wordE, wrap_add_l, wrap_add_r]
theorem wrap_words (s : Four) (l : List Int) : s.wrap.words l = (s.wordsE l).wrap := by
  induction l generalizing s with
  | nil => rfl
  | cons x l ih => show (s.wrap.word x).words l = _; rw [wrap_word, ih]; rfl
theorem zero_words (l : List Int) : Four.zero.words l = (Four.zero.wordsE l).wrap := by
  have h := wrap_words Four.zero l
  rwa [show Four.zero.wrap = Four.zero from by simp [Four.wrap, Four.zero, wrap64]] at h
theorem wordsE_append (s : Four) (l m : List Int) : s.wordsE (l ++ m) = (s.wordsE l).wordsE m := by simp [Four.wordsE]
theorem wordsE_snoc (s : Four) (l : List Int) (x : Int) : s.wordsE (l ++ [x]) = (s.wordsE l).wordE x := by simp [Four.wordsE]

/-- triangle numbers and their sums -/
def tri : Nat → Int
  | 0 => 0
  | n + 1 => tri n + (n + 1 : Nat)
def tet : Nat → Int
  | 0 => 0
  | n + 1 => tet n + tri (n + 1)
theorem tri_eq (n : Nat) : 2 * tri n = (n : Int) * (n + 1) := by
  induction n with
  | zero => rfl
  | succ n ih =>
    rw [tri, Int.mul_add, ih]
    push_cast
    have e : ((n : Int) + 1) * ((n : Int) + 1 + 1) = (n : Int) * (n + 1) + 2 * ((n : Int) + 1) := by
      rw [Int.mul_add ((n : Int) + 1) ((n : Int) + 1) 1, Int.add_mul]; omega
    rw [e]
theorem tet_eq (n : Nat) : 3 * tet n = tri n * (n + 2) := by
  induction n with
  | zero => rfl
  | succ n ih =>
    have h := tri_eq n
    rw [tet, Int.mul_add, ih, tri]
    push_cast
    have e1 : (tri n + ((n : Int) + 1)) * ((n : Int) + 1 + 2) = tri n * (n + 2) + tri n + ((n : Int) + 1) * ((n : Int) + 1 + 2) := by
      rw [Int.add_mul, show (n : Int) + 1 + 2 = (n + 2) + 1 by omega, Int.mul_add (tri n)]; omega
    rw [e1]
    have e2 : ((n : Int) + 1) * ((n : Int) + 1 + 2) = (n : Int) * (n + 1) + 3 * (n : Int) + 3 := by
      rw [Int.mul_comm, Int.mul_add, show (n : Int) + 1 + 2 = (n : Int) + 3 by omega, Int.add_mul, Int.mul_add]; omega
    rw [e2]; omega
theorem tri_div (n : Nat) : (n : Int) * (n + 1) / 2 = tri n := by have := tri_eq n; omega
theorem tet_div (n : Nat) : tri n * (n + 2) / 3 = tet n := by have := tet_eq n; omega

/-- the sums of one list behind those of another -/
def joinE (s t : Four) (n : Nat) : Four := ⟨t.a + s.a, t.b + (n * s.a + s.b), t.c + (tri n * s.a + (n * s.b + s.c)), t.d + (tet n * s.a + (tri n * s.b + (n * s.c + s.d)))⟩
theorem joinE_eq (s : Four) (l : List Int) : s.wordsE l = joinE s (Four.zero.wordsE l) l.length := by
  suffices h : ∀ m, ∀ l : List Int, l.length = m → s.wordsE l = joinE s (Four.zero.wordsE l) m from h _ l rfl
  intro m
  induction m with
  | zero =>
    intro l hl
    obtain rfl := List.eq_nil_of_length_eq_zero hl
    simp [Four.wordsE, joinE, Four.zero, tri, tet]
  | succ m ih =>
    intro l hl
    obtain ⟨l', x, rfl⟩ : ∃ l' x, l = l' ++ [x] := ⟨l.dropLast, l.getLast (by intro h; simp [h] at hl), (List.dropLast_concat_getLast _).symm⟩
    have hl' : l'.length = m := by simpa using hl
    rw [wordsE_snoc, wordsE_snoc, ih l' hl']
    generalize Four.zero.wordsE l' = t
    simp only [joinE, Four.wordE, tri, tet]
    have e : ((m + 1 : Nat) : Int) = (m : Int) + 1 := by omega
    rw [e]
    simp only [Int.add_mul, Int.one_mul, Four.mk.injEq]
    refine ⟨by omega, by omega, by omega, by omega⟩
theorem wordsE_zeros (n : Nat) : Four.zero.wordsE (List.replicate n 0) = Four.zero := by
  induction n with
  | zero => rfl
  | succ n ih => rw [List.replicate_succ]; exact ih
theorem wordsE_a (s : Four) (l : List Int) : (s.wordsE l).a = s.a + l.sum := by
  induction l generalizing s with
  | nil => simp [Four.wordsE]
  | cons x l ih => show ((s.wordE x).wordsE l).a = _; rw [ih]; simp [Four.wordE]; omega
/-- what a difference in the sums makes of the later ones -/
theorem wordsE_b (s : Four) (l : List Int) : (s.wordsE l).b = s.b + l.length * s.a + (Four.zero.wordsE l).b := by
  have := joinE_eq s l
  rw [this]; simp [joinE]; omega
end Go.Proofs.Ytkjaddiagembaaa
/- The sum of bytes. -/
namespace Go.Proofs.Ytkjaddiagembaaa
set_option maxRecDepth 100000
open Go.RowKit
set_option linter.unusedVariables false

theorem info_u8 : (Try.prog.info? 5).map (fun i => (i.zero, i.size, i.bytes)) = some (some (.int .u8 0), 1, 1) := by kernel_rfl

set_option maxHeartbeats 400000 in
theorem of_bytes (a : Option Addr) (len cap : Nat) (xs : List Int) (w : World) (h : Row .u8 w a len cap xs) (h4 : len % 4 = 0) :
    Calls Try.prog 14 #[.slice a len cap] w (Mores (Four.zero.words (wordsOf xs)) w) := by
  go_enter Try.func14, Try.ntmps14
  go_wp2_with fail
  refine (more _ _ _ _ _ _ _ xs _ (h.below (Below_alloc1 _)) h4).mono ?_; rintro e w1 ⟨a', b', c', d', hs, rfl, hb⟩
  have hR : Box w1 w.heap.size #[.int .i64 0, .int .i64 0, .int .i64 0, .int .i64 0] 30 := Box.below (Box.new rfl) hb (by simp)
  have hL : Below w.heap.size w w1 := (Below_alloc1 _).trans (hb.mono (by simp))
  have y0 : w1.cell? ⟨w.heap.size, 0, none⟩ = some (.int .i64 0) := hR.cell 0
  have y1 : w1.cell? ⟨w.heap.size, 1, none⟩ = some (.int .i64 0) := hR.cell 1
  have y2 : w1.cell? ⟨w.heap.size, 2, none⟩ = some (.int .i64 0) := hR.cell 2
  have y3 : w1.cell? ⟨w.heap.size, 3, none⟩ = some (.int .i64 0) := hR.cell 3
  have f0 := hR.free 0
  have f1 := hR.free 1
  have f2 := hR.free 2
  have f3 := hR.free 3
  have HL := Lib.hid ((((hL.setCell (p := ⟨w.heap.size, 0, none⟩) (Nat.le_refl _) (.int .i64 a')).setCell (p := ⟨w.heap.size, 1, none⟩) (Nat.le_refl _) (.int .i64 b')).setCell (p := ⟨w.heap.size, 2, none⟩) (Nat.le_refl _) (.int .i64 c')).setCell (p := ⟨w.heap.size, 3, none⟩) (Nat.le_refl _) (.int .i64 d'))
  have HB := Lib.hid ((((hR.set 0 (.int .i64 a')).set 1 (.int .i64 b')).set 2 (.int .i64 c')).set 3 (.int .i64 d'))
  clear hR hb hL
  go_wp2
  generalize (((w1.setCell ⟨w.heap.size, 0, none⟩ (.int .i64 a')).setCell ⟨w.heap.size, 1, none⟩ (.int .i64 b')).setCell ⟨w.heap.size, 2, none⟩ (.int .i64 c')).setCell ⟨w.heap.size, 3, none⟩ (.int .i64 d') = W at *
  have q0 : W.cell? ⟨w.heap.size, 0, none⟩ = some (.int .i64 a') := HB.out.cell 0
  have q1 : W.cell? ⟨w.heap.size, 1, none⟩ = some (.int .i64 b') := HB.out.cell 1
  have q2 : W.cell? ⟨w.heap.size, 2, none⟩ = some (.int .i64 c') := HB.out.cell 2
  have q3 : W.cell? ⟨w.heap.size, 3, none⟩ = some (.int .i64 d') := HB.out.cell 3
  clear y0 y1 y2 y3 f0 f1 f2 f3
  refine bodyPost_ret (by simp [results, Try.results14, go_sem, q0, q1, q2, q3]) rfl ⟨a', b', c', d', hs, rfl, HL.out⟩
end Go.Proofs.Ytkjaddiagembaaa
