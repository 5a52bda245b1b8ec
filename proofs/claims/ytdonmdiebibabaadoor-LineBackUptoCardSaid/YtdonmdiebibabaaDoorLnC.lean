/- The walk of unhex. -/
import Derived.Test.YtdonmdiebibabaaDoorLnB
import Derived.Test.YtdonmdiebibabaaDoorOwnMake
namespace Go.Proofs.YtdonmdiebibabaaDoor
open Go.RowKit Go.Sort Go.Lib
set_option linter.unusedVariables false
set_option maxRecDepth 100000
set_option linter.unusedSimpArgs false

/-- Bytes in a new block. -/
structure NewB (w w' : World) (a : Option Addr) (l c : Nat) (xs : List Int) : Prop where
  row : Row .u8 w' a l c xs
  new : ∀ x, a = some x → w.heap.size ≤ x.block ∧ x.block < w'.heap.size
  below : Below w.heap.size w w'
theorem NewB.nil (w : World) : NewB w w none 0 0 [] := ⟨⟨rfl, Nat.le_refl _, Nat.zero_le _, fun _ => rfl, fun x hx => (List.not_mem_nil hx).elim, .inl rfl⟩, fun x hx => (by cases hx), Below.refl _ _⟩
theorem NewB.none {w w' : World} (h : Below w.heap.size w w') : NewB w w' none 0 0 [] := ⟨⟨rfl, Nat.le_refl _, Nat.zero_le _, fun _ => rfl, fun x hx => (List.not_mem_nil hx).elim, .inl rfl⟩, fun x hx => (by cases hx), h⟩
theorem ownNew {w w' : World} {e : TypeId} {a : Option Addr} {l c : Nat} {xs : List Int} (h : Own w' w.heap.size e 1 a l c (xs.map (.int .u8))) (hw : ∀ x ∈ xs, (Lit.int .u8 x).wf = true) (hb : Below w.heap.size w w') : NewB w w' a l c xs := by
  refine ⟨h.row.toRow hw, fun x hx => ?_, hb⟩
  subst hx
  rcases h.form with ⟨h0, _⟩ | ⟨g, cur, hg, hB, hh, _⟩
  · cases h0
  · obtain rfl : x = ⟨g, 0, none⟩ := by simpa using hg
    exact ⟨hB, (Array.getElem?_eq_some_iff.1 hh).1⟩
/-- What unhex hands back. -/
def Unhexed (s : Nm) (w : World) (e : Ending) (w' : World) : Prop := match unhexP s with
  | some l => ∃ a n c, e = .returned (.tuple #[.slice a n c, .bool true]) ∧ NewB w w' a n c l
  | none => ∃ a n c l, e = .returned (.tuple #[.slice a n c, .bool false]) ∧ NewB w w' a n c l
theorem unhexed_none {s : Nm} {w w' : World} (h : unhexP s = none) (hb : Below w.heap.size w w') : Unhexed s w (.returned (.tuple #[.slice none 0 0, .bool false])) w' := by
  unfold Unhexed; rw [h]; exact ⟨none, 0, 0, [], rfl, NewB.none hb⟩
theorem unhexed_some {s : Nm} {w w' : World} {l : List Int} {a : Option Addr} {n c : Nat} (h : unhexP s = some l) (hb : NewB w w' a n c l) : Unhexed s w (.returned (.tuple #[.slice a n c, .bool true])) w' := by
  unfold Unhexed; rw [h]; exact ⟨a, n, c, rfl, hb⟩
theorem idxStr (s : Nm) (j : Nat) (i : Int) (hij : i = (j : Int)) (h : j < s.length) (W : World) : (Instr.index 9 (encStr s) (.int .i64 i)).run Tryd.prog W = .ok (.int .u8 ((s[j]'h).toNat : Int)) W := by
  subst hij
  have hs : (⟨s.toArray⟩ : ByteArray).size = s.length := by show s.toArray.size = _; simp
  rw [show encStr s = .string ⟨s.toArray⟩ from rfl, run_index_string (h := Tryd.underlying9), dif_pos ⟨by omega, by rw [hs]; omega⟩]
  rfl
theorem digCall (c : UInt8) (A : Int) (h : Lib.indexByte digsP c = A) (W : World) : Calls Tryd.prog 39 #[.string ⟨#[48, 49, 50, 51, 52, 53, 54, 55, 56, 57, 97, 98, 99, 100, 101, 102]⟩, .int .u8 (c.toNat : Int)] W fun e w' => e = .returned (.int .i64 A) ∧ w' = W := by
  refine (strings_IndexByte ⟨#[48, 49, 50, 51, 52, 53, 54, 55, 56, 57, 97, 98, 99, 100, 101, 102]⟩ (c.toNat : Int) W).mono ?_
  rintro e w' ⟨rfl, rfl⟩
  refine ⟨?_, rfl⟩
  rw [← h]
  have : ((c.toNat : Int)).toNat.toUInt8 = c := by simp
  rw [this]; rfl
theorem strLen (s : Nm) : (⟨s.toArray⟩ : ByteArray).size = s.length := by show s.toArray.size = _; simp
theorem unpairs_append : ∀ (n : Nat) (l r : List UInt8), l.length = 2 * n → unpairs (l ++ r) = match unpairs l with | some x => (unpairs r).map (x ++ ·) | none => none
  | 0, l, r, h => by
    obtain rfl : l = [] := List.eq_nil_of_length_eq_zero (by omega)
    show unpairs r = _
    simp only [unpairs]
    cases unpairs r <;> simp
  | n + 1, l, r, h => by
    match l, h with
    | a :: b :: l, h =>
      show unpairs (a :: b :: (l ++ r)) = _
      simp only [unpairs]
      split
      · rfl
      · rw [unpairs_append n l r (by simp at h; omega)]
        cases unpairs l with
        | none => rfl
        | some x => simp only [Option.map_some]; cases unpairs r <;> simp
    | [_], h => simp at h; omega
    | [], h => simp at h
theorem unpairs_two (s : List UInt8) (n : Nat) (h : 2 * n + 1 < s.length) (l : List Int) (hl : unpairs (s.take (2 * n)) = some l) :
    (indexByte digsP s[2 * n] < 0 ∨ indexByte digsP (s[2 * n + 1]) < 0 → unpairs s = none) ∧
    (¬ (indexByte digsP s[2 * n] < 0 ∨ indexByte digsP (s[2 * n + 1]) < 0) → unpairs (s.take (2 * (n + 1))) = some (l ++ [indexByte digsP s[2 * n] * 16 + indexByte digsP (s[2 * n + 1])])) := by
  have e : s.drop (2 * n) = s[2 * n] :: s[2 * n + 1] :: s.drop (2 * n + 2) := by
    rw [List.drop_eq_getElem_cons (by omega), List.drop_eq_getElem_cons (by omega)]
  refine ⟨fun hb => ?_, fun hb => ?_⟩
  · have : s = s.take (2 * n) ++ s.drop (2 * n) := (List.take_append_drop _ _).symm
    rw [this, unpairs_append n _ _ (by rw [List.length_take]; omega), hl, e]
    simp only [unpairs]
    rw [if_pos hb]; rfl
  · have e2 : s.take (2 * (n + 1)) = s.take (2 * n) ++ [s[2 * n], s[2 * n + 1]] := by
      rw [show 2 * (n + 1) = 2 * n + 1 + 1 by omega, List.take_succ_eq_append_getElem (by omega), List.take_succ_eq_append_getElem (by omega), List.append_assoc]; rfl
    rw [e2, unpairs_append n _ _ (by rw [List.length_take]; omega), hl]
    simp only [unpairs]
    rw [if_neg hb]; rfl
theorem indexByte_lt (c : UInt8) : indexByte digsP c < 16 := by
  have h : ∀ c : Fin 256, indexByte digsP (UInt8.ofNat c.val) < 16 := by decide +kernel
  have := h ⟨c.toNat, c.toNat_lt⟩
  simpa using this
theorem orFin : ∀ a b : Fin 16, bits BinOp.or IntKind.i64 ((a.val : Int) * 16) (b.val : Int) = (a.val : Int) * 16 + (b.val : Int) := by decide +kernel
theorem orDigits (A B : Int) (h0 : 0 ≤ A) (h1 : A < 16) (h2 : 0 ≤ B) (h3 : B < 16) : bits BinOp.or IntKind.i64 (A * 16) B = A * 16 + B := by
  obtain ⟨a, rfl⟩ := Int.eq_ofNat_of_zero_le h0
  obtain ⟨b, rfl⟩ := Int.eq_ofNat_of_zero_le h2
  exact orFin ⟨a, by omega⟩ ⟨b, by omega⟩
theorem info_byteC : (Tryd.prog.info? 5).map (fun i => (i.zero, i.size, i.bytes)) = some (some (.int .u8 0), 1, 1) := by kernel_rfl
set_option maxHeartbeats 4000000 in
theorem unhexW (s : Nm) (w : World) (hl : s.length ≤ 4000000) :
    Calls Tryd.prog 24 #[encStr s] w (Unhexed s w) := by
  by_cases h1 : s = [45]
  · subst h1
    have hU : Hid (unhexP [45] = some []) := rfl
    go_enter Tryd.func24, Tryd.ntmps24
    go_wp2_with fail
    exact bodyPost_ret (results_tmp2 Tryd.results24 _ _ _) rfl (unhexed_some hU.out (NewB.nil w))
  · have h1b : (s == [45]) = false := by simpa using h1
    by_cases h2 : s = [] ∨ s.length % 2 ≠ 0
    · have hU : Hid (unhexP s = none) := by show _ = _; unfold unhexP; rw [if_neg h1, if_pos h2]
      rcases h2 with h2 | h2
      · subst h2
        clear h1 h1b
        go_enter Tryd.func24, Tryd.ntmps24
        go_wp2_with fail
        exact bodyPost_ret (results_tmp2 Tryd.results24 _ _ _) rfl (unhexed_none hU.out (Below.refl _ _))
      · have h2b : List.isEmpty s = false := by cases s with | nil => simp at h2 | cons x r => rfl
        have h2c : ((s.length : Int) % 2 != 0) = true := by simp; omega
        clear h1 h2
        go_enter Tryd.func24, Tryd.ntmps24
        go_wp2_with fail
        exact bodyPost_ret (results_tmp2 Tryd.results24 _ _ _) rfl (unhexed_none hU.out (Below.refl _ _))
    · have hU : Hid (unhexP s = unpairs s) := by show _ = _; unfold unhexP; rw [if_neg h1, if_neg h2]
      have h2e : s ≠ [] := fun h => h2 (.inl h)
      have h2f : s.length % 2 = 0 := by rcases Nat.mod_two_eq_zero_or_one s.length with h | h; exact h; exact absurd (.inr (by omega)) h2
      have h2b : List.isEmpty s = false := by cases s with | nil => exact absurd rfl h2e | cons x r => rfl
      have h2c : ((s.length : Int) % 2 != 0) = false := by simp; omega
      obtain ⟨m, hm⟩ : ∃ m, s.length = 2 * m := ⟨s.length / 2, by omega⟩
      have HM := Lib.hid hm
      have hmb : m ≤ 2000000 := by omega
      obtain ⟨B, hB⟩ : ∃ B, Hid (w.heap.size = B) := ⟨_, rfl⟩
      have S0 : Hid (SOwn (Lay.int .u8) w B 5 (fun _ => True) none 0 0 []) := SOwn.nil ..
      have B0 : Hid (Below B w w) := Below.refl _ _
      clear h1 h2 h2e h2f hm
      go_enter Tryd.func24, Tryd.ntmps24
      go_wp2_with fail
      go_loopw [4, 5] (fun ov iv wr => ∃ (n : Nat) (ao : Option Addr) (co : Nat) (l : List Int), n ≤ m ∧ iv = .int .i64 ((2 * n : Nat) : Int) ∧ ov = .slice ao n co ∧ Hid (unpairs (s.take (2 * n)) = some l) ∧ Hid (SOwn (Lay.int .u8) wr B 5 (fun _ => True) ao n co l) ∧ Hid (Below B w wr)) (fun _ iv _ => 2 * m + 2 - (RowKit.intOf iv).toNat)
      case atStart => exact ⟨0, none, 0, [], by omega, rfl, rfl, rfl, S0, B0⟩
      case round =>
        obtain ⟨n, ao, co, l, hn, rfl, rfl, hul, hO, hBr⟩ := hrel
        by_cases hlt : n < m
        · have il : ((2 * n : Nat) : Int) < (s.length : Int) := by have := HM.out; omega
          have h21 : 2 * n + 1 < s.length := by have := HM.out; omega
          have hU2 := Lib.hid (unpairs_two s n h21 l hul.out)
          obtain ⟨j, hj⟩ : ∃ j, Hid (2 * n = j) := ⟨_, rfl⟩
          rw [hj.out] at il
          have hjl : j < s.length := by have := hj.out; omega
          have hjl1 : j + 1 < s.length := by have := hj.out; omega
          have ij1 : (j : Int) + 1 < (s.length : Int) := by omega
          have wj : IntKind.i64.wrap ((j : Int) + 1) = (j : Int) + 1 := IntWalk.i64_in _ (by omega)
          have tj : ((j : Int) + 1).toNat = j + 1 := by omega
          rw [hj.out]
          go_wp2_with fail
          have hi0 := fun W => idxStr s j (j : Int) rfl hjl W
          have hi1 := fun W => idxStr s (j + 1) ((j : Int) + 1) (by omega) hjl1 W
          obtain ⟨ca, hca⟩ : ∃ ca, Hid (s[j]'hjl = ca) := ⟨_, rfl⟩
          obtain ⟨cb, hcb⟩ : ∃ cb, Hid (s[j + 1]'hjl1 = cb) := ⟨_, rfl⟩
          rw [hca.out] at hi0
          rw [hcb.out] at hi1
          obtain ⟨A, hA⟩ : ∃ A, Hid (Lib.indexByte digsP ca = A) := ⟨_, rfl⟩
          obtain ⟨Bq, hBq⟩ : ∃ Bq, Hid (Lib.indexByte digsP cb = Bq) := ⟨_, rfl⟩
          have HC0 := Lib.hid (fun W => digCall ca A hA.out W)
          have HC1 := Lib.hid (fun W => digCall cb Bq hBq.out W)
          have hA16 : A < 16 := by have := indexByte_lt ca; rw [hA.out] at this; exact this
          have hB16 : Bq < 16 := by have := indexByte_lt cb; rw [hBq.out] at this; exact this
          have hAm : -1 ≤ A := by have := Lib.indexByte_ge digsP ca; rw [hA.out] at this; exact this
          have hBm : -1 ≤ Bq := by have := Lib.indexByte_ge digsP cb; rw [hBq.out] at this; exact this
          have HU3 : Hid ((A < 0 ∨ Bq < 0 → unpairs s = none) ∧ (¬ (A < 0 ∨ Bq < 0) → unpairs (s.take (2 * (n + 1))) = some (l ++ [A * 16 + Bq]))) := by
            have := hU2.out
            simp only [hj.out, hca.out, hcb.out, hA.out, hBq.out] at this
            exact this
          clear hA hBq hca hcb hU2
          go_quiet ((go_at_call 39; first | exact Calls.quiet_of_same (HC0.out _) | exact Calls.quiet_of_same (HC1.out _)))
          clear hi0 hi1
          have HB3 : Hid (Below B w (wr.drewN nq)) := below_drewN hBr.out _
          by_cases hneg : A < 0 ∨ Bq < 0
          · have hnone : Hid (unpairs s = none) := HU3.out.1 hneg
            have HB4 : Hid (Below w.heap.size w (wr.drewN nq)) := by rw [hB.out]; exact HB3.out
            by_cases hA0 : A < 0
            · clear hneg
              go_wp2_with fail
              exact bodyPost_ret (results_tmp2 Tryd.results24 _ _ _) rfl (unhexed_none (by rw [hU.out]; exact hnone.out) HB4.out)
            · have hB0 : Bq < 0 := by omega
              clear hneg
              go_wp2_with fail
              exact bodyPost_ret (results_tmp2 Tryd.results24 _ _ _) rfl (unhexed_none (by rw [hU.out]; exact hnone.out) HB4.out)
          · have hA0 : 0 ≤ A := by omega
            have hB0 : 0 ≤ Bq := by omega
            have hA0' : ¬ A < 0 := by omega
            have hB0' : ¬ Bq < 0 := by omega
            have hnext : Hid (unpairs (s.take (2 * (n + 1))) = some (l ++ [A * 16 + Bq])) := HU3.out.2 hneg
            obtain ⟨V, hV⟩ : ∃ V, V = wr.drewN nq := ⟨_, rfl⟩
            have HOV : Hid (SOwn (Lay.int .u8) V B 5 (fun _ => True) ao n co l) := by rw [hV]; exact hO.out.keep (Nat.le_refl _) (fun _ _ _ => rfl)
            rw [← hV] at HB3 ⊢
            have hbit : bits BinOp.or IntKind.i64 (A * 16) Bq = A * 16 + Bq := orDigits A Bq hA0 hA16 hB0 hB16
            have hmod : (A * 16 + Bq) % 256 = A * 16 + Bq := by omega
            have hBV : B ≤ V.heap.size := by have := HB3.out.size; have := hB.out; omega
            have HY : Hid ((Lay.int .u8).at_ V (fun _ => False) (A * 16 + Bq) (#[Value.int .u8 (A * 16 + Bq)] : Array Value).toList) := ⟨rfl, by simp [Lit.wf, IntKind.min, IntKind.max, IntKind.signed, IntKind.bits]; omega⟩
            have HF : Hid (∀ b, False → True ∧ b < V.heap.size ∧ (Value.slice ao n co).ownBlock ≠ some b) := fun b h => h.elim
            clear hneg hV hO
            go_wp2_with (at_builtin; refine wpList_append_one (L := Lay.int .u8) (wr := V) rfl (.tmp 39) (.tmp 45) 22 rfl B 5 _ 1 Tryd.underlying22 info_byteC rfl (fun _ => True) ao n co l rfl HOV.out #[.int .u8 (A * 16 + Bq)] (A * 16 + Bq) rfl _ HY.out HF.out (by unfold maxLen; omega) (by omega) hBV ?_; intro a5 c5 w5 hown5 hg5; have HO5 := Lib.hid hown5; have HB5 : Hid (Below B w w5) := SOwn.grown HOV.out HB3.out (Nat.le_refl _) hBV hg5; clear hown5 hg5)
            have hj2 : Hid ((j : Int) + 2 = ((2 * (n + 1) : Nat) : Int)) := by show _ = _; have := hj.out; omega
            go_roundw
            case rel => exact ⟨n + 1, a5, c5, _, by omega, by rw [← hj2.out], rfl, hnext, HO5, HB5⟩
            case measure => (simp [RowKit.intOf]; have := hj.out; omega)
        · obtain rfl : n = m := by omega
          have hall : Hid (unpairs s = some l) := by have := hul.out; rwa [List.take_of_length_le (by have := HM.out; omega)] at this
          have hge : ¬ ((2 * n : Nat) : Int) < (s.length : Int) := by have := HM.out; omega
          have HN : Hid (NewB w wr ao n co l) := ⟨SOwn.ints hO.out, fun x hx => by
            have := World.ownsRow.lt hO.out.2.choose_spec.choose_spec.1 x.block (by rw [hx]; rfl)
            exact ⟨by have := hB.out; omega, this.2⟩, by rw [hB.out]; exact hBr.out⟩
          obtain ⟨j, hj⟩ : ∃ j, Hid (2 * n = j) := ⟨_, rfl⟩
          rw [hj.out] at hge ⊢
          go_wp2_with fail
          exact bodyPost_ret (results_tmp2 Tryd.results24 _ _ _) rfl (unhexed_some (by rw [hU.out]; exact hall.out) HN.out)
end Go.Proofs.YtdonmdiebibabaaDoor
