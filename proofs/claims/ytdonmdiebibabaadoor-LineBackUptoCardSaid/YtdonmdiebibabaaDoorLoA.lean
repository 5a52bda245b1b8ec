/- The walks of number (at any text), of Read's test on a word, of slices.IndexFunc over the words. -/
import Derived.Test.YtdonmdiebibabaaDoorLoP
import Derived.Test.YtdonmdiebibabaaDoorLnE
import Derived.Laws.RangeString
import Derived.RegionTactic
namespace Go.Proofs.YtdonmdiebibabaaDoor
open Go.RowKit Go.Sort
set_option linter.unusedVariables false
set_option maxRecDepth 100000
set_option linter.unusedSimpArgs false

def wordCells : Array Value := (wordsT.flatMap fun w => [encStr w.1, encStr w.2]).toArray
/-- What the lines' functions ask of the world. -/
structure EnvX (w : World) : Prop where
  env : Env w
  words : w.var? Tryd.prog "quickset/desk.words" = some wordCells
  es : ∃ tp p, w.var? Tryd.prog "strconv.ErrSyntax" = some #[.iface tp p]
  er : ∃ tp p, w.var? Tryd.prog "strconv.ErrRange" = some #[.iface tp p]
theorem EnvX.below {w w' : World} (h : EnvX w) (hb : Below w.heap.size w w') : EnvX w' :=
  ⟨h.env.below hb, var_below h.words hb, h.es.elim fun tp h => h.elim fun p h => ⟨tp, p, var_below h hb⟩, h.er.elim fun tp h => h.elim fun p h => ⟨tp, p, var_below h hb⟩⟩
theorem gWords : Tryd.prog.globalNamed "quickset/desk.words" = some 0 := by kernel_rfl
theorem wordCells_at : ∀ k : Fin 19, wordCells[2 * k.val]? = some (encStr (wordOf k.val)) ∧ wordCells[2 * k.val + 1]? = some (encStr (lettersOf k.val)) := by
  intro ⟨k, hk⟩
  repeat (first | (exfalso; omega) | (cases k with | zero => exact ⟨rfl, rfl⟩ | succ k => ?_))
theorem EnvX.word {w : World} (h : EnvX w) {k : Nat} (hk : k < 19) : w.cell? ⟨0, 2 * k, none⟩ = some (encStr (wordOf k)) ∧ w.cell? ⟨0, 2 * k + 1, none⟩ = some (encStr (lettersOf k)) :=
  ⟨(World.var?_cell gWords h.words _).trans (wordCells_at ⟨k, hk⟩).1, (World.var?_cell gWords h.words _).trans (wordCells_at ⟨k, hk⟩).2⟩
theorem EnvX.lt {w : World} (h : EnvX w) : 0 < w.heap.size := World.block_lt_of_cell? _ _ (h.word (k := 0) (by decide)).1

set_option maxHeartbeats 4000000 in
theorem numberW (s : Nm) (w : World) (hE : EnvX w) (hl : s.length ≤ 4000000) :
    Calls Tryd.prog 23 #[encStr s] w fun e w' => e = .returned (.tuple #[.int .i64 (numP s).1, .bool (numP s).2]) ∧ Hid (Below w.heap.size w w') := by
  have bad : ∀ (n : Int) (x : Value), Hid (numP s = (n, false)) → Hid (Calls Tryd.prog 38 #[encStr s] w fun e w' => (∃ N, e = .returned (.tuple #[.int .i64 n, .iface 103 (.pointer (some ⟨N, 0, none⟩))])) ∧ Hid (Below w.heap.size w w')) → Calls Tryd.prog 23 #[encStr s] w fun e w' => e = .returned (.tuple #[.int .i64 (numP s).1, .bool (numP s).2]) ∧ Hid (Below w.heap.size w w') := by
    intro n x hn HA
    rw [hn.out]
    clear hE
    go_enter Tryd.func23, Tryd.ntmps23
    go_wp2_with (first
      | (go_at_call 38; refine HA.out.mono ?_; rintro e w1 ⟨⟨N, rfl⟩, hb1⟩)
      | fail)
    exact bodyPost_ret (results_tmp2 Tryd.results23 _ _ _) rfl ⟨rfl, hb1⟩
  cases hat : Lib.atoiAll s
  case ok v =>
    have hr := mag_le s v hat
    have hA := strconv_Atoi_ok ⟨s.toArray⟩ (by show s.length ≤ _; omega) v hat w
    have HA : Hid (Calls Tryd.prog 38 #[encStr s] w fun e w' => e = .returned (.tuple #[.int .i64 v, .nilIface]) ∧ Hid (Below w.heap.size w w')) := hA.mono fun e w' ⟨h, hw⟩ => ⟨h, by
      rcases hw with rfl | ⟨t, rfl⟩
      · exact Below.refl _ _
      · exact Joins.below_bytesWorld _ w _ t (Nat.le_refl _)⟩
    have HI : Hid (∀ W, Env W → Calls Tryd.prog 19 #[.int .i64 v] W fun e w' => e = .returned (encStr (Lib.itoa v)) ∧ Hid (Below W.heap.size W w')) := fun W hE => itoaW v hr.1 hr.2 W hE
    have HE := Lib.hid hE
    have hn : Hid (numP s = (v, Lib.itoa v == s)) := by show _ = _; unfold numP; rw [hat]
    obtain ⟨t, ht⟩ : ∃ t, Hid (Lib.itoa v = t) := ⟨_, rfl⟩
    rw [hn.out]
    rw [ht.out] at HI ⊢
    clear hA hE hat hn bad hr
    go_enter Tryd.func23, Tryd.ntmps23
    go_wp2_with (first
      | (go_at_call 38; refine HA.out.mono ?_; rintro e w1 ⟨rfl, hb1⟩; have HE1 := Lib.hid (HE.out.below hb1.out))
      | (go_at_call 19; refine (HI.out w1 HE1.out.env).mono ?_; rintro e w2 ⟨rfl, hb2⟩)
      | fail)
    exact bodyPost_ret (results_tmp2 Tryd.results23 _ _ _) rfl ⟨rfl, hb1.out.trans (hb2.out.mono hb1.out.size)⟩
  case range =>
    obtain ⟨tp, p, hv⟩ := hE.er
    refine bad (Lib.atoiSat s) .nilIface (by show _ = _; unfold numP; rw [hat]) ?_
    refine (Any.strconv_Atoi_range_var laysC172 ⟨s.toArray⟩ (by show s.length ≤ _; omega) hat tp p w hv).mono ?_
    rintro e w' ⟨N, rfl, _, _, hb⟩
    exact ⟨⟨N, rfl⟩, hb⟩
  all_goals
    obtain ⟨tp, p, hv⟩ := hE.es
    refine bad 0 .nilIface (by show _ = _; unfold numP; rw [hat]) ?_
    refine (Any.strconv_Atoi_syntax_var laysC172 ⟨s.toArray⟩ (by show s.length ≤ _; omega) hat tp p w hv).mono ?_
    rintro e w' ⟨N, rfl, _, _, hb⟩
    exact ⟨⟨N, rfl⟩, hb⟩


/-- Is it the first part? -/
theorem isFirst (x s y : Nm) (p P o n c : Nat) (w : World) (hp : w.cell? ⟨p, 0, none⟩ = some (.slice (some ⟨P, o, none⟩) n c)) (hs : w.cell? ⟨P, o, none⟩ = some (encStr s)) (hn : 0 < n) :
    Calls Tryd.prog 30 #[.agg #[encStr x, encStr y], .pointer (some ⟨p, 0, none⟩)] w fun e w' => e = .returned (.bool (x == s)) ∧ Hid (Below w.heap.size w w') := by
  have hpl := World.block_lt_of_cell? _ _ hp
  have hsl := World.block_lt_of_cell? _ _ hs
  have hB : Hid (Below w.heap.size w (w.alloc (.cells #[encStr x, encStr y] 58))) := Below_alloc1 _
  have c0 : (w.alloc (.cells #[encStr x, encStr y] 58)).cell? ⟨p, 0, none⟩ = some (.slice (some ⟨P, o, none⟩) n c) := (hB.out.cell hpl).trans hp
  have c1 : (w.alloc (.cells #[encStr x, encStr y] 58)).cell? ⟨P, o, none⟩ = some (encStr s) := (hB.out.cell hsl).trans hs
  have hnn : (0 : Int) < (n : Int) := by omega
  have c2 : (w.alloc (.cells #[encStr x, encStr y] 58)).cell? ⟨w.heap.size, 0, none⟩ = some (encStr x) := (Box.new (vs := #[encStr x, encStr y]) (t := 58) rfl : Box _ _ _ _).cell 0
  obtain ⟨W, hW⟩ : ∃ W, W = w.alloc (.cells #[encStr x, encStr y] 58) := ⟨_, rfl⟩
  rw [← hW] at hB c0 c1 c2
  go_enter Tryd.func30, Tryd.ntmps30
  go_upto_region 1 with fail
  rw [← hW]
  clear hW hp hs
  go_quiet (fail)
  go_wp2_with fail
  go_ret
  exact ⟨by first | rfl | trace_state, below_drewN hB.out _⟩
theorem wordIx_hit {s : Nm} {i : Nat} (hi : i < 19) (h : (wordOf i == s) = true) (hb : ∀ j, j < i → (wordOf j == s) = false) : wordIx s = some i := by
  have e : ∀ j, j < 19 → (wordsT[j]?.map (·.1)) = some (wordOf j) := fun j hj => by
    unfold wordOf
    have hj2 : j < wordsT.length := hj
    simp only [List.getD_eq_getElem?_getD, List.getElem?_eq_getElem hj2, Option.map_some, Option.getD_some]
  unfold wordIx
  rw [List.findIdx?_eq_some_iff_getElem]
  have g : ∀ j (hj : j < wordsT.length), wordsT[j].1 = wordOf j := fun j hj => by
    have := e j hj
    rw [List.getElem?_eq_getElem hj] at this
    exact Option.some.inj this
  have hi' : i < wordsT.length := hi
  refine ⟨hi', ?_, fun j hj => ?_⟩
  · show (wordsT[i].1 == s) = true
    have := g i hi'
    rw [this]; exact h
  · show ¬ (wordsT[j].1 == s) = true
    have := g j (Nat.lt_trans hj hi')
    rw [this, hb j hj]; decide
theorem wordIx_miss {s : Nm} (hb : ∀ j, j < 19 → (wordOf j == s) = false) : wordIx s = none := by
  cases h : wordIx s with
  | none => rfl
  | some k =>
    obtain ⟨h1, h2⟩ := wordIx_some h
    have := hb k h1
    rw [h2] at this
    simp at this
def ixOf : Option Nat → Int
  | some k => (k : Int)
  | none => -1
set_option maxHeartbeats 4000000 in
/-- Which word is the first part? -/
theorem indexWord (s : Nm) (p P o n c : Nat) (w : World) (hE : EnvX w) (hp : w.cell? ⟨p, 0, none⟩ = some (.slice (some ⟨P, o, none⟩) n c)) (hs : w.cell? ⟨P, o, none⟩ = some (encStr s)) (hn : 0 < n) :
    Calls Tryd.prog 29 #[.slice (some ⟨0, 0, none⟩) 19 19, .func (.func 30) #[] #[.pointer (some ⟨p, 0, none⟩)]] w fun e w' => e = .returned (.int .i64 (ixOf (wordIx s))) ∧ Hid (Below w.heap.size w w') := by
  have HE := Lib.hid hE
  have HP := Lib.hid hp
  have HS := Lib.hid hs
  have HPl := Lib.hid (World.block_lt_of_cell? _ _ hp)
  have HSl := Lib.hid (World.block_lt_of_cell? _ _ hs)
  clear hE hp hs
  go_enter Tryd.func29, Tryd.ntmps29
  go_wp2_with fail
  go_loopw [8] (fun iv wr => ∃ i : Nat, i ≤ 19 ∧ iv = .int .i64 i ∧ Hid (∀ j, j < i → (wordOf j == s) = false) ∧ Hid (Below w.heap.size w wr)) (fun iv _ => 19 - (intOf iv).toNat)
  case atStart => exact ⟨0, by omega, rfl, fun j hj => absurd hj (Nat.not_lt_zero _), Below.refl _ _⟩
  case round =>
    obtain ⟨i, hi, rfl, hno, hB⟩ := hrel
    by_cases hlt : i < 19
    · have il : (i : Int) < 19 := by omega
      have c0 := ((HE.out.below hB.out).word hlt).1
      have c1 := ((HE.out.below hB.out).word hlt).2
      have c0' : wr.cell? ⟨0, i * 2, none⟩ = some (encStr (wordOf i)) := by rw [Nat.mul_comm]; exact c0
      have c1' : wr.cell? ⟨0, i * 2 + 1, none⟩ = some (encStr (lettersOf i)) := by rw [Nat.mul_comm]; exact c1
      have HO := Lib.hid (isFirst (wordOf i) s (lettersOf i) p P o n c wr ((hB.out.cell HPl.out).trans HP.out) ((hB.out.cell HSl.out).trans HS.out) hn)
      cases ho : (wordOf i == s) with
      | true =>
        have hall : Hid (wordIx s = some i) := wordIx_hit hlt ho hno.out
        have HO2 := HO.out
        rw [ho] at HO2
        have HO3 := Lib.hid HO2
        clear ho HO HO2 hno
        go_wp2_with (go_at_call 30; refine HO3.out.mono ?_; rintro e w2 ⟨rfl, hb⟩)
        go_ret
        exact ⟨by rw [hall.out]; rfl, hB.out.trans (hb.out.mono hB.out.size)⟩
      | false =>
        have HO2 := HO.out
        rw [ho] at HO2
        have HO3 := Lib.hid HO2
        have hno2 : Hid (∀ j, j < i + 1 → (wordOf j == s) = false) := fun j hj => by
          by_cases e : j = i
          · subst e; exact ho
          · exact hno.out j (by omega)
        clear ho HO HO2 hno
        go_wp2_with (go_at_call 30; refine HO3.out.mono ?_; rintro e w2 ⟨rfl, hb⟩)
        go_roundw
        case rel => exact ⟨i + 1, by omega, by go_num, hno2, hB.out.trans (hb.out.mono hB.out.size)⟩
        case measure => (simp [intOf]; try omega)
    · obtain rfl : i = 19 := by omega
      have hall : Hid (wordIx s = none) := wordIx_miss hno.out
      go_wp2_with fail
      go_ret
      exact ⟨by rw [hall.out]; rfl, hB⟩
end Go.Proofs.YtdonmdiebibabaaDoor
