/- The walks of no, Name, room. -/
import Derived.Test.YtkbfohbpndjcpaaPoA
import Derived.Laws.IdiomStrings
namespace Go.Proofs.Ytkbfohbpndjcpaa
open Go.RowKit
set_option linter.unusedVariables false
set_option maxRecDepth 100000

theorem results_boxP {P : Program} {fn : Func} {p : Tmp} {ty : TypeId} (h : fn.results = #[.cell p ty]) (tmps : Array Value) (w : World) (g : Nat) (t : TypeId) (cs : Array Value) (hg : Box w g cs t) (d : TypeDesc)
    (hp : tmps.getD p undef = .pointer (some ⟨g, 0, none⟩))
    (hu : P.underlying ty = some d) (hd : (match d with | .struct _ | .array _ _ => true | _ => false) = true) (hi : (P.info? ty).map (·.size) = some cs.size) :
    (results fn tmps).run P w = .ok (.agg cs) w := by
  have hp' : tmps[p]?.getD undef = .pointer (some ⟨g, 0, none⟩) := by simpa using hp
  simp [results, h, hp', asAddr, run_loadVar_row w g t ty cs (0, 0) d hg hu hd hi]
/-! what a command came to, in cells -/
def strL : Lay Nm := Lay.flat 1 (by decide) (fun s => [encStr s]) (fun _ => rfl) (fun x v hv => by obtain rfl := List.mem_singleton.1 hv; rfl)
def tdL : Lay Td := Lay.map (Lay.pair (Lay.flat 3 (by decide) (fun t : Td => [.int .i64 (t.code : Int), .bool false, .int .i64 (t.size : Int)]) (fun _ => rfl) (fun x v hv => by
  simp only [List.mem_cons, List.mem_nil_iff, or_false] at hv
  rcases hv with rfl | rfl | rfl <;> rfl)) (Lay.pair (Lay.int .u8).slice strL.slice)) (fun t => (t, (t.data, t.names)))
def tdV (code size : Nat) (ad : Option Addr) (ld cd : Nat) (an : Option Addr) (ln cn : Nat) : Array Value := #[.int .i64 (code : Int), .bool false, .int .i64 (size : Int), .slice ad ld cd, .slice an ln cn]
theorem td_at {w : World} {F : Nat → Prop} {t : Td} {ad : Option Addr} {ld cd : Nat} {an : Option Addr} {ln cn : Nat} (h : SRow (Lay.int .u8) w F ad ld cd t.data) (k : SRow strL w F an ln cn t.names) : tdL.at_ w F t (tdV t.code t.size ad ld cd an ln cn).toList :=
  ⟨[.int .i64 (t.code : Int), .bool false, .int .i64 (t.size : Int)], [.slice ad ld cd, .slice an ln cn], rfl, rfl, [.slice ad ld cd], [.slice an ln cn], rfl, ⟨ad, ld, cd, rfl, h⟩, ⟨an, ln, cn, rfl, k⟩⟩
def noV (e : Nat) : Array Value := tdV e 0 none 0 0 none 0 0
theorem no_at (w : World) (F : Nat → Prop) (e : Nat) : tdL.at_ w F (noP e) (noV e).toList := td_at (t := noP e) (SRow.nil ..) (SRow.nil ..)
set_option maxHeartbeats 1000000 in
theorem noW (e : Nat) (w : World) : Calls Try.prog 23 #[.int .i64 (e : Int)] w fun e' w' => e' = .returned (.agg (noV e)) ∧ Below w.heap.size w w' := by
  go_enter Try.func23, Try.ntmps23
  go_wp2_with fail
  exact bodyPost_ret (results_boxP Try.results23 _ _ w.heap.size _ _ (Box.new rfl) _ rfl Try.underlying41 rfl (by kernel_rfl)) rfl ⟨rfl, Below_alloc1 _⟩
theorem convS (n : Nm) (w : World) : ∃ (c : Nat) (W : World), (convert 9 28 (.string ⟨n.toArray⟩)).run Try.prog w = .ok (.slice (some ⟨w.heap.size, 0, none⟩) n.length c) W ∧ n.length ≤ c ∧ Below w.heap.size w W ∧ ∀ i (h : i < n.length), W.cell? ⟨w.heap.size, i, none⟩ = some (.int .u8 (n[i].toNat : Int)) := by
  refine ⟨_, _, run_bytes_of_string w 9 28 5 ⟨n.toArray⟩ Try.underlying9 Try.underlying28 Try.underlying5, ?_, ?_, ?_⟩
  · exact grownCap_ge w n.length 0 5
  · exact ((Below.refl _ _).drew).alloc (Nat.le_refl _) _
  · intro i h
    show (w.drew.alloc _).cell? ⟨w.drew.heap.size, i, none⟩ = _
    rw [cell_of_row _ _ _ _ _ _ (heap_alloc_new w.drew _)]
    exact bytesRow_at ⟨n.toArray⟩ _ i (by simpa using h)
def zone (c : UInt8) : Prop := ((c.toNat : Int) < 48 ∧ (c.toNat : Int) < 97) ∨ (48 ≤ (c.toNat : Int) ∧ (c.toNat : Int) ≤ 57 ∧ (c.toNat : Int) < 97) ∨ (57 < (c.toNat : Int) ∧ (c.toNat : Int) < 97) ∨ (97 ≤ (c.toNat : Int) ∧ (c.toNat : Int) ≤ 122) ∨ (122 < (c.toNat : Int) ∧ 57 < (c.toNat : Int))
theorem zones (c : UInt8) : zone c := by unfold zone; omega
theorem nameOk_end (n : Nm) (h : ∀ j (hj : j < n.length), charOk n[j] = true) : nameOk n = (decide (1 ≤ n.length) && decide (n.length ≤ 8)) := by
  unfold nameOk
  have : n.all charOk = true := List.all_eq_true.2 (fun x hx => by
    obtain ⟨j, hj, rfl⟩ := List.getElem_of_mem hx
    exact h j hj)
  rw [this]; rfl
theorem nameOk_bad (n : Nm) (i : Nat) (hi : i < n.length) (h : charOk n[i] = false) : nameOk n = false := by
  unfold nameOk
  have : n.all charOk = false := by
    rw [List.all_eq_false]
    exact ⟨n[i], List.getElem_mem hi, by rw [h]; simp⟩
  rw [this]; rfl
theorem charOk_bad {c : UInt8} (h1 : (c.toNat : Int) < 97 ∨ 122 < (c.toNat : Int)) (h2 : (c.toNat : Int) < 48 ∨ 57 < (c.toNat : Int)) : charOk c = false := by
  unfold charOk
  simp only [Bool.or_eq_false_iff, Bool.and_eq_false_iff, decide_eq_false_iff_not]
  omega
theorem charOk_good {c : UInt8} (h : (97 ≤ (c.toNat : Int) ∧ (c.toNat : Int) ≤ 122) ∨ (48 ≤ (c.toNat : Int) ∧ (c.toNat : Int) ≤ 57)) : charOk c = true := by
  unfold charOk
  simp only [Bool.or_eq_true, Bool.and_eq_true, decide_eq_true_eq]
  omega
set_option maxHeartbeats 4000000 in
theorem nameW (n : Nm) (w : World) (h : n.length ≤ 100) : Calls Try.prog 28 #[encStr n] w fun e w' => e = .returned (.bool (nameOk n)) ∧ Below w.heap.size w w' := by
  obtain ⟨c, W, hconv, hnc, hB, hcell⟩ := convS n w
  have HB := Lib.hid hB
  have HC := Lib.hid hcell
  obtain ⟨g, hg⟩ : ∃ g, w.heap.size = g := ⟨_, rfl⟩
  rw [hg] at hconv hcell
  have HG := Lib.hid hg
  obtain ⟨l, hl⟩ : ∃ l, n.length = l := ⟨_, rfl⟩
  rw [hl] at hconv hnc h
  have HL := Lib.hid hl
  have hsz : (ByteArray.mk n.toArray).size = l := by rw [← hl]; rfl
  clear hB hcell hg hl
  unfold encStr
  go_enter Try.func28, Try.ntmps28
  go_wp2_with fail
  go_loop [8] (fun iv => ∃ i : Nat, i ≤ l ∧ iv = .int .i64 (i : Int) ∧ ∀ j (hj : j < n.length), j < i → charOk n[j] = true) (fun iv => l - (intOf iv).toNat)
  case atStart => exact ⟨0, by omega, rfl, fun j _ hj => by omega⟩
  case round =>
    obtain ⟨i, hi, rfl, hall⟩ := hrel
    by_cases hil : i < l
    · have hin : i < n.length := by rw [HL.out]; exact hil
      have il : (i : Int) < (l : Int) := by omega
      have c0 : W.cell? ⟨g, i, none⟩ = some (.int .u8 (n[i].toNat : Int)) := by rw [← HG.out]; exact HC.out i hin
      obtain ⟨x, hx0⟩ : ∃ x, n[i] = x := ⟨_, rfl⟩
      have hx := Lib.hid hx0
      rw [hx0] at c0
      clear hx0
      have HALL := Lib.hid hall
      clear hall
      rcases zones x with ⟨z1, z2⟩ | ⟨z1, z2, z3⟩ | ⟨z1, z2⟩ | ⟨z1, z2⟩ | ⟨z1, z2⟩
      · obtain ⟨v, hv⟩ : ∃ v, Hid (x.toNat = v) := ⟨_, rfl⟩
        have hbad : Hid (nameOk n = false) := nameOk_bad n i hin (by rw [hx.out]; exact charOk_bad (by omega) (by omega))
        rw [hv.out] at c0 z1 z2
        go_wp2_with fail
        go_ret
        exact ⟨by rw [hbad.out]; rfl, HB.out⟩
      · obtain ⟨v, hv⟩ : ∃ v, Hid (x.toNat = v) := ⟨_, rfl⟩
        have hgood : Hid (charOk n[i] = true) := by show _ = _; rw [hx.out]; exact charOk_good (by omega)
        rw [hv.out] at c0 z1 z2
        rw [hv.out] at z3
        go_wp2_with fail
        go_round
        case rel =>
          refine ⟨i + 1, by omega, by go_num, fun j hj hji => ?_⟩
          by_cases e : j = i
          · subst e; exact hgood.out
          · exact HALL.out j hj (by omega)
        case measure => simp [intOf]; omega
      · obtain ⟨v, hv⟩ : ∃ v, Hid (x.toNat = v) := ⟨_, rfl⟩
        have hbad : Hid (nameOk n = false) := nameOk_bad n i hin (by rw [hx.out]; exact charOk_bad (by omega) (by omega))
        rw [hv.out] at c0 z1 z2
        go_wp2_with fail
        go_ret
        exact ⟨by rw [hbad.out]; rfl, HB.out⟩
      · obtain ⟨v, hv⟩ : ∃ v, Hid (x.toNat = v) := ⟨_, rfl⟩
        have hgood : Hid (charOk n[i] = true) := by show _ = _; rw [hx.out]; exact charOk_good (by omega)
        rw [hv.out] at c0 z1 z2
        go_wp2_with fail
        go_round
        case rel =>
          refine ⟨i + 1, by omega, by go_num, fun j hj hji => ?_⟩
          by_cases e : j = i
          · subst e; exact hgood.out
          · exact HALL.out j hj (by omega)
        case measure => simp [intOf]; omega
      · obtain ⟨v, hv⟩ : ∃ v, Hid (x.toNat = v) := ⟨_, rfl⟩
        have hbad : Hid (nameOk n = false) := nameOk_bad n i hin (by rw [hx.out]; exact charOk_bad (by omega) (by omega))
        rw [hv.out] at c0 z1 z2
        go_wp2_with fail
        go_ret
        exact ⟨by rw [hbad.out]; rfl, HB.out⟩
    · obtain rfl : i = l := by omega
      have hend : Hid (nameOk n = (decide (1 ≤ i) && decide (i ≤ 8))) := by
        have := nameOk_end n (fun j hj => hall j hj (by rw [HL.out] at hj; exact hj))
        rw [HL.out] at this; exact this
      clear hall
      by_cases h1 : 1 ≤ i
      · have q1 : (1 : Int) ≤ (i : Int) := by omega
        have q1' : ¬ ((i : Int) < 1) := by omega
        by_cases h2 : i ≤ 8
        · have q2 : (i : Int) ≤ 8 := by omega
          go_wp2_with fail
          go_ret
          exact ⟨by rw [hend.out]; simp [h1, h2], HB.out⟩
        · have q2 : ¬ ((i : Int) ≤ 8) := by omega
          go_wp2_with fail
          go_ret
          exact ⟨by rw [hend.out]; simp [h1, h2], HB.out⟩
      · obtain rfl : i = 0 := by omega
        go_wp2_with fail
        go_ret
        exact ⟨by rw [hend.out]; rfl, HB.out⟩
theorem zeroO (w : World) : (zeroValue 54).run Try.prog w = .ok (.slice none 0 0) w := by kernel_rfl
theorem zeroS (w : World) : (zeroValue 57).run Try.prog w = .ok (.map none) w := by kernel_rfl
set_option maxHeartbeats 4000000 in
theorem roomO (b : Nat) (m : PM Ob) (n : Nm) (most : Nat) (w : World) (hm : OM obV w b m) (hn : n.length ≤ 100) (hl : m.length ≤ 100) (h100 : most ≤ 100) :
    Calls Try.prog 22 #[.map (some b), encStr n, .int .i64 (most : Int)] w fun e w' => e = .returned (.int .i64 (roomP m n most : Nat)) ∧ Below w.heap.size w w' := by
  have HN := Lib.hid (nameW n w hn)
  have HM := Lib.hid hm
  have hkey := Lib.hid (WideMaps.keyOf_string_mk (P := Try.prog) (k := 9) (s := ⟨n.toArray⟩) Try.underlying9 (by show n.length ≤ maxLen; unfold maxLen; omega))
  obtain ⟨h, hh⟩ : ∃ h, Hid (hasP n m = h) := ⟨_, rfl⟩
  obtain ⟨o, ho⟩ : ∃ o, Hid (nameOk n = o) := ⟨_, rfl⟩
  obtain ⟨l, hl'⟩ : ∃ l, Hid (m.length = l) := ⟨_, rfl⟩
  have hR : Hid (roomP m n most = if o = false then 4 else if h then 7 else if l = most then 8 else 0) := by
    show _ = _; unfold roomP; rw [hh.out, ho.out, hl'.out]
  have hhas : Hid (Maps.has (datP obV m) (.string n) = h) := by show _ = _; rw [dat_has]; exact hh.out
  have hsz : Hid (Maps.size (datP obV m) = l) := by show _ = _; rw [dat_size]; exact hl'.out
  rw [ho.out] at HN
  rw [hR.out]
  rw [hl'.out] at hl
  clear hm
  by_cases hlm : l = most
  · subst hlm
    cases o <;> cases h
    all_goals
      go_enter Try.func22, Try.ntmps22
      go_wp2_with (first
        | (at_lookup; refine wpList_lookup_own_ok _ rfl (.tmp 10) (.tmp 11) 56 rfl 9 54 (Maps.string_keyed Try.underlying9) Try.underlying56 RV (zeroO _) (.held (.slice none 0 0)) [] rfl b _ _ rfl HM.out _ _ rfl hkey.out ?_; intro v ps hv; rw [hhas.out])
        | (go_at_call 28; refine HN.out.mono ?_; rintro e w' ⟨rfl, hb⟩; have HB := Lib.hid hb; clear hb; have HM2 := Lib.hid (HM.out.keep (HB.out.block _ HM.out.lt)))
        | (at_len; refine wpList_len_own _ rfl (.tmp 22) 56 rfl 9 54 Try.underlying56 RV b _ _ rfl HM2.out ?_; rw [hsz.out])
        | fail)
      go_ret
      exact ⟨rfl, HB.out⟩
  · have q1 : ¬ ((l : Int) = (most : Int)) := by omega
    cases o <;> cases h
    all_goals
      rw [if_neg hlm]
      go_enter Try.func22, Try.ntmps22
      go_wp2_with (first
        | (at_lookup; refine wpList_lookup_own_ok _ rfl (.tmp 10) (.tmp 11) 56 rfl 9 54 (Maps.string_keyed Try.underlying9) Try.underlying56 RV (zeroO _) (.held (.slice none 0 0)) [] rfl b _ _ rfl HM.out _ _ rfl hkey.out ?_; intro v ps hv; rw [hhas.out])
        | (go_at_call 28; refine HN.out.mono ?_; rintro e w' ⟨rfl, hb⟩; have HB := Lib.hid hb; clear hb; have HM2 := Lib.hid (HM.out.keep (HB.out.block _ HM.out.lt)))
        | (at_len; refine wpList_len_own _ rfl (.tmp 22) 56 rfl 9 54 Try.underlying56 RV b _ _ rfl HM2.out ?_; rw [hsz.out])
        | fail)
      go_ret
      exact ⟨rfl, HB.out⟩
set_option maxHeartbeats 4000000 in
theorem roomS (b : Nat) (m : PM (Nat × PM Ob)) (n : Nm) (most : Nat) (w : World) (hm : OM smV w b m) (hn : n.length ≤ 100) (hl : m.length ≤ 100) (h100 : most ≤ 100) :
    Calls Try.prog 32 #[.map (some b), encStr n, .int .i64 (most : Int)] w fun e w' => e = .returned (.int .i64 (roomP m n most : Nat)) ∧ Below w.heap.size w w' := by
  have HN := Lib.hid (nameW n w hn)
  have HM := Lib.hid hm
  have hkey := Lib.hid (WideMaps.keyOf_string_mk (P := Try.prog) (k := 9) (s := ⟨n.toArray⟩) Try.underlying9 (by show n.length ≤ maxLen; unfold maxLen; omega))
  obtain ⟨h, hh⟩ : ∃ h, Hid (hasP n m = h) := ⟨_, rfl⟩
  obtain ⟨o, ho⟩ : ∃ o, Hid (nameOk n = o) := ⟨_, rfl⟩
  obtain ⟨l, hl'⟩ : ∃ l, Hid (m.length = l) := ⟨_, rfl⟩
  have hR : Hid (roomP m n most = if o = false then 4 else if h then 7 else if l = most then 8 else 0) := by
    show _ = _; unfold roomP; rw [hh.out, ho.out, hl'.out]
  have hhas : Hid (Maps.has (datP smV m) (.string n) = h) := by show _ = _; rw [dat_has]; exact hh.out
  have hsz : Hid (Maps.size (datP smV m) = l) := by show _ = _; rw [dat_size]; exact hl'.out
  rw [ho.out] at HN
  rw [hR.out]
  rw [hl'.out] at hl
  clear hm
  by_cases hlm : l = most
  · subst hlm
    cases o <;> cases h
    all_goals
      go_enter Try.func32, Try.ntmps32
      go_wp2_with (first
        | (at_lookup; refine wpList_lookup_own_ok _ rfl (.tmp 10) (.tmp 11) 58 rfl 9 57 (Maps.string_keyed Try.underlying9) Try.underlying58 RV (zeroS _) (.held (.map none)) [] rfl b _ _ rfl HM.out _ _ rfl hkey.out ?_; intro v ps hv; rw [hhas.out])
        | (go_at_call 28; refine HN.out.mono ?_; rintro e w' ⟨rfl, hb⟩; have HB := Lib.hid hb; clear hb; have HM2 := Lib.hid (HM.out.keep (HB.out.block _ HM.out.lt)))
        | (at_len; refine wpList_len_own _ rfl (.tmp 22) 58 rfl 9 57 Try.underlying58 RV b _ _ rfl HM2.out ?_; rw [hsz.out])
        | fail)
      go_ret
      exact ⟨rfl, HB.out⟩
  · have q1 : ¬ ((l : Int) = (most : Int)) := by omega
    cases o <;> cases h
    all_goals
      rw [if_neg hlm]
      go_enter Try.func32, Try.ntmps32
      go_wp2_with (first
        | (at_lookup; refine wpList_lookup_own_ok _ rfl (.tmp 10) (.tmp 11) 58 rfl 9 57 (Maps.string_keyed Try.underlying9) Try.underlying58 RV (zeroS _) (.held (.map none)) [] rfl b _ _ rfl HM.out _ _ rfl hkey.out ?_; intro v ps hv; rw [hhas.out])
        | (go_at_call 28; refine HN.out.mono ?_; rintro e w' ⟨rfl, hb⟩; have HB := Lib.hid hb; clear hb; have HM2 := Lib.hid (HM.out.keep (HB.out.block _ HM.out.lt)))
        | (at_len; refine wpList_len_own _ rfl (.tmp 22) 58 rfl 9 57 Try.underlying58 RV b _ _ rfl HM2.out ?_; rw [hsz.out])
        | fail)
      go_ret
      exact ⟨rfl, HB.out⟩
end Go.Proofs.Ytkbfohbpndjcpaa
