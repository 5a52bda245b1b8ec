/- The walks of names: slices.Sorted(maps.Keys(m)). -/
import Derived.Shelf.SlIter.Nil
import Derived.Shelf.SortM.Plain
import Derived.Shelf.SortM.SortNone
import Derived.Test.YtkbfohbpndjcpaaPoG
import Derived.Test.YtkbfohbpndjcpaaPoK1
import Derived.Test.YtkbfohbpndjcpaaPoK2
import Derived.Test.YtkbfohbpndjcpaaPoK3
import Derived.Test.YtkbfohbpndjcpaaPoK4
namespace Go.Proofs.Ytkbfohbpndjcpaa
open Go.RowKit Go.Maps Go.Sort Go.Shelf
set_option linter.unusedVariables false
set_option maxRecDepth 100000

/-- Names in a new block. -/
structure NewN (w w' : World) (a : Option Addr) (l c : Nat) (xs : List Nm) : Prop where
  row : SRow strL w' (fun b => w.heap.size ≤ b ∧ b < w'.heap.size) a l c xs
  below : Below w.heap.size w w'
theorem names_row {w w' : World} {base : Nat} {v : Value} {xs : List Nm} (h : w'.ownsRow base 9 1 v xs.length (xs.map encStr)) (hB : w.heap.size ≤ base) (hb : Below w.heap.size w w') : ∃ a c, v = .slice a xs.length c ∧ NewN w w' a xs.length c xs := by
  have hform : ∃ a c, v = .slice a xs.length c := by
    rcases h.2 with ⟨h0, h1⟩ | ⟨g, c, cur, hv, _⟩
    · refine ⟨none, 0, ?_⟩
      have : xs.length = 0 := by simpa using h1
      rw [h0, this]
    · exact ⟨_, _, hv⟩
  obtain ⟨a, c, rfl⟩ := hform
  have hO : Own w' base 9 1 a xs.length c (xs.map encStr) := h
  refine ⟨a, c, rfl, ⟨rfl, fun x hx _ => ?_, xs.map fun s => [encStr s], ?_, ?_⟩, hb⟩
  · subst hx
    rcases hO.form with ⟨h0, _⟩ | ⟨g, cur, hg, hBg, hh, _⟩
    · cases h0
    · obtain rfl : x = ⟨g, 0, none⟩ := by simpa using hg
      exact ⟨by show w.heap.size ≤ g; omega, (Array.getElem?_eq_some_iff.1 hh).1⟩
  · have e : (xs.map fun s => [encStr s]).flatten = xs.map encStr := by
      clear h hO
      induction xs with
      | nil => rfl
      | cons x xs ih => simp only [List.map_cons, List.flatten_cons, ih]; rfl
    rw [e]; exact hO.row
  · refine ⟨by rw [List.length_map], fun i x vs hx hv => ?_⟩
    rw [List.getElem?_map, hx] at hv
    obtain rfl : [encStr x] = vs := by simpa using hv
    rfl
theorem sortsAll (m : Nat) : AnyZ.SortsIn Try.prog laidSorted_ren Fence.wide m :=
  ⟨fun blk off cap ss W hH hblk hsz => callsIn_wide.2 (AnyM.slices_Sort_string laidSort blk off cap ss W hH hblk hsz),
   fun p cap W => callsIn_wide.2 (AnyM.slices_Sort_string_none laidSort p cap W)⟩
theorem maps_KeysO (mb : Option Nat) (W : World) : CallsIn Fence.wide 5 Try.prog 30 #[.map mb] W fun e w' => e = .returned (.func (.func 37) #[] #[.pointer (some ⟨W.heap.size, 0, none⟩)]) ∧ w' = W.alloc (.cells #[.map mb] 56) :=
  AnyZ.keys_in laidKeysO Fence.wide 5 trivial rfl mb W
set_option maxHeartbeats 1000000 in
theorem sorted_keysO {H : Type} (b nn : Nat) (D0 : DataW H) (R : Value → Option (DataW H × List MemPlace)) (w : World) (hown : w.ownsMap Try.prog 9 R b nn D0) (hmax : Maps.size D0 ≤ maxLen) (hbytes : Maps.size D0 * 16 ≤ 140737488355328) :
    CallsIn Fence.wide 5 Try.prog 29 #[.func (.func 37) #[] #[.pointer (some ⟨w.heap.size, 0, none⟩)]] (w.alloc (.cells #[.map (some b)] 56)) fun e w' => ∃ (v : Value) (ss : List (List UInt8)), e = .returned v ∧ ss.Perm (strKeys D0) ∧
      w'.ownsRow (w.alloc (.cells #[.map (some b)] 56)).heap.size 9 1 v ss.length ((ss.mergeSort (fun x y => decide (x ≤ y))).map encStr) ∧ (v = .slice none 0 0 ↔ ss = []) ∧ Below (w.alloc (.cells #[.map (some b)] 56)).heap.size (w.alloc (.cells #[.map (some b)] 56)) w' := by
  have hbl := hown.lt
  have hseq : SeqGives Fence.wide 2 Try.prog 37 #[.pointer (some ⟨w.heap.size, 0, none⟩)] encStr (fun ss => ss.Perm (strKeys D0)) (Maps.size D0) (w.alloc (.cells #[.map (some b)] 56)) :=
    AnyZ.keys_gives (ρ := laidKeysO_ren) { laidKeysO with } Fence.wide _ trivial rfl (by omega) w.heap.size b nn D0 _ (by simp) (by simp) (by
      obtain ⟨es, clock, hb, Ft, hs, hD⟩ := hown
      exact ⟨es, clock, (Below.heap_alloc _ _ b hbl).trans hb, Ft, hs, hD⟩)
  exact AnyZ.sorted_in laidSorted Fence.wide 5 trivial trivial trivial trivial rfl (by omega) (sortsAll _) (enters_of Try.func36 (by kernel_rfl) rfl) 37 #[.pointer (some ⟨w.heap.size, 0, none⟩)] trivial (enters_of Try.func37 (by kernel_rfl) rfl) _ _ hmax hbytes _ hseq
set_option maxHeartbeats 1000000 in
theorem namesO (b : Nat) (m : PM Ob) (w : World) (hm : OM obV w b m) (hl : m.length ≤ 100) :
    Calls Try.prog 24 #[.map (some b)] w fun e w' => ∃ a l c, e = .returned (.slice a l c) ∧ Hid (NewN w w' a l c (namesP m)) := by
  have HS := Lib.hid (sorted_keysO b _ _ RV w hm (by rw [dat_size]; unfold maxLen; omega) (by rw [dat_size]; omega))
  refine (callsIn_wide (n := 6)).1 ?_
  have hfK : Fence.wide.fn 30 := trivial
  have hfS : Fence.wide.fn 29 := trivial
  refine callsIn_of_wp Try.func24 rfl trivial ?_ rfl
  simp only [Try.ntmps24, List.size_toArray, List.length_cons, List.length_nil, Nat.reduceAdd, Nat.reduceSub, Array.replicate_succ, Array.replicate_zero, List.push_toArray, List.append_toArray, List.nil_append, List.cons_append]
  gi_wp2_with (first
    | (gi_at_call 30; refine (maps_KeysO _ _).mono ?_; rintro e w' ⟨rfl, rfl⟩)
    | (gi_at_call 29; refine HS.out.mono ?_; rintro e w' ⟨v, ss, rfl, hS, hrow, hnil, hb⟩))
  go_ret
  have hB : Below w.heap.size w w' := ((Below.refl _ w).alloc (Nat.le_refl _) _).trans (hb.mono (by simp))
  have e : ss.mergeSort (fun x y => decide (x ≤ y)) = namesP m := by
    have := mergeSort_of_perm hS
    rw [dat_keys] at this
    exact this
  have hlen : (namesP m).length = ss.length := by rw [← e, List.length_mergeSort]
  rw [e, ← hlen] at hrow
  obtain ⟨a, c, rfl, hN⟩ := names_row (w := w) hrow (by simp) hB
  exact ⟨a, _, c, rfl, hN⟩
theorem maps_KeysS (mb : Option Nat) (W : World) : CallsIn Fence.wide 5 Try.prog 31 #[.map mb] W fun e w' => e = .returned (.func (.func 38) #[] #[.pointer (some ⟨W.heap.size, 0, none⟩)]) ∧ w' = W.alloc (.cells #[.map mb] 58) :=
  AnyZ.keys_in laidKeysS Fence.wide 5 trivial rfl mb W
set_option maxHeartbeats 1000000 in
theorem sorted_keysS {H : Type} (b nn : Nat) (D0 : DataW H) (R : Value → Option (DataW H × List MemPlace)) (w : World) (hown : w.ownsMap Try.prog 9 R b nn D0) (hmax : Maps.size D0 ≤ maxLen) (hbytes : Maps.size D0 * 16 ≤ 140737488355328) :
    CallsIn Fence.wide 5 Try.prog 29 #[.func (.func 38) #[] #[.pointer (some ⟨w.heap.size, 0, none⟩)]] (w.alloc (.cells #[.map (some b)] 58)) fun e w' => ∃ (v : Value) (ss : List (List UInt8)), e = .returned v ∧ ss.Perm (strKeys D0) ∧
      w'.ownsRow (w.alloc (.cells #[.map (some b)] 58)).heap.size 9 1 v ss.length ((ss.mergeSort (fun x y => decide (x ≤ y))).map encStr) ∧ (v = .slice none 0 0 ↔ ss = []) ∧ Below (w.alloc (.cells #[.map (some b)] 58)).heap.size (w.alloc (.cells #[.map (some b)] 58)) w' := by
  have hbl := hown.lt
  have hseq : SeqGives Fence.wide 2 Try.prog 38 #[.pointer (some ⟨w.heap.size, 0, none⟩)] encStr (fun ss => ss.Perm (strKeys D0)) (Maps.size D0) (w.alloc (.cells #[.map (some b)] 58)) :=
    AnyZ.keys_gives (ρ := laidKeysS_ren) { laidKeysS with } Fence.wide _ trivial rfl (by omega) w.heap.size b nn D0 _ (by simp) (by simp) (by
      obtain ⟨es, clock, hb, Ft, hs, hD⟩ := hown
      exact ⟨es, clock, (Below.heap_alloc _ _ b hbl).trans hb, Ft, hs, hD⟩)
  exact AnyZ.sorted_in laidSorted Fence.wide 5 trivial trivial trivial trivial rfl (by omega) (sortsAll _) (enters_of Try.func36 (by kernel_rfl) rfl) 38 #[.pointer (some ⟨w.heap.size, 0, none⟩)] trivial (enters_of Try.func38 (by kernel_rfl) rfl) _ _ hmax hbytes _ hseq
set_option maxHeartbeats 1000000 in
theorem namesS (b : Nat) (m : PM (Nat × PM Ob)) (w : World) (hm : OM smV w b m) (hl : m.length ≤ 100) :
    Calls Try.prog 25 #[.map (some b)] w fun e w' => ∃ a l c, e = .returned (.slice a l c) ∧ Hid (NewN w w' a l c (namesP m)) := by
  have HS := Lib.hid (sorted_keysS b _ _ RV w hm (by rw [dat_size]; unfold maxLen; omega) (by rw [dat_size]; omega))
  refine (callsIn_wide (n := 6)).1 ?_
  have hfK : Fence.wide.fn 31 := trivial
  have hfS : Fence.wide.fn 29 := trivial
  refine callsIn_of_wp Try.func25 rfl trivial ?_ rfl
  simp only [Try.ntmps25, List.size_toArray, List.length_cons, List.length_nil, Nat.reduceAdd, Nat.reduceSub, Array.replicate_succ, Array.replicate_zero, List.push_toArray, List.append_toArray, List.nil_append, List.cons_append]
  gi_wp2_with (first
    | (gi_at_call 31; refine (maps_KeysS _ _).mono ?_; rintro e w' ⟨rfl, rfl⟩)
    | (gi_at_call 29; refine HS.out.mono ?_; rintro e w' ⟨v, ss, rfl, hS, hrow, hnil, hb⟩))
  go_ret
  have hB : Below w.heap.size w w' := ((Below.refl _ w).alloc (Nat.le_refl _) _).trans (hb.mono (by simp))
  have e : ss.mergeSort (fun x y => decide (x ≤ y)) = namesP m := by
    have := mergeSort_of_perm hS
    rw [dat_keys] at this
    exact this
  have hlen : (namesP m).length = ss.length := by rw [← e, List.length_mergeSort]
  rw [e, ← hlen] at hrow
  obtain ⟨a, c, rfl, hN⟩ := names_row (w := w) hrow (by simp) hB
  exact ⟨a, _, c, rfl, hN⟩
end Go.Proofs.Ytkbfohbpndjcpaa
