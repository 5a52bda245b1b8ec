/- The walk of runs, over each of the three tests. -/
import Derived.Test.YteidmdakglkkfaaSpW
namespace Go.Proofs.Yteidmdakglkkfaa
open Go.RowKit
set_option linter.unusedVariables false

def fromI : Option Nat → Int
  | none => -1
  | some f => f
/-- what stands when the loop over the units has come to unit k -/
def RunsAt (p : Nat → Bool) (us : List Nat) (k : Nat) (fo : Option Nat) (xs : List (Nat × Nat)) : Prop :=
  (k ≤ us.length ∧ xs ++ runsGo p k fo (us.drop k) = runs p us) ∨ (k = us.length + 1 ∧ xs = runs p us)
theorem drop_cons {us : List Nat} {k : Nat} (h : k < us.length) : us.drop k = us.getD k 0 :: us.drop (k + 1) := by
  rw [List.drop_eq_getElem_cons h]
  simp [List.getD, h]
theorem runsAt_start (p : Nat → Bool) (us : List Nat) : RunsAt p us 0 none [] := .inl ⟨Nat.zero_le _, rfl⟩
theorem runsAt_A {p : Nat → Bool} {us : List Nat} {k : Nat} {xs : List (Nat × Nat)} (h : RunsAt p us k none xs) (hk : k < us.length) (hp : p (us.getD k 0) = true) : RunsAt p us (k + 1) (some k) xs := by
  rcases h with ⟨_, h⟩ | ⟨h, _⟩
  · refine .inl ⟨by omega, ?_⟩
    rw [drop_cons hk, runsGo, if_pos hp] at h; exact h
  · omega
theorem runsAt_B {p : Nat → Bool} {us : List Nat} {k f : Nat} {xs : List (Nat × Nat)} (h : RunsAt p us k (some f) xs) (hk : k < us.length) (hp : p (us.getD k 0) = true) : RunsAt p us (k + 1) (some f) xs := by
  rcases h with ⟨_, h⟩ | ⟨h, _⟩
  · refine .inl ⟨by omega, ?_⟩
    rw [drop_cons hk, runsGo, if_pos hp] at h; exact h
  · omega
theorem runsAt_C {p : Nat → Bool} {us : List Nat} {k : Nat} {xs : List (Nat × Nat)} (h : RunsAt p us k none xs) (hk : k < us.length) (hp : p (us.getD k 0) = false) : RunsAt p us (k + 1) none xs := by
  rcases h with ⟨_, h⟩ | ⟨h, _⟩
  · refine .inl ⟨by omega, ?_⟩
    rw [drop_cons hk, runsGo, if_neg (by rw [hp]; decide)] at h; exact h
  · omega
theorem runsAt_D {p : Nat → Bool} {us : List Nat} {k f : Nat} {xs : List (Nat × Nat)} (h : RunsAt p us k (some f) xs) (hk : k < us.length) (hp : p (us.getD k 0) = false) : RunsAt p us (k + 1) none (xs ++ [(f, k)]) := by
  rcases h with ⟨_, h⟩ | ⟨h, _⟩
  · refine .inl ⟨by omega, ?_⟩
    rw [drop_cons hk, runsGo, if_neg (by rw [hp]; decide)] at h
    rw [List.append_assoc]; exact h
  · omega
theorem runsAt_E {p : Nat → Bool} {us : List Nat} {k : Nat} {xs : List (Nat × Nat)} (h : RunsAt p us k none xs) (hk : k = us.length) : RunsAt p us (k + 1) none xs := by
  rcases h with ⟨_, h⟩ | ⟨h, _⟩
  · refine .inr ⟨by omega, ?_⟩
    rw [List.drop_of_length_le (by omega), runsGo, List.append_nil] at h; exact h
  · omega
theorem runsAt_F {p : Nat → Bool} {us : List Nat} {k f : Nat} {xs : List (Nat × Nat)} (h : RunsAt p us k (some f) xs) (hk : k = us.length) : RunsAt p us (k + 1) none (xs ++ [(f, k)]) := by
  rcases h with ⟨_, h⟩ | ⟨h, _⟩
  · refine .inr ⟨by omega, ?_⟩
    rw [List.drop_of_length_le (by omega), runsGo] at h; exact h
  · omega
theorem runsAt_end {p : Nat → Bool} {us : List Nat} {k : Nat} {fo : Option Nat} {xs : List (Nat × Nat)} (h : RunsAt p us k fo xs) (hk : ¬ k ≤ us.length) : xs = runs p us := by
  rcases h with ⟨h, _⟩ | ⟨_, h⟩
  · omega
  · exact h

theorem info_range : (Try.prog.info? 95).map (fun i => (i.zero, i.size, i.bytes)) = some (some (.agg #[.int .i64 0, .int .i64 0]), 2, 16) := by kernel_rfl
def Runs (p : Nat → Bool) (us : List Nat) (w : World) (e : Ending) (w' : World) : Prop := ∃ a l c, e = .returned (.slice a l c) ∧ Hid (SOwn rangeL w' w.heap.size 95 (fun _ => False) a l c (runs p us)) ∧ Below w.heap.size w w'

theorem is_commit (u : Nat) (w : World) (b : Bool) (h : Hid ((u == 3) = b)) : Calls Try.prog 63 #[.int .u8 (u : Int)] w fun e w' => e = .returned (.bool b) ∧ w = w' := by
  go_enter Try.func63, Try.ntmps63
  go_wp2
  go_ret
  exact ⟨ret_bool (by rw [← h.out, Bool.eq_iff_iff]; simp; try omega), rfl⟩
set_option maxHeartbeats 4000000 in
theorem runs_commit (w : World) (g gu : Nat) (us : List Nat) (left : Int) (a : Option Addr) (l c : Nat)
    (hb : Box w g #[.slice (some ⟨gu, 0, none⟩) us.length us.length, .int .i64 left, .slice a l c] 99) (hu : Box w gu (us8 us) 5) (hn : us.length ≤ 4096) :
    Calls Try.prog 38 #[.pointer (some ⟨g, 0, none⟩), .func (.func 63) #[] #[]] w (Runs (· == 3) us w) := by
  have hgl : g < w.heap.size := hb.lt
  have hul : gu < w.heap.size := hu.lt
  have HU := Lib.hid hu
  have HB := Lib.hid hb
  obtain ⟨n, hnn⟩ : ∃ n, Hid (us.length = n) := ⟨_, rfl⟩
  rw [hnn.out] at hn HB
  clear hb hu
  go_enter Try.func38, Try.ntmps38
  go_wp2_with fail
  go_loopw [5, 6, 7] (fun ov fv iv wr => ∃ (k : Nat) (fo : Option Nat) (m : Nat) (a' : Option Addr) (c' : Nat) (xs : List (Nat × Nat)), k ≤ n + 1 ∧ m ≤ k ∧ ov = .slice a' m c' ∧ fv = .int .i64 (fromI fo) ∧ iv = .int .i64 k ∧ Hid (SOwn rangeL wr w.heap.size 95 (fun _ => False) a' m c' xs) ∧ Below w.heap.size w wr ∧ Hid (RunsAt (· == 3) us k fo xs)) (fun _ _ iv _ => n + 1 - (intOf iv).toNat)
  case atStart => exact ⟨0, none, 0, none, 0, [], by omega, by omega, rfl, rfl, rfl, SOwn.nil .., Below.refl _ _, runsAt_start _ _⟩
  case round =>
    obtain ⟨k, fo, m, a', c', xs, hk, hmk, rfl, rfl, rfl, hown, hbl, hra⟩ := hrel
    have hbg : Box wr g _ _ := HB.out.below hbl hgl
    have c0 : wr.cell? ⟨g, 0, none⟩ = some (.slice (some ⟨gu, 0, none⟩) n n) := hbg.cell 0
    have hcap := hown.out.hle
    have hmx := hown.out.hmax
    unfold maxLen at hmx
    clear hbg
    by_cases hlt : k < n
    · have hkl : k < us.length := by have := hnn.out; omega
      have e1 : wr.cell? ⟨gu, k, none⟩ = some (.int .u8 (us.getD k 0 : Nat)) := by
        rw [(HU.out.below hbl hul).cell k, us8_get _ _ hkl]
      by_cases hp : ((us.getD k 0) == 3) = true
      · cases fo with
        | none =>
          have HR := Lib.hid (runsAt_A hra.out hkl hp)
          obtain ⟨u, hu⟩ : ∃ u, Hid (us.getD k 0 = u) := ⟨_, rfl⟩
          rw [hu.out] at e1 hp
          have hpu := Lib.hid hp
          clear hp hra
          simp only [fromI] at *
          go_wp2_with (go_at_call 63; refine (is_commit u _ true hpu).mono ?_; rintro e w' ⟨rfl, rfl⟩)
          go_roundw
          case rel => exact ⟨k + 1, some k, m, a', c', xs, by omega, by omega, rfl, rfl, by go_num, hown, hbl, HR⟩
          case measure => (simp [intOf]; try omega)
        | some f =>
          have HR := Lib.hid (runsAt_B hra.out hkl hp)
          obtain ⟨u, hu⟩ : ∃ u, Hid (us.getD k 0 = u) := ⟨_, rfl⟩
          rw [hu.out] at e1 hp
          have hpu := Lib.hid hp
          clear hp hra
          simp only [fromI] at *
          go_wp2_with (go_at_call 63; refine (is_commit u _ true hpu).mono ?_; rintro e w' ⟨rfl, rfl⟩)
          go_roundw
          case rel => exact ⟨k + 1, some f, m, a', c', xs, by omega, by omega, rfl, rfl, by go_num, hown, hbl, HR⟩
          case measure => (simp [intOf]; try omega)
      · have hp2 : ((us.getD k 0) == 3) = false := by simpa using hp
        clear hp
        cases fo with
        | none =>
          have HR := Lib.hid (runsAt_C hra.out hkl hp2)
          obtain ⟨u, hu⟩ : ∃ u, Hid (us.getD k 0 = u) := ⟨_, rfl⟩
          rw [hu.out] at e1 hp2
          have hpu := Lib.hid hp2
          clear hp2 hra
          simp only [fromI] at *
          go_wp2_with (go_at_call 63; refine (is_commit u _ false hpu).mono ?_; rintro e w' ⟨rfl, rfl⟩)
          go_roundw
          case rel => exact ⟨k + 1, none, m, a', c', xs, by omega, by omega, rfl, rfl, by go_num, hown, hbl, HR⟩
          case measure => (simp [intOf]; try omega)
        | some f =>
          have HR := Lib.hid (runsAt_D hra.out hkl hp2)
          obtain ⟨u, hu⟩ : ∃ u, Hid (us.getD k 0 = u) := ⟨_, rfl⟩
          rw [hu.out] at e1 hp2
          have hpu := Lib.hid hp2
          clear hp2 hra
          simp only [fromI] at *
          go_wp2_with (first | (go_at_call 63; refine (is_commit u _ false hpu).mono ?_; rintro e w' ⟨rfl, rfl⟩) | (at_builtin; refine wpList_append_one (L := rangeL) rfl (.tmp 50) (.tmp 54) 41 rfl w.heap.size 95 _ 16 Try.underlying41 info_range rfl (fun _ => False) a' m c' xs rfl hown.out #[.int .i64 (f : Int), .int .i64 (k : Int)] (f, k) rfl (fun _ => False) rfl (fun b h => h.elim) (by unfold maxLen; omega) (by omega) hbl.size ?_))
          intro a2 c2 w2 hown2 hg2
          have hb2 : Below w.heap.size w w2 := hown.out.grown hbl (Nat.le_refl _) hbl.size hg2
          have HO2 := Lib.hid hown2
          clear hown2 hg2
          go_wp2_with fail
          go_roundw
          case rel => exact ⟨k + 1, none, m + 1, a2, c2, xs ++ [(f, k)], by omega, by omega, rfl, by go_num, by go_num, HO2.out, hb2, HR⟩
          case measure => (simp [intOf]; try omega)
    · by_cases hkn : k = n
      · cases fo with
        | none =>
          have HR := Lib.hid (runsAt_E hra.out (by have := hnn.out; omega))
          clear hra
          subst hkn
          simp only [fromI] at *
          go_wp2_with fail
          go_roundw
          case rel => exact ⟨k + 1, none, m, a', c', xs, by omega, by omega, rfl, rfl, by go_num, hown, hbl, HR⟩
          case measure => (simp [intOf]; try omega)
        | some f =>
          have HR := Lib.hid (runsAt_F hra.out (by have := hnn.out; omega))
          clear hra
          subst hkn
          simp only [fromI] at *
          go_wp2_with (at_builtin; refine wpList_append_one (L := rangeL) rfl (.tmp 50) (.tmp 54) 41 rfl w.heap.size 95 _ 16 Try.underlying41 info_range rfl (fun _ => False) a' m c' xs rfl hown.out #[.int .i64 (f : Int), .int .i64 (k : Int)] (f, k) rfl (fun _ => False) rfl (fun b h => h.elim) (by unfold maxLen; omega) (by omega) hbl.size ?_)
          intro a2 c2 w2 hown2 hg2
          have hb2 : Below w.heap.size w w2 := hown.out.grown hbl (Nat.le_refl _) hbl.size hg2
          have HO2 := Lib.hid hown2
          clear hown2 hg2
          go_wp2_with fail
          go_roundw
          case rel => exact ⟨k + 1, none, m + 1, a2, c2, xs ++ [(f, k)], by omega, by omega, rfl, by go_num, by go_num, HO2.out, hb2, HR⟩
          case measure => (simp [intOf]; try omega)
      · have HF := Lib.hid (runsAt_end hra.out (by have := hnn.out; omega))
        clear hra
        go_wp2_with fail
        go_ret
        exact ⟨a', m, c', rfl, by rw [← HF.out]; exact hown, hbl⟩

theorem is_replay (u : Nat) (w : World) (b : Bool) (h : Hid ((u == 0) = b)) : Calls Try.prog 40 #[.int .u8 (u : Int)] w fun e w' => e = .returned (.bool b) ∧ w = w' := by
  go_enter Try.func40, Try.ntmps40
  go_wp2
  go_ret
  exact ⟨ret_bool (by rw [← h.out, Bool.eq_iff_iff]; simp; try omega), rfl⟩
set_option maxHeartbeats 4000000 in
theorem runs_replay (w : World) (g gu : Nat) (us : List Nat) (left : Int) (a : Option Addr) (l c : Nat)
    (hb : Box w g #[.slice (some ⟨gu, 0, none⟩) us.length us.length, .int .i64 left, .slice a l c] 99) (hu : Box w gu (us8 us) 5) (hn : us.length ≤ 4096) :
    Calls Try.prog 38 #[.pointer (some ⟨g, 0, none⟩), .func (.func 40) #[] #[]] w (Runs (· == 0) us w) := by
  have hgl : g < w.heap.size := hb.lt
  have hul : gu < w.heap.size := hu.lt
  have HU := Lib.hid hu
  have HB := Lib.hid hb
  obtain ⟨n, hnn⟩ : ∃ n, Hid (us.length = n) := ⟨_, rfl⟩
  rw [hnn.out] at hn HB
  clear hb hu
  go_enter Try.func38, Try.ntmps38
  go_wp2_with fail
  go_loopw [5, 6, 7] (fun ov fv iv wr => ∃ (k : Nat) (fo : Option Nat) (m : Nat) (a' : Option Addr) (c' : Nat) (xs : List (Nat × Nat)), k ≤ n + 1 ∧ m ≤ k ∧ ov = .slice a' m c' ∧ fv = .int .i64 (fromI fo) ∧ iv = .int .i64 k ∧ Hid (SOwn rangeL wr w.heap.size 95 (fun _ => False) a' m c' xs) ∧ Below w.heap.size w wr ∧ Hid (RunsAt (· == 0) us k fo xs)) (fun _ _ iv _ => n + 1 - (intOf iv).toNat)
  case atStart => exact ⟨0, none, 0, none, 0, [], by omega, by omega, rfl, rfl, rfl, SOwn.nil .., Below.refl _ _, runsAt_start _ _⟩
  case round =>
    obtain ⟨k, fo, m, a', c', xs, hk, hmk, rfl, rfl, rfl, hown, hbl, hra⟩ := hrel
    have hbg : Box wr g _ _ := HB.out.below hbl hgl
    have c0 : wr.cell? ⟨g, 0, none⟩ = some (.slice (some ⟨gu, 0, none⟩) n n) := hbg.cell 0
    have hcap := hown.out.hle
    have hmx := hown.out.hmax
    unfold maxLen at hmx
    clear hbg
    by_cases hlt : k < n
    · have hkl : k < us.length := by have := hnn.out; omega
      have e1 : wr.cell? ⟨gu, k, none⟩ = some (.int .u8 (us.getD k 0 : Nat)) := by
        rw [(HU.out.below hbl hul).cell k, us8_get _ _ hkl]
      by_cases hp : ((us.getD k 0) == 0) = true
      · cases fo with
        | none =>
          have HR := Lib.hid (runsAt_A hra.out hkl hp)
          obtain ⟨u, hu⟩ : ∃ u, Hid (us.getD k 0 = u) := ⟨_, rfl⟩
          rw [hu.out] at e1 hp
          have hpu := Lib.hid hp
          clear hp hra
          simp only [fromI] at *
          go_wp2_with (go_at_call 40; refine (is_replay u _ true hpu).mono ?_; rintro e w' ⟨rfl, rfl⟩)
          go_roundw
          case rel => exact ⟨k + 1, some k, m, a', c', xs, by omega, by omega, rfl, rfl, by go_num, hown, hbl, HR⟩
          case measure => (simp [intOf]; try omega)
        | some f =>
          have HR := Lib.hid (runsAt_B hra.out hkl hp)
          obtain ⟨u, hu⟩ : ∃ u, Hid (us.getD k 0 = u) := ⟨_, rfl⟩
          rw [hu.out] at e1 hp
          have hpu := Lib.hid hp
          clear hp hra
          simp only [fromI] at *
          go_wp2_with (go_at_call 40; refine (is_replay u _ true hpu).mono ?_; rintro e w' ⟨rfl, rfl⟩)
          go_roundw
          case rel => exact ⟨k + 1, some f, m, a', c', xs, by omega, by omega, rfl, rfl, by go_num, hown, hbl, HR⟩
          case measure => (simp [intOf]; try omega)
      · have hp2 : ((us.getD k 0) == 0) = false := by simpa using hp
        clear hp
        cases fo with
        | none =>
          have HR := Lib.hid (runsAt_C hra.out hkl hp2)
          obtain ⟨u, hu⟩ : ∃ u, Hid (us.getD k 0 = u) := ⟨_, rfl⟩
          rw [hu.out] at e1 hp2
          have hpu := Lib.hid hp2
          clear hp2 hra
          simp only [fromI] at *
          go_wp2_with (go_at_call 40; refine (is_replay u _ false hpu).mono ?_; rintro e w' ⟨rfl, rfl⟩)
          go_roundw
          case rel => exact ⟨k + 1, none, m, a', c', xs, by omega, by omega, rfl, rfl, by go_num, hown, hbl, HR⟩
          case measure => (simp [intOf]; try omega)
        | some f =>
          have HR := Lib.hid (runsAt_D hra.out hkl hp2)
          obtain ⟨u, hu⟩ : ∃ u, Hid (us.getD k 0 = u) := ⟨_, rfl⟩
          rw [hu.out] at e1 hp2
          have hpu := Lib.hid hp2
          clear hp2 hra
          simp only [fromI] at *
          go_wp2_with (first | (go_at_call 40; refine (is_replay u _ false hpu).mono ?_; rintro e w' ⟨rfl, rfl⟩) | (at_builtin; refine wpList_append_one (L := rangeL) rfl (.tmp 50) (.tmp 54) 41 rfl w.heap.size 95 _ 16 Try.underlying41 info_range rfl (fun _ => False) a' m c' xs rfl hown.out #[.int .i64 (f : Int), .int .i64 (k : Int)] (f, k) rfl (fun _ => False) rfl (fun b h => h.elim) (by unfold maxLen; omega) (by omega) hbl.size ?_))
          intro a2 c2 w2 hown2 hg2
          have hb2 : Below w.heap.size w w2 := hown.out.grown hbl (Nat.le_refl _) hbl.size hg2
          have HO2 := Lib.hid hown2
          clear hown2 hg2
          go_wp2_with fail
          go_roundw
          case rel => exact ⟨k + 1, none, m + 1, a2, c2, xs ++ [(f, k)], by omega, by omega, rfl, by go_num, by go_num, HO2.out, hb2, HR⟩
          case measure => (simp [intOf]; try omega)
    · by_cases hkn : k = n
      · cases fo with
        | none =>
          have HR := Lib.hid (runsAt_E hra.out (by have := hnn.out; omega))
          clear hra
          subst hkn
          simp only [fromI] at *
          go_wp2_with fail
          go_roundw
          case rel => exact ⟨k + 1, none, m, a', c', xs, by omega, by omega, rfl, rfl, by go_num, hown, hbl, HR⟩
          case measure => (simp [intOf]; try omega)
        | some f =>
          have HR := Lib.hid (runsAt_F hra.out (by have := hnn.out; omega))
          clear hra
          subst hkn
          simp only [fromI] at *
          go_wp2_with (at_builtin; refine wpList_append_one (L := rangeL) rfl (.tmp 50) (.tmp 54) 41 rfl w.heap.size 95 _ 16 Try.underlying41 info_range rfl (fun _ => False) a' m c' xs rfl hown.out #[.int .i64 (f : Int), .int .i64 (k : Int)] (f, k) rfl (fun _ => False) rfl (fun b h => h.elim) (by unfold maxLen; omega) (by omega) hbl.size ?_)
          intro a2 c2 w2 hown2 hg2
          have hb2 : Below w.heap.size w w2 := hown.out.grown hbl (Nat.le_refl _) hbl.size hg2
          have HO2 := Lib.hid hown2
          clear hown2 hg2
          go_wp2_with fail
          go_roundw
          case rel => exact ⟨k + 1, none, m + 1, a2, c2, xs ++ [(f, k)], by omega, by omega, rfl, by go_num, by go_num, HO2.out, hb2, HR⟩
          case measure => (simp [intOf]; try omega)
      · have HF := Lib.hid (runsAt_end hra.out (by have := hnn.out; omega))
        clear hra
        go_wp2_with fail
        go_ret
        exact ⟨a', m, c', rfl, by rw [← HF.out]; exact hown, hbl⟩

theorem is_condense (u : Nat) (w : World) (b : Bool) (h : Hid ((u == 1) = b)) : Calls Try.prog 39 #[.int .u8 (u : Int)] w fun e w' => e = .returned (.bool b) ∧ w = w' := by
  go_enter Try.func39, Try.ntmps39
  go_wp2
  go_ret
  exact ⟨ret_bool (by rw [← h.out, Bool.eq_iff_iff]; simp; try omega), rfl⟩
set_option maxHeartbeats 4000000 in
theorem runs_condense (w : World) (g gu : Nat) (us : List Nat) (left : Int) (a : Option Addr) (l c : Nat)
    (hb : Box w g #[.slice (some ⟨gu, 0, none⟩) us.length us.length, .int .i64 left, .slice a l c] 99) (hu : Box w gu (us8 us) 5) (hn : us.length ≤ 4096) :
    Calls Try.prog 38 #[.pointer (some ⟨g, 0, none⟩), .func (.func 39) #[] #[]] w (Runs (· == 1) us w) := by
  have hgl : g < w.heap.size := hb.lt
  have hul : gu < w.heap.size := hu.lt
  have HU := Lib.hid hu
  have HB := Lib.hid hb
  obtain ⟨n, hnn⟩ : ∃ n, Hid (us.length = n) := ⟨_, rfl⟩
  rw [hnn.out] at hn HB
  clear hb hu
  go_enter Try.func38, Try.ntmps38
  go_wp2_with fail
  go_loopw [5, 6, 7] (fun ov fv iv wr => ∃ (k : Nat) (fo : Option Nat) (m : Nat) (a' : Option Addr) (c' : Nat) (xs : List (Nat × Nat)), k ≤ n + 1 ∧ m ≤ k ∧ ov = .slice a' m c' ∧ fv = .int .i64 (fromI fo) ∧ iv = .int .i64 k ∧ Hid (SOwn rangeL wr w.heap.size 95 (fun _ => False) a' m c' xs) ∧ Below w.heap.size w wr ∧ Hid (RunsAt (· == 1) us k fo xs)) (fun _ _ iv _ => n + 1 - (intOf iv).toNat)
  case atStart => exact ⟨0, none, 0, none, 0, [], by omega, by omega, rfl, rfl, rfl, SOwn.nil .., Below.refl _ _, runsAt_start _ _⟩
  case round =>
    obtain ⟨k, fo, m, a', c', xs, hk, hmk, rfl, rfl, rfl, hown, hbl, hra⟩ := hrel
    have hbg : Box wr g _ _ := HB.out.below hbl hgl
    have c0 : wr.cell? ⟨g, 0, none⟩ = some (.slice (some ⟨gu, 0, none⟩) n n) := hbg.cell 0
    have hcap := hown.out.hle
    have hmx := hown.out.hmax
    unfold maxLen at hmx
    clear hbg
    by_cases hlt : k < n
    · have hkl : k < us.length := by have := hnn.out; omega
      have e1 : wr.cell? ⟨gu, k, none⟩ = some (.int .u8 (us.getD k 0 : Nat)) := by
        rw [(HU.out.below hbl hul).cell k, us8_get _ _ hkl]
      by_cases hp : ((us.getD k 0) == 1) = true
      · cases fo with
        | none =>
          have HR := Lib.hid (runsAt_A hra.out hkl hp)
          obtain ⟨u, hu⟩ : ∃ u, Hid (us.getD k 0 = u) := ⟨_, rfl⟩
          rw [hu.out] at e1 hp
          have hpu := Lib.hid hp
          clear hp hra
          simp only [fromI] at *
          go_wp2_with (go_at_call 39; refine (is_condense u _ true hpu).mono ?_; rintro e w' ⟨rfl, rfl⟩)
          go_roundw
          case rel => exact ⟨k + 1, some k, m, a', c', xs, by omega, by omega, rfl, rfl, by go_num, hown, hbl, HR⟩
          case measure => (simp [intOf]; try omega)
        | some f =>
          have HR := Lib.hid (runsAt_B hra.out hkl hp)
          obtain ⟨u, hu⟩ : ∃ u, Hid (us.getD k 0 = u) := ⟨_, rfl⟩
          rw [hu.out] at e1 hp
          have hpu := Lib.hid hp
          clear hp hra
          simp only [fromI] at *
          go_wp2_with (go_at_call 39; refine (is_condense u _ true hpu).mono ?_; rintro e w' ⟨rfl, rfl⟩)
          go_roundw
          case rel => exact ⟨k + 1, some f, m, a', c', xs, by omega, by omega, rfl, rfl, by go_num, hown, hbl, HR⟩
          case measure => (simp [intOf]; try omega)
      · have hp2 : ((us.getD k 0) == 1) = false := by simpa using hp
        clear hp
        cases fo with
        | none =>
          have HR := Lib.hid (runsAt_C hra.out hkl hp2)
          obtain ⟨u, hu⟩ : ∃ u, Hid (us.getD k 0 = u) := ⟨_, rfl⟩
          rw [hu.out] at e1 hp2
          have hpu := Lib.hid hp2
          clear hp2 hra
          simp only [fromI] at *
          go_wp2_with (go_at_call 39; refine (is_condense u _ false hpu).mono ?_; rintro e w' ⟨rfl, rfl⟩)
          go_roundw
          case rel => exact ⟨k + 1, none, m, a', c', xs, by omega, by omega, rfl, rfl, by go_num, hown, hbl, HR⟩
          case measure => (simp [intOf]; try omega)
        | some f =>
          have HR := Lib.hid (runsAt_D hra.out hkl hp2)
          obtain ⟨u, hu⟩ : ∃ u, Hid (us.getD k 0 = u) := ⟨_, rfl⟩
          rw [hu.out] at e1 hp2
          have hpu := Lib.hid hp2
          clear hp2 hra
          simp only [fromI] at *
          go_wp2_with (first | (go_at_call 39; refine (is_condense u _ false hpu).mono ?_; rintro e w' ⟨rfl, rfl⟩) | (at_builtin; refine wpList_append_one (L := rangeL) rfl (.tmp 50) (.tmp 54) 41 rfl w.heap.size 95 _ 16 Try.underlying41 info_range rfl (fun _ => False) a' m c' xs rfl hown.out #[.int .i64 (f : Int), .int .i64 (k : Int)] (f, k) rfl (fun _ => False) rfl (fun b h => h.elim) (by unfold maxLen; omega) (by omega) hbl.size ?_))
          intro a2 c2 w2 hown2 hg2
          have hb2 : Below w.heap.size w w2 := hown.out.grown hbl (Nat.le_refl _) hbl.size hg2
          have HO2 := Lib.hid hown2
          clear hown2 hg2
          go_wp2_with fail
          go_roundw
          case rel => exact ⟨k + 1, none, m + 1, a2, c2, xs ++ [(f, k)], by omega, by omega, rfl, by go_num, by go_num, HO2.out, hb2, HR⟩
          case measure => (simp [intOf]; try omega)
    · by_cases hkn : k = n
      · cases fo with
        | none =>
          have HR := Lib.hid (runsAt_E hra.out (by have := hnn.out; omega))
          clear hra
          subst hkn
          simp only [fromI] at *
          go_wp2_with fail
          go_roundw
          case rel => exact ⟨k + 1, none, m, a', c', xs, by omega, by omega, rfl, rfl, by go_num, hown, hbl, HR⟩
          case measure => (simp [intOf]; try omega)
        | some f =>
          have HR := Lib.hid (runsAt_F hra.out (by have := hnn.out; omega))
          clear hra
          subst hkn
          simp only [fromI] at *
          go_wp2_with (at_builtin; refine wpList_append_one (L := rangeL) rfl (.tmp 50) (.tmp 54) 41 rfl w.heap.size 95 _ 16 Try.underlying41 info_range rfl (fun _ => False) a' m c' xs rfl hown.out #[.int .i64 (f : Int), .int .i64 (k : Int)] (f, k) rfl (fun _ => False) rfl (fun b h => h.elim) (by unfold maxLen; omega) (by omega) hbl.size ?_)
          intro a2 c2 w2 hown2 hg2
          have hb2 : Below w.heap.size w w2 := hown.out.grown hbl (Nat.le_refl _) hbl.size hg2
          have HO2 := Lib.hid hown2
          clear hown2 hg2
          go_wp2_with fail
          go_roundw
          case rel => exact ⟨k + 1, none, m + 1, a2, c2, xs ++ [(f, k)], by omega, by omega, rfl, by go_num, by go_num, HO2.out, hb2, HR⟩
          case measure => (simp [intOf]; try omega)
      · have HF := Lib.hid (runsAt_end hra.out (by have := hnn.out; omega))
        clear hra
        go_wp2_with fail
        go_ret
        exact ⟨a', m, c', rfl, by rw [← HF.out]; exact hown, hbl⟩
end Go.Proofs.Yteidmdakglkkfaa
