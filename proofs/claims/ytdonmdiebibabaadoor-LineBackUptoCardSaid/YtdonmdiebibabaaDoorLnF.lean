/- The walk of ToldBack: what it calls. -/
import Derived.Test.YtdonmdiebibabaaDoorLnE
namespace Go.Proofs.YtdonmdiebibabaaDoor
open Go.RowKit Go.Sort
set_option linter.unusedVariables false
set_option maxRecDepth 100000
set_option linter.unusedSimpArgs false

def objN (a : Int) : Nm := ([[97], [98], [99, 51], [122, 122], [101]] : List Nm).getD (a % 5).toNat []
set_option maxHeartbeats 4000000 in
theorem objectNameW (n : Int) (w : World) : Calls Tryd.prog 7 #[.int .i64 n] w fun e w' => e = .returned (encStr (objN n)) ∧ Hid (Below w.heap.size w w') := by
  have h0 := Int.emod_nonneg n (b := 5) (by decide)
  have h1 := Int.emod_lt_of_pos n (b := 5) (by decide)
  have hk : n % 5 = 0 ∨ n % 5 = 1 ∨ n % 5 = 2 ∨ n % 5 = 3 ∨ n % 5 = 4 := by omega
  rcases hk with hk | hk | hk | hk | hk
  all_goals
    have HK := Lib.hid hk
    clear hk h0 h1
    go_enter Tryd.func7, Tryd.ntmps7
    go_wp2_with (go_at_call 6; refine (picked n 5 _ (by omega) (by omega)).mono ?_; rintro e w' ⟨r, hr, hr0, hr1, rfl, rfl⟩; have hr' := hr.out; rw [HK.out] at hr'; subst hr'; clear hr)
    go_ret
    exact ⟨by unfold objN; rw [HK.out]; rfl, Below_alloc1 _⟩
set_option maxHeartbeats 400000 in
theorem pickedBig (a n : Int) (w : World) (h : 0 < n) (h' : n ≤ 4611686018427387904) : Calls Tryd.prog 6 #[.int .i64 a, .int .i64 n] w (Picks a n w) := by
  have hb := tmod_bound a n h
  have hn0 : (n == 0) = false := by simp; omega
  have hh := Int.emod_nonneg a (b := n) (by omega)
  have hg := Int.emod_lt_of_pos a h
  by_cases h0 : a.tmod n < 0
  · have HM := Lib.hid (tmod_neg a n h h0)
    go_enter Tryd.func6, Tryd.ntmps6
    go_wp2
    go_ret
    exact ⟨a % n, rfl, hh, hg, ret_int HM.out, rfl⟩
  · have HM := Lib.hid (tmod_pos a n h h0)
    go_enter Tryd.func6, Tryd.ntmps6
    go_wp2
    go_ret
    exact ⟨a % n, rfl, hh, hg, ret_int HM.out, rfl⟩
set_option maxHeartbeats 4000000 in
theorem sameTextsW (F : Nat → Prop) (a : Option Addr) (la ca : Nat) (xs : List Nm) (b : Option Addr) (lb cb : Nat) (G : Nat → Prop) (w : World) (ha : SRow strL w F a la ca xs) (hb : SRow strL w G b lb cb xs) :
    Calls Tryd.prog 26 #[.slice a la ca, .slice b lb cb] w fun e w' => e = .returned (.bool true) ∧ ∃ k, w' = w.drewN k := by
  obtain rfl : la = lb := by rw [← ha.1, ← hb.1]
  have h1 := ha.hle
  have h2 := ha.hmax
  have h3 := hb.hle
  have h4 := hb.hmax
  unfold maxLen at h2 h4
  have HA := Lib.hid ha
  have HB := Lib.hid hb
  clear ha hb
  go_enter Tryd.func26, Tryd.ntmps26
  go_wp2_with fail
  go_loopw [5] (fun i wr => ∃ k : Nat, k ≤ la ∧ i = .int .i64 k ∧ ∃ n, wr = w.drewN n) (fun i _ => la - (intOf i).toNat)
  case atStart => exact ⟨0, by omega, rfl, 0, rfl⟩
  case round =>
    obtain ⟨k, hk, rfl, n, rfl⟩ := hrel
    by_cases hlt : k < la
    · obtain ⟨b1, o1, x, rfl, hx1, e1⟩ := nmAt HA.out k hlt
      obtain ⟨b2, o2, y, rfl, hx2, e2⟩ := nmAt HB.out k hlt
      obtain rfl : x = y := by rw [hx1] at hx2; exact Option.some.inj hx2
      have hki : (k : Int) < (la : Int) := by omega
      clear hx1 hx2
      go_wp2
      go_quiet (fail)
      go_wp2
      go_roundw
      case rel => exact ⟨k + 1, by omega, by go_num, _, by first | rfl | exact World.drewN_drewN _ _ _⟩
      case measure => simp [intOf]; omega
    · obtain rfl : k = la := by omega
      go_wp2
      go_ret
      exact ⟨rfl, _, by first | rfl | exact World.drewN_drewN _ _ _⟩
theorem sameSelfP {a : Option Addr} {la ca : Nat} {xs : List Int} {b : Option Addr} {lb cb : Nat} {w : World} (ha : Row .u8 w a la ca xs) (hb : Row .u8 w b lb cb xs) : Calls Tryd.prog 15 #[.slice a la ca, .slice b lb cb] w fun e w' => e = .returned (.bool true) ∧ ∃ k, w' = w.drewN k := by
  refine (sameBytes a la ca xs b lb cb xs w ha hb).mono ?_
  rintro e w' ⟨rfl, h⟩
  exact ⟨by rw [decide_eq_true rfl], h⟩
set_option maxHeartbeats 4000000 in
theorem sameToldW (r : Tl) (F G : Nat → Prop) (ad : Option Addr) (ld cd : Nat) (an : Option Addr) (ln cn : Nat) (bd : Option Addr) (md dd : Nat) (bn : Option Addr) (mn dn : Nat) (w : World)
    (hd1 : Row .u8 w ad ld cd r.data) (hn1 : SRow strL w F an ln cn r.names) (hd2 : Row .u8 w bd md dd r.data) (hn2 : SRow strL w G bn mn dn r.names) :
    Calls Tryd.prog 10 #[.agg (tlV r ad ld cd an ln cn), .agg (tlV r bd md dd bn mn dn)] w fun e w' => e = .returned (.bool true) ∧ Hid (Below w.heap.size w w') := by
  obtain ⟨W, hW⟩ : ∃ W, W = (w.alloc (.cells (tlV r ad ld cd an ln cn) 28)).alloc (.cells (tlV r bd md dd bn mn dn) 28) := ⟨_, rfl⟩
  have hB : Below w.heap.size w W := by rw [hW]; exact Below_alloc2 _ _
  have b1 : Box W w.heap.size (tlV r ad ld cd an ln cn) 28 := by rw [hW]; exact Box.alloc (Box.new rfl) _
  have b2 : Box W (w.heap.size + 1) (tlV r bd md dd bn mn dn) 28 := by rw [hW]; exact Box.new (by simp)
  have HB := Lib.hid hB
  have HSB := Lib.hid (sameSelfP (hd1.below hB) (hd2.below hB))
  have HST := Lib.hid (fun k => sameTextsW F an ln cn r.names bn mn dn G (W.drewN k) ((hn1.below hB).drewN k) ((hn2.below hB).drewN k))
  have x0 : W.cell? ⟨w.heap.size, 0, none⟩ = some (.int .i64 (r.code : Int)) := b1.cell 0
  have x1 : W.cell? ⟨w.heap.size, 1, none⟩ = some (.bool r.done) := b1.cell 1
  have x2 : W.cell? ⟨w.heap.size, 2, none⟩ = some (.int .i64 (r.size : Int)) := b1.cell 2
  have x3 : W.cell? ⟨w.heap.size, 3, none⟩ = some (.slice ad ld cd) := b1.cell 3
  have x4 : W.cell? ⟨w.heap.size, 4, none⟩ = some (.slice an ln cn) := b1.cell 4
  have y0 : W.cell? ⟨w.heap.size + 1, 0, none⟩ = some (.int .i64 (r.code : Int)) := b2.cell 0
  have y1 : W.cell? ⟨w.heap.size + 1, 1, none⟩ = some (.bool r.done) := b2.cell 1
  have y2 : W.cell? ⟨w.heap.size + 1, 2, none⟩ = some (.int .i64 (r.size : Int)) := b2.cell 2
  have y3 : W.cell? ⟨w.heap.size + 1, 3, none⟩ = some (.slice bd md dd) := b2.cell 3
  have y4 : W.cell? ⟨w.heap.size + 1, 4, none⟩ = some (.slice bn mn dn) := b2.cell 4
  clear hB b1 b2 hd1 hd2 hn1 hn2
  unfold tlV at hW ⊢
  go_enter Tryd.func10, Tryd.ntmps10
  go_wp2_with (first
    | (go_at_call 15; rw [← hW]; clear hW; refine HSB.out.mono ?_; rintro e w' ⟨rfl, k, rfl⟩)
    | (go_at_call 26; refine (HST.out _).mono ?_; rintro e w' ⟨rfl, k2, rfl⟩)
    | fail)
  go_ret
  exact ⟨rfl, below_drewN HB.out _⟩
theorem objN_ok (n : Int) : oddP (objN n) = false ∧ (objN n).length ≤ 100 ∧ (∀ c ∈ objN n, c ≠ 32) ∧ objN n ≠ doneN := by
  have h0 := Int.emod_nonneg n (b := 5) (by decide)
  have h1 := Int.emod_lt_of_pos n (b := 5) (by decide)
  have hk : n % 5 = 0 ∨ n % 5 = 1 ∨ n % 5 = 2 ∨ n % 5 = 3 ∨ n % 5 = 4 := by omega
  unfold objN
  rcases hk with hk | hk | hk | hk | hk <;> rw [hk] <;> decide
def namesP (ns : List Int) : List Nm := (ns.take 6).map objN
theorem namesP_any (ns : List Int) : (namesP ns).any oddP = false := by
  rw [List.any_eq_false]
  intro x hx
  obtain ⟨n, _, rfl⟩ := List.mem_map.1 hx
  rw [(objN_ok n).1]; decide
theorem joinP_snoc : ∀ (xs : List Nm) (y : Nm), xs ≠ [] → joinP xs ++ 32 :: y = joinP (xs ++ [y])
  | [], _, h => absurd rfl h
  | [x], y, _ => by rw [joinP_one]; show _ = joinP [x, y]; rw [joinP_cons, joinP_one]
  | x :: z :: r, y, _ => by
    show _ = joinP (x :: z :: (r ++ [y]))
    rw [joinP_cons, joinP_cons, List.append_assoc]
    show x ++ 32 :: (joinP (z :: r) ++ 32 :: y) = _
    rw [joinP_snoc (z :: r) y (by simp)]; rfl
/-- The answer whose line is one 'done' longer. -/
def moreT (t : Tl) : Tl := if t.done = false ∧ t.names = [] then { t with done := true } else { t with names := t.names ++ [doneN] }
theorem moreT_line (t : Tl) : joinP (partsT t) ++ 32 :: doneN = joinP (partsT (moreT t)) := by
  rw [joinP_snoc _ _ (partsT_ne t)]
  congr 1
  unfold moreT
  split
  · rename_i h
    unfold partsT
    simp [h.1, h.2]
  · unfold partsT
    simp
theorem joinP_len (n : Nat) : ∀ xs : List Nm, (∀ x ∈ xs, x.length ≤ n) → (joinP xs).length ≤ xs.length * (n + 1)
  | [], _ => by simp [joinP, Lib.join]
  | [x], h => by rw [joinP_one]; have := h x (List.mem_cons_self ..); simp; omega
  | x :: y :: r, h => by
    rw [joinP_cons]
    have h1 := h x (List.mem_cons_self ..)
    have h2 := joinP_len n (y :: r) (fun z hz => h z (List.mem_cons_of_mem _ hz))
    simp only [List.length_append, List.length_cons] at h2 ⊢
    rw [Nat.add_mul (r.length + 1) 1 (n + 1)]
    omega
theorem partsT_len (t : Tl) (hc : t.code ≤ 1000) (hs : t.size ≤ 4611686018427387904) (hl : t.data.length ≤ 2000000) (hn : ∀ x ∈ t.names, x.length ≤ 100) (hln : t.names.length ≤ 100) : (joinP (partsT t)).length < 4294967281 := by
  have h1 : ∀ x ∈ partsT t, x.length ≤ 5000000 := by
    intro x hx
    unfold partsT headT at hx
    simp only [List.mem_append] at hx
    rcases hx with ((hx | hx) | hx) | hx
    · split at hx
      · obtain rfl := List.mem_singleton.1 hx; decide
      · simp only [List.mem_cons, List.mem_nil_iff, or_false] at hx
        rcases hx with rfl | rfl
        · decide
        · have := itoa_len (t.code : Int) (by omega) (by omega); omega
    · simp only [List.mem_cons, List.mem_nil_iff, or_false] at hx
      rcases hx with rfl | rfl
      · have := itoa_len (t.size : Int) (by omega) (by omega); omega
      · unfold hexP
        split
        · simp
        · rw [pairs_length]; omega
    · split at hx
      · obtain rfl := List.mem_singleton.1 hx; decide
      · cases hx
    · have := hn x hx; omega
  have h2 := joinP_len 5000000 _ h1
  have h3 : (partsT t).length ≤ 105 := by
    unfold partsT headT
    simp only [List.length_append, List.length_cons, List.length_nil]
    split <;> split <;> simp <;> omega
  have h4 : (partsT t).length * (5000000 + 1) ≤ 105 * 5000001 := Nat.mul_le_mul_right _ h3
  omega
end Go.Proofs.YtdonmdiebibabaaDoor
