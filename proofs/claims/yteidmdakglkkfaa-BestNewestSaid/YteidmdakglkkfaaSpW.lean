/- The walks of package space's small methods: all, set, runs. -/
import Derived.Test.YteidmdakglkkfaaSpP
namespace Go.Proofs.Yteidmdakglkkfaa
open Go.RowKit
set_option linter.unusedVariables false

def recL : Lay (Bool × Nat × Nat) := Lay.flat 3 (by decide) (fun r => [.bool r.1, .int .i64 (r.2.1 : Int), .int .i64 (r.2.2 : Int)]) (fun _ => rfl) (by intro r v hv; simp at hv; rcases hv with rfl | rfl | rfl <;> rfl)
def rangeL : Lay (Nat × Nat) := Lay.flat 2 (by decide) (fun r => [.int .i64 (r.1 : Int), .int .i64 (r.2 : Int)]) (fun _ => rfl) (by intro r v hv; simp at hv; rcases hv with rfl | rfl <;> rfl)
def us8 (us : List Nat) : Array Value := (us.map fun u : Nat => Value.int .u8 (u : Int)).toArray
theorem us8_get (us : List Nat) (i : Nat) (h : i < us.length) : (us8 us)[i]? = some (.int .u8 (us.getD i 0 : Nat)) := by simp [us8, List.getD, h]
theorem us8_set (us : List Nat) (i v : Nat) : (us8 us).setIfInBounds i (.int .u8 (v : Int)) = us8 (us.set i v) := by simp [us8, List.map_set]
structure Spc (B : Nat) (w : World) (g gu : Nat) (s : Sp) (a : Option Addr) (l c : Nat) : Prop where
  hb : Box w g #[.slice (some ⟨gu, 0, none⟩) s.us.length s.us.length, .int .i64 s.left, .slice a l c] 99
  hu : Box w gu (us8 s.us) 5
  ho : SOwn recL w B 106 (fun _ => False) a l c s.log
  h1 : B ≤ g
  h2 : B ≤ gu
theorem Box.grown {w w' : World} {g : Nat} {vs : Array Value} {t : TypeId} (h : Box w g vs t) {row : Option Nat} (hb : w.grownBy w' row) (hg : some g ≠ row) : Box w' g vs t := (hb.block g h.lt hg).trans h
theorem only_setCell {a w : World} {g : Nat} (h : a.grownBy w (some g)) {p : Addr} (hp : p.block = g ∨ a.heap.size ≤ p.block) (u : Value) : a.grownBy (w.setCell p u) (some g) :=
  ⟨h.os, h.tape, h.output, by simpa [World.setCell] using h.size, fun i hi hne => (Below.heap_setCell w p u i (by
    rintro rfl
    rcases hp with hp | hp
    · exact hne (by rw [hp])
    · omega)).trans (h.block i hi hne)⟩
theorem Box.ne {w : World} {g g' : Nat} {vs vs' : Array Value} {t t' : TypeId} (h : Box w g vs t) (h' : Box w g' vs' t') (hne : t ≠ t') : g ≠ g' := by
  rintro rfl
  unfold Box at h h'
  rw [h] at h'
  injection h' with h'
  injection h' with _ ht
  exact hne ht

set_option maxHeartbeats 1000000 in
theorem sp_all (w : World) (g gu : Nat) (us : List Nat) (left : Int) (a : Option Addr) (l c : Nat)
    (hb : Box w g #[.slice (some ⟨gu, 0, none⟩) us.length us.length, .int .i64 left, .slice a l c] 99) (hu : Box w gu (us8 us) 5)
    (f t : Int) (v : Nat) (hf : 0 ≤ f) (hft : f < t) (htn : t ≤ us.length) (hn : us.length ≤ 4096) :
    Calls Try.prog 54 #[.pointer (some ⟨g, 0, none⟩), .agg #[.int .i64 f, .int .i64 t], .int .u8 v] w fun e w' => e = .returned (.bool (allR us f.toNat t.toNat v)) ∧ Below w.heap.size w w' := by
  obtain ⟨f, rfl⟩ := Int.eq_ofNat_of_zero_le hf
  obtain ⟨t, rfl⟩ := Int.eq_ofNat_of_zero_le (show 0 ≤ t by omega)
  rw [Int.toNat_natCast, Int.toNat_natCast]
  have c0 : w.cell? ⟨g, 0, none⟩ = some (.slice (some ⟨gu, 0, none⟩) us.length us.length) := hb.cell 0
  have hgl : g < w.heap.size := hb.lt
  have hul : gu < w.heap.size := hu.lt
  have HU := Lib.hid hu
  obtain ⟨n, hnn⟩ : ∃ n, Hid (us.length = n) := ⟨_, rfl⟩
  rw [hnn.out] at c0 htn hn
  have hfn : ¬ n = f := by omega
  clear hb hu
  go_enter Try.func54, Try.ntmps54
  go_wp2_with fail
  go_quiet (fail)
  go_wp2_with fail
  go_loop [19] (fun iv => ∃ k : Nat, k ≤ t - f ∧ iv = .int .i64 k ∧ Hid (∀ j, j < k → us.getD (f + j) 0 = v)) (fun iv => t - f - (intOf iv).toNat)
  case atStart => exact ⟨0, by omega, rfl, fun j hj => absurd hj (by omega)⟩
  case round =>
    obtain ⟨k, hk, rfl, hall⟩ := hrel
    by_cases hlt : k < t - f
    · have e1 : w.cell? ⟨gu, f + k, none⟩ = some (.int .u8 (us.getD (f + k) 0 : Nat)) := by
        rw [HU.out.cell (f + k), us8_get _ _ (by have := hnn.out; omega)]
      obtain ⟨u, hu⟩ : ∃ u, Hid (us.getD (f + k) 0 = u) := ⟨_, rfl⟩
      rw [hu.out] at e1
      by_cases huv : u = v
      · have b1 : ((u : Int) != (v : Int)) = false := by simp [huv]
        have hn : ∀ j, j < k + 1 → us.getD (f + j) 0 = v := fun j hj => by
          by_cases h : j < k
          · exact hall.out j h
          · obtain rfl : j = k := by omega
            rw [hu.out, huv]
        have HN := Lib.hid hn
        clear hn huv
        go_wp2_with fail
        go_round
        case rel => exact ⟨k + 1, by omega, by go_num, HN.out⟩
        case measure => simp [intOf]; omega
      · have b1 : ((u : Int) != (v : Int)) = true := by simp; omega
        have hf : allR us f t v = false := by
          unfold allR
          rw [List.all_eq_false]
          exact ⟨f + k, by rw [List.mem_range'_1]; omega, by rw [hu.out]; simp [huv]⟩
        have HF := Lib.hid hf
        clear hf huv
        go_wp2_with fail
        go_ret
        exact ⟨ret_bool HF.out.symm, below_drewN (Below_alloc1 _) _⟩
    · obtain rfl : k = t - f := by omega
      have hf : allR us f t v = true := by
        unfold allR
        rw [List.all_eq_true]
        intro x hx
        rw [List.mem_range'_1] at hx
        have := hall.out (x - f) (by omega)
        rw [show f + (x - f) = x by omega] at this
        rw [this]; simp
      have HF := Lib.hid hf
      clear hf
      go_wp2_with fail
      go_ret
      exact ⟨ret_bool HF.out.symm, below_drewN (Below_alloc1 _) _⟩

set_option maxHeartbeats 1000000 in
theorem sp_set (w : World) (g gu : Nat) (us : List Nat) (left : Int) (a : Option Addr) (l c : Nat)
    (hb : Box w g #[.slice (some ⟨gu, 0, none⟩) us.length us.length, .int .i64 left, .slice a l c] 99) (hu : Box w gu (us8 us) 5)
    (f t : Int) (v : Nat) (hf : 0 ≤ f) (hft : f ≤ t) (htn : t ≤ us.length) (hn : us.length ≤ 4096) :
    Calls Try.prog 55 #[.pointer (some ⟨g, 0, none⟩), .agg #[.int .i64 f, .int .i64 t], .int .u8 v] w fun e w' => e = .returned (.tuple #[]) ∧ Hid (Box w' gu (us8 (setR us f.toNat t.toNat v)) 5) ∧ w.grownBy w' (some gu) := by
  obtain ⟨f, rfl⟩ := Int.eq_ofNat_of_zero_le hf
  obtain ⟨t, rfl⟩ := Int.eq_ofNat_of_zero_le (show 0 ≤ t by omega)
  rw [Int.toNat_natCast, Int.toNat_natCast]
  have hne : g ≠ gu := hb.ne hu (by decide)
  have hgl : g < w.heap.size := hb.lt
  have hul : gu < w.heap.size := hu.lt
  have HU := Lib.hid hu
  have HB := Lib.hid hb
  obtain ⟨n, hnn⟩ : ∃ n, Hid (us.length = n) := ⟨_, rfl⟩
  rw [hnn.out] at htn hn
  clear hb hu
  go_enter Try.func55, Try.ntmps55
  go_wp2_with fail
  obtain ⟨h, hh⟩ : ∃ h, Hid (w.heap.size = h) := ⟨_, rfl⟩
  rw [hh.out]
  go_loopw [6] (fun iv wr => ∃ i : Nat, f ≤ i ∧ i ≤ t ∧ iv = .int .i64 i ∧ Hid (Box wr gu (us8 (setR us f i v)) 5) ∧ Hid (Box wr h #[.int .i64 f, .int .i64 t] 95) ∧ w.grownBy wr (some gu)) (fun iv _ => t - (intOf iv).toNat)
  case atStart => exact ⟨f, by omega, by omega, rfl, by rw [setR_nil]; exact HU.out.alloc _, by rw [← hh.out]; exact Box.new rfl, World.grownBy_alloc _ _ _⟩
  case round =>
    obtain ⟨i, hi1, hi2, rfl, hbu, hbr, hgr⟩ := hrel
    have hbg : Box wr g _ _ := HB.out.grown hgr (by intro e; exact hne (by injection e))
    rw [hnn.out] at hbg
    have c0 : wr.cell? ⟨g, 0, none⟩ = some (.slice (some ⟨gu, 0, none⟩) n n) := hbg.cell 0
    have r0 : wr.cell? ⟨h, 0, none⟩ = some (.int .i64 f) := hbr.out.cell 0
    have r1 : wr.cell? ⟨h, 1, none⟩ = some (.int .i64 t) := hbr.out.cell 1
    clear hbg
    by_cases hlt : i < t
    · have hb1 : Hid (Box (wr.setCell ⟨gu, i, none⟩ (.int .u8 v)) gu (us8 (setR us f (i + 1) v)) 5) := by
        have := hbu.out.set i (.int .u8 v)
        rw [us8_set, ← setR_step us f i v hi1 (by have := hnn.out; omega)] at this
        exact this
      have hb2 : Hid (Box (wr.setCell ⟨gu, i, none⟩ (.int .u8 v)) h #[.int .i64 f, .int .i64 t] 95) := hbr.out.other ⟨gu, i, none⟩ (by show gu ≠ h; have := hh.out; omega) _
      have hg2 := only_setCell (p := ⟨gu, i, none⟩) hgr (.inl rfl) (.int .u8 v)
      have f1 : wr.frozen? ⟨gu, i, none⟩ = false := hbu.out.free i
      have e1 : wr.cell? ⟨gu, i, none⟩ = some (.int .u8 ((setR us f i v).getD i 0 : Nat)) := by
        rw [hbu.out.cell i, us8_get _ _ (by rw [setR_length _ _ _ _ hi1 (by have := hnn.out; omega)]; have := hnn.out; omega)]
      have HG2 := Lib.hid hg2
      clear hg2 hbu hbr hgr
      go_wp2_with fail
      go_roundw
      case rel => exact ⟨i + 1, by omega, by omega, by go_num, hb1, hb2, HG2.out⟩
      case measure => simp [intOf]; omega
    · obtain rfl : i = t := by omega
      go_wp2_with fail
      go_end0
      exact ⟨rfl, hbu, hgr⟩
end Go.Proofs.Yteidmdakglkkfaa
