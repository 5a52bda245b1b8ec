/- The walk of give. -/
import Derived.Test.YteidmdakglkkfaaSpT
namespace Go.Proofs.Yteidmdakglkkfaa
open Go.RowKit
set_option linter.unusedVariables false

/-- What give leaves. -/
def Gives (B g gu : Nat) (r : Sp × Nat) (w : World) (e : Ending) (w' : World) : Prop :=
  ∃ (code : Int) (a : Option Addr) (l c : Nat), e = .returned (.int .i64 code) ∧ Hid (code = (r.2 : Int)) ∧ Hid (Spc B w' g gu r.1 a l c) ∧ Hid (SpKeep B g gu w w')
set_option maxHeartbeats 4000000 in
theorem sp_give (B g gu : Nat) (s : Sp) (a : Option Addr) (l c : Nat) (w : World) (hs : Spc B w g gu s a l c) (kind from_ count : Int) (hn : s.us.length ≤ 4096) (hf : -9223372036854775808 ≤ from_ ∧ from_ ≤ 9223372036854775807) (hc : -9223372036854775808 ≤ count ∧ count ≤ 9223372036854775807) :
    Calls Try.prog 52 #[.pointer (some ⟨g, 0, none⟩), .agg #[.int .i64 kind, .int .i64 from_, .int .i64 count]] w (Gives B g gu (s.give from_ count) w) := by
  have hgl : g < w.heap.size := hs.hb.lt
  have hul : gu < w.heap.size := hs.hu.lt
  have hB : B ≤ w.heap.size := by have := hs.h1; omega
  have hne : g ≠ gu := hs.ne
  have c0 : w.cell? ⟨g, 0, none⟩ = some (.slice (some ⟨gu, 0, none⟩) s.us.length s.us.length) := hs.hb.cell 0
  have HS := Lib.hid hs
  have HB := Lib.hid hB
  obtain ⟨us, left, log⟩ := s
  simp only at *
  obtain ⟨n, hnn⟩ : ∃ n, Hid (us.length = n) := ⟨_, rfl⟩
  rw [hnn.out] at c0 hn
  obtain ⟨R, hR⟩ : ∃ R, Hid (Sp.give ⟨us, left, log⟩ from_ count = R) := ⟨_, rfl⟩
  rw [hR.out]
  have K1 := Lib.hid ((SpKeep.refl B g gu w).alloc hB (.cells #[.int .i64 kind, .int .i64 from_, .int .i64 count] 31))
  have S1 := Lib.hid (hs.alloc (.cells #[.int .i64 kind, .int .i64 from_, .int .i64 count] 31))
  clear hs hB
  by_cases h1 : from_ < 0 ∨ count < 1 ∨ (n : Int) < count ∨ (n : Int) - count < from_
  · have hres : Hid (R = (⟨us, left, log⟩, 2)) := by
      show _ = _; rw [← hR.out, Sp.give, if_pos (by show _ ∨ _ ∨ ((us.length : Nat) : Int) < _ ∨ ((us.length : Nat) : Int) - _ < _; rw [hnn.out]; exact h1)]
    rw [hres.out]
    by_cases a1 : from_ < 0
    · clear h1
      go_enter Try.func52, Try.ntmps52
      go_wp2_with fail
      go_quiet (fail)
      go_wp2_with fail
      go_ret
      exact ⟨2, a, l, c, rfl, rfl, S1.out.drewN _, K1.out.drewN _⟩
    · have b1 : decide (from_ < 0) = false := by simp; omega
      by_cases a2 : count < 1
      · clear h1
        go_enter Try.func52, Try.ntmps52
        go_wp2_with fail
        go_quiet (fail)
        go_wp2_with fail
        go_ret
        exact ⟨2, a, l, c, rfl, rfl, S1.out.drewN _, K1.out.drewN _⟩
      · have b2 : decide (count < 1) = false := by simp; omega
        by_cases a3 : (n : Int) < count
        · clear h1
          go_enter Try.func52, Try.ntmps52
          go_wp2_with fail
          go_quiet (fail)
          go_wp2_with fail
          go_ret
          exact ⟨2, a, l, c, rfl, rfl, S1.out.drewN _, K1.out.drewN _⟩
        · have b3 : decide ((n : Int) < count) = false := by simp; omega
          have a4 : (n : Int) - count < from_ := by omega
          clear h1
          go_enter Try.func52, Try.ntmps52
          go_wp2_with fail
          go_quiet (fail)
          go_wp2_with fail
          go_ret
          exact ⟨2, a, l, c, rfl, rfl, S1.out.drewN _, K1.out.drewN _⟩
  · have b1 : decide (from_ < 0) = false := by simp; omega
    have b2 : decide (count < 1) = false := by simp; omega
    have b3 : decide ((n : Int) < count) = false := by simp; omega
    have b4 : decide ((n : Int) - count < from_) = false := by simp; omega
    have a1 : 0 ≤ from_ := by omega
    have a2 : 1 ≤ count := by omega
    have a3 : from_ + count ≤ n := by omega
    have hres : Hid (R = if allR us from_.toNat (from_ + count).toNat 1 then (⟨setR us from_.toNat (from_ + count).toNat 2, left, log⟩, 0) else (⟨us, left, log⟩, 6)) := by
      show _ = _; rw [← hR.out, Sp.give, if_neg (by show ¬ (_ ∨ _ ∨ ((us.length : Nat) : Int) < _ ∨ ((us.length : Nat) : Int) - _ < _); rw [hnn.out]; exact h1)]
    clear h1 hR
    go_enter Try.func52, Try.ntmps52
    go_wp2_with fail
    go_quiet (fail)
    go_wp2_with fail
    have S2 := Lib.hid ((S1.out.drewN nq).alloc (.cells #[.int .i64 from_, .int .i64 (from_ + count)] 95))
    have K2 := Lib.hid ((K1.out.drewN nq).alloc (by have := HB.out; show B ≤ _; simp; omega) (.cells #[.int .i64 from_, .int .i64 (from_ + count)] 95))
    have hbr := Box.new (w := ((w.alloc (.cells #[.int .i64 kind, .int .i64 from_, .int .i64 count] 31)).drewN nq)) (vs := #[.int .i64 from_, .int .i64 (from_ + count)]) (t := 95) (g := w.heap.size + 1) (by simp)
    obtain ⟨V, hV⟩ : ∃ V, V = ((w.alloc (.cells #[.int .i64 kind, .int .i64 from_, .int .i64 count] 31)).drewN nq).alloc (.cells #[.int .i64 from_, .int .i64 (from_ + count)] 95) := ⟨_, rfl⟩
    rw [← hV] at S2 K2 hbr ⊢
    obtain ⟨r, hr⟩ : ∃ r, Hid (w.heap.size + 1 = r) := ⟨_, rfl⟩
    rw [hr.out] at hbr ⊢
    clear hV S1 K1
    refine (sp_all V g gu us left a l c S2.out.hb S2.out.hu _ _ 1 (by omega) (by omega) (by have := hnn.out; omega) (by have := hnn.out; omega)).mono ?_
    rintro e w2 ⟨rfl, hb2⟩
    have S3 := Lib.hid (S2.out.below hb2)
    have K3 := Lib.hid (K2.out.trans (.of_below hb2 (by have := S2.out.h1; have := S2.out.hb.lt; omega)))
    have hbr2 := hbr.below hb2 hbr.lt
    have r0 : w2.cell? ⟨r, 0, none⟩ = some (.int .i64 from_) := hbr2.cell 0
    have r1 : w2.cell? ⟨r, 1, none⟩ = some (.int .i64 (from_ + count)) := hbr2.cell 1
    obtain ⟨ok, hok⟩ : ∃ ok, Hid (allR us from_.toNat (from_ + count).toNat 1 = ok) := ⟨_, rfl⟩
    rw [hok.out] at hres ⊢
    clear hb2 hbr hbr2
    cases ok with
    | false =>
      go_wp2_with fail
      go_ret
      exact ⟨6, a, l, c, rfl, by rw [hres.out]; rfl, by rw [hres.out]; exact S3.out, K3.out⟩
    | true =>
      go_wp2_with fail
      refine (sp_set w2 g gu us left a l c S3.out.hb S3.out.hu _ _ 2 (by omega) (by omega) (by have := hnn.out; omega) (by have := hnn.out; omega)).mono ?_
      rintro e w3 ⟨rfl, hbu3, hg3⟩
      have hB2 : B ≤ w2.heap.size := by have := S3.out.h1; have := S3.out.hb.lt; omega
      have S4 := Lib.hid (S3.out.setu hg3 hbu3.out (setR_length _ _ _ _ (by omega) (by have := hnn.out; omega)))
      have K4 := Lib.hid (K3.out.grown_u hg3 S3.out.h2 hB2)
      clear hbu3 hg3
      go_wp2_with fail
      go_ret
      exact ⟨0, a, l, c, rfl, by rw [hres.out]; rfl, by rw [hres.out]; exact S4.out, K4.out⟩
end Go.Proofs.Yteidmdakglkkfaa
