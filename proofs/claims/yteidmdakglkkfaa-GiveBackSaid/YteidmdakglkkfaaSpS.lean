/- The walk of sameRanges, and the law ReplaySame. -/
import Derived.Test.YteidmdakglkkfaaSpN
namespace Go.Proofs.Yteidmdakglkkfaa
open Go.RowKit Go.Sort
set_option linter.unusedVariables false

set_option maxHeartbeats 1000000 in
theorem sameRanges (F G : Nat → Prop) (a : Option Addr) (len cap : Nat) (b : Option Addr) (lenb capb : Nat) (rs : List (Nat × Nat)) (w : World) (ha : SRow rangeL w F a len cap rs) (hb : SRow rangeL w G b lenb capb rs) :
    Calls Try.prog 23 #[.slice a len cap, .slice b lenb capb] w fun e w' => e = .returned (.bool true) ∧ Below w.heap.size w w' := by
  obtain rfl : len = lenb := by have := ha.1; have := hb.1; omega
  have hle := ha.hle
  have hmx := ha.hmax
  have hleb := hb.hle
  have hmxb := hb.hmax
  unfold maxLen at hmx hmxb
  have hdl := Lib.hid ha.1
  go_enter Try.func23, Try.ntmps23
  go_wp2_with fail
  go_loopw [5] (fun iv wr => ∃ k : Nat, k ≤ len ∧ iv = .int .i64 k ∧ ∃ n, wr = w.drewN n) (fun iv _ => len - (intOf iv).toNat)
  case atStart => exact ⟨0, by omega, rfl, 0, rfl⟩
  case round =>
    obtain ⟨k, hk, rfl, n, rfl⟩ := hrel
    by_cases hlt : k < len
    · have hkd : k < rs.length := by have := hdl.out; omega
      obtain ⟨b1, off, vs, rfl, _, hbw, hat, hcell⟩ := ha.get k hlt
      obtain ⟨b2, off2, vs2, rfl, _, hbw2, hat2, hcell2⟩ := hb.get k hlt
      have hvs := hat rs[k] (List.getElem?_eq_getElem hkd)
      have hvs2 := hat2 rs[k] (List.getElem?_eq_getElem hkd)
      obtain ⟨⟨f, t⟩, hr⟩ : ∃ r : Nat × Nat, Hid (rs[k] = r) := ⟨rs[k], rfl⟩
      rw [hr.out] at hvs hvs2
      have hvs' : vs = [.int .i64 (f : Int), .int .i64 (t : Int)] := hvs
      have hvs2' : vs2 = [.int .i64 (f : Int), .int .i64 (t : Int)] := hvs2
      subst hvs' hvs2'
      have e0 : w.cell? ⟨b1, off + k * 2, none⟩ = some (.int .i64 f) := hcell 0 (by decide)
      have e1 : w.cell? ⟨b1, off + k * 2 + 1, none⟩ = some (.int .i64 t) := hcell 1 (by decide)
      have e2 : w.cell? ⟨b2, off2 + k * 2, none⟩ = some (.int .i64 f) := hcell2 0 (by decide)
      have e3 : w.cell? ⟨b2, off2 + k * 2 + 1, none⟩ = some (.int .i64 t) := hcell2 1 (by decide)
      have hki : (k : Int) < (len : Int) := by omega
      clear hcell hcell2 hat hat2 hvs hvs2
      go_wp2_with fail
      go_quiet (fail)
      go_wp2_with fail
      go_roundw
      case rel => exact ⟨k + 1, by omega, by go_num, _, by first | rfl | exact World.drewN_drewN _ _ _⟩
      case measure => (simp [intOf]; try omega)
    · obtain rfl : k = len := by omega
      go_wp2_with fail
      go_ret
      exact ⟨rfl, below_drewN (Below.refl _ _) _⟩
end Go.Proofs.Yteidmdakglkkfaa
