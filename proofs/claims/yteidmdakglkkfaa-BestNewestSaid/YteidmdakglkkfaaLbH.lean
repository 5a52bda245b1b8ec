/- The walk of package label: a number read behind a reader, in a world grown since. -/
import Derived.Test.YteidmdakglkkfaaLbR
namespace Go.Proofs.Yteidmdakglkkfaa
open Go.RowKit
set_option linter.unusedVariables false
set_option maxRecDepth 100000

theorem Row.upto {k : IntKind} {w : World} {a : Option Addr} {len cap : Nat} {xs : List Int} (h : Row k w a len cap xs) (hi : Nat) (hhi : hi ≤ len) : Row k w a hi cap (xs.take hi) := by
  have hle := h.hle
  refine ⟨by rw [List.length_take, h.hlen]; omega, by omega, h.hmax, h.hnil, fun x hx => h.hwf x (List.mem_of_mem_take hx), ?_⟩
  rcases h.hat with h0 | ⟨b, off, ha, hc⟩
  · exact .inl (by omega)
  · refine .inr ⟨b, off, ha, fun i hi' => ?_⟩
    rw [hc i (by omega)]
    simp [List.getD, hi']
theorem Row.oldB {w0 w : World} {a : Option Addr} {len cap : Nat} {xs : List Int} (h : Row .u8 w0 a len cap xs) (hb : Below w0.heap.size w0 w) : Row .u8 w a len cap xs := h.below hb
def NumAt (w0 : World) (hr L' C' : Nat) (v : Int) (ys : List Int) (w : World) (e : Ending) (w' : World) : Prop :=
  ∃ a', e = .returned (.int .i64 v) ∧ Hid (Row .u8 w0 a' L' C' ys) ∧ Hid (Box w' hr #[.slice a' L' C'] 118) ∧ Hid (w.grownBy w' (some hr)) ∧ Hid (Below w0.heap.size w0 w')
theorem numberAt (w0 : World) (hr : Nat) (a : Option Addr) (L C L' C' : Nat) (xs : List Int) (size : Nat) (w : World) (LB : Hid (Below w0.heap.size w0 w)) (hb : Hid (Box w hr #[.slice a L C] 118)) (h : Hid (Row .u8 w0 a L C xs)) (hhr : w0.heap.size ≤ hr)
    (hL : L = L' + size) (hC : C = C' + size) (h1 : 1 ≤ size) (h8 : size ≤ 8) :
    Calls Try.prog 46 #[.pointer (some ⟨hr, 0, none⟩), .int .i64 size] w (NumAt w0 hr L' C' (wrap64 (bw (xs.take size))) (xs.drop size) w) := by
  subst hL hC
  refine (number hr a (L' + size) (C' + size) xs size w hb (h.out.below LB.out) (fun x hx => byte_range (h.out.hwf x hx)) (by omega) h1 h8).mono ?_
  rintro e w' ⟨rfl, rfl⟩
  have hr1 := h.out.from_ size (by omega)
  rw [Nat.add_sub_cancel, Nat.add_sub_cancel]
  rw [Nat.add_sub_cancel, Nat.add_sub_cancel] at hr1
  refine ⟨_, rfl, hr1, ?_, ?_, LB.out.setCell (p := ⟨hr, 0, none⟩) hhr _⟩
  · exact hb.out.set 0 _
  · exact only_setCell (World.grownBy.refl _ _) (.inl rfl) _
end Go.Proofs.Yteidmdakglkkfaa
