/- The walk of fetch. -/
import Derived.Test.YtkbfohbpndjcpaaPoG
namespace Go.Proofs.Ytkbfohbpndjcpaa
open Go.RowKit
set_option linter.unusedVariables false
set_option maxRecDepth 100000

def cmV (c : Cm) (ad : Option Addr) (ld cd : Nat) : Array Value := #[.int .i64 (c.kind : Int), encStr c.name, encStr c.other, .int .i64 (c.off : Int), .int .i64 (c.count : Int), .int .i64 0, .int .i64 0, .slice ad ld cd]
theorem sizeF (a : Option Addr) (l c : Nat) (w : World) : Calls Try.prog 79 #[.slice a l c] w fun e w' => e = .returned (.int .i64 (l : Int)) ∧ w' = w := by
  go_enter Try.func79, Try.ntmps79
  go_wp2_with fail
  go_ret
  exact ⟨rfl, rfl⟩
/-- Bytes laid after a box; then the box is written. -/
theorem newB_store {w W w2 w3 : World} {a : Option Addr} {l c : Nat} {xs : List Int} {g : Nat} (h : NewB W w2 a l c xs) (hb : Below w.heap.size w W) (hg : w2.grownBy w3 (some g)) (h1 : w.heap.size ≤ g) (h2 : g < W.heap.size) : NewB w w3 a l c xs := by
  refine ⟨VRow.toRow (h.row.toV.keep (fun b o e _ hlt => hg.block b hlt (fun e2 => ?_))) h.row.hwf, fun x hx => ⟨Nat.le_trans hb.size (h.new x hx).1, Nat.lt_of_lt_of_le (h.new x hx).2 hg.size⟩, ?_⟩
  · have := (h.new _ e).1
    have e3 : g = b := by injection e2 with e2; exact e2.symm
    simp only at this
    omega
  · exact (hb.trans (h.below.mono hb.size)).grown hg (Nat.le_trans hb.size h.below.size) (fun k hk => by injection hk with hk; omega)
set_option maxHeartbeats 4000000 in
theorem fetchW (x : Ob) (c : Cm) (ad : Option Addr) (ld cd : Nat) (w : World) (h : Row .u8 w x.a x.len x.cap x.bs) (hl : x.len ≤ 1024) (hc : c.Ok) :
    Calls Try.prog 34 #[obV x, .agg (cmV c ad ld cd)] w fun e w' => ∃ a l c', e = .returned (.agg (tdV 0 x.len a l c' none 0 0)) ∧ Hid (NewB w w' a l c' (readP x.bs c.off c.count)) := by
  obtain ⟨kind, name, other, off, count, data⟩ := c
  obtain ⟨xa, xl, xc, xs⟩ := x
  have h1 := hc.off
  have h2 := hc.count
  simp only at h h1 h2 hl
  have HR : Hid (∀ W, Below w.heap.size w W → Calls Try.prog 77 #[.slice xa xl xc, .int .i64 (off : Int), .int .i64 (count : Int)] W fun e w' => ∃ a' l' c', e = .returned (.tuple #[.slice a' l' c', .int .i64 0]) ∧ Hid (NewB W w' a' l' c' (readP xs off count))) :=
    fun W hB => readF xa xl xc xs off count W (h.below hB) hl h1 h2
  have q1 : ¬ ((off : Int) < 0) := by omega
  have q2 : ¬ ((count : Int) < 0) := by omega
  clear h hc
  unfold cmV obV
  go_enter Try.func34, Try.ntmps34
  obtain ⟨W, hW⟩ : ∃ W, W = (w.alloc (.cells #[.int .i64 (kind : Int), encStr name, encStr other, .int .i64 (off : Int), .int .i64 (count : Int), .int .i64 0, .int .i64 0, .slice ad ld cd] 30)).alloc (.cells #[.int .i64 0, .bool false, .int .i64 0, .slice none 0 0, .slice none 0 0] 41) := ⟨_, rfl⟩
  have hB : Hid (Below w.heap.size w W) := by rw [hW]; exact Below_alloc2 _ _
  have hBox : Hid (Box W (w.heap.size + 1) #[.int .i64 0, .bool false, .int .i64 0, .slice none 0 0, .slice none 0 0] 41) := by rw [hW]; exact Box.new (by simp)
  have hsz : Hid (W.heap.size = w.heap.size + 2) := by rw [hW]; show _ = _; simp
  have hC := Lib.hid (HR.out W hB.out)
  go_wp2_with (first
    | (go_at_call 77; rw [← hW]; refine hC.out.mono ?_; rintro e w2 ⟨a', l', c', rfl, hN⟩; have hBox2 := Lib.hid (hBox.out.below hN.out.below (by have := hsz.out; omega)))
    | (refine wpList_store_box rfl 41 (.tmp 4) (.tmp 34) rfl (w.heap.size + 1) _ rfl rfl 41 _ hBox2.out (by kernel_rfl) rfl (by rfl) ?_; intro w3 hb3 hg3; have HB3 := Lib.hid hb3; have HG3 := Lib.hid hg3; clear hb3 hg3)
    | (go_at_call 79; refine (sizeF _ _ _ _).mono ?_; rintro e w' ⟨rfl, rfl⟩)
    | fail)
  refine bodyPost_ret (results_boxP Try.results34 _ _ (w.heap.size + 1) _ _ HB3.out _ rfl Try.underlying41 rfl (by kernel_rfl)) rfl ⟨a', l', c', rfl, ?_⟩
  exact newB_store hN.out hB.out HG3.out (by omega) (by have := hsz.out; omega)
end Go.Proofs.Ytkbfohbpndjcpaa
