/- Slices of integers as lists. -/
import Derived.Test.YtdonmdiebibabaaDoorBase
namespace Go.Proofs.YtdonmdiebibabaaDoor
open Go.RowKit
set_option linter.unusedVariables false

/-- A slice value that reads as the numbers xs. -/
structure Row (k : IntKind) (w : World) (a : Option Addr) (len cap : Nat) (xs : List Int) : Prop where
  hlen : xs.length = len
  hle : len ≤ cap
  hmax : cap ≤ maxLen
  hnil : a = none → cap = 0
  hwf : ∀ x ∈ xs, (Lit.int k x).wf = true
  hat : len = 0 ∨ ∃ b off, a = some ⟨b, off, none⟩ ∧ ∀ i, i < len → w.cell? ⟨b, off + i, none⟩ = some (.int k (xs.getD i 0))

theorem Row.below {k : IntKind} {w w' : World} {a : Option Addr} {len cap : Nat} {xs : List Int} (h : Row k w a len cap xs) (hb : Below w.heap.size w w') : Row k w' a len cap xs := by
  refine ⟨h.hlen, h.hle, h.hmax, h.hnil, h.hwf, ?_⟩
  rcases h.hat with h0 | ⟨b, off, ha, hc⟩
  · exact .inl h0
  · exact .inr ⟨b, off, ha, fun i hi => (hb.cell (World.block_lt_of_cell? _ _ (hc i hi))).trans (hc i hi)⟩
theorem Row.drewN {k : IntKind} {w : World} {a : Option Addr} {len cap : Nat} {xs : List Int} (h : Row k w a len cap xs) (n : Nat) : Row k (w.drewN n) a len cap xs := ⟨h.hlen, h.hle, h.hmax, h.hnil, h.hwf, h.hat⟩
theorem byte_range {x : Int} (h : (Lit.int .u8 x).wf = true) : 0 ≤ x ∧ x ≤ 255 := by
  simp [Lit.wf, IntKind.min, IntKind.max, IntKind.signed, IntKind.bits] at h; omega
theorem Row.byte {w : World} {a : Option Addr} {len cap : Nat} {xs : List Int} (h : Row .u8 w a len cap xs) (i : Nat) : 0 ≤ xs.getD i 0 ∧ xs.getD i 0 ≤ 255 := by
  by_cases hi : i < xs.length
  · have : xs.getD i 0 = xs[i] := by simp [List.getD, hi]
    rw [this]
    exact byte_range (h.hwf _ (List.getElem_mem hi))
  · have : xs.getD i 0 = 0 := by simp [List.getD, List.getElem?_eq_none (by omega : xs.length ≤ i)]
    rw [this]; omega


/-- A block of cells of the call's own. -/
def Box (w : World) (g : Nat) (vs : Array Value) (t : TypeId) : Prop := w.heap[g]? = some (.cells vs t (0, 0))
theorem Box.cell {w : World} {g : Nat} {vs : Array Value} {t : TypeId} (h : Box w g vs t) (j : Nat) : w.cell? ⟨g, j, none⟩ = vs[j]? := cell_of_row w g j vs t (0, 0) h
theorem Box.free {w : World} {g : Nat} {vs : Array Value} {t : TypeId} (h : Box w g vs t) (j : Nat) : w.frozen? ⟨g, j, none⟩ = false := by
  simp [World.frozen?, show w.heap[g]? = _ from h]
theorem Box.below {w w' : World} {g B : Nat} {vs : Array Value} {t : TypeId} (h : Box w g vs t) (hb : Below B w w') (hg : g < B) : Box w' g vs t := (hb.block g hg).trans h
theorem Box.lt {w : World} {g : Nat} {vs : Array Value} {t : TypeId} (h : Box w g vs t) : g < w.heap.size := (Array.getElem?_eq_some_iff.1 h).1
theorem Box.drewN {w : World} {g : Nat} {vs : Array Value} {t : TypeId} (h : Box w g vs t) (n : Nat) : Box (w.drewN n) g vs t := h
theorem Box.drew {w : World} {g : Nat} {vs : Array Value} {t : TypeId} (h : Box w g vs t) : Box w.drew g vs t := h
theorem Box.alloc {w : World} {g : Nat} {vs : Array Value} {t : TypeId} (h : Box w g vs t) (o : Obj) : Box (w.alloc o) g vs t := (heap_alloc_old w o h.lt).trans h
theorem Box.new {w : World} {vs : Array Value} {t : TypeId} {g : Nat} (hg : g = w.heap.size) : Box (w.alloc (.cells vs t)) g vs t := by subst hg; exact heap_alloc_new w _
theorem Box.set {w : World} {g : Nat} {vs : Array Value} {t : TypeId} (h : Box w g vs t) (j : Nat) (v : Value) : Box (w.setCell ⟨g, j, none⟩ v) g (vs.setIfInBounds j v) t := by
  unfold Box at *
  have hlt := Box.lt h
  simp [World.setCell, Array.getElem?_modify, h]
theorem Box.other {w : World} {g : Nat} {vs : Array Value} {t : TypeId} (h : Box w g vs t) (a : Addr) (ha : a.block ≠ g) (v : Value) : Box (w.setCell a v) g vs t := by
  unfold Box at *
  rw [Below.heap_setCell _ _ _ _ (by omega)]; exact h
end Go.Proofs.YtdonmdiebibabaaDoor
