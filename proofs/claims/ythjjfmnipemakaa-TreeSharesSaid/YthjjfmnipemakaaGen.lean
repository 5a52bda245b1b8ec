/- Small facts on bytes, worlds and rows of rows. -/
import Derived.Test.YthjjfmnipemakaaLay2
import Derived.Test.YthjjfmnipemakaaOwnMake
import Derived.Test.YthjjfmnipemakaaOwnStep
import Derived.Test.YthjjfmnipemakaaSameB
import Derived.Test.YthjjfmnipemakaaBoxOps
import Derived.Test.YthjjfmnipemakaaFacts
namespace Go.Proofs.Ythjjfmnipemakaa
open Go.RowKit
set_option linter.unusedVariables false

def Bytes0 (X : List Int) : Prop := ∀ x ∈ X, 0 ≤ x ∧ x ≤ 255
theorem wf_byte0 {x : Int} (h : 0 ≤ x ∧ x ≤ 255) : (Lit.int .u8 x).wf = true := by
  simp [Lit.wf, IntKind.min, IntKind.max, IntKind.signed, IntKind.bits]; omega
theorem wf_bytes0 {xs : List Int} (h : Bytes0 xs) : ∀ x ∈ xs, (Lit.int .u8 x).wf = true := fun x hx => wf_byte0 (h x hx)
theorem info_byte0 : (Try.prog.info? 5).map (fun i => (i.zero, i.size, i.bytes)) = some (some (.int .u8 0), 1, 1) := by kernel_rfl
theorem one_bytes0 (xs : List Int) : ∀ u ∈ xs.map (Value.int .u8), u.oneCell' = true := fun u hu => by obtain ⟨x, _, rfl⟩ := List.mem_map.1 hu; rfl
theorem results_box0 {P : Program} {fn : Func} {p : Tmp} {ty : TypeId} (h : fn.results = #[.cell p ty]) (tmps : Array Value) (w : World) (g : Nat) (t : TypeId) (cs : Array Value) (hg : Box w g cs t) (d : TypeDesc)
    (hp : tmps.getD p undef = .pointer (some ⟨g, 0, none⟩))
    (hu : P.underlying ty = some d) (hd : (match d with | .struct _ | .array _ _ => true | _ => false) = true) (hi : (P.info? ty).map (·.size) = some cs.size) :
    (results fn tmps).run P w = .ok (.agg cs) w := by
  have hp' : tmps[p]?.getD undef = .pointer (some ⟨g, 0, none⟩) := by simpa using hp
  simp [results, h, hp', asAddr, run_loadVar_row w g t ty cs (0, 0) d hg hu hd hi]
theorem stepB0 {B : Nat} {w0 a w : World} (h0 : Below B w0 a) (hw : B ≤ w0.heap.size) (h : Below a.heap.size a w) : Below B w0 w := h0.trans (h.mono (Nat.le_trans hw h0.size))
theorem elem0 {w : World} {F : Nat → Prop} {a : Option Addr} {len cap : Nat} {L : List (List Int)} (h : SRow (Lay.int .u8).slice w F a len cap L) (i : Nat) (hi : i < len) :
    ∃ b off a' l' c', a = some ⟨b, off, none⟩ ∧ w.cell? ⟨b, off + i, none⟩ = some (.slice a' l' c') ∧ Row .u8 w a' l' c' (L.getD i []) := by
  obtain ⟨b, off, vs, rfl, _, _, hx, hc⟩ := h.get i hi
  have hl : i < L.length := by rw [h.1]; exact hi
  obtain ⟨a', l', c', rfl, hr⟩ := hx _ (List.getElem?_eq_getElem hl)
  refine ⟨b, off, a', l', c', rfl, ?_, ?_⟩
  · have := hc 0 (by decide)
    simpa [Lay.slice] using this
  · rw [show L.getD i [] = L[i] by simp [List.getD, hl]]
    exact hr.toRow
end Go.Proofs.Ythjjfmnipemakaa
