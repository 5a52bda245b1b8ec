/- What the bound of an '..Upto' statement gives: a slice's length; the world's table. -/
import Derived.Test.YtdonmdiebibabaaDoorLnG
import Derived.Test.YtdonmdiebibabaaDoorRows
import Derived.OpenShut
import Derived.Deep.DeepHandedRow
import Derived.Lib.LaidTab
import Derived.LaidSub
import Derived.MakeChecks
import Derived.Test.YtdonmdiebibabaaDoorOpen
import Derived.SizedLaws
namespace Go.Proofs.YtdonmdiebibabaaDoor
open Go.ChangeShapes Go.WideShapes Go.ChangeAt Go.RowKit Go.Deep
set_option linter.unusedVariables false

theorem bulk_part {H : Type} {d : DataW H} {l : List (DataW H)} (h : d ∈ l) : Rows.uptoBulk d ≤ Rows.uptoBulkAll l := by
  induction l with
  | nil => cases h
  | cons x r ih =>
    simp only [Rows.uptoBulkAll]
    rcases List.mem_cons.1 h with e | e
    · subst e; omega
    · have := ih e; omega
theorem bulk_one {H : Type} (d : DataW H) : 1 ≤ Rows.uptoBulk d := by
  cases d with
  | lit l => cases l <;> simp [Rows.uptoBulk]
  | _ => simp [Rows.uptoBulk]
theorem bulk_length {H : Type} (l : List (DataW H)) : l.length ≤ Rows.uptoBulkAll l := by
  induction l with
  | nil => simp [Rows.uptoBulkAll]
  | cons x r ih => have := bulk_one x; simp only [Rows.uptoBulkAll, List.length_cons]; omega
theorem bulk_len {P : Program} {H : Type} {enc : TypeId × Value → H} {ds : List (DataW H)} {w : World} {base : Nat} {spare : Nat → Bool} {held : Bool} {t e : TypeId} {d : DataW H} {p : List MemPlace} {a : Option Addr} {len cap B : Nat}
    (h : Rows.uptoBulkAll ds ≤ B) (hd : d ∈ ds) (hu : P.underlying t = some (.slice e)) (hk : DataW.Trod enc P w base spare held t (.slice a len cap) d p) : len ≤ B := by
  obtain ⟨fuel, hf⟩ := hk
  have hb := bulk_part hd
  rcases open_slice hu hf with ⟨h1, _⟩ | ⟨a, len', cap', m, n, D, Pl, h1, _, _, _, _, hx, _⟩
  · simp [Value.cells] at h1
    obtain ⟨_, rfl, _⟩ := h1
    omega
  · simp [Value.cells] at h1
    obtain ⟨_, rfl, _⟩ := h1
    simp only [Prod.mk.injEq] at hx
    rw [hx.1] at hb
    simp only [Rows.uptoBulk] at hb
    have h2 := bulk_length ((List.range len).map D)
    simp at h2
    omega
theorem opens_bytesU : Opens Tryd.prog 22 (Lay.int .u8).slice := opens_slice Tryd.underlying22 (opens_int Tryd.underlying5) (by kernel_rfl)
theorem opens_intsU : Opens Tryd.prog 23 (Lay.int .i64).slice := opens_slice Tryd.underlying23 (opens_int Tryd.underlying3) (by kernel_rfl)
theorem gPow : Tryd.prog.globalNamed "internal/strconv.uint64pow10" = some 1 := by kernel_rfl
theorem gPowType : (Tryd.prog.globals[1]?).map (·.type) = some 108 := by kernel_rfl
theorem powTab {W : World} {laid : List (String × DataW Unit)} (h : laidMetH Tryd.prog laid W) (he : laid.filter (fun x => x.1 == "internal/strconv.uint64pow10") = [("internal/strconv.uint64pow10", Rows.laid_internal_strconv_uint64pow10)]) : Lib.TabIs Tryd.prog W "internal/strconv.uint64pow10" .u64 Lib.pow10Tab := by
  have h1 := h.filter (fun x => x.1 == "internal/strconv.uint64pow10")
  rw [he] at h1
  have h2 := (laidMetH_iff.1 h1).1
  exact Lib.tabIs_of_head (rest := []) gPow gPowType Tryd.underlying108 Tryd.underlying89 (by kernel_rfl) (by kernel_rfl) h2
end Go.Proofs.YtdonmdiebibabaaDoor
