/- What the frame of a law's proof says of the arguments, turned into data. -/
import Derived.Test.YtdonmdiebibabaaDoorLay
import Derived.Deep.Slices
import Derived.Deep.Fields
import Derived.ChangeSame
namespace Go.Proofs.YtdonmdiebibabaaDoor
open Go.RowKit Go.ChangeShapes Go.WideShapes Go.Deep
set_option linter.unusedVariables false

/-- Whatever reads as data of type t is a datum of the layout L. -/
def Opens {α : Type} (P : Program) (t : TypeId) (L : Lay α) : Prop :=
  ∀ {H : Type} {enc : TypeId × Value → H} {w : World} {base : Nat} {spare : Nat → Bool} {held : Bool} {fuel : Nat} {cs : List Value} {x : DataW H × List MemPlace},
    DataW.trod enc P w base spare held fuel t cs = some x → ∃ d, L.at_ w (fun _ => True) d cs
theorem opens_int {P : Program} {t : TypeId} {k : IntKind} (ht : P.underlying t = some (.int k)) : Opens P t (Lay.int k) := by
  intro H enc w base spare held fuel cs x h
  obtain ⟨n, rfl, _, hw⟩ := DataW.trod_int ht h
  exact ⟨n, rfl, hw⟩
theorem addr_add (b off i : Nat) : (⟨b, off, none⟩ : Addr).add i = ⟨b, off + i, none⟩ := by unfold Addr.add; split <;> simp_all
theorem opens_slice {α : Type} [Inhabited α] {P : Program} {t e : TypeId} {L : Lay α} (ht : P.underlying t = some (.slice e)) (he : Opens P e L) (hC : P.cellsOf e = L.size) : Opens P t L.slice := by
  intro H enc w base spare held fuel cs x h
  rcases open_slice ht h with ⟨rfl, _⟩ | ⟨a, len, cap, m, n, D, Pl, rfl, hb, hl, hm, hmm, _, hi⟩
  · exact ⟨[], none, 0, 0, rfl, SRow.nil _ _ _⟩
  · have hlm : len ≤ m := by rw [hmm]; split <;> omega
    rw [hC] at hi
    have hpos := L.pos
    obtain ⟨V, hV⟩ := choose_lt (α := List Value × α) (n := len) (p := fun i v => (∀ j, j < L.size → w.cell? ((a.add (i * L.size)).add j) = v.1[j]?) ∧ L.at_ w (fun _ => True) v.2 v.1) (fun i hi' => by
      obtain ⟨cs', h1, h2⟩ := hi i (by omega)
      obtain ⟨d, hd⟩ := he h2
      exact ⟨(cs', d), (World.cells?_some h1).2.2, hd⟩)
    have hsz : ∀ vs ∈ (List.range len).map (fun i => (V i).1), vs.length = L.size := by
      intro vs hv
      obtain ⟨i, hi', rfl⟩ := List.mem_map.1 hv
      exact L.len (hV i (List.mem_range.1 hi')).2
    refine ⟨(List.range len).map (fun i => (V i).2), some a, len, cap, rfl, by simp, fun _ _ _ => trivial, (List.range len).map (fun i => (V i).1), ⟨?_, hl, hm, (fun h => by cases h), ?_⟩, ?_⟩
    · rw [flatten_length L.size _ hsz]; simp
    · by_cases h0 : len = 0
      · left; rw [h0, Nat.zero_mul]
      · right
        obtain ⟨b, off, spot⟩ := a
        have hsp : spot = none := by
          have h1 := (hV 0 (by omega)).1 0 hpos
          have h2 := L.len (hV 0 (by omega)).2
          rw [List.getElem?_eq_getElem (by omega)] at h1
          simpa [Addr.add] using World.cell?_spot h1
        subst hsp
        refine ⟨b, off, rfl, fun i hi' => ?_⟩
        have hq : i / L.size < len := Nat.div_lt_of_lt_mul (by rw [Nat.mul_comm]; exact hi')
        have hr : i % L.size < L.size := Nat.mod_lt _ hpos
        have e : i = (i / L.size) * L.size + i % L.size := by rw [Nat.mul_comm]; exact (Nat.div_add_mod i L.size).symm
        have h1 := (hV _ hq).1 _ hr
        have hadd := addr_add b off i
        rw [add_add, ← e, hadd] at h1
        rw [h1]
        have h2 := flatten_at L.size ((List.range len).map (fun i => (V i).1)) hsz (i / L.size) (i % L.size) hr
        rw [← e] at h2
        rw [h2]
        simp [hq]
    · refine ⟨by simp, fun i x vs hx hv => ?_⟩
      rw [List.getElem?_map] at hx hv
      by_cases hi' : i < len
      · rw [List.getElem?_range hi'] at hx hv
        simp only [Option.map_some, Option.some.injEq] at hx hv
        subst hx hv
        exact (hV i hi').2
      · rw [List.getElem?_eq_none (by simp; omega)] at hx; cases hx
/-- A struct of integers: its cells. -/
theorem struct_ints {P : Program} {t : TypeId} {fs : Array Field} (ht : P.underlying t = some (.struct fs)) (hone : oneCellFields P fs = true) (hC : P.cellsOf t = fs.size) (hk : ∀ (j : Nat) (f : Field), fs[j]? = some f → P.underlying f.type = some (.int .i64))
    {H : Type} {enc : TypeId × Value → H} {w : World} {base : Nat} {spare : Nat → Bool} {held : Bool} {fuel : Nat} {cs : List Value} {x : DataW H × List MemPlace} (h : DataW.trod enc P w base spare held fuel t cs = some x) :
    cs.length = fs.size ∧ ∀ j, j < fs.size → ∃ z : Int, cs[j]? = some (.int .i64 z) := by
  obtain ⟨xs, n, _, _, hcl, hxl, hf⟩ := DataW.trod_struct ht h
  refine ⟨hcl.trans hC, fun j hj => ?_⟩
  obtain ⟨ho, hc1⟩ := hone_of hone j fs[j] (Array.getElem?_eq_getElem hj)
  have h1 := hf j fs[j] (Array.getElem?_eq_getElem hj)
  rw [ho, hc1, List.getElem?_eq_getElem (by omega)] at h1
  obtain ⟨z, hz, _⟩ := DataW.trod_int (hk j fs[j] (Array.getElem?_eq_getElem hj)) h1
  refine ⟨z, ?_⟩
  have : (List.take 1 (List.drop j cs))[0]? = some (.int .i64 z) := by rw [hz]; rfl
  simpa using this
end Go.Proofs.YtdonmdiebibabaaDoor
