/- Slices of whatever elements, by their cells; slices that the call itself made; append, from any slice onto one of the call's own. -/
import Derived.Test.YtdonmdiebibabaaDoorMem
import Derived.Laws.AppendOwnNone
namespace Go.Proofs.YtdonmdiebibabaaDoor
open Go.RowKit
set_option linter.unusedVariables false

/-- A slice value whose elements' cells hold vs. -/
structure VRow (w : World) (size : Nat) (a : Option Addr) (len cap : Nat) (vs : List Value) : Prop where
  hlen : vs.length = len * size
  hle : len ≤ cap
  hmax : cap ≤ maxLen
  hnil : a = none → cap = 0
  hat : len * size = 0 ∨ ∃ b off, a = some ⟨b, off, none⟩ ∧ ∀ i, i < len * size → w.cell? ⟨b, off + i, none⟩ = vs[i]?

theorem VRow.below {w w' : World} {size : Nat} {a : Option Addr} {len cap : Nat} {vs : List Value} (h : VRow w size a len cap vs) (hb : Below w.heap.size w w') : VRow w' size a len cap vs := by
  refine ⟨h.hlen, h.hle, h.hmax, h.hnil, ?_⟩
  rcases h.hat with h0 | ⟨b, off, ha, hc⟩
  · exact .inl h0
  · refine .inr ⟨b, off, ha, fun i hi => ?_⟩
    have hg : vs[i]? = some (vs[i]'(by rw [h.hlen]; exact hi)) := List.getElem?_eq_getElem _
    exact (hb.cell (World.block_lt_of_cell? _ _ ((hc i hi).trans hg))).trans (hc i hi)

theorem Row.toV {k : IntKind} {w : World} {a : Option Addr} {len cap : Nat} {xs : List Int} (h : Row k w a len cap xs) : VRow w 1 a len cap (xs.map (.int k)) := by
  refine ⟨by simp [h.hlen], h.hle, h.hmax, h.hnil, ?_⟩
  rcases h.hat with h0 | ⟨b, off, ha, hc⟩
  · exact .inl (by omega)
  · refine .inr ⟨b, off, ha, fun i hi => ?_⟩
    have hl := h.hlen
    rw [hc i (by omega)]
    simp [List.getD, List.getElem?_eq_getElem (show i < xs.length by omega)]
theorem VRow.toRow {k : IntKind} {w : World} {a : Option Addr} {len cap : Nat} {xs : List Int} (h : VRow w 1 a len cap (xs.map (.int k))) (hwf : ∀ x ∈ xs, (Lit.int k x).wf = true) : Row k w a len cap xs := by
  have hl : xs.length = len := by have := h.hlen; simpa using this
  refine ⟨hl, h.hle, h.hmax, h.hnil, hwf, ?_⟩
  rcases h.hat with h0 | ⟨b, off, ha, hc⟩
  · exact .inl (by omega)
  · refine .inr ⟨b, off, ha, fun i hi => ?_⟩
    rw [hc i (by omega)]
    simp [List.getD, List.getElem?_eq_getElem (show i < xs.length by omega)]

/-- A slice that the call itself made: its block is none of those below 'base'. -/
def Own (w : World) (base : Nat) (e : TypeId) (size : Nat) (a : Option Addr) (len cap : Nat) (vs : List Value) : Prop := w.ownsRow base e size (.slice a len cap) len vs

theorem Own.nil (w : World) (base : Nat) (e : TypeId) (size : Nat) : Own w base e size none 0 0 [] := World.ownsRow_nil _ _ _ _
theorem Own.form {w : World} {base : Nat} {e : TypeId} {size : Nat} {a : Option Addr} {len cap : Nat} {vs : List Value} (h : Own w base e size a len cap vs) :
    (a = none ∧ len = 0 ∧ cap = 0 ∧ vs = []) ∨ ∃ g cur, a = some ⟨g, 0, none⟩ ∧ base ≤ g ∧ w.heap[g]? = some (.cells cur e (0, 0)) ∧ len ≤ cap ∧ cap ≤ maxLen ∧ cur.size = cap * size ∧ cur.toList.take (len * size) = vs := by
  rcases h.2 with ⟨hv, h0⟩ | ⟨g, c, cur, hv, hb, hg, h1, h2, h3, h4⟩
  · obtain ⟨rfl, _, rfl⟩ : a = none ∧ len = 0 ∧ cap = 0 := by simpa using hv
    exact .inl ⟨rfl, h0, rfl, List.eq_nil_of_length_eq_zero (by rw [h.1, h0]; simp)⟩
  · obtain ⟨rfl, rfl⟩ : a = some ⟨g, 0, none⟩ ∧ cap = c := by simpa using hv
    exact .inr ⟨g, cur, rfl, hb, hg, h1, h2, h3, h4⟩
theorem Own.row {w : World} {base : Nat} {e : TypeId} {size : Nat} {a : Option Addr} {len cap : Nat} {vs : List Value} (h : Own w base e size a len cap vs) : VRow w size a len cap vs := by
  rcases h.form with ⟨rfl, rfl, rfl, rfl⟩ | ⟨g, cur, rfl, hb, hg, h1, h2, h3, h4⟩
  · exact ⟨by simp, Nat.le_refl _, Nat.zero_le _, fun _ => rfl, .inl (by simp)⟩
  · refine ⟨h.1, h1, h2, fun h => by simp at h, .inr ⟨g, 0, rfl, fun i hi => ?_⟩⟩
    rw [Nat.zero_add]
    exact World.ownsRow.cellAt h i hi
theorem Own.below {w w' : World} {base : Nat} {e : TypeId} {size : Nat} {a : Option Addr} {len cap : Nat} {vs : List Value} (h : Own w base e size a len cap vs) (hb : Below w.heap.size w w') : Own w' base e size a len cap vs := ownsRow_below h hb
theorem Own.mono {w : World} {base base' : Nat} {e : TypeId} {size : Nat} {a : Option Addr} {len cap : Nat} {vs : List Value} (h : Own w base e size a len cap vs) (hb : base' ≤ base) : Own w base' e size a len cap vs := by
  refine ⟨h.1, ?_⟩
  rcases h.2 with h0 | ⟨g, c, cur, hv, hbg, r⟩
  · exact .inl h0
  · exact .inr ⟨g, c, cur, hv, by omega, r⟩

/-- What an append leaves of the world: old blocks are as they were; of what the call made, none but the row's own block has turned. -/
theorem Own.grown {w w' : World} {base : Nat} {e : TypeId} {size : Nat} {a : Option Addr} {len cap : Nat} {vs : List Value} (h : Own w base e size a len cap vs) {w0 : World} {B : Nat} (hB : Below B w0 w) (hbase : B ≤ base) (hs : B ≤ w.heap.size) (hg : w.grownBy w' (Value.slice a len cap).ownBlock) : Below B w0 w' :=
  hB.grown hg hs (fun k hk => Nat.le_trans hbase (World.ownsRow.lt h k hk).1)

theorem wpList_append_any {P : Program} {w : World} {ops : Array Oper} {rest : List Oper} {o : Oper} {act : Act} {Q : Exit → Act → World → Prop} (hgd : o.guard = none) (s x : Operand) (t : TypeId)
    (ho : o.op = .call { callee := .builtin .append, args := #[s, x], argTypes := #[t, t] })
    (base : Nat) (e : TypeId) (z : Value) (size bytes : Nat) (ht : P.underlying t = some (.slice e)) (hi : (P.info? e).map (fun i => (i.zero, i.size, i.bytes)) = some (some z, size, bytes)) (hzs : z.cells.size = size) (hsz : 0 < size)
    (a : Option Addr) (len cap : Nat) (vs : List Value) (hs : act.eval s = .slice a len cap) (hown : Own w base e size a len cap vs)
    (a2 : Option Addr) (len2 cap2 : Nat) (us : List Value) (hx : act.eval x = .slice a2 len2 cap2) (hrow : VRow w size a2 len2 cap2 us) (h1 : ∀ u ∈ us, u.oneCell' = true)
    (h63 : len + len2 ≤ maxLen) (hbytes : (len + len2) * bytes ≤ 140737488355328) (hbase : base ≤ w.heap.size)
    (h : ∀ a' cap' w', Own w' base e size a' (len + len2) cap' (vs ++ us) → w.grownBy w' (Value.slice a len cap).ownBlock → wpList P ops Q rest (act.put o.dst (.slice a' (len + len2) cap')) w') : wpList P ops Q (o :: rest) act w := by
  obtain ⟨i, hi0, hz, hsize, hby⟩ := info_parts hi
  cases a2 with
  | none =>
    obtain rfl := hrow.hnil rfl
    obtain rfl : len2 = 0 := by have := hrow.hle; omega
    obtain rfl : us = [] := List.eq_nil_of_length_eq_zero (by rw [hrow.hlen]; simp)
    refine wpList_append_own_none hgd s x t ho base e i size ht hi0 _ len vs hs hown hx ?_
    have := h a cap w (by simpa using hown) (World.grownBy.refl _ _)
    simpa using this
  | some ad =>
    refine wpList_append_own w hgd s x t ho base e i z size bytes ht hi0 hz hsize hby hzs hsz _ len vs hs hown ad len2 cap2 us hx hrow.hlen ?_ h1 h63 hbytes hbase ?_
    · intro j u hj
      have hjl : j < us.length := (List.getElem?_eq_some_iff.1 hj).1
      rw [hrow.hlen] at hjl
      rcases hrow.hat with h0 | ⟨b, off, hab, hc⟩
      · omega
      · obtain rfl : ad = ⟨b, off, none⟩ := by simpa using hab
        have : (⟨b, off, none⟩ : Addr).add j = ⟨b, off + j, none⟩ := by unfold Addr.add; split <;> simp_all
        rw [this, hc j hjl, hj]
    · intro v' w' hown' hg _
      rcases hown'.2 with ⟨rfl, h0⟩ | ⟨g, c, cur, rfl, r⟩
      · rw [h0] at hown'
        have := h none 0 w' (by rw [h0]; exact hown') hg
        rw [h0] at this; exact this
      · exact h _ _ w' hown' hg

/-- A piece of a slice: s[lo:hi]. -/
theorem VRow.piece {w : World} {size : Nat} {a : Option Addr} {len cap : Nat} {vs : List Value} (h : VRow w size a len cap vs) (lo hi : Nat) (hlo : lo ≤ hi) (hhi : hi ≤ len) :
    VRow w size (if cap = lo then a else a.map (·.add (lo * size))) (hi - lo) (cap - lo) ((vs.drop (lo * size)).take ((hi - lo) * size)) := by
  have hle := h.hle
  have e1 : hi * size ≤ len * size := Nat.mul_le_mul_right _ hhi
  have e2 : lo * size ≤ hi * size := Nat.mul_le_mul_right _ hlo
  have e3 : (hi - lo) * size = hi * size - lo * size := Nat.sub_mul _ _ _
  refine ⟨by rw [List.length_take, List.length_drop, h.hlen]; omega, by omega, by have := h.hmax; omega, ?_, ?_⟩
  · intro hn
    split at hn
    · omega
    · rw [Option.map_eq_none_iff] at hn
      have := h.hnil hn; omega
  · by_cases h0 : (hi - lo) * size = 0
    · exact .inl h0
    · rcases h.hat with h1 | ⟨b, off, rfl, hc⟩
      · omega
      · have hne : ¬ cap = lo := by
          intro hcl
          have : hi = lo := by omega
          rw [this, Nat.sub_self, Nat.zero_mul] at h0; exact h0 rfl
        have hadd : (⟨b, off, none⟩ : Addr).add (lo * size) = ⟨b, off + lo * size, none⟩ := by unfold Addr.add; split <;> simp_all
        refine .inr ⟨b, off + lo * size, by rw [if_neg hne]; simp [hadd], fun i hi' => ?_⟩
        rw [Nat.add_assoc, hc _ (by omega), List.getElem?_take, if_pos hi', List.getElem?_drop]
end Go.Proofs.YtdonmdiebibabaaDoor
