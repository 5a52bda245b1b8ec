/- make, with a size that is reckoned: zeros of the call's own. -/
import Derived.Test.YtdonmdiebibabaaDoorOwn
namespace Go.Proofs.YtdonmdiebibabaaDoor
open Go.RowKit
set_option linter.unusedVariables false

theorem wpList_make_zeros {P : Program} {w : World} {ops : Array Oper} {rest : List Oper} {o : Oper} {act : Act} {Q : Exit → Act → World → Prop}
    (hg : o.guard = none) (l c : Operand) (t : TypeId) (hop : o.op = Op.makeSlice t l c) (e : TypeId) (z : Value) (bytes : Nat) (h1 : P.underlying t = some (.slice e)) (hi : (P.info? e).map (fun i => (i.zero, i.size, i.bytes)) = some (some z, 1, bytes)) (hzc : z.cells = #[z])
    (kl kc : IntKind) (L C : Int) (n : Nat) (hl : act.eval l = .int kl L) (hc : act.eval c = .int kc C) (hL : L = (n : Int)) (hC : C = (n : Int)) (b2 : bytes * n ≤ 281474976710656) (b3 : n ≤ maxLen)
    (hK : ∀ w', Own w' w.heap.size e 1 (some ⟨w.heap.size, 0, none⟩) n n (List.replicate n z) → Below w.heap.size w w' → wpList P ops Q rest (act.put o.dst (.slice (some ⟨w.heap.size, 0, none⟩) n n)) w') :
    wpList P ops Q (o :: rest) act w := by
  obtain ⟨i, hi0, hz, hsize, hby⟩ := info_parts hi
  subst hby
  refine wpList_make_full w hg l c t hop w.heap.size e i z 1 h1 hi0 hz hsize kl kc L C n hl hc hL hC b2 b3 (Nat.le_refl _) ?_
  intro w' hown hgr
  refine hK w' ?_ ((Below.refl _ _).grown hgr (Nat.le_refl _) (fun k hk => by cases hk))
  rw [hzc, Nat.mul_one, toList_madeCells_one] at hown
  exact hown
end Go.Proofs.YtdonmdiebibabaaDoor
