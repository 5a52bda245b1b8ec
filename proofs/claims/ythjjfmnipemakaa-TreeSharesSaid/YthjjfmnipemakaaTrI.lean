/- An element of an array value, by a number that need not be known. -/
import Derived.Test.YthjjfmnipemakaaBoxOps
namespace Go.Proofs.Ythjjfmnipemakaa
open Go.RowKit
set_option linter.unusedVariables false

theorem wpList_index_at {P : Program} {ops : Array Oper} {rest : List Oper} {o : Oper} {a : Act} {w : World} {Q : Exit → Act → World → Prop} (hgd : o.guard = none) (ty : TypeId) (x ix : Operand) (ho : o.op = .index ty x ix)
    (cs : Array Value) (hx : a.eval x = .agg cs) (i : Nat) (hix : a.eval ix = .int .i64 i) (len elem : Nat) (hu : P.underlying ty = some (.array len elem)) (hlt : i < len)
    (d : TypeDesc) (hd : P.underlying elem = some d) (hda : (match d with | .struct _ | .array _ _ => false | _ => true) = true) (hi : (P.info? elem).map (·.size) = some 1) (v : Value) (hv : cs[i]? = some v)
    (h : wpList P ops Q rest (a.put o.dst v) w) : wpList P ops Q (o :: rest) a w := by
  refine wpList_plain hgd fun _ hK => ?_
  have h' := hK _ _ h
  obtain ⟨inf, hinf, hsz⟩ := Option.map_eq_some_iff.1 hi
  have hii : (0 : Int) ≤ (i : Int) ∧ (i : Int) < (len : Int) := by omega
  unfold Oper.wp execOp
  have hlt' : (i : Int) < (len : Int) := hii.2
  have hlt0 : (0 : Int) ≤ (i : Int) := hii.1
  have hrun : (Instr.index ty (.agg cs) (.int .i64 i)).run P w = .ok v w := by
    cases d <;> first | (simp at hda; done) | simp [Instr.index, run_underlying hu, run_underlying hd, asIntOf, sizeOf, typeInfo, hinf, hsz, part, isAgg, hv, hlt, hlt0]
  simp only [ho, hx, hix, Sem.run_bind, hrun, Result.andThen_ok]
  exact h'
end Go.Proofs.Ythjjfmnipemakaa
