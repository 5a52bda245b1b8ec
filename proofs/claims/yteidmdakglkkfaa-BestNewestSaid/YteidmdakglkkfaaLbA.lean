/- append of one element onto a block known whole, within its room. No program here. -/
import Derived.Test.YteidmdakglkkfaaLbM
namespace Go.Proofs.Yteidmdakglkkfaa
open Go.RowKit
set_option linter.unusedVariables false

theorem wpList_append_box {P : Program} {wr : World} {ops : Array Oper} {rest : List Oper} {o : Oper} {act : Act} {Q : Exit → Act → World → Prop} (hgd : o.guard = none) (s x : Operand) (t : TypeId)
    (ho : o.op = .call { callee := .builtin .append, args := #[s, x], argTypes := #[t, t] })
    (e : TypeId) (z : Value) (bytes : Nat) (ht : P.underlying t = some (.slice e)) (hi : (P.info? e).map (fun i => (i.zero, i.size, i.bytes)) = some (some z, 1, bytes))
    (g len cap : Nat) (vs : Array Value) (hs : act.eval s = .slice (some ⟨g, 0, none⟩) len cap) (hb : Box wr g vs e) (hsz : vs.size = cap) (hroom : len + 1 ≤ cap)
    (u : Value) (hu : u.oneCell' = true) (hx : act.eval x = .slice (some ⟨wr.heap.size, 0, none⟩) 1 1)
    (h : ∀ w', Box w' g (vs.setIfInBounds len u) e → wr.grownBy w' (some g) → wpList P ops Q rest (act.put o.dst (.slice (some ⟨g, 0, none⟩) (len + 1) cap)) w') : wpList P ops Q (o :: rest) act (wr.alloc (.cells #[u] e)) := by
  obtain ⟨i, hi0, hz, hsize, hby⟩ := info_parts hi
  refine wpList_plain hgd fun K hK => ?_
  have hb' : (wr.alloc (.cells #[u] e)).heap[g]? = some (.cells vs e (0, 0)) := hb.alloc _
  have hrun := run_append_room (P := P) (wr.alloc (.cells #[u] e)) t o.type e i ht hi0 g len cap vs hb' ⟨wr.heap.size, 0, none⟩ 1 1 [u] (by simp [hsize]) (cell_one_new wr u e) (by intro y hy; obtain rfl := List.mem_singleton.1 hy; exact hu) hroom (by simp [hsize]; omega)
  unfold Oper.wp execOp
  simp only [ho, resolve, invoke, builtin, Sem.run_bind, Sem.run_pure, Result.andThen_ok, List.map_toArray, List.map_cons, List.map_nil, hs, hx, hrun]
  have hcs : (List.take (len * i.size) vs.toList ++ [u] ++ List.drop (len * i.size + [u].length) vs.toList).toArray = vs.setIfInBounds len u := by
    rw [hsize, Nat.mul_one]
    apply Array.toList_inj.1
    rw [Array.toList_setIfInBounds, List.set_eq_take_append_cons_drop, if_pos (by rw [Array.length_toList]; omega)]
    simp
  rw [hcs]
  refine hK _ _ (h _ ?_ ?_)
  · exact setRow_heap (wr.alloc (.cells #[u] e)) g vs (vs.setIfInBounds len u) e (0, 0) hb'
  · exact (World.grownBy_alloc wr _ _).trans ⟨rfl, rfl, rfl, by simp, fun k _ hk => setRow_other _ g k _ (fun e => hk (by simp [e]))⟩
end Go.Proofs.Yteidmdakglkkfaa
