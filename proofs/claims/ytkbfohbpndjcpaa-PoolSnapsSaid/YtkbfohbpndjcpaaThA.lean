/- append, onto a thing. -/
import Derived.Test.YtkbfohbpndjcpaaTh
namespace Go.Proofs.Ytkbfohbpndjcpaa
open Go.RowKit
set_option linter.unusedVariables false

theorem run_append_T {α : Type} {L : Lay α} {P : Program} (w : World) (base : Nat) (t ty e : TypeId) (z : Value) (bytes : Nat) (ht : P.underlying t = some (.slice e)) (hi : (P.info? e).map (fun i => (i.zero, i.size, i.bytes)) = some (some z, L.size, bytes)) (hzs : z.cells.size = L.size)
    (a : Option Addr) (len cap : Nat) (xs : List α) (hown : (thOwn L base e a len cap xs).holds w)
    (a2 : Option Addr) (len2 cap2 : Nat) (ys : List α) (uss : List (List Value)) (hrow : VRow w L.size a2 len2 cap2 uss.flatten) (hp2 : Pt L w (fun _ => False) ys uss)
    (hl2 : ys.length = len2) (h63 : len + len2 ≤ maxLen) (hbytes : (len + len2) * bytes ≤ 140737488355328) (hbase : base ≤ w.heap.size) :
    ∃ a' cap' w', (Builtin.append_ #[t, t] ty #[.slice a len cap, .slice a2 len2 cap2]).run P w = .ok (.slice a' (len + len2) cap') w' ∧ Turns (thOwn L base e a len cap xs) (thOwn L base e a' (len + len2) cap' (xs ++ ys)) w w' := by
  obtain ⟨hl, vss, F, hown, hp, hF⟩ := hown
  obtain ⟨a', cap', w', hrun, hown', hg, hat⟩ := run_append_at (P := P) w base t ty e z L.size bytes ht hi hzs L.pos a len cap vss.flatten hown a2 len2 cap2 uss.flatten hrow hp2.one h63 hbytes hbase
  refine ⟨a', cap', w', hrun, ⟨by rw [List.length_append, hl, hl2], vss ++ uss, fun _ => False, by rw [List.flatten_append]; exact hown', ?_, fun b hb => hb.elim⟩, Mv.grown hg (fun g hg => hg), fun b hb => ?_⟩
  · exact (hp.keep (fun b hb => (hF b hb).1) (fun b hb hlt => ((hF b hb).1).elim)).append (hp2.keep (fun b hb => hb) (fun b hb => hb.elim))
  · rcases hat with h | h
    · left; show (Value.slice a len cap).ownBlock = some b; rw [← h]; exact hb
    · right
      have hb' : (Value.slice a' (len + len2) cap').ownBlock = some b := hb
      rw [h] at hb'
      have : w.heap.size = b := by simpa using hb'
      omega
/-- append: data from a slice. -/
theorem wpList_append_T {α : Type} {L : Lay α} {P : Program} {w : World} {ops : Array Oper} {rest : List Oper} {o : Oper} {act : Act} {Q : Exit → Act → World → Prop} (hgd : o.guard = none) (s x : Operand) (t : TypeId)
    (ho : o.op = .call { callee := .builtin .append, args := #[s, x], argTypes := #[t, t] })
    (base : Nat) (e : TypeId) (z : Value) (bytes : Nat) (ht : P.underlying t = some (.slice e)) (hi : (P.info? e).map (fun i => (i.zero, i.size, i.bytes)) = some (some z, L.size, bytes)) (hzs : z.cells.size = L.size)
    (a : Option Addr) (len cap : Nat) (xs : List α) (hs : act.eval s = .slice a len cap) (hown : (thOwn L base e a len cap xs).holds w)
    (a2 : Option Addr) (len2 cap2 : Nat) (ys : List α) (uss : List (List Value)) (hx : act.eval x = .slice a2 len2 cap2) (hrow : VRow w L.size a2 len2 cap2 uss.flatten) (hp2 : Pt L w (fun _ => False) ys uss)
    (hl2 : ys.length = len2) (h63 : len + len2 ≤ maxLen) (hbytes : (len + len2) * bytes ≤ 140737488355328) (hbase : base ≤ w.heap.size)
    (h : ∀ a' cap' w', Turns (thOwn L base e a len cap xs) (thOwn L base e a' (len + len2) cap' (xs ++ ys)) w w' → wpList P ops Q rest (act.put o.dst (.slice a' (len + len2) cap')) w') : wpList P ops Q (o :: rest) act w := by
  refine wpList_plain hgd fun K hK => ?_
  obtain ⟨a', cap', w', hrun, r1⟩ := run_append_T (P := P) w base t o.type e z bytes ht hi hzs a len cap xs hown a2 len2 cap2 ys uss hrow hp2 hl2 h63 hbytes hbase
  unfold Oper.wp execOp
  simp only [ho, resolve, invoke, builtin, Sem.run_bind, Sem.run_pure, Result.andThen_ok, List.map_toArray, List.map_cons, List.map_nil, hs, hx, hrun]
  exact hK _ _ (h a' cap' w' r1)
theorem step_append_T {α : Type} {L : Lay α} {P : Program} {w : World} {ops : Array Oper} {o : Oper} {act : Act} {K : Act → World → Prop} {Q : Exit → Act → World → Prop} {E : Prop} (hgd : o.guard = none) (s x : Operand) (t : TypeId)
    (ho : o.op = .call { callee := .builtin .append, args := #[s, x], argTypes := #[t, t] })
    (base : Nat) (e : TypeId) (z : Value) (bytes : Nat) (ht : P.underlying t = some (.slice e)) (hi : (P.info? e).map (fun i => (i.zero, i.size, i.bytes)) = some (some z, L.size, bytes)) (hzs : z.cells.size = L.size)
    (a : Option Addr) (len cap : Nat) (xs : List α) (hs : act.eval s = .slice a len cap) (hown : (thOwn L base e a len cap xs).holds w)
    (a2 : Option Addr) (len2 cap2 : Nat) (ys : List α) (uss : List (List Value)) (hx : act.eval x = .slice a2 len2 cap2) (hrow : VRow w L.size a2 len2 cap2 uss.flatten) (hp2 : Pt L w (fun _ => False) ys uss)
    (hl2 : ys.length = len2) (h63 : len + len2 ≤ maxLen) (hbytes : (len + len2) * bytes ≤ 140737488355328) (hbase : base ≤ w.heap.size)
    (h : ∀ a' cap' w', Turns (thOwn L base e a len cap xs) (thOwn L base e a' (len + len2) cap' (xs ++ ys)) w w' → K (act.put o.dst (.slice a' (len + len2) cap')) w') :
    if Region.wanted o (yielded ops act.tmps) = true then Oper.wp P o act w K Q else E := by
  have hw : Region.wanted o (yielded ops act.tmps) = true := by simp [Region.wanted, hgd]
  rw [if_pos hw]
  obtain ⟨a', cap', w', hrun, r1⟩ := run_append_T (P := P) w base t o.type e z bytes ht hi hzs a len cap xs hown a2 len2 cap2 ys uss hrow hp2 hl2 h63 hbytes hbase
  unfold Oper.wp execOp
  simp only [ho, resolve, invoke, builtin, Sem.run_bind, Sem.run_pure, Result.andThen_ok, List.map_toArray, List.map_cons, List.map_nil, hs, hx, hrun]
  exact h a' cap' w' r1
theorem Turns.after {t t' : Thing} {w w' : World} {o : Obj} (ht : t.holds w) (h : Turns t t' (w.alloc o) w') : Turns t t' w w' := (Turns.still ht (Below_alloc1 o)).trans h
/-- append of one datum, which a literal has just laid in a new block. -/
theorem wpList_append_T1 {α : Type} {L : Lay α} {P : Program} {wr : World} {ops : Array Oper} {rest : List Oper} {o : Oper} {act : Act} {Q : Exit → Act → World → Prop} (hgd : o.guard = none) (s x : Operand) (t : TypeId)
    (ho : o.op = .call { callee := .builtin .append, args := #[s, x], argTypes := #[t, t] })
    (base : Nat) (e : TypeId) (z : Value) (bytes : Nat) (ht : P.underlying t = some (.slice e)) (hi : (P.info? e).map (fun i => (i.zero, i.size, i.bytes)) = some (some z, L.size, bytes)) (hzs : z.cells.size = L.size)
    (a : Option Addr) (len cap : Nat) (xs : List α) (hs : act.eval s = .slice a len cap) (hown : (thOwn L base e a len cap xs).holds wr)
    (cs : Array Value) (y : α) (hx : act.eval x = .slice (some ⟨wr.heap.size, 0, none⟩) 1 1) (hy : L.at_ wr (fun _ => False) y cs.toList)
    (h63 : len + 1 ≤ maxLen) (hbytes : (len + 1) * bytes ≤ 140737488355328) (hbase : base ≤ wr.heap.size)
    (h : ∀ a' cap' w', Turns (thOwn L base e a len cap xs) (thOwn L base e a' (len + 1) cap' (xs ++ [y])) wr w' → wpList P ops Q rest (act.put o.dst (.slice a' (len + 1) cap')) w') : wpList P ops Q (o :: rest) act (wr.alloc (.cells cs e)) :=
  wpList_append_T hgd s x t ho base e z bytes ht hi hzs a len cap xs hs (Thing.below hown (Below_alloc1 _)) (some ⟨wr.heap.size, 0, none⟩) 1 1 [y] [cs.toList] hx (VRow.single hy e cs rfl rfl)
    (Pt.single (L.keep hy (fun _ hb => hb) (fun b hb => hb.elim))) rfl h63 hbytes (by simp; omega)
    (fun a' cap' w' h1 => h a' cap' w' (h1.after hown))
theorem step_append_T1 {α : Type} {L : Lay α} {P : Program} {wr : World} {ops : Array Oper} {o : Oper} {act : Act} {K : Act → World → Prop} {Q : Exit → Act → World → Prop} {E : Prop} (hgd : o.guard = none) (s x : Operand) (t : TypeId)
    (ho : o.op = .call { callee := .builtin .append, args := #[s, x], argTypes := #[t, t] })
    (base : Nat) (e : TypeId) (z : Value) (bytes : Nat) (ht : P.underlying t = some (.slice e)) (hi : (P.info? e).map (fun i => (i.zero, i.size, i.bytes)) = some (some z, L.size, bytes)) (hzs : z.cells.size = L.size)
    (a : Option Addr) (len cap : Nat) (xs : List α) (hs : act.eval s = .slice a len cap) (hown : (thOwn L base e a len cap xs).holds wr)
    (cs : Array Value) (y : α) (hx : act.eval x = .slice (some ⟨wr.heap.size, 0, none⟩) 1 1) (hy : L.at_ wr (fun _ => False) y cs.toList)
    (h63 : len + 1 ≤ maxLen) (hbytes : (len + 1) * bytes ≤ 140737488355328) (hbase : base ≤ wr.heap.size)
    (h : ∀ a' cap' w', Turns (thOwn L base e a len cap xs) (thOwn L base e a' (len + 1) cap' (xs ++ [y])) wr w' → K (act.put o.dst (.slice a' (len + 1) cap')) w') :
    if Region.wanted o (yielded ops act.tmps) = true then Oper.wp P o act (wr.alloc (.cells cs e)) K Q else E :=
  step_append_T hgd s x t ho base e z bytes ht hi hzs a len cap xs hs (Thing.below hown (Below_alloc1 _)) (some ⟨wr.heap.size, 0, none⟩) 1 1 [y] [cs.toList] hx (VRow.single hy e cs rfl rfl)
    (Pt.single (L.keep hy (fun _ hb => hb) (fun b hb => hb.elim))) rfl h63 hbytes (by simp; omega)
    (fun a' cap' w' h1 => h a' cap' w' (h1.after hown))
theorem Turns.tail {t u : Thing} {l : List Thing} {w W : World} (h : Turns t (thAll (u :: l)) w W) : Turns t (thAll l) w W :=
  ⟨Apt.tail h.now, h.mv, fun b ⟨s, hs, hb⟩ => h.own b ⟨s, List.mem_cons_of_mem _ hs, hb⟩⟩
theorem Turns.one {t t' : Thing} {w W : World} (h : Turns t (thAll [t']) w W) : Turns t t' w W := ⟨Apt.head h.now, h.mv, fun b hb => h.own b ⟨t', List.mem_singleton.2 rfl, hb⟩⟩
theorem Turns.stays {t t' : Thing} {w W W' : World} (h : Turns t t' w W) (hb : Below W.heap.size W W') : Turns t t' w W' := h.trans (Turns.still h.now hb)
theorem Turns.refl {t : Thing} {w : World} (h : t.holds w) : Turns t t w w := ⟨h, Mv.refl _ _, fun _ hb => .inl hb⟩
/-- A new box ahead. -/
theorem Turns.boxed {t : Thing} {w : World} (h : t.holds w) (cs : Array Value) (ty : TypeId) : Turns t (thAll [thBox w.heap.size cs ty, t]) w (w.alloc (.cells cs ty)) :=
  ⟨Apt.new (l := [t]) ((Apt.nil w).cons h (fun s hs => by cases hs)) (Below_alloc1 _) (Box.new rfl) (fun b hb => by have : b = w.heap.size := hb; omega), Mv.alloc _ _, fun b ⟨s, hs, hb⟩ => by
    rcases List.mem_cons.1 hs with rfl | hs
    · right; have : b = w.heap.size := hb; omega
    · obtain rfl := List.mem_singleton.1 hs; exact .inl hb⟩
theorem Turns.headBox {t : Thing} {l : List Thing} {r : Nat} {vs vs' : Array Value} {ty : TypeId} {w W W' : World} (h : Turns t (thAll (thBox r vs ty :: l)) w W) (hb : Box W' r vs' ty) (hg : W.grownBy W' (some r)) : Turns t (thAll (thBox r vs' ty :: l)) w W' :=
  h.trans (Turns.inside (i := 0) h.now rfl ⟨hb, Mv.grown hg (fun g hg => by injection hg with hg; exact hg.symm), fun b hb => .inl hb⟩)
theorem Turns.next {t u t1 t2 : Thing} {l : List Thing} {w W W' : World} (h : Turns t (thAll (u :: t1 :: l)) w W) (k : Turns t1 t2 W W') : Turns t (thAll (u :: t2 :: l)) w W' :=
  h.trans (Turns.inside (i := 1) h.now rfl k)
/-- A new thing behind all others. -/
theorem Turns.fresh {t u t1 x : Thing} {w W W' : World} (h : Turns t (thAll [u, t1]) w W) (hb : Below W.heap.size W W') (hx : x.holds W') (hn : ∀ b, x.foot b → W.heap.size ≤ b) : Turns t (thAll [u, t1, x]) w W' := by
  have h2 := h.trans (Turns.beside h.now hb hx hn)
  refine h2.trans (Turns.by h2.now (fun i => if i = 0 then 1 else if i = 1 then 2 else 0) (fun i j e hi hj => ?_) (fun i s hi => ?_))
  · simp only [List.length_cons, List.length_nil] at hi hj
    have hi3 : i = 0 ∨ i = 1 ∨ i = 2 := by omega
    have hj3 : j = 0 ∨ j = 1 ∨ j = 2 := by omega
    rcases hi3 with rfl | rfl | rfl <;> rcases hj3 with rfl | rfl | rfl <;> simp_all
  · match i, hi with
    | 0, hi => exact hi
    | 1, hi => exact hi
    | 2, hi => exact hi
theorem Turns.withNil {α : Type} {L : Lay α} {B : Nat} {e : TypeId} {t t' : Thing} {w W : World} (h : Turns t t' w W) : Turns t (thAll [t', thOwn L B e none 0 0 []]) w W :=
  ⟨(((Apt.nil W).cons (t := thOwn L B e none 0 0 []) (SOwn.nil ..) (fun s hs => by cases hs))).cons h.now (fun s hs b hb hs' => by
      obtain rfl := List.mem_singleton.1 hs
      cases (show (none : Option Nat) = some b from hs')), h.mv, fun b ⟨s, hs, hb⟩ => by
    rcases List.mem_cons.1 hs with rfl | hs
    · exact h.own b hb
    · obtain rfl := List.mem_singleton.1 hs
      cases (show (none : Option Nat) = some b from hb)⟩
end Go.Proofs.Ytkbfohbpndjcpaa
