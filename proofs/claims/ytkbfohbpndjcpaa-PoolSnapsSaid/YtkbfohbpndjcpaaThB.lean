/- append onto a row whose data reach other blocks, each datum with a thing of its own. -/
import Derived.Test.YtkbfohbpndjcpaaThA
namespace Go.Proofs.Ytkbfohbpndjcpaa
open Go.RowKit
set_option linter.unusedVariables false
set_option maxRecDepth 100000

/-! append onto a row whose data reach other blocks. -/
theorem run_append_RT {α : Type} {L : Lay α} {P : Program} (w : World) (base : Nat) (t ty e : TypeId) (z : Value) (bytes : Nat) (ht : P.underlying t = some (.slice e)) (hi : (P.info? e).map (fun i => (i.zero, i.size, i.bytes)) = some (some z, L.size, bytes)) (hzs : z.cells.size = L.size)
    (G : Nat → Prop) (a : Option Addr) (len cap : Nat) (xs : List α) (hown : (thRow L base e G a len cap xs).holds w)
    (a2 : Option Addr) (len2 cap2 : Nat) (ys : List α) (uss : List (List Value)) (hrow : VRow w L.size a2 len2 cap2 uss.flatten) (F2 : Nat → Prop) (hp2 : Pt L w F2 ys uss) (hF2 : ∀ b, F2 b → b < w.heap.size ∧ (Value.slice a len cap).ownBlock ≠ some b)
    (hl2 : ys.length = len2) (h63 : len + len2 ≤ maxLen) (hbytes : (len + len2) * bytes ≤ 140737488355328) (hbase : base ≤ w.heap.size) :
    ∃ a' cap' w', (Builtin.append_ #[t, t] ty #[.slice a len cap, .slice a2 len2 cap2]).run P w = .ok (.slice a' (len + len2) cap') w' ∧ (thRow L base e (fun b => G b ∨ F2 b) a' (len + len2) cap' (xs ++ ys)).holds w' ∧ w.grownBy w' (Value.slice a len cap).ownBlock ∧
      ∀ b, (Value.slice a' (len + len2) cap').ownBlock = some b → (Value.slice a len cap).ownBlock = some b ∨ w.heap.size ≤ b := by
  obtain ⟨⟨hl, vss, F, hown, hp, hF⟩, hG⟩ := hown
  obtain ⟨a', cap', w', hrun, hown', hg, hat⟩ := run_append_at (P := P) w base t ty e z L.size bytes ht hi hzs L.pos a len cap vss.flatten hown a2 len2 cap2 uss.flatten hrow hp2.one h63 hbytes hbase
  have hk : ∀ b, (F b ∨ F2 b) → b < w.heap.size → w'.heap[b]? = w.heap[b]? := fun b hb hlt => hg.block b hlt (fun e => by
      rcases hb with hb | hb
      · exact (hF b hb).2.2 e.symm
      · exact (hF2 b hb).2 e.symm)
  have hb' : ∀ b, (F b ∨ F2 b) → (G b ∨ F2 b) ∧ b < w.heap.size ∧ (Value.slice a len cap).ownBlock ≠ some b := by
    intro b hb
    rcases hb with hb | hb
    · exact ⟨.inl (hF b hb).1, (hF b hb).2⟩
    · exact ⟨.inr hb, hF2 b hb⟩
  refine ⟨a', cap', w', hrun, ⟨⟨by rw [List.length_append, hl, hl2], vss ++ uss, fun b => F b ∨ F2 b, by rw [List.flatten_append]; exact hown', ?_, fun b hb => ?_⟩, fun b hb => ?_⟩, hg, fun b hb => ?_⟩
  · exact (hp.keep (fun b hb => .inl hb) (fun b hb => hk b (.inl hb))).append (hp2.keep (fun b hb => .inr hb) (fun b hb => hk b (.inr hb)))
  · obtain ⟨h1, h2, h3⟩ := hb' b hb
    refine ⟨h1, Nat.lt_of_lt_of_le h2 hg.size, fun e => ?_⟩
    rcases hat with h | h
    · exact h3 (h ▸ e)
    · rw [h] at e
      have : w.heap.size = b := by simpa using e
      omega
  · rcases hb with h1 | h1
    · exact Nat.lt_of_lt_of_le (hG b h1) hg.size
    · exact Nat.lt_of_lt_of_le (hF2 b h1).1 hg.size
  · rcases hat with h | h
    · left; rw [← h]; exact hb
    · right
      rw [h] at hb
      have : w.heap.size = b := by simpa using hb
      omega
/-- append of one datum, which a literal has just laid in a new block, and which has a thing of its own. -/
theorem wpList_append_RT {α : Type} {L : Lay α} {P : Program} {wr : World} {ops : Array Oper} {rest : List Oper} {o : Oper} {act : Act} {Q : Exit → Act → World → Prop} (hgd : o.guard = none) (s x : Operand) (t : TypeId)
    (ho : o.op = .call { callee := .builtin .append, args := #[s, x], argTypes := #[t, t] })
    (base : Nat) (e : TypeId) (z : Value) (bytes : Nat) (ht : P.underlying t = some (.slice e)) (hi : (P.info? e).map (fun i => (i.zero, i.size, i.bytes)) = some (some z, L.size, bytes)) (hzs : z.cells.size = L.size)
    (G : Nat → Prop) (a : Option Addr) (len cap : Nat) (xs : List α) (hs : act.eval s = .slice a len cap)
    (k own : Thing) (hown : Apt [thAll [k, own], thRow L base e G a len cap xs] wr)
    (cs : Array Value) (y : α) (hx : act.eval x = .slice (some ⟨wr.heap.size, 0, none⟩) 1 1) (hy : L.at_ wr own.foot y cs.toList)
    (h63 : len + 1 ≤ maxLen) (hbytes : (len + 1) * bytes ≤ 140737488355328) (hbase : base ≤ wr.heap.size)
    (h : ∀ a' cap' w' G', Turns (thAll [thAll [k, own], thRow L base e G a len cap xs]) (thAll [k, thRow L base e G' a' (len + 1) cap' (xs ++ [y])]) wr w' → wpList P ops Q rest (act.put o.dst (.slice a' (len + 1) cap')) w') : wpList P ops Q (o :: rest) act (wr.alloc (.cells cs e)) := by
  have hrow := hown.all 1 _ rfl
  have hko : Apt [k, own] wr := hown.all 0 _ rfl
  have hkh := hko.all 0 _ rfl
  have hoh := hko.all 1 _ rfl
  have hal : Below wr.heap.size wr (wr.alloc (.cells cs e)) := Below_alloc1 _
  have hne : ∀ b, own.foot b → (Value.slice a len cap).ownBlock ≠ some b := fun b hb e => hown.apart 0 1 _ _ rfl rfl (by decide) b ⟨own, by simp, hb⟩ (.inr e)
  have hkr : ∀ b, k.foot b → (Value.slice a len cap).ownBlock ≠ some b := fun b hb e => hown.apart 0 1 _ _ rfl rfl (by decide) b ⟨k, by simp, hb⟩ (.inr e)
  have hkG : ∀ b, k.foot b → ¬ G b := fun b hb e => hown.apart 0 1 _ _ rfl rfl (by decide) b ⟨k, by simp, hb⟩ (.inl e)
  have hkO : ∀ b, k.foot b → ¬ own.foot b := fun b hb => hko.apart 0 1 _ _ rfl rfl (by decide) b hb
  refine wpList_plain hgd fun K hK => ?_
  obtain ⟨a', cap', w', hrun, r1, hg, hat⟩ := run_append_RT (P := P) (wr.alloc (.cells cs e)) base t o.type e z bytes ht hi hzs G a len cap xs (Thing.below hrow hal) (some ⟨wr.heap.size, 0, none⟩) 1 1 [y] [cs.toList] (VRow.single hy e cs rfl rfl) own.foot
    (Pt.single (L.keep hy (fun _ hb => hb) (fun b hb hlt => Below.heap_alloc _ _ _ hlt))) (fun b hb => ⟨by have := own.lt hoh b hb; simp; omega, hne b hb⟩) rfl h63 hbytes (by simp; omega)
  unfold Oper.wp execOp
  simp only [ho, resolve, invoke, builtin, Sem.run_bind, Sem.run_pure, Result.andThen_ok, List.map_toArray, List.map_cons, List.map_nil, hs, hx, hrun]
  refine hK _ _ (h a' cap' w' (fun b => G b ∨ own.foot b) ⟨?_, ?_, ?_⟩)
  · have hk' : k.holds w' := k.keep (Thing.below hkh hal) (Mv.grown (S := fun b => (Value.slice a len cap).ownBlock = some b) hg (fun g hg => hg)) hkr
    refine ((Apt.nil w').cons r1 (fun s hs => by cases hs)).cons hk' (fun s hs b hb hs' => ?_)
    obtain rfl := List.mem_singleton.1 hs
    rcases hs' with (h1 | h1) | h1
    · exact hkG b hb h1
    · exact hkO b hb h1
    · rcases hat b h1 with h2 | h2
      · exact hkr b hb h2
      · have := k.lt hkh b hb
        simp at h2; omega
  · refine (Mv.below hal).trans (Mv.grown hg (fun g hg => ?_))
    exact ⟨_, List.mem_cons_of_mem _ (List.mem_cons_self ..), .inr hg⟩
  · rintro b ⟨s, hs, hb⟩
    rcases List.mem_cons.1 hs with rfl | hs
    · exact .inl ⟨_, List.mem_cons_self .., ⟨s, List.mem_cons_self .., hb⟩⟩
    · obtain rfl := List.mem_singleton.1 hs
      rcases hb with (h1 | h1) | h1
      · exact .inl ⟨_, List.mem_cons_of_mem _ (List.mem_cons_self ..), .inl h1⟩
      · exact .inl ⟨_, List.mem_cons_self .., ⟨own, List.mem_cons_of_mem _ (List.mem_cons_self ..), h1⟩⟩
      · rcases hat b h1 with h2 | h2
        · exact .inl ⟨_, List.mem_cons_of_mem _ (List.mem_cons_self ..), .inr h2⟩
        · right; simp at h2; omega

theorem own_srowT {α : Type} {L : Lay α} {B : Nat} {e : TypeId} {a : Option Addr} {n c : Nat} {xs : List α} {w : World} (h : (thOwn L B e a n c xs).holds w) : SRow L w (thOwn L B e a n c xs).foot a n c xs := by
  obtain ⟨hl, vss, F, ho, hp, hF⟩ := h
  exact ⟨hl, fun x hx _ => by show (Value.slice a n c).ownBlock = _; rw [hx]; rfl, vss, ho.row, hp.keep (fun b hb => ((hF b hb).1).elim) (fun _ _ _ => rfl)⟩
theorem Turns.nilBelowT {t : Thing} {w w' : World} (h : Turns (thAll []) t w w') : Below w.heap.size w w' :=
  ⟨h.mv.os, h.mv.tape, h.mv.output, h.mv.size, fun b hb => h.mv.block b hb (fun ⟨t, ht, _⟩ => by cases ht)⟩
end Go.Proofs.Ytkbfohbpndjcpaa
