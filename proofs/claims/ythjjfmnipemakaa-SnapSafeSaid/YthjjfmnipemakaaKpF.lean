/- The walk of Play. -/
import Derived.Test.YthjjfmnipemakaaKpE
import Derived.Test.YthjjfmnipemakaaKpP
import Derived.Test.YthjjfmnipemakaaBase
namespace Go.Proofs.Ythjjfmnipemakaa
open Go.RowKit
set_option linter.unusedVariables false
set_option maxRecDepth 100000

/-! append onto a row whose data reach other blocks. -/
theorem run_append_R {α : Type} {L : Lay α} {P : Program} (w : World) (base : Nat) (t ty e : TypeId) (z : Value) (bytes : Nat) (ht : P.underlying t = some (.slice e)) (hi : (P.info? e).map (fun i => (i.zero, i.size, i.bytes)) = some (some z, L.size, bytes)) (hzs : z.cells.size = L.size)
    (G : Nat → Prop) (a : Option Addr) (len cap : Nat) (xs : List α) (hown : (thRow L base e G a len cap xs).holds w)
    (a2 : Option Addr) (len2 cap2 : Nat) (ys : List α) (uss : List (List Value)) (hrow : VRow w L.size a2 len2 cap2 uss.flatten) (F2 : Nat → Prop) (hp2 : Pt L w F2 ys uss) (hF2 : ∀ b, F2 b → b < w.heap.size ∧ (Value.slice a len cap).ownBlock ≠ some b)
    (hl2 : ys.length = len2) (h63 : len + len2 ≤ maxLen) (hbytes : (len + len2) * bytes ≤ 140737488355328) (hbase : base ≤ w.heap.size) :
    ∃ a' cap' w', (Builtin.append_ #[t, t] ty #[.slice a len cap, .slice a2 len2 cap2]).run P w = .ok (.slice a' (len + len2) cap') w' ∧ (thRow L base e (fun b => G b ∨ F2 b) a' (len + len2) cap' (xs ++ ys)).holds w' ∧ w.grownBy w' (Value.slice a len cap).ownBlock ∧
      ∀ b, (Value.slice a' (len + len2) cap').ownBlock = some b → (Value.slice a len cap).ownBlock = some b ∨ w.heap.size ≤ b := by
  obtain ⟨⟨hl, vss, F, hown, hp, hF⟩, hG⟩ := hown
  obtain ⟨a', cap', w', hrun, hown', hg, hat⟩ := run_append_at (P := P) w base t ty e z L.size bytes ht hi hzs L.pos a len cap vss.flatten hown a2 len2 cap2 uss.flatten hrow hp2.one h63 hbytes hbase
  have hk : ∀ b, (F b ∨ F2 b) → b < w.heap.size → w'.heap[b]? = w.heap[b]? := fun b hb hlt => hg.block b hlt (fun e => by
      rcases hb with hb | hb
      · exact (hF b hb).2.2 e.symm
      · exact (hF2 b hb).2 e.symm)
  have hb' : ∀ b, (F b ∨ F2 b) → (G b ∨ F2 b) ∧ b < w.heap.size ∧ (Value.slice a len cap).ownBlock ≠ some b := by
    intro b hb
    rcases hb with hb | hb
    · exact ⟨.inl (hF b hb).1, (hF b hb).2⟩
    · exact ⟨.inr hb, hF2 b hb⟩
  refine ⟨a', cap', w', hrun, ⟨⟨by rw [List.length_append, hl, hl2], vss ++ uss, fun b => F b ∨ F2 b, by rw [List.flatten_append]; exact hown', ?_, fun b hb => ?_⟩, fun b hb => ?_⟩, hg, fun b hb => ?_⟩
  · exact (hp.keep (fun b hb => .inl hb) (fun b hb => hk b (.inl hb))).append (hp2.keep (fun b hb => .inr hb) (fun b hb => hk b (.inr hb)))
  · obtain ⟨h1, h2, h3⟩ := hb' b hb
    refine ⟨h1, Nat.lt_of_lt_of_le h2 hg.size, fun e => ?_⟩
    rcases hat with h | h
    · exact h3 (h ▸ e)
    · rw [h] at e
      have : w.heap.size = b := by simpa using e
      omega
  · rcases hb with h1 | h1
    · exact Nat.lt_of_lt_of_le (hG b h1) hg.size
    · exact Nat.lt_of_lt_of_le (hF2 b h1).1 hg.size
  · rcases hat with h | h
    · left; rw [← h]; exact hb
    · right
      rw [h] at hb
      have : w.heap.size = b := by simpa using hb
      omega
/-- append of one datum, which a literal has just laid in a new block, and which has a thing of its own. -/
theorem wpList_append_R1 {α : Type} {L : Lay α} {P : Program} {wr : World} {ops : Array Oper} {rest : List Oper} {o : Oper} {act : Act} {Q : Exit → Act → World → Prop} (hgd : o.guard = none) (s x : Operand) (t : TypeId)
    (ho : o.op = .call { callee := .builtin .append, args := #[s, x], argTypes := #[t, t] })
    (base : Nat) (e : TypeId) (z : Value) (bytes : Nat) (ht : P.underlying t = some (.slice e)) (hi : (P.info? e).map (fun i => (i.zero, i.size, i.bytes)) = some (some z, L.size, bytes)) (hzs : z.cells.size = L.size)
    (G : Nat → Prop) (a : Option Addr) (len cap : Nat) (xs : List α) (hs : act.eval s = .slice a len cap)
    (k own : Thing) (hown : Apt [thAll [k, own], thRow L base e G a len cap xs] wr)
    (cs : Array Value) (y : α) (hx : act.eval x = .slice (some ⟨wr.heap.size, 0, none⟩) 1 1) (hy : L.at_ wr own.foot y cs.toList)
    (h63 : len + 1 ≤ maxLen) (hbytes : (len + 1) * bytes ≤ 140737488355328) (hbase : base ≤ wr.heap.size)
    (h : ∀ a' cap' w' G', Turns (thAll [thAll [k, own], thRow L base e G a len cap xs]) (thAll [k, thRow L base e G' a' (len + 1) cap' (xs ++ [y])]) wr w' → wpList P ops Q rest (act.put o.dst (.slice a' (len + 1) cap')) w') : wpList P ops Q (o :: rest) act (wr.alloc (.cells cs e)) := by
  have hrow := hown.all 1 _ rfl
  have hko : Apt [k, own] wr := hown.all 0 _ rfl
  have hkh := hko.all 0 _ rfl
  have hoh := hko.all 1 _ rfl
  have hal : Below wr.heap.size wr (wr.alloc (.cells cs e)) := Below_alloc1 _
  have hne : ∀ b, own.foot b → (Value.slice a len cap).ownBlock ≠ some b := fun b hb e => hown.apart 0 1 _ _ rfl rfl (by decide) b ⟨own, by simp, hb⟩ (.inr e)
  have hkr : ∀ b, k.foot b → (Value.slice a len cap).ownBlock ≠ some b := fun b hb e => hown.apart 0 1 _ _ rfl rfl (by decide) b ⟨k, by simp, hb⟩ (.inr e)
  have hkG : ∀ b, k.foot b → ¬ G b := fun b hb e => hown.apart 0 1 _ _ rfl rfl (by decide) b ⟨k, by simp, hb⟩ (.inl e)
  have hkO : ∀ b, k.foot b → ¬ own.foot b := fun b hb => hko.apart 0 1 _ _ rfl rfl (by decide) b hb
  refine wpList_plain hgd fun K hK => ?_
  obtain ⟨a', cap', w', hrun, r1, hg, hat⟩ := run_append_R (P := P) (wr.alloc (.cells cs e)) base t o.type e z bytes ht hi hzs G a len cap xs (Thing.below hrow hal) (some ⟨wr.heap.size, 0, none⟩) 1 1 [y] [cs.toList] (VRow.single hy e cs rfl rfl) own.foot
    (Pt.single (L.keep hy (fun _ hb => hb) (fun b hb hlt => Below.heap_alloc _ _ _ hlt))) (fun b hb => ⟨by have := own.lt hoh b hb; simp; omega, hne b hb⟩) rfl h63 hbytes (by simp; omega)
  unfold Oper.wp execOp
  simp only [ho, resolve, invoke, builtin, Sem.run_bind, Sem.run_pure, Result.andThen_ok, List.map_toArray, List.map_cons, List.map_nil, hs, hx, hrun]
  refine hK _ _ (h a' cap' w' (fun b => G b ∨ own.foot b) ⟨?_, ?_, ?_⟩)
  · have hk' : k.holds w' := k.keep (Thing.below hkh hal) (Mv.grown (S := fun b => (Value.slice a len cap).ownBlock = some b) hg (fun g hg => hg)) hkr
    refine ((Apt.nil w').cons r1 (fun s hs => by cases hs)).cons hk' (fun s hs b hb hs' => ?_)
    obtain rfl := List.mem_singleton.1 hs
    rcases hs' with (h1 | h1) | h1
    · exact hkG b hb h1
    · exact hkO b hb h1
    · rcases hat b h1 with h2 | h2
      · exact hkr b hb h2
      · have := k.lt hkh b hb
        simp at h2; omega
  · refine (Mv.below hal).trans (Mv.grown hg (fun g hg => ?_))
    exact ⟨_, List.mem_cons_of_mem _ (List.mem_cons_self ..), .inr hg⟩
  · rintro b ⟨s, hs, hb⟩
    rcases List.mem_cons.1 hs with rfl | hs
    · exact .inl ⟨_, List.mem_cons_self .., ⟨s, List.mem_cons_self .., hb⟩⟩
    · obtain rfl := List.mem_singleton.1 hs
      rcases hb with (h1 | h1) | h1
      · exact .inl ⟨_, List.mem_cons_of_mem _ (List.mem_cons_self ..), .inl h1⟩
      · exact .inl ⟨_, List.mem_cons_self .., ⟨own, List.mem_cons_of_mem _ (List.mem_cons_self ..), h1⟩⟩
      · rcases hat b h1 with h2 | h2
        · exact .inl ⟨_, List.mem_cons_of_mem _ (List.mem_cons_self ..), .inr h2⟩
        · right; simp at h2; omega

def moveL : Lay (Int × Nat) := Lay.flat 2 (by decide) (fun m => [.int .i64 m.1, .int .i64 m.2]) (fun _ => rfl) (fun x v hv => by
  rcases List.mem_cons.1 hv with rfl | hv
  · rfl
  · obtain rfl := List.mem_singleton.1 hv; rfl)
def goneL : Lay (Int × List Int) := Lay.pair (Lay.int .i64) (Lay.int .i64).slice
theorem info_gone : (Try.prog.info? 58).map (fun i => (i.zero, i.size, i.bytes)) = some (some (.agg #[.int .i64 0, .slice none 0 0]), 2, 32) := by kernel_rfl
theorem own_srow {α : Type} {L : Lay α} {B : Nat} {e : TypeId} {a : Option Addr} {n c : Nat} {xs : List α} {w : World} (h : (thOwn L B e a n c xs).holds w) : SRow L w (thOwn L B e a n c xs).foot a n c xs := by
  obtain ⟨hl, vss, F, ho, hp, hF⟩ := h
  exact ⟨hl, fun x hx _ => by show (Value.slice a n c).ownBlock = _; rw [hx]; rfl, vss, ho.row, hp.keep (fun b hb => ((hF b hb).1).elim) (fun _ _ _ => rfl)⟩
theorem gone_at {B : Nat} {a : Option Addr} {n c : Nat} {xs : List Int} {w : World} (r : Int) (hr : (Lit.int .i64 r).wf = true) (h : (thOwn (Lay.int .i64) B 3 a n c xs).holds w) :
    goneL.at_ w (thOwn (Lay.int .i64) B 3 a n c xs).foot (r, xs) (goneC r a n c).toList :=
  ⟨[.int .i64 r], [.slice a n c], rfl, ⟨rfl, hr⟩, a, n, c, rfl, own_srow h⟩
theorem code_wf (s : Kp) (m : Int × Nat) : (Lit.int .i64 (s.step m).2.1).wf = true := by
  have : (s.step m).2.1 = 0 ∨ (s.step m).2.1 = 6 ∨ (s.step m).2.1 = 8 := by
    unfold Kp.step Kp.move
    split
    · exact .inl rfl
    · split
      · unfold Kp.kill; split
        · exact .inr (.inl rfl)
        · split
          · exact .inl rfl
          · split <;> exact .inl rfl
      · split
        · unfold Kp.shot; split
          · exact .inr (.inr rfl)
          · exact .inl rfl
        · unfold Kp.drop; simp only; split
          · exact .inr (.inl rfl)
          · exact .inl rfl
  rcases this with h | h | h <;> rw [h] <;> decide
theorem Turns.nilBelow {t : Thing} {w w' : World} (h : Turns (thAll []) t w w') : Below w.heap.size w w' :=
  ⟨h.mv.os, h.mv.tape, h.mv.output, h.mv.size, fun b hb => h.mv.block b hb (fun ⟨t, ht, _⟩ => by cases ht)⟩
theorem startT (w : World) : Turns (thAll []) (thAll [thKeep w.heap.size w.heap.size kp0 none 0 0 [] none 0 0, thRow goneL w.heap.size 58 (fun _ => False) none 0 0 []]) w (w.alloc (.cells (keepV kp0 none 0 0 none 0 0) 93)) := by
  obtain ⟨W, hW⟩ : ∃ W, W = w.alloc (.cells (keepV kp0 none 0 0 none 0 0) 93) := ⟨_, rfl⟩
  have hb : Box W w.heap.size (keepV kp0 none 0 0 none 0 0) 93 := by rw [hW]; exact Box.new rfl
  rw [← hW]
  have e1 : ∀ b, ¬ (thOwn blockL w.heap.size 103 none 0 0 []).foot b := fun b hb => by cases (show (none : Option Nat) = some b from hb)
  have e2 : ∀ b, ¬ (thOwn shL w.heap.size 106 none 0 0 []).foot b := fun b hb => by cases (show (none : Option Nat) = some b from hb)
  have e3 : ∀ b, ¬ (thAll ((([] : List Sh)).map (thDead w.heap.size))).foot b := fun b ⟨t, ht, _⟩ => by cases ht
  have e4 : ∀ b, ¬ (thRow goneL w.heap.size 58 (fun _ => False) none 0 0 []).foot b := fun b hb => by
    rcases hb with h | h
    · exact h
    · cases (show (none : Option Nat) = some b from h)
  have h3 : Apt [thAll ((([] : List Sh)).map (thDead w.heap.size))] W := (Apt.nil W).cons (Apt.nil W) (fun s hs => by cases hs)
  have h2 : Apt [thOwn shL w.heap.size 106 none 0 0 [], thAll ((([] : List Sh)).map (thDead w.heap.size))] W := h3.cons (SOwn.nil ..) (fun s hs b hb => absurd hb (e2 b))
  have h1 : Apt [thOwn blockL w.heap.size 103 none 0 0 [], thOwn shL w.heap.size 106 none 0 0 [], thAll ((([] : List Sh)).map (thDead w.heap.size))] W := h2.cons (SOwn.nil ..) (fun s hs b hb => absurd hb (e1 b))
  have hk : (thKeep w.heap.size w.heap.size kp0 none 0 0 [] none 0 0).holds W := h1.cons hb (fun s hs b hb hs' => by
    rcases List.mem_cons.1 hs with rfl | hs
    · exact e1 b hs'
    · rcases List.mem_cons.1 hs with rfl | hs
      · exact e2 b hs'
      · obtain rfl := List.mem_singleton.1 hs
        exact e3 b hs')
  refine ⟨((Apt.nil W).cons (t := thRow goneL w.heap.size 58 (fun _ => False) none 0 0 []) ⟨SOwn.nil .., fun b hb => hb.elim⟩ (fun s hs => by cases hs)).cons hk (fun s hs b hb hs' => by obtain rfl := List.mem_singleton.1 hs; exact e4 b hs'), by rw [hW]; exact Mv.alloc _ _, ?_⟩
  rintro b ⟨s, hs, hb'⟩
  rcases List.mem_cons.1 hs with rfl | hs
  · obtain ⟨x, hx, hbx⟩ := hb'
    rcases List.mem_cons.1 hx with rfl | hx
    · right; have : b = w.heap.size := hbx; omega
    · rcases List.mem_cons.1 hx with rfl | hx
      · exact absurd hbx (e1 b)
      · rcases List.mem_cons.1 hx with rfl | hx
        · exact absurd hbx (e2 b)
        · obtain rfl := List.mem_singleton.1 hx
          exact absurd hbx (e3 b)
  · obtain rfl := List.mem_singleton.1 hs
    exact absurd hb' (e4 b)
theorem moveAt {w : World} {F : Nat → Prop} {a : Option Addr} {len cap : Nat} {ms : List (Int × Nat)} (h : SRow moveL w F a len cap ms) (i : Nat) (hi : i < len) :
    ∃ b off m, a = some ⟨b, off, none⟩ ∧ b < w.heap.size ∧ ms[i]? = some m ∧ w.cell? ⟨b, off + i * 2, none⟩ = some (.int .i64 m.1) ∧ w.cell? ⟨b, off + i * 2 + 1, none⟩ = some (.int .i64 m.2) := by
  obtain ⟨b, off, vs, ha, _, hb, hx, hc⟩ := h.get i hi
  have hm := List.getElem?_eq_getElem (show i < ms.length by rw [h.1]; exact hi)
  have e : vs = [.int .i64 (ms[i]'(by rw [h.1]; exact hi)).1, .int .i64 ((ms[i]'(by rw [h.1]; exact hi)).2 : Int)] := hx _ hm
  subst e
  exact ⟨b, off, _, ha, hb, hm, hc 0 (by decide), hc 1 (by decide)⟩
set_option maxHeartbeats 4000000 in
theorem snapPlay (F : Nat → Prop) (a : Option Addr) (len cap : Nat) (ms : List (Int × Nat)) (w : World) (ha : SRow moveL w F a len cap ms) (hm : ∀ m ∈ ms, MoveOk m) (hn : len ≤ 198) :
    Calls Try.prog 25 #[.slice a len cap] w fun e w' => ∃ a' c', e = .returned (.tuple #[.slice a' len c', .int .i64 0]) ∧ Hid (SRow goneL w' (fun _ => True) a' len c' (kp0.outs ms)) ∧ Below w.heap.size w w' := by
  have HA := Lib.hid ha
  have hle := ha.hle
  have hmx := ha.hmax
  unfold maxLen at hmx
  have hll : Hid (ms.length = len) := ha.1
  have HM := Lib.hid hm
  clear ha hm
  have T0 := Lib.hid (startT w)
  go_enter Try.func25, Try.ntmps25
  go_wp2_with fail
  obtain ⟨B, hB⟩ : ∃ B, Hid (w.heap.size = B) := ⟨_, rfl⟩
  rw [hB.out] at T0 ⊢
  go_loopw [5, 15] (fun ov iv wr => ∃ (i : Nat) (ar : Option Addr) (cr : Nat) (G : Nat → Prop) (t : Thing), i ≤ len ∧ iv = .int .i64 i ∧ ov = .slice ar i cr ∧ Hid (IsKp B B (kp0.fin (ms.take i)) t) ∧ Hid (Turns (thAll []) (thAll [t, thRow goneL B 58 G ar i cr (kp0.outs (ms.take i))]) w wr)) (fun _ iv _ => len - (intOf iv).toNat)
  case atStart => exact ⟨0, none, 0, _, _, by omega, rfl, rfl, ⟨none, 0, 0, [], none, 0, 0, rfl, rfl⟩, T0.out⟩
  case round =>
    obtain ⟨i, ar, cr, G, t, hi, rfl, rfl, hI, hT⟩ := hrel
    by_cases hlt : i < len
    · have HBW : Hid (Below w.heap.size w wr) := hT.out.nilBelow
      obtain ⟨b, off, m, rfl, hb, hmi, c0, c1⟩ := moveAt (HA.out.below HBW.out) i hlt
      have hinv := Kp.Inv.take HM.out i (by have := hll.out; omega)
      have hlim := Lib.hid (hinv.lim (by omega))
      have hMK := Lib.hid (HM.out m (List.mem_of_getElem? hmi))
      have hnow := hinv.now
      have hts := Lib.hid (fin_take_succ kp0 ms i m hmi)
      have hos : Hid (kp0.outs (ms.take (i + 1)) = kp0.outs (ms.take i) ++ [((kp0.fin (ms.take i)).step m).2]) := by
        have h := List.getElem?_eq_some_iff.1 hmi
        show _ = _
        rw [List.take_succ_eq_append_getElem h.1, h.2, outs_snoc]
      obtain ⟨s, hs⟩ : ∃ s, Hid (kp0.fin (ms.take i) = s) := ⟨_, rfl⟩
      rw [hs.out] at hI hlim hnow hts hos
      have HI := Lib.hid hI.out
      obtain ⟨a1, n1, c1', ss, a2, n2, c2, hss, rfl⟩ := hI.out
      have K0 := Lib.hid (hT.out.now.all 0 _ rfl)
      have B0 := Lib.hid (kpBox K0.out)
      have k0 : wr.cell? ⟨B, 0, none⟩ = some (.int .i64 (i : Int)) := by have := B0.out.cell 0; rw [this]; show some (Value.int .i64 s.now) = _; rw [hnow]
      have kf : wr.frozen? ⟨B, 0, none⟩ = false := B0.out.free 0
      have hBl : B < wr.heap.size := B0.out.lt
      have hbB : b ≠ B := by
        have h1 : b < w.heap.size := by
          obtain ⟨b', off', vs, e, _, hb', _⟩ := HA.out.get i hlt
          obtain ⟨rfl, _⟩ : b = b' ∧ off = off' := by simpa using e
          exact hb'
        have := hB.out; omega
      have il : (i : Int) < len := by omega
      have T1 := hT.out.trans (Turns.inside (i := 0) hT.out.now rfl (Turns.kpBox K0.out (Turns.box B0.out 0 (.int .i64 ((i : Int) + 1)))))
      have T2 := T1.stays (Below_alloc1 (.cells #[.int .i64 m.1, .int .i64 m.2] 60))
      obtain ⟨W, hW⟩ : ∃ W, W = (wr.setCell ⟨B, 0, none⟩ (.int .i64 ((i : Int) + 1))).alloc (.cells #[.int .i64 m.1, .int .i64 m.2] 60) := ⟨_, rfl⟩
      have hkeep : (keepV s a1 n1 c1' a2 n2 c2).setIfInBounds 0 (.int .i64 ((i : Int) + 1)) = keepV { s with now := s.now + 1 } a1 n1 c1' a2 n2 c2 := by rw [hnow]; rfl
      rw [← hW] at T2
      have T3 := Lib.hid (show Turns (thAll []) (thAll [thKeep B B { s with now := s.now + 1 } a1 n1 c1' ss a2 n2 c2, thRow goneL B 58 G ar i cr (kp0.outs (ms.take i))]) w W from by
        have h := T2; unfold thKeep; rw [← hkeep]; exact h)
      have hBW : Hid (B ≤ W.heap.size) := by have := T3.out.mv.size; have := hB.out; show _ ≤ _; omega
      have hC := Lib.hid (moveW B B { s with now := s.now + 1 } _ m W ⟨a1, n1, c1', ss, a2, n2, c2, hss, rfl⟩ (T3.out.now.all 0 _ rfl) hlim.out hBW.out ⟨hMK.out.1, hMK.out.2.1⟩ hMK.out.2.2)
      have hcw := Lib.hid (code_wf s m)
      clear T1 T2 hkeep hinv hnow hss
      go_wp2_with fail
      rw [← hW]
      refine hC.out.mono ?_
      rintro e w2 ⟨t', ag, ng, cg, rfl, hI2, hT2⟩
      have T4 := Lib.hid (T3.out.trans (Turns.inside (i := 0) T3.out.now rfl hT2.out))
      have O2 := Lib.hid (show (thOwn (Lay.int .i64) B 3 ag ng cg (s.step m).2.2).holds w2 from hT2.out.now.all 1 _ rfl)
      have hBw2 : B ≤ w2.heap.size := by have := T4.out.mv.size; have := hB.out; omega
      simp only [goneC]
      go_wp2_with (at_builtin; refine wpList_append_R1 (L := goneL) (wr := w2) rfl (.tmp 26) (.tmp 30) 52 rfl B 58 _ 32 Try.underlying52 info_gone rfl G ar i cr _ rfl t' _ T4.out.now (goneC (s.step m).2.1 ag ng cg) (s.step m).2 rfl (gone_at _ hcw.out O2.out) (by unfold maxLen; omega) (by omega) hBw2 ?_; intro a5 c5 w5 G5 T5; have T6 := Lib.hid (T4.out.trans T5))
      go_roundw
      case rel => exact ⟨i + 1, a5, c5, G5, t', by omega, by go_num, rfl, by show IsKp _ _ _ _; rw [hts.out]; exact hI2.out, by show Turns _ _ _ _; rw [hos.out]; exact T6.out⟩
      case measure => (simp [intOf]; try omega)
    · obtain rfl : i = len := by omega
      go_wp2_with fail
      refine bodyPost_ret (results_tmp2 Try.results25 _ _ _) rfl ?_
      have e := List.take_of_length_le (l := ms) (i := i) (by have := hll.out; omega)
      rw [e] at hT
      exact ⟨ar, cr, rfl, SOwn.sRow (hT.out.now.all 1 _ rfl : (thRow goneL B 58 G ar i cr (kp0.outs ms)).holds wr).1, hT.out.nilBelow⟩
end Go.Proofs.Ythjjfmnipemakaa
