/- slices.IndexFunc, slices.Delete and slices.Sort, as package snap calls them. -/
import Derived.Test.YthjjfmnipemakaaKpB
import Derived.Test.YthjjfmnipemakaaKpS
import Derived.Test.YthjjfmnipemakaaOwnStep
import Derived.Laws.OwnMore
import Derived.Laws.IdiomCopy
namespace Go.Proofs.Ythjjfmnipemakaa
open Go.RowKit
set_option linter.unusedVariables false
set_option maxRecDepth 100000

theorem isNum (x : Sh) (num : Int) (g : Nat) (w : World) (hg : w.cell? ⟨g, 0, none⟩ = some (.int .i64 num)) :
    Calls Try.prog 43 #[.agg #[.int .i64 x.1.num, .int .i64 x.1.made, .slice x.2.1 x.2.2.1 x.2.2.2], .pointer (some ⟨g, 0, none⟩)] w fun e w' => e = .returned (.bool (x.1.num == num)) ∧ Below w.heap.size w w' := by
  have hgl : g < w.heap.size := World.block_lt_of_cell? _ _ hg
  go_enter Try.func43, Try.ntmps43
  go_wp2_with fail
  go_ret
  exact ⟨rfl, Below_alloc1 _⟩
def idxOf (ss : List Sh) (num : Int) : Nat := ss.findIdx (fun x => x.1.num == num)
def idxI (ss : List Sh) (num : Int) : Int := if idxOf ss num < ss.length then (idxOf ss num : Int) else -1
theorem idx_hit {ss : List Sh} {num : Int} {i : Nat} {x : Sh} (hx : ss[i]? = some x) (hn : (x.1.num == num) = true) (hb : ∀ j y, j < i → ss[j]? = some y → (y.1.num == num) = false) : idxOf ss num = i := by
  have hi := (List.getElem?_eq_some_iff.1 hx).1
  unfold idxOf
  rw [List.findIdx_eq hi]
  refine ⟨by rw [(List.getElem?_eq_some_iff.1 hx).2]; exact hn, fun j hj => ?_⟩
  exact hb j _ hj (List.getElem?_eq_getElem (by omega))
theorem idx_miss {ss : List Sh} {num : Int} (hb : ∀ j y, j < ss.length → ss[j]? = some y → (y.1.num == num) = false) : idxOf ss num = ss.length := by
  unfold idxOf
  rw [List.findIdx_eq_length]
  intro x hx
  obtain ⟨j, hj⟩ := List.getElem?_of_mem hx
  exact hb j x (List.getElem?_eq_some_iff.1 hj).1 hj
set_option maxHeartbeats 1000000 in
theorem indexFunc (B : Nat) (a : Option Addr) (n c : Nat) (ss : List Sh) (num : Int) (g : Nat) (w : World) (h : (thOwn shL B 106 a n c ss).holds w) (hg : w.cell? ⟨g, 0, none⟩ = some (.int .i64 num)) (hn : n ≤ 100000) :
    Calls Try.prog 42 #[.slice a n c, .func (.func 43) #[] #[.pointer (some ⟨g, 0, none⟩)]] w fun e w' => e = .returned (.int .i64 (idxI ss num)) ∧ Below w.heap.size w w' := by
  have hl : ss.length = n := h.1
  have H := Lib.hid h
  obtain ⟨R, hR⟩ : ∃ R, Hid (idxI ss num = R) := ⟨_, rfl⟩
  rw [hR.out]
  obtain ⟨w0, hw0⟩ : ∃ w0, Hid (w0 = w) := ⟨w, rfl⟩
  have HB : Hid (Below w.heap.size w w) := Below.refl _ _
  have HL := Lib.hid hl
  have HG := Lib.hid hg
  clear h hl hg
  go_enter Try.func42, Try.ntmps42
  go_wp2_with fail
  go_loopw [8] (fun iv wr => ∃ i : Nat, i ≤ n ∧ iv = .int .i64 i ∧ Hid (Below w.heap.size w wr) ∧ Hid (∀ j y, j < i → ss[j]? = some y → (y.1.num == num) = false)) (fun iv _ => n - (intOf iv).toNat)
  case atStart => exact ⟨0, by omega, rfl, HB, fun j y hj => absurd hj (by omega)⟩
  case round =>
    obtain ⟨i, hi, rfl, hbw, hno⟩ := hrel
    by_cases hlt : i < n
    · obtain ⟨ga, x, rfl, hga, hx, y0, y1, y2⟩ := shotAt (Thing.below H.out hbw.out) i hlt
      have hgw : wr.cell? ⟨g, 0, none⟩ = some (.int .i64 num) := (hbw.out.cell (World.block_lt_of_cell? _ _ HG.out)).trans HG.out
      have HX := Lib.hid hx
      have hil : (i : Int) < n := by omega
      clear hx
      cases hq : (x.1.num == num) with
      | true =>
        have e0 := idx_hit HX.out hq hno.out
        have hRi : Hid (R = (i : Int)) := by rw [← hR.out]; unfold idxI; rw [e0, if_pos (by have := HL.out; omega)]; rfl
        go_wp2_with fail
        refine (isNum x num g wr hgw).mono ?_
        rintro e w2 ⟨rfl, hb2⟩
        rw [hq]
        have HB2 := Lib.hid (hbw.out.trans (hb2.mono hbw.out.size))
        go_wp2_with fail
        go_ret
        exact ⟨by rw [hRi.out]; rfl, HB2.out⟩
      | false =>
        go_wp2_with fail
        refine (isNum x num g wr hgw).mono ?_
        rintro e w2 ⟨rfl, hb2⟩
        rw [hq]
        have HB2 := Lib.hid (hbw.out.trans (hb2.mono hbw.out.size))
        go_wp2_with fail
        go_roundw
        case rel =>
          refine ⟨i + 1, by omega, by go_num, HB2, fun j y hj hy => ?_⟩
          by_cases hji : j = i
          · subst hji
            have := HX.out.symm.trans hy
            injection this with this; subst this
            exact hq
          · exact hno.out j y (by omega) hy
        case measure => simp [intOf]; omega
    · obtain rfl : i = n := by omega
      have e0 := idx_miss (ss := ss) (num := num) (fun j y hj hy => hno.out j y (by have := HL.out; omega) hy)
      have hRi : Hid (R = -1) := by rw [← hR.out]; unfold idxI; rw [e0, if_neg (by omega)]; rfl
      go_wp2_with fail
      go_ret
      exact ⟨by rw [hRi.out]; rfl, hbw.out⟩

/-! slices.Delete -/
theorem SOwn.pfx {α : Type} {L : Lay α} {w : World} {B : Nat} {e : TypeId} {G : Nat → Prop} {a : Option Addr} {len cap : Nat} {xs : List α} (h : SOwn L w B e G a len cap xs) (i : Nat) (hi : i ≤ len) (ha : a ≠ none) : SOwn L w B e G a i cap (xs.take i) := by
  obtain ⟨hl, vss, F, ho, hp, hF⟩ := h
  refine ⟨by rw [List.length_take]; omega, vss.take i, F, ?_, hp.take i, fun b hb => ⟨(hF b hb).1, (hF b hb).2.1, fun h' => (hF b hb).2.2 (by cases a <;> simp_all [Value.ownBlock])⟩⟩
  rcases ho.form with ⟨h1, _⟩ | ⟨g, cur, rfl, hB, hg, h1, h2, h3, h4⟩
  · exact absurd h1 ha
  · refine ⟨?_, .inr ⟨g, cap, cur, rfl, hB, hg, by omega, h2, h3, ?_⟩⟩
    · rw [flatten_length L.size _ (fun v hv => hp.sizes v (List.mem_of_mem_take hv)), List.length_take, ← hp.1, hl, Nat.min_eq_left hi]
    · rw [← flatten_take L.size _ hp.sizes, ← h4, List.take_take, Nat.min_eq_left (Nat.mul_le_mul_right _ hi)]
theorem Turns.pfx {α : Type} {L : Lay α} {w : World} {B : Nat} {e : TypeId} {g len cap : Nat} {xs : List α} (h : (thOwn L B e (some ⟨g, 0, none⟩) len cap xs).holds w) (i : Nat) (hi : i ≤ len) :
    Turns (thOwn L B e (some ⟨g, 0, none⟩) len cap xs) (thOwn L B e (some ⟨g, 0, none⟩) i cap (xs.take i)) w w :=
  ⟨SOwn.pfx h i hi (by simp), Mv.refl _ _, fun b hb => .inl hb⟩
theorem run_append_in {α : Type} {L : Lay α} {P : Program} (w : World) (base : Nat) (t ty e : TypeId) (z : Value) (bytes : Nat) (ht : P.underlying t = some (.slice e)) (hi : (P.info? e).map (fun i => (i.zero, i.size, i.bytes)) = some (some z, L.size, bytes))
    (g len cap : Nat) (xs : List α) (hown : (thOwn L base e (some ⟨g, 0, none⟩) len cap xs).holds w)
    (a2 : Addr) (len2 cap2 : Nat) (ys : List α) (uss : List (List Value)) (hrow : VRow w L.size (some a2) len2 cap2 uss.flatten) (hp2 : Pt L w (fun _ => False) ys uss)
    (hl2 : ys.length = len2) (hroom : len + len2 ≤ cap) :
    ∃ w', (Builtin.append_ #[t, t] ty #[.slice (some ⟨g, 0, none⟩) len cap, .slice (some a2) len2 cap2]).run P w = .ok (.slice (some ⟨g, 0, none⟩) (len + len2) cap) w' ∧ Turns (thOwn L base e (some ⟨g, 0, none⟩) len cap xs) (thOwn L base e (some ⟨g, 0, none⟩) (len + len2) cap (xs ++ ys)) w w' := by
  obtain ⟨i, hi0, hz, hsize, hby⟩ := info_parts hi
  obtain ⟨hl, vss, F, ho, hp, hF⟩ := hown
  obtain ⟨w', hr, ho', hg⟩ := run_append_fits (P := P) w base t ty e i L.size ht hi0 hsize g len cap vss.flatten ho a2 len2 cap2 uss.flatten hrow.hlen (by
      intro j u hj
      have hjl : j < uss.flatten.length := (List.getElem?_eq_some_iff.1 hj).1
      rw [hrow.hlen] at hjl
      rcases hrow.hat with h0 | ⟨b, off, hab, hc⟩
      · omega
      · obtain rfl : a2 = ⟨b, off, none⟩ := by simpa using hab
        have : (⟨b, off, none⟩ : Addr).add j = ⟨b, off + j, none⟩ := by unfold Addr.add; split <;> simp_all
        rw [this, hc j hjl, hj]) hp2.one hroom
  refine ⟨w', hr, ⟨⟨by rw [List.length_append, hl, hl2], vss ++ uss, fun _ => False, by rw [List.flatten_append]; exact ho', ?_, fun b hb => hb.elim⟩, Mv.grown hg (fun g' hg' => hg'), fun b hb => .inl hb⟩⟩
  exact (hp.keep (fun b hb => (hF b hb).1) (fun b hb hlt => ((hF b hb).1).elim)).append (hp2.keep (fun b hb => hb) (fun b hb => hb.elim))
theorem step_append_in {α : Type} {L : Lay α} {P : Program} {w : World} {ops : Array Oper} {o : Oper} {act : Act} {K : Act → World → Prop} {Q : Exit → Act → World → Prop} {E : Prop} (hgd : o.guard = none) (s x : Operand) (t : TypeId)
    (ho : o.op = .call { callee := .builtin .append, args := #[s, x], argTypes := #[t, t] })
    (base : Nat) (e : TypeId) (z : Value) (bytes : Nat) (ht : P.underlying t = some (.slice e)) (hi : (P.info? e).map (fun i => (i.zero, i.size, i.bytes)) = some (some z, L.size, bytes))
    (g len cap : Nat) (xs : List α) (hs : act.eval s = .slice (some ⟨g, 0, none⟩) len cap) (hown : (thOwn L base e (some ⟨g, 0, none⟩) len cap xs).holds w)
    (a2 : Addr) (len2 cap2 : Nat) (ys : List α) (uss : List (List Value)) (hx : act.eval x = .slice (some a2) len2 cap2) (hrow : VRow w L.size (some a2) len2 cap2 uss.flatten) (hp2 : Pt L w (fun _ => False) ys uss)
    (hl2 : ys.length = len2) (hroom : len + len2 ≤ cap) (m : Nat) (hm : len + len2 = m) (zs : List α) (hz : xs ++ ys = zs)
    (h : ∀ w', Turns (thOwn L base e (some ⟨g, 0, none⟩) len cap xs) (thOwn L base e (some ⟨g, 0, none⟩) m cap zs) w w' → K (act.put o.dst (.slice (some ⟨g, 0, none⟩) m cap)) w') :
    if Region.wanted o (yielded ops act.tmps) = true then Oper.wp P o act w K Q else E := by
  subst hm hz
  have hw : Region.wanted o (yielded ops act.tmps) = true := by simp [Region.wanted, hgd]
  rw [if_pos hw]
  obtain ⟨w', hrun, r1⟩ := run_append_in (P := P) w base t o.type e z bytes ht hi g len cap xs hown a2 len2 cap2 ys uss hrow hp2 hl2 hroom
  unfold Oper.wp execOp
  simp only [ho, resolve, invoke, builtin, Sem.run_bind, Sem.run_pure, Result.andThen_ok, List.map_toArray, List.map_cons, List.map_nil, hs, hx, hrun]
  exact h w' r1
/-- A cell behind the length is stored. -/
theorem thOwn.beyond {α : Type} {L : Lay α} {w : World} {B : Nat} {e : TypeId} {g len cap : Nat} {xs : List α} (h : (thOwn L B e (some ⟨g, 0, none⟩) len cap xs).holds w) (j : Nat) (v : Value) (hj : len * L.size ≤ j) :
    (thOwn L B e (some ⟨g, 0, none⟩) len cap xs).holds (w.setCell ⟨g, j, none⟩ v) := by
  obtain ⟨hl, vss, F, ho, hp, hF⟩ := h
  refine ⟨hl, vss, F, ?_, hp.keep (fun b hb => hb) (fun b hb hlt => ((hF b hb).1).elim), fun b hb => ((hF b hb).1).elim⟩
  rcases ho.form with ⟨h1, _⟩ | ⟨g', cur, hg', hB, hg, h1, h2, h3, h4⟩
  · cases h1
  · obtain rfl : g = g' := by simpa using hg'
    have hb := Box.set (show Box w g cur e from hg) j v
    refine ⟨ho.1, .inr ⟨g, cap, _, rfl, hB, hb, h1, h2, by simpa using h3, ?_⟩⟩
    rw [Array.toList_setIfInBounds, List.take_set_of_le (by omega)]
    exact h4
theorem thOwn.beyonds {α : Type} {L : Lay α} {B : Nat} {e : TypeId} {g len cap : Nat} {xs : List α} : ∀ (vs : List Value) (j : Nat) (w : World), (thOwn L B e (some ⟨g, 0, none⟩) len cap xs).holds w → len * L.size ≤ j →
    (thOwn L B e (some ⟨g, 0, none⟩) len cap xs).holds (w.setCells g j vs)
  | [], j, w, h, _ => h
  | v :: vs, j, w, h, hj => thOwn.beyonds vs (j + 1) _ (thOwn.beyond h j v hj) (by omega)
theorem Mv.setCells {S : Nat → Prop} {g : Nat} (hS : S g) : ∀ (vs : List Value) (j : Nat) (w : World), Mv S w (w.setCells g j vs)
  | [], j, w => Mv.refl _ _
  | v :: vs, j, w => (Mv.setCell v hS).trans (Mv.setCells hS vs (j + 1) _)
theorem Turns.beyond {α : Type} {L : Lay α} {B : Nat} {e : TypeId} {g len cap : Nat} {xs : List α} {w : World} (h : (thOwn L B e (some ⟨g, 0, none⟩) len cap xs).holds w) (j : Nat) (vs : List Value) (hj : len * L.size ≤ j) :
    Turns (thOwn L B e (some ⟨g, 0, none⟩) len cap xs) (thOwn L B e (some ⟨g, 0, none⟩) len cap xs) w (w.setCells g j vs) :=
  ⟨thOwn.beyonds vs j w h hj, Mv.setCells (S := (thOwn L B e (some ⟨g, 0, none⟩) len cap xs).foot) (g := g) rfl vs j w, fun b hb => .inl hb⟩
/-- 'clear' of a piece of one element. -/
theorem wpList_clear1 {P : Program} {w : World} {ops : Array Oper} {rest : List Oper} {o : Oper} {act : Act} {Q : Exit → Act → World → Prop} (hgd : o.guard = none) (x : Operand) (t : TypeId)
    (ho : o.op = .call { callee := .builtin .clear, args := #[x], argTypes := #[t] }) (e : TypeId) (z : Value) (ht : P.underlying t = some (.slice e)) (hv : ∀ w, (zeroValue e).run P w = .ok z w) (h1 : ∀ v ∈ z.cells.toList, v.oneCell' = true)
    (g j c : Nat) (hx : act.eval x = .slice (some ⟨g, j, none⟩) 1 c) (hc : ∀ i, i < z.cells.toList.length → (w.cell? ⟨g, j + i, none⟩).isSome = true) (hf : ∀ i, i < z.cells.toList.length → w.frozen? ⟨g, j + i, none⟩ = false)
    (h : wpList P ops Q rest (act.put o.dst (.tuple #[])) (w.setCells g j z.cells.toList)) : wpList P ops Q (o :: rest) act w := by
  refine wpList_plain hgd fun K hK => ?_
  have hst := run_storeCells_cells (P := P) g j z.cells.toList 0 w (by simpa using hc) (by simpa using hf) h1
  have hz : (Builtin.zeroCells z.cells 1).toList = z.cells.toList := by
    apply List.ext_getElem
    · simp [Builtin.zeroCells]
    · intro i h1 h2
      simp [Builtin.zeroCells, Nat.mod_eq_of_lt (show i < z.cells.size by simpa using h2)]
      exact getElem!_pos z.cells i (by simpa using h2)
  simp only [Nat.add_zero] at hst
  have hrun : (Builtin.clear_ #[t] o.type #[.slice (some ⟨g, j, none⟩) 1 c]).run P w = .ok (.tuple #[]) (w.setCells g j z.cells.toList) := by
    simp [Builtin.clear_, run_underlying ht, hv, hz, hst]
  unfold Oper.wp execOp
  simp only [ho, resolve, invoke, builtin, Sem.run_bind, Sem.run_pure, Result.andThen_ok, List.map_toArray, List.map_cons, List.map_nil, hx, hrun]
  exact hK _ _ h
theorem thOwn.room {α : Type} {L : Lay α} {w : World} {B : Nat} {e : TypeId} {g len cap : Nat} {xs : List α} (h : (thOwn L B e (some ⟨g, 0, none⟩) len cap xs).holds w) (j : Nat) (hj : j < cap * L.size) : (w.cell? ⟨g, j, none⟩).isSome = true := by
  obtain ⟨hl, vss, F, ho, hp, hF⟩ := h
  rcases ho.form with ⟨h1, _⟩ | ⟨g', cur, hg', hB, hg, h1, h2, h3, h4⟩
  · cases h1
  · obtain rfl : g = g' := by simpa using hg'
    rw [cell_of_row w g j cur e (0, 0) hg, Array.getElem?_eq_getElem (by omega)]; rfl
theorem zero_shot (w : World) : (zeroValue 106).run Try.prog w = .ok (.agg #[.int .i64 0, .int .i64 0, .slice none 0 0]) w := Try.zeroValue106 w
set_option maxHeartbeats 2000000 in
theorem delShot (B : Nat) (g k c : Nat) (ss : List Sh) (i : Nat) (w : World) (h : (thOwn shL B 106 (some ⟨g, 0, none⟩) (k + 1) c ss).holds w) (hi : i < k + 1) (hn : k ≤ 100000) :
    Calls Try.prog 44 #[.slice (some ⟨g, 0, none⟩) (k + 1) c, .int .i64 i, .int .i64 ((i : Int) + 1)] w fun e w' =>
      e = .returned (.slice (some ⟨g, 0, none⟩) k c) ∧ Turns (thOwn shL B 106 (some ⟨g, 0, none⟩) (k + 1) c ss) (thOwn shL B 106 (some ⟨g, 0, none⟩) k c (ss.eraseIdx i)) w w' := by
  have hle : k + 1 ≤ c := (SOwn.sRow h).hle
  have hmx : c ≤ maxLen := (SOwn.sRow h).hmax
  unfold maxLen at hmx
  have hl : ss.length = k + 1 := h.1
  have H := Lib.hid h
  clear h
  obtain ⟨uss, F, hv, hp, hpl, hF⟩ := SOwn.piece H.out (i + 1) (k + 1) (by omega) (Nat.le_refl _)
  have bd : Below w.heap.size w w.drew := below_drewN (Below.refl _ _) 1
  have HP : Hid (Pt shL w.drew (fun _ => False) ((ss.drop (i + 1)).take (k + 1 - (i + 1))) uss) := hp.keep (fun b hb => (hF b hb).1) (fun b hb hlt => ((hF b hb).1).elim)
  have T0 := Lib.hid ((Turns.still H.out bd).trans (Turns.pfx (Thing.below H.out bd) i (by omega)))
  have hers : ss.take i ++ (ss.drop (i + 1)).take (k + 1 - (i + 1)) = ss.eraseIdx i := by
    rw [List.eraseIdx_eq_take_drop_succ, List.take_of_length_le (l := ss.drop (i + 1)) (by rw [List.length_drop]; omega)]
  have HE := Lib.hid hers
  have HPL := Lib.hid hpl
  have k1 : (i : Int) ≤ (k : Int) + 1 := by omega
  have k2 : (i : Int) + 1 ≤ (k : Int) + 1 := by omega
  have k3 : (k : Int) + 1 ≤ c := by omega
  have k4 : (i : Int) ≤ c := by omega
  have k6 : (0 : Int) ≤ (i : Int) + 1 := by omega
  have k7 : (k : Int) ≤ (k : Int) + 1 := by omega
  have k8 : k < c := by omega
  have hsz : g < w.heap.size := by exact (World.ownsRow.lt H.out.2.choose_spec.choose_spec.1 g rfl).2
  by_cases hc : c = i + 1
  · obtain rfl : k = i := by omega
    subst hc
    clear hv hp hpl hF hers bd HP
    go_enter Try.func44, Try.ntmps44
    go_wp2_with fail
    go_region_law (refine step_append_in (L := shL) rfl (.tmp 22) (.tmp 25) 91 rfl B 106 _ 40 Try.underlying91 info_shot g k (k + 1) (ss.take k) rfl T0.out.now ⟨g, 0, none⟩ 0 0 [] [] rfl (VRow.empty _ _ (by unfold maxLen; omega) (fun h => by cases h)) (Pt.nil ..) rfl (by omega) k rfl (ss.eraseIdx k) (by have := HE.out; simpa using this) ?_; intro w5 T5; have T6 := Lib.hid (T0.out.trans T5); clear T5)
    all_goals
      have hcap : ∀ i, i < 3 → (w5.cell? ⟨g, k * 3 + i, none⟩).isSome = true := fun i hi => thOwn.room T6.out.now _ (show k * 3 + i < _ * 3 by omega)
      have hfz : ∀ i, i < 3 → w5.frozen? ⟨g, k * 3 + i, none⟩ = false := fun i hi => frozen_own T6.out.now _
      have HC5 := Lib.hid hcap
      have HF5 := Lib.hid hfz
      clear hcap hfz
      go_wp2_with (refine wpList_clear1 rfl (.tmp 31) 91 rfl 106 (.agg #[.int .i64 0, .int .i64 0, .slice none 0 0]) Try.underlying91 zero_shot (by intro v hv; simp [Value.cells] at hv; rcases hv with rfl | rfl | rfl <;> rfl) g (k * 3) _ rfl HC5.out HF5.out ?_)
      go_ret
      exact ⟨rfl, T6.out.trans (Turns.beyond T6.out.now (k * 3) _ (Nat.le_refl _))⟩
  · have hv' : VRow w shL.size (some ⟨g, (i + 1) * 3, none⟩) (k + 1 - (i + 1)) (c - (i + 1)) uss.flatten := by
      rw [if_neg hc] at hv; have hadd : (⟨g, 0, none⟩ : Addr).add ((i + 1) * 3) = ⟨g, (i + 1) * 3, none⟩ := by unfold Addr.add; split <;> simp_all
      rw [← hadd]; exact hv
    have HV := Lib.hid (hv'.below bd)
    clear hv hv' hp hpl hF hers bd
    go_enter Try.func44, Try.ntmps44
    go_wp2_with fail
    go_region_law (refine step_append_in (L := shL) rfl (.tmp 22) (.tmp 25) 91 rfl B 106 _ 40 Try.underlying91 info_shot g i c (ss.take i) rfl T0.out.now ⟨g, (i + 1) * 3, none⟩ (k + 1 - (i + 1)) (c - (i + 1)) _ uss (by first | rfl | (simp [Act.eval]; done) | (simp [Act.eval, Act.put])) HV.out HP.out HPL.out (by omega) k (by omega) (ss.eraseIdx i) HE.out ?_; intro w5 T5; have T6 := Lib.hid (T0.out.trans T5); clear T5)
    all_goals
      have hcap : ∀ i, i < 3 → (w5.cell? ⟨g, k * 3 + i, none⟩).isSome = true := fun i hi => thOwn.room T6.out.now _ (show k * 3 + i < _ * 3 by omega)
      have hfz : ∀ i, i < 3 → w5.frozen? ⟨g, k * 3 + i, none⟩ = false := fun i hi => frozen_own T6.out.now _
      have HC5 := Lib.hid hcap
      have HF5 := Lib.hid hfz
      clear hcap hfz
      go_wp2_with (refine wpList_clear1 rfl (.tmp 31) 91 rfl 106 (.agg #[.int .i64 0, .int .i64 0, .slice none 0 0]) Try.underlying91 zero_shot (by intro v hv; simp [Value.cells] at hv; rcases hv with rfl | rfl | rfl <;> rfl) g (k * 3) _ rfl HC5.out HF5.out ?_)
      go_ret
      exact ⟨rfl, T6.out.trans (Turns.beyond T6.out.now (k * 3) _ (Nat.le_refl _))⟩
end Go.Proofs.Ythjjfmnipemakaa
