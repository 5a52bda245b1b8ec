/- The walk of drop. -/
import Derived.Test.YthjjfmnipemakaaKpC
import Derived.Deep.RegionLaw
import Derived.Deep.CutBlock
import Derived.Deep.DeepCutAuto
namespace Go.Proofs.Ythjjfmnipemakaa
open Go.RowKit Go.Sort
set_option linter.unusedVariables false
set_option maxRecDepth 100000

/-! slices.Sort -/
theorem intV {k : IntKind} {w : World} {F : Nat → Prop} {xs : List Int} {vss : List (List Value)} (h : Pt (Lay.int k) w F xs vss) : vss = xs.map fun x => [Value.int k x] := by
  apply List.ext_getElem?
  intro i
  by_cases hi : i < xs.length
  · have hi' : i < vss.length := by rw [← h.1]; exact hi
    have := h.2 i _ _ (List.getElem?_eq_getElem hi) (List.getElem?_eq_getElem hi')
    rw [List.getElem?_eq_getElem hi', this.1, List.getElem?_map, List.getElem?_eq_getElem hi]; rfl
  · rw [List.getElem?_eq_none (by have := h.1; omega), List.getElem?_eq_none (by rw [List.length_map]; omega)]
theorem heap_sortedI {w : World} {g n : Nat} {os : Array Obj} {cur : Array Value} {e : TypeId} {fr : Nat × Nat} (d : Array Int) (hb : w.heap[g]? = some (.cells cur e fr)) :
    (grow (putRow (Value.int .i64) (Sort.ahead w n) g 0 d) os).heap[g]? = some (.cells (putCells (Value.int .i64) 0 d cur) e fr) := by
  have hg : g < w.heap.size := (Array.getElem?_eq_some_iff.1 hb).1
  rw [heap_grow_old _ _ (by simpa using hg)]
  simp [putRow, mapBlock, Sort.ahead, Array.getElem?_modify, hb, onCells]
theorem grownBy_sortedI {w : World} {g n : Nat} {os : Array Obj} (d : Array Int) : w.grownBy (grow (putRow (Value.int .i64) (Sort.ahead w n) g 0 d) os) (some g) := by
  refine ⟨rfl, rfl, rfl, by simp, fun k hk hne => ?_⟩
  rw [heap_grow_old _ _ (by simpa using hk)]
  have : g ≠ k := fun e => hne (by rw [e])
  simp [putRow, mapBlock, Sort.ahead, Array.getElem?_modify, this]
theorem take_putCellsI (cur : Array Value) (d : Array Int) (h : d.size ≤ cur.size) : (putCells (Value.int .i64) 0 d cur).toList.take d.size = d.toList.map (Value.int .i64) := by
  apply List.ext_getElem?
  intro j
  by_cases hj : j < d.size
  · rw [List.getElem?_take_of_lt hj, Array.getElem?_toList]
    simp [putCells, hj, show j < cur.size by omega]
  · rw [List.getElem?_take_eq_none (by omega), List.getElem?_eq_none (by simp; omega)]
theorem sortW (B : Nat) (a : Option Addr) (n c : Nat) (xs : List Int) (w : World) (h : (thOwn (Lay.int .i64) B 3 a n c xs).holds w) (hn : n ≤ 1000000) :
    Calls Try.prog 45 #[.slice a n c] w fun e w' => e = .returned (.tuple #[]) ∧ Turns (thOwn (Lay.int .i64) B 3 a n c xs) (thOwn (Lay.int .i64) B 3 a n c (sortI xs)) w w' := by
  have hR := SOwn.ints h
  obtain ⟨hl, vss, F, ho, hp, hF⟩ := h
  have hv := intV hp
  subst hv
  by_cases h0 : n = 0
  · subst h0
    have hS := Any.slices_Sort_int_none laidSortI a c w
    change Calls Try.prog 45 _ _ _ at hS
    refine hS.mono ?_
    rintro e w' ⟨rfl, rfl⟩
    obtain rfl : xs = [] := List.eq_nil_of_length_eq_zero hl
    have e0 : sortI [] = [] := by simp [sortI]
    rw [e0]
    exact ⟨rfl, Turns.refl (t := thOwn (Lay.int .i64) B 3 a 0 c []) ⟨rfl, [], F, ho, Pt.nil .., hF⟩⟩
  · rcases ho.form with ⟨h1, h2, _⟩ | ⟨g, cur, rfl, hB, hg, h1, h2, h3, h4⟩
    · omega
    · have hgl : g < w.heap.size := (Array.getElem?_eq_some_iff.1 hg).1
      have hH : Holds (Value.int .i64) w g 0 xs.toArray := by
        intro j hj
        have hj' : j < xs.length := by simpa using hj
        rcases hR.hat with h0' | ⟨b, off, hb, hc⟩
        · omega
        · obtain ⟨rfl, rfl⟩ : g = b ∧ 0 = off := by simpa using hb
          refine ⟨?_, World.ownsRow.frozenAt ho _⟩
          rw [hc j (by omega)]
          simp [List.getD, hj']
      have hlx : xs.length < 4611686018427387904 := by omega
      subst hl
      have hS := Any.slices_Sort_int laidSortI g 0 c xs w hH hgl hlx
      change Calls Try.prog 45 _ _ _ at hS
      refine hS.mono ?_
      rintro e w' ⟨rfl, n', os, rfl⟩
      have hml : (sortI xs).length = xs.length := by unfold sortI; exact List.length_mergeSort _
      refine ⟨rfl, ⟨hml, (sortI xs).map (fun x => [Value.int .i64 x]), fun _ => False, ⟨?_, .inr ⟨g, c, _, rfl, hB, heap_sortedI _ hg, h1, h2, by simp [putCells]; simpa using h3, ?_⟩⟩, ?_, fun b hb => hb.elim⟩, Mv.grown (grownBy_sortedI _) (fun g' hg' => hg'), fun b hb => .inl hb⟩
      · rw [flatten_ints, List.length_map, hml]; show _ = xs.length * 1; omega
      · rw [flatten_ints]
        have := take_putCellsI cur (sortI xs).toArray (by simp only [List.size_toArray, hml]; have h3' : cur.size = c * 1 := h3; omega)
        simp only [List.size_toArray, hml] at this
        show List.take (xs.length * 1) _ = _
        rw [Nat.mul_one]
        exact this
      · refine Pt.ints (fun x hx => hR.hwf x ?_)
        unfold sortI at hx
        exact (List.mem_mergeSort).1 hx

/-! The dead are dealt out. -/
theorem rest_step (s : Kp) (i : Nat) (D : List Int) (j : Nat) (b : Int) (h : D[j]? = some b) : s.rest i (D.take (j + 1)) = s.rest i (D.take j) ++ (if s.younger i b then [] else [b]) := by
  have hj := (List.getElem?_eq_some_iff.1 h)
  rw [List.take_succ_eq_append_getElem hj.1, hj.2]
  unfold Kp.rest
  rw [List.filter_append]
  cases hq : s.younger i b <;> simp [hq]
theorem gone_step (s : Kp) (i : Nat) (D : List Int) (j : Nat) (b : Int) (h : D[j]? = some b) : s.gone i (D.take (j + 1)) = s.gone i (D.take j) ++ (if s.younger i b then [b] else []) := by
  have hj := (List.getElem?_eq_some_iff.1 h)
  rw [List.take_succ_eq_append_getElem hj.1, hj.2]
  unfold Kp.gone
  rw [List.filter_append]
  cases hq : s.younger i b <;> simp [hq]
def Kp.mid (s : Kp) (i : Nat) (l : List Int) : List Shot := if 0 < i then s.dealt i l else s.shots
theorem mid_nil (s : Kp) (i : Nat) (hi : i < s.shots.length) : s.mid i [] = s.shots := by
  unfold Kp.mid
  split
  · unfold Kp.dealt Kp.rest
    rw [List.filter_nil, List.append_nil]
    apply List.ext_getElem?
    intro m
    rw [List.getElem?_set]
    split
    · rename_i e; subst e
      rw [if_pos (by omega)]
      simp [List.getD, show i - 1 < s.shots.length by omega]
    · rfl
  · rfl
theorem mid_same (s : Kp) (i : Nat) (D : List Int) (j : Nat) (b : Int) (h : D[j]? = some b) (hy : s.younger i b = true) : s.mid i (D.take (j + 1)) = s.mid i (D.take j) := by
  unfold Kp.mid Kp.dealt
  rw [rest_step s i D j b h, if_pos hy, List.append_nil]
theorem mid_step (s : Kp) (p : Nat) (D : List Int) (j : Nat) (b : Int) (h : D[j]? = some b) (hp : p + 1 < s.shots.length) (hy : s.younger (p + 1) b = false) (y : Shot) (hy2 : (s.mid (p + 1) (D.take j))[p]? = some y) :
    s.mid (p + 1) (D.take (j + 1)) = (s.mid (p + 1) (D.take j)).set p { y with dead := y.dead ++ [b] } := by
  unfold Kp.mid Kp.dealt at *
  rw [if_pos (by omega)] at hy2 ⊢
  simp only [Nat.add_sub_cancel] at hy2 ⊢
  rw [List.getElem?_set, if_pos rfl, if_pos (by omega)] at hy2
  injection hy2 with hy2
  subst hy2
  rw [rest_step s (p + 1) D j b h, if_neg (by simp [hy]), if_pos (by omega), List.set_set, List.append_assoc]
theorem at_idx {s : Kp} {ss : List Sh} (h : ss.map (·.1) = s.shots) (num : Int) : idxOf ss num = s.at_ num := by
  unfold idxOf Kp.at_
  rw [← h, List.findIdx_map]; rfl
theorem map_erase {α β : Type} (f : α → β) : ∀ (l : List α) (i : Nat), (l.eraseIdx i).map f = (l.map f).eraseIdx i
  | [], i => by simp
  | x :: l, 0 => by simp
  | x :: l, i + 1 => by simp [map_erase f l i]
theorem Turns.lose {u t : Thing} {w : World} (h : (thAll [u, t]).holds w) : Turns (thAll [u, t]) t w w :=
  ⟨Apt.all h 1 _ rfl, Mv.refl _ _, fun b hb => .inl ⟨t, List.mem_cons_of_mem _ (List.mem_cons_self ..), hb⟩⟩
theorem Turns.third {t u t1 x y : Thing} {w W W' : World} (h : Turns t (thAll [u, t1, x]) w W) (k : Turns x y W W') : Turns t (thAll [u, t1, y]) w W' :=
  h.trans (Turns.inside (i := 2) h.now rfl k)
theorem Turns.erased {B : Nat} {ds : List Sh} {w : World} (h : Apt (ds.map (thDead B)) w) (i : Nat) : Turns (thAll (ds.map (thDead B))) (thAll ((ds.eraseIdx i).map (thDead B))) w w := by
  refine Turns.by h (fun j => if j < i then j else j + 1) (fun a b e _ _ => ?_) (fun j t hj => ?_)
  · have e' : (if a < i then a else a + 1) = (if b < i then b else b + 1) := e
    split at e' <;> split at e' <;> omega
  · rw [List.getElem?_map, List.getElem?_eraseIdx] at hj
    rw [List.getElem?_map]
    split at hj
    · rename_i hji; rw [if_pos hji]; exact hj
    · rename_i hji; rw [if_neg hji]; exact hj
theorem deadAt {B : Nat} {a : Option Addr} {n c : Nat} {D : List Int} {w : World} (h : (thOwn (Lay.int .i64) B 3 a n c D).holds w) (j : Nat) (hj : j < n) : ∃ g b, a = some ⟨g, 0, none⟩ ∧ g < w.heap.size ∧ D[j]? = some b ∧ w.cell? ⟨g, j, none⟩ = some (.int .i64 b) := by
  obtain ⟨g, vs, ha, hB, hg, ⟨x, hx, hv⟩, hc⟩ := SOwn.get h j hj
  refine ⟨g, x, ha, hg, hx, ?_⟩
  have := hc 0 (by decide)
  have e : vs = [.int .i64 x] := hv.1
  subst e
  have e2 : j * (Lay.int .i64).size + 0 = j := by show j * 1 + 0 = j; omega
  rw [e2] at this
  exact this
set_option maxHeartbeats 8000000 in
theorem drop (B k : Nat) (s : Kp) (t : Thing) (num : Int) (w : World) (ht : IsKp B k s t) (hw : t.holds w) (hl : s.Lim) (hB : B ≤ w.heap.size) :
    Calls Try.prog 37 #[.pointer (some ⟨k, 0, none⟩), .int .i64 num] w fun e w' =>
      ∃ t' a n c, e = .returned (.agg (goneC (s.drop num).2.1 a n c)) ∧ Hid (IsKp B k (s.drop num).1 t') ∧ Hid (Turns t (thAll [t', thOwn (Lay.int .i64) B 3 a n c (s.drop num).2.2]) w w') := by
  have HT := Lib.hid ht
  obtain ⟨a1, n1, c1, ss, a2, n2, c2, hss, rfl⟩ := ht
  have KS := Lib.hid (kpShots hw)
  have hn2 : ss.length = n2 := KS.out.1
  have hn1 : s.blocks.length = n1 := (kpBlocks hw).1
  have hss' : ss.length = s.shots.length := by rw [← hss, List.length_map]
  have T1 := Turns.boxed hw #[.int .i64 num] 3
  have T2 := T1.trans (Turns.boxed T1.now (goneC 0 none 0 0) 58)
  have hsz : (w.alloc (.cells #[.int .i64 num] 3)).heap.size = w.heap.size + 1 := by simp
  rw [hsz] at T2
  have e0 : ((w.alloc (.cells #[.int .i64 num] 3)).alloc (.cells (goneC 0 none 0 0) 58)).cell? ⟨w.heap.size, 0, none⟩ = some (.int .i64 num) :=
    (Box.alloc (Box.new (w := w) (vs := #[.int .i64 num]) (t := 3) rfl) (.cells (goneC 0 none 0 0) 58)).cell 0
  have T3 := Lib.hid (T2.next (Turns.lose (T2.now.all 1 _ rfl)))
  have E0 := Lib.hid e0
  obtain ⟨W, hW⟩ : ∃ W, W = (w.alloc (.cells #[.int .i64 num] 3)).alloc (.cells (goneC 0 none 0 0) 58) := ⟨_, rfl⟩
  obtain ⟨r, hr⟩ : ∃ r, Hid (w.heap.size + 1 = r) := ⟨_, rfl⟩
  rw [← hW, hr.out] at T3
  rw [← hW] at E0
  have k2 : w.cell? ⟨k, 2, none⟩ = some (.slice a2 n2 c2) := (kpBox hw).cell 2
  have hkl : k < w.heap.size := (kpBox hw).lt
  have HB := Lib.hid hB
  have HL := Lib.hid hl
  have n2b := hl.sl
  have HN1 := Lib.hid hn1
  have HN2 := Lib.hid hn2
  have HSS := Lib.hid hss
  have n2c : n2 ≤ 1000 := by omega
  have hidx := Lib.hid (indexFunc B a2 n2 c2 ss num w.heap.size W (kpShots (T3.out.now.all 1 _ rfl)) E0.out (by omega))
  have hat := Lib.hid (at_idx hss num)
  clear hw hB hl T1 T2 hsz e0 E0 hss hn1
  obtain ⟨i, hi⟩ : ∃ i, Hid (idxOf ss num = i) := ⟨_, rfl⟩
  have hati : Hid (s.at_ num = i) := hat.out.symm.trans hi.out
  by_cases hin : i < n2
  · have hII : idxI ss num = i := by unfold idxI; rw [hi.out, if_pos (by omega)]
    rw [hII] at hidx
    obtain ⟨x, hx⟩ : ∃ x, Hid (ss[i]? = some x) := ⟨_, List.getElem?_eq_getElem (by omega)⟩
    obtain ⟨⟨xnum, xmade, D⟩, da, dn, dc⟩ := x
    have hsx : s.shots[i]? = some ⟨xnum, xmade, D⟩ := by rw [← HSS.out, List.getElem?_map, hx.out]; rfl
    have hsD : s.shots.getD i shot0 = ⟨xnum, xmade, D⟩ := by simp [List.getD, hsx]
    have hmem : (⟨xnum, xmade, D⟩ : Shot) ∈ s.shots := List.mem_of_getElem? hsx
    have hDl : D.length ≤ 100000 := HL.out.dl _ hmem
    have hDv := Lib.hid (HL.out.dv _ hmem)
    have hdn : Hid (D.length = dn) := (Apt.all (kpDeads (T3.out.now.all 1 _ rfl)) i _ (by rw [List.getElem?_map, hx.out]; rfl) : (thDead B (⟨xnum, xmade, D⟩, da, dn, dc)).holds W).1
    have hdn2 : dn ≤ 100000 := by have := hdn.out; omega
    obtain ⟨s2, hs2⟩ : ∃ s2, Hid (({ s with shots := (s.mid i D).eraseIdx i } : Kp) = s2) := ⟨{ s with shots := (s.mid i D).eraseIdx i }, (rfl : _ = _)⟩
    have hdrop : Hid (s.drop num = (s2, 0, sortI (s.gone i D))) := by
      show _ = _
      unfold Kp.drop
      simp only [hati.out, hsD]
      rw [if_neg (by omega), ← hs2.out]; rfl
    rw [hdrop.out]
    have hmid0 := Lib.hid (mid_nil s i (by omega))
    have hil : i ≤ 1000 := by omega
    have w1 : IntKind.i64.wrap ((i : Int) + 1) = (i : Int) + 1 := IntWalk.i64_in _ (by omega)
    have T4 : Hid (Turns (thKeep B k s a1 n1 c1 ss a2 n2 c2) (thAll [thBox r (goneC 0 none 0 0) 58, thKeep B k s a1 n1 c1 ss a2 n2 c2, thOwn (Lay.int .i64) B 3 none 0 0 []]) w W) :=
      Turns.fresh T3.out (Below.refl _ _) (SOwn.nil ..) (fun b hb => by cases hb)
    clear hII hsx hsD hmem hDl hss' hdrop T3 hat n2b
    obtain rfl | ⟨p, rfl⟩ : i = 0 ∨ ∃ p, i = p + 1 := by
      cases i with
      | zero => exact .inl rfl
      | succ p => exact .inr ⟨p, rfl⟩
    · have hah : Hid (s.ahead 0 = -1) := rfl
      obtain ⟨kk, rfl⟩ : ∃ kk, n2 = kk + 1 := ⟨n2 - 1, by omega⟩
      obtain ⟨g2, x2, rfl, hg2, _, _, _, _⟩ := shotAt KS.out 0 hin
      obtain ⟨A, hA⟩ : ∃ A, Hid (s.ahead 0 = A) := ⟨_, rfl⟩
      go_enter Try.func37, Try.ntmps37
      go_wp2_with fail
      unfold goneC at hW
      rw [← hW]
      refine hidx.out.mono ?_
      rintro e w1 ⟨rfl, hb1⟩
      have T5 := Lib.hid (T4.out.stays hb1)
      have hr1 : w.heap.size + 1 = r := hr.out
      simp only [hr1]
      obtain ⟨nb, hnb⟩ : ∃ nb, Hid (w.heap.size = nb) := ⟨_, rfl⟩
      rw [hnb.out]
      have K5 := Lib.hid (T5.out.now.all 1 _ rfl)
      have k2' : w1.cell? ⟨k, 2, none⟩ = some (.slice (some ⟨g2, 0, none⟩) (kk + 1) c2) := (kpBox K5.out).cell 2
      have y2 : w1.cell? ⟨g2, 0 * 3 + 2, none⟩ = some (.slice da dn dc) := shotCell (kpShots K5.out) 0 hx.out
      simp only [Nat.zero_mul, Nat.zero_add] at y2
      have hBw : Hid (B ≤ w1.heap.size) := by have := HB.out; have := T5.out.mv.size; show _ ≤ _; omega
      have hA1 : A = -1 := by rw [← hA.out]; exact hah.out
      subst hA1
      clear hW hidx T4 k2 hb1
      go_wp2_with fail
      go_loopw [7, 39] (fun gv iv wr => ∃ (j : Nat) (ag : Option Addr) (ng cg : Nat) (ssj : List Sh), j ≤ dn ∧ iv = .int .i64 j ∧ gv = .slice ag ng cg ∧ Hid (ssj.map (·.1) = s.mid 0 (D.take j)) ∧ Hid (ssj[0]? = some (⟨xnum, xmade, D⟩, da, dn, dc)) ∧ Hid (Turns (thKeep B k s a1 n1 c1 ss (some ⟨g2, 0, none⟩) (kk + 1) c2) (thAll [thBox r (goneC 0 none 0 0) 58, thKeep B k s a1 n1 c1 ssj (some ⟨g2, 0, none⟩) (kk + 1) c2, thOwn (Lay.int .i64) B 3 ag ng cg (s.gone 0 (D.take j))]) w wr)) (fun _ iv _ => dn - (intOf iv).toNat)
      case atStart => exact ⟨0, none, 0, 0, ss, by omega, rfl, rfl, by show _ = _; rw [List.take_zero, hmid0.out, HSS.out], hx, T5.out⟩
      case round =>
        obtain ⟨j, ag, ng, cg, ssj, hj, rfl, rfl, hmj, hxj, hTj⟩ := hrel
        have Kj := Lib.hid (hTj.out.now.all 1 _ rfl)
        have Oj := Lib.hid (show (thOwn (Lay.int .i64) B 3 ag ng cg (s.gone 0 (D.take j))).holds wr from hTj.out.now.all 2 _ rfl)
        have hng : (s.gone 0 (D.take j)).length = ng := Oj.out.1
        have hng2 : ng ≤ 100000 := by have h1 := List.length_filter_le (s.younger 0) (D.take j); have h2 := List.length_take_le j D; unfold Kp.gone at hng; omega
        have hBr : B ≤ wr.heap.size := by have := HB.out; have := hTj.out.mv.size; omega
        have kr2 : wr.cell? ⟨k, 2, none⟩ = some (.slice (some ⟨g2, 0, none⟩) (kk + 1) c2) := (kpBox Kj.out).cell 2
        have hkr : k < wr.heap.size := (kpBox Kj.out).lt
        clear hng
        by_cases hlt : j < dn
        · obtain ⟨gd, b, rfl, hgd, hDb, yb⟩ := deadAt (Apt.all (kpDeads Kj.out) 0 _ (by rw [List.getElem?_map, hxj.out]; rfl) : (thDead B (⟨xnum, xmade, D⟩, da, dn, dc)).holds wr) j hlt
          obtain ⟨hb0, hb1⟩ := hDv.out b (List.mem_of_getElem? hDb)
          obtain ⟨bn, rfl⟩ := Int.eq_ofNat_of_zero_le hb0
          have hbn : bn < n1 := by have := HN1.out; omega
          have hbn2 : bn ≤ 1000 := by have := HL.out.bl; have := HN1.out; omega
          have HDB := Lib.hid hDb
          obtain ⟨g1, rfl, hg1, e0, _⟩ := blockAt (kpBlocks Kj.out) bn hbn
          have eb : (s.blocks.getD bn (0, false)).1 = s.born bn := rfl
          rw [eb] at e0
          have kr1 : wr.cell? ⟨k, 1, none⟩ = some (.slice (some ⟨g1, 0, none⟩) n1 c1) := (kpBox Kj.out).cell 1
          have hjd : (j : Int) < dn := by omega
          have hbi : (bn : Int) < n1 := by omega
          clear hDb hb1 eb
          by_cases hy : -1 < s.born bn
          · have hyo : Hid (s.younger 0 (bn : Int) = true) := by show _ = _; unfold Kp.younger; rw [hA.out]; simpa using hy
            go_wp2_with (at_builtin; refine wpList_append_T1 (L := Lay.int .i64) rfl (.tmp 53) (.tmp 55) 40 rfl B 3 _ 8 Try.underlying40 info_int rfl ag ng cg _ rfl Oj.out #[.int .i64 bn] bn rfl ⟨rfl, wf_nat bn (by omega)⟩ (by unfold maxLen; omega) (by omega) hBr ?_; intro a5 c5 w5 T6; have T7 := Lib.hid (hTj.out.third T6); clear T6)
            go_roundw
            case rel => exact ⟨_, _, _, ⟨j + 1, by omega, by go_num, a5, ng + 1, c5, rfl, ssj, by show _ = _; rw [mid_same s 0 D j _ HDB.out hyo.out]; exact hmj.out, hxj, by show Turns _ _ _ _; rw [gone_step s 0 D j _ HDB.out, if_pos hyo.out]; exact T7.out⟩, rfl, rfl, rfl⟩
            case measure => (simp [intOf]; try omega)
          · exfalso
            have hm : s.blocks.getD bn (0, false) ∈ s.blocks := by rw [List.getD_eq_getElem?_getD, List.getElem?_eq_getElem (by have := HN1.out; omega)]; exact List.getElem_mem _
            have := HL.out.bb _ hm
            have e : (s.blocks.getD bn (0, false)).1 = s.born bn := rfl
            omega
        · obtain rfl : j = dn := by omega
          have eD : D.take j = D := List.take_of_length_le (by have := hdn.out; omega)
          rw [eD] at hmj hTj Oj
          have HMJ := Lib.hid hmj.out
          go_wp2_with fail
          refine (delShot B g2 kk c2 ssj 0 wr (kpShots Kj.out) (by omega) (by omega)).mono ?_
          rintro e w2 ⟨rfl, T6⟩
          have T7 := hTj.out.next (Turns.kpShots Kj.out T6)
          have T8 := Lib.hid (T7.next (Turns.kpDeads (T7.now.all 1 _ rfl) (Turns.erased (kpDeads (T7.now.all 1 _ rfl)) 0)))
          have B2 := Lib.hid (kpBox (T8.out.now.all 1 _ rfl))
          have kw2 : w2.cell? ⟨k, 2, none⟩ = some (.slice (some ⟨g2, 0, none⟩) (kk + 1) c2) := B2.out.cell 2
          have kf2 : w2.frozen? ⟨k, 2, none⟩ = false := B2.out.free 2
          have hkw : k < w2.heap.size := B2.out.lt
          clear T6 T7
          go_wp2_with fail
          have T9 := Lib.hid (T8.out.next (Turns.kpBox (T8.out.now.all 1 _ rfl) (Turns.box (T8.out.now.all 1 _ rfl |> kpBox) 2 (.slice (some ⟨g2, 0, none⟩) kk c2))))
          obtain ⟨W3, hW3⟩ : ∃ V, V = w2.setCell ⟨k, 2, none⟩ (.slice (some ⟨g2, 0, none⟩) kk c2) := ⟨_, rfl⟩
          rw [← hW3] at T9 ⊢
          clear hW3 kw2 kf2 T8 B2
          refine (sortW B ag ng cg _ W3 (T9.out.now.all 2 _ rfl) (by omega)).mono ?_
          rintro e w4 ⟨rfl, T10⟩
          have T11 := Lib.hid (T9.out.third T10)
          have B4 := Lib.hid (show Box w4 r (goneC 0 none 0 0) 58 from Apt.head T11.out.now)
          go_wp2_with (refine wpList_store_box rfl 58 (.tmp 4) (.tmp 92) rfl r (goneC 0 ag ng cg) rfl rfl 58 _ B4.out (by kernel_rfl) rfl rfl ?_; intro w6 hb6 hg6)
          refine bodyPost_ret (results_b Try.results37 _ _ r 58 (goneC 0 ag ng cg) hb6 _ rfl Try.underlying58 rfl (by kernel_rfl)) rfl ⟨thKeep B k s2 a1 n1 c1 (ssj.eraseIdx 0) (some ⟨g2, 0, none⟩) kk c2, ag, ng, cg, rfl, ?_, ?_⟩
          · exact ⟨a1, n1, c1, _, some ⟨g2, 0, none⟩, kk, c2, by rw [← hs2.out, map_erase, HMJ.out], rfl⟩
          · have T12 := (Turns.headBox T11.out hb6 hg6).tail
            rw [← hs2.out]
            exact T12
    · have hah : Hid (s.ahead (p + 1) = (s.shots.getD p shot0).made) := by show _ = _; unfold Kp.ahead; rw [if_pos (by omega)]; rfl
      obtain ⟨kk, rfl⟩ : ∃ kk, n2 = kk + 1 := ⟨n2 - 1, by omega⟩
      obtain ⟨g2, x2, rfl, hg2, _, _, _, _⟩ := shotAt KS.out (p + 1) hin
      obtain ⟨A, hA⟩ : ∃ A, Hid (s.ahead (p + 1) = A) := ⟨_, rfl⟩
      have w2 : IntKind.i64.wrap (p : Int) = (p : Int) := IntWalk.i64_in _ (by omega)
      have w3 : IntKind.i64.wrap ((p : Int) + 1 - 1) = (p : Int) := by rw [IntWalk.i64_in _ (by omega)]; omega
      have w4 : IntKind.i64.wrap ((p : Int) + 1 + 1) = (p : Int) + 1 + 1 := IntWalk.i64_in _ (by omega)
      have hpl : p ≤ 1000 := by omega
      have hpk : p < kk + 1 := by omega
      have hpi : (p : Int) < (kk : Int) + 1 := by omega
      go_enter Try.func37, Try.ntmps37
      go_wp2_with fail
      unfold goneC at hW
      rw [← hW]
      refine hidx.out.mono ?_
      rintro e w1 ⟨rfl, hb1⟩
      have T5 := Lib.hid (T4.out.stays hb1)
      have hr1 : w.heap.size + 1 = r := hr.out
      simp only [hr1]
      obtain ⟨nb, hnb⟩ : ∃ nb, Hid (w.heap.size = nb) := ⟨_, rfl⟩
      rw [hnb.out]
      have K5 := Lib.hid (T5.out.now.all 1 _ rfl)
      have k2' : w1.cell? ⟨k, 2, none⟩ = some (.slice (some ⟨g2, 0, none⟩) (kk + 1) c2) := (kpBox K5.out).cell 2
      have y2 : w1.cell? ⟨g2, (p + 1) * 3 + 2, none⟩ = some (.slice da dn dc) := shotCell (kpShots K5.out) (p + 1) hx.out
      obtain ⟨g2', xp, hg2', _, hxp, _, yp1, _⟩ := shotAt (kpShots K5.out) p hpk
      obtain rfl : g2 = g2' := by simpa using hg2'
      have hsp : s.shots[p]? = some xp.1 := by rw [← HSS.out]; simp [hxp]
      have hxA : xp.1.made = A := by rw [← hA.out, hah.out]; simp [List.getD, hsp]
      rw [hxA] at yp1
      clear hxA hxp hg2' hsp
      have hBw : Hid (B ≤ w1.heap.size) := by have := HB.out; have := T5.out.mv.size; show _ ≤ _; omega
      clear hW hidx T4 k2 hb1
      go_wp2_with fail
      go_loopw [7, 39] (fun gv iv wr => ∃ (j : Nat) (ag : Option Addr) (ng cg : Nat) (ssj : List Sh), j ≤ dn ∧ iv = .int .i64 j ∧ gv = .slice ag ng cg ∧ Hid (ssj.map (·.1) = s.mid (p + 1) (D.take j)) ∧ Hid (ssj[(p + 1)]? = some (⟨xnum, xmade, D⟩, da, dn, dc)) ∧ Hid (Turns (thKeep B k s a1 n1 c1 ss (some ⟨g2, 0, none⟩) (kk + 1) c2) (thAll [thBox r (goneC 0 none 0 0) 58, thKeep B k s a1 n1 c1 ssj (some ⟨g2, 0, none⟩) (kk + 1) c2, thOwn (Lay.int .i64) B 3 ag ng cg (s.gone (p + 1) (D.take j))]) w wr)) (fun _ iv _ => dn - (intOf iv).toNat)
      case atStart => exact ⟨0, none, 0, 0, ss, by omega, rfl, rfl, by show _ = _; rw [List.take_zero, hmid0.out, HSS.out], hx, T5.out⟩
      case round =>
        obtain ⟨j, ag, ng, cg, ssj, hj, rfl, rfl, hmj, hxj, hTj⟩ := hrel
        have Kj := Lib.hid (hTj.out.now.all 1 _ rfl)
        have Oj := Lib.hid (show (thOwn (Lay.int .i64) B 3 ag ng cg (s.gone (p + 1) (D.take j))).holds wr from hTj.out.now.all 2 _ rfl)
        have hng : (s.gone (p + 1) (D.take j)).length = ng := Oj.out.1
        have hng2 : ng ≤ 100000 := by have h1 := List.length_filter_le (s.younger (p + 1)) (D.take j); have h2 := List.length_take_le j D; unfold Kp.gone at hng; omega
        have hBr : B ≤ wr.heap.size := by have := HB.out; have := hTj.out.mv.size; omega
        have kr2 : wr.cell? ⟨k, 2, none⟩ = some (.slice (some ⟨g2, 0, none⟩) (kk + 1) c2) := (kpBox Kj.out).cell 2
        have hkr : k < wr.heap.size := (kpBox Kj.out).lt
        clear hng
        by_cases hlt : j < dn
        · obtain ⟨gd, b, rfl, hgd, hDb, yb⟩ := deadAt (Apt.all (kpDeads Kj.out) (p + 1) _ (by rw [List.getElem?_map, hxj.out]; rfl) : (thDead B (⟨xnum, xmade, D⟩, da, dn, dc)).holds wr) j hlt
          obtain ⟨hb0, hb1⟩ := hDv.out b (List.mem_of_getElem? hDb)
          obtain ⟨bn, rfl⟩ := Int.eq_ofNat_of_zero_le hb0
          have hbn : bn < n1 := by have := HN1.out; omega
          have hbn2 : bn ≤ 1000 := by have := HL.out.bl; have := HN1.out; omega
          have HDB := Lib.hid hDb
          obtain ⟨g1, rfl, hg1, e0, _⟩ := blockAt (kpBlocks Kj.out) bn hbn
          have eb : (s.blocks.getD bn (0, false)).1 = s.born bn := rfl
          rw [eb] at e0
          have kr1 : wr.cell? ⟨k, 1, none⟩ = some (.slice (some ⟨g1, 0, none⟩) n1 c1) := (kpBox Kj.out).cell 1
          have hjd : (j : Int) < dn := by omega
          have hbi : (bn : Int) < n1 := by omega
          clear hDb hb1 eb
          by_cases hy : A < s.born bn
          · have hyo : Hid (s.younger (p + 1) (bn : Int) = true) := by show _ = _; unfold Kp.younger; rw [hA.out]; simpa using hy
            go_wp2_with (at_builtin; refine wpList_append_T1 (L := Lay.int .i64) rfl (.tmp 53) (.tmp 55) 40 rfl B 3 _ 8 Try.underlying40 info_int rfl ag ng cg _ rfl Oj.out #[.int .i64 bn] bn rfl ⟨rfl, wf_nat bn (by omega)⟩ (by unfold maxLen; omega) (by omega) hBr ?_; intro a5 c5 w5 T6; have T7 := Lib.hid (hTj.out.third T6); clear T6)
            go_roundw
            case rel => exact ⟨_, _, _, ⟨j + 1, by omega, by go_num, a5, ng + 1, c5, rfl, ssj, by show _ = _; rw [mid_same s (p + 1) D j _ HDB.out hyo.out]; exact hmj.out, hxj, by show Turns _ _ _ _; rw [gone_step s (p + 1) D j _ HDB.out, if_pos hyo.out]; exact T7.out⟩, rfl, rfl, rfl⟩
            case measure => (simp [intOf]; try omega)
          · have hyo : Hid (s.younger (p + 1) (bn : Int) = false) := by show _ = _; unfold Kp.younger; rw [hA.out]; simpa using hy
            have hlen : ssj.length = kk + 1 := (kpShots Kj.out).1
            obtain ⟨g2', y, hg2', _, hyp, _, _, yp2⟩ := shotAt (kpShots Kj.out) p hpk
            obtain rfl : g2 = g2' := by simpa using hg2'
            obtain ⟨⟨ynum, ymade, yd⟩, pa, pn, pc⟩ := y
            simp only at yp2
            have HYP := Lib.hid hyp
            have hms : Hid ((s.mid (p + 1) (D.take j))[p]? = some ⟨ynum, ymade, yd⟩) := by show _ = _; rw [← hmj.out, List.getElem?_map, hyp]; rfl
            have hpn : yd.length = pn := (Apt.all (kpDeads Kj.out) p _ (by rw [List.getElem?_map, hyp]; rfl) : (thDead B (⟨ynum, ymade, yd⟩, pa, pn, pc)).holds wr).1
            have hpn2 : pn ≤ 300000 := by
              have h1 := hms.out
              unfold Kp.mid Kp.dealt at h1
              rw [if_pos (by omega), List.getElem?_set] at h1
              simp only [Nat.add_sub_cancel] at h1
              have hpS : p < s.shots.length := by have := HSS.out; rw [← this, List.length_map]; have := HN2.out; omega
              rw [if_pos trivial, if_pos hpS] at h1
              injection h1 with h1
              have h2 : yd = (s.shots.getD p shot0).dead ++ s.rest (p + 1) (D.take j) := by injection h1 with _ _ h1; exact h1.symm
              have h3 : s.shots.getD p shot0 ∈ s.shots := by rw [List.getD_eq_getElem?_getD, List.getElem?_eq_getElem hpS]; exact List.getElem_mem _
              have h4 := HL.out.dl _ h3
              have h5 := List.length_filter_le (fun b => !s.younger (p + 1) b) (D.take j)
              have h6 := List.length_take_le j D
              have h7 : yd.length = (s.shots.getD p shot0).dead.length + (s.rest (p + 1) (D.take j)).length := by rw [h2, List.length_append]
              unfold Kp.rest at h7
              omega
            have bd : Below wr.heap.size wr wr.drew := below_drewN (Below.refl _ _) 1
            have Td := Lib.hid (hTj.out.stays bd)
            have Kd := Lib.hid (Td.out.now.all 1 _ rfl)
            have Dd := Lib.hid (kpDeads Kd.out)
            have Xd := Lib.hid (show (thDead B (⟨ynum, ymade, yd⟩, pa, pn, pc)).holds wr.drew from Dd.out.all p _ (by rw [List.getElem?_map, HYP.out]; rfl))
            have hBd : B ≤ wr.drew.heap.size := hBr
            have hg2r : g2 < wr.heap.size := (World.ownsRow.lt (kpShots Kj.out).2.choose_spec.choose_spec.1 g2 rfl).2
            have hpS : Hid (p + 1 < s.shots.length) := by show _ < _; rw [← HSS.out, List.length_map]; have := HN2.out; omega
            clear hyp hpn hg2' bd
            go_upto_block 1 with fail
            go_cut [7] (fun gv wx => ∃ (ssn : List Sh), gv = .slice ag ng cg ∧ Hid (ssn.map (·.1) = s.mid (p + 1) (D.take (j + 1))) ∧ Hid (ssn[p + 1]? = some (⟨xnum, xmade, D⟩, some ⟨gd, 0, none⟩, dn, dc)) ∧ Hid (Turns (thKeep B k s (some ⟨g1, 0, none⟩) n1 c1 ss (some ⟨g2, 0, none⟩) (kk + 1) c2) (thAll [thBox r (goneC 0 none 0 0) 58, thKeep B k s (some ⟨g1, 0, none⟩) n1 c1 ssn (some ⟨g2, 0, none⟩) (kk + 1) c2, thOwn (Lay.int .i64) B 3 ag ng cg (s.gone (p + 1) (D.take (j + 1)))]) w wx))
            case first =>
              go_wp2_with fail
              go_region_law (refine step_append_T1 (L := Lay.int .i64) (wr := wr.drew) rfl (.tmp 71) (.tmp 73) 40 rfl B 3 _ 8 Try.underlying40 info_int rfl pa pn pc yd rfl Xd.out #[.int .i64 bn] bn rfl ⟨rfl, wf_nat bn (by omega)⟩ (by unfold maxLen; omega) (by omega) hBd ?_; intro a5 c5 w5 T6; have T7 := Lib.hid (Td.out.next (Turns.kpDeads Kd.out (Turns.dead (x' := (⟨ynum, ymade, yd ++ [(bn : Int)]⟩, a5, pn + 1, c5)) Dd.out HYP.out T6))); have c5s : w5.cell? ⟨g2, p * 3 + 2, none⟩ = some (.slice pa pn pc) := shotCell (kpShots (T7.out.now.all 1 _ rfl)) p HYP.out; have f5s : w5.frozen? ⟨g2, p * 3 + 2, none⟩ = false := frozen_own (kpShots (T7.out.now.all 1 _ rfl)) _; have c5k : w5.cell? ⟨k, 2, none⟩ = some (.slice (some ⟨g2, 0, none⟩) (kk + 1) c2) := (kpBox (T7.out.now.all 1 _ rfl)).cell 2; clear T6)
              all_goals
                have T8 := Lib.hid (T7.out.next (Turns.kpShots (T7.out.now.all 1 _ rfl) (Turns.put (kpShots (T7.out.now.all 1 _ rfl)) p 2 (⟨ynum, ymade, yd ++ [(bn : Int)]⟩, a5, pn + 1, c5) (.slice a5 (pn + 1) c5) hpk (by decide) (by rw [show ssj.getD p default = (⟨ynum, ymade, yd⟩, pa, pn, pc) by simp [List.getD, HYP.out]]; rfl))))
                obtain ⟨W6, hW6⟩ : ∃ V, V = w5.setCell ⟨g2, p * 3 + 2, none⟩ (.slice a5 (pn + 1) c5) := ⟨_, rfl⟩
                rw [← hW6] at T8 ⊢
                clear hW6 c5s f5s c5k T7
              all_goals go_wp2_with fail
              all_goals go_meet
              all_goals exact ⟨ssj.set p (⟨ynum, ymade, yd ++ [(bn : Int)]⟩, a5, pn + 1, c5), rfl, by show _ = _; rw [mid_step s p D j _ HDB.out hpS.out hyo.out _ hms.out, List.map_set, hmj.out], by show _ = _; rw [List.getElem?_set, if_neg (by omega)]; exact hxj.out, by show Turns _ _ _ _; rw [gone_step s (p + 1) D j _ HDB.out, if_neg (by rw [hyo.out]; decide), List.append_nil]; exact T8.out⟩
            obtain ⟨ssn, rfl, hs1, hs2', hs3⟩ := hcut
            clear Td Kd Dd Xd e0 yb yp2 kr1 kr2
            go_wp2_with fail
            go_roundw
            case rel => exact ⟨j + 1, ag, ng, cg, ssn, by omega, by go_num, rfl, hs1, hs2', hs3⟩
            case measure => (simp [intOf]; try omega)
        · obtain rfl : j = dn := by omega
          have eD : D.take j = D := List.take_of_length_le (by have := hdn.out; omega)
          rw [eD] at hmj hTj Oj
          have HMJ := Lib.hid hmj.out
          go_wp2_with fail
          refine (delShot B g2 kk c2 ssj (p + 1) wr (kpShots Kj.out) (by omega) (by omega)).mono ?_
          rintro e w2 ⟨rfl, T6⟩
          have T7 := hTj.out.next (Turns.kpShots Kj.out T6)
          have T8 := Lib.hid (T7.next (Turns.kpDeads (T7.now.all 1 _ rfl) (Turns.erased (kpDeads (T7.now.all 1 _ rfl)) (p + 1))))
          have B2 := Lib.hid (kpBox (T8.out.now.all 1 _ rfl))
          have kw2 : w2.cell? ⟨k, 2, none⟩ = some (.slice (some ⟨g2, 0, none⟩) (kk + 1) c2) := B2.out.cell 2
          have kf2 : w2.frozen? ⟨k, 2, none⟩ = false := B2.out.free 2
          have hkw : k < w2.heap.size := B2.out.lt
          clear T6 T7
          go_wp2_with fail
          have T9 := Lib.hid (T8.out.next (Turns.kpBox (T8.out.now.all 1 _ rfl) (Turns.box (T8.out.now.all 1 _ rfl |> kpBox) 2 (.slice (some ⟨g2, 0, none⟩) kk c2))))
          obtain ⟨W3, hW3⟩ : ∃ V, V = w2.setCell ⟨k, 2, none⟩ (.slice (some ⟨g2, 0, none⟩) kk c2) := ⟨_, rfl⟩
          rw [← hW3] at T9 ⊢
          clear hW3 kw2 kf2 T8 B2
          refine (sortW B ag ng cg _ W3 (T9.out.now.all 2 _ rfl) (by omega)).mono ?_
          rintro e w4 ⟨rfl, T10⟩
          have T11 := Lib.hid (T9.out.third T10)
          have B4 := Lib.hid (show Box w4 r (goneC 0 none 0 0) 58 from Apt.head T11.out.now)
          go_wp2_with (refine wpList_store_box rfl 58 (.tmp 4) (.tmp 92) rfl r (goneC 0 ag ng cg) rfl rfl 58 _ B4.out (by kernel_rfl) rfl rfl ?_; intro w6 hb6 hg6)
          refine bodyPost_ret (results_b Try.results37 _ _ r 58 (goneC 0 ag ng cg) hb6 _ rfl Try.underlying58 rfl (by kernel_rfl)) rfl ⟨thKeep B k s2 a1 n1 c1 (ssj.eraseIdx (p + 1)) (some ⟨g2, 0, none⟩) kk c2, ag, ng, cg, rfl, ?_, ?_⟩
          · exact ⟨a1, n1, c1, _, some ⟨g2, 0, none⟩, kk, c2, by rw [← hs2.out, map_erase, HMJ.out], rfl⟩
          · have T12 := (Turns.headBox T11.out hb6 hg6).tail
            rw [← hs2.out]
            exact T12
  · have hII : idxI ss num = -1 := by unfold idxI; rw [hi.out, if_neg (by omega)]
    rw [hII] at hidx
    have hdrop : Hid (s.drop num = (s, 6, [])) := by
      show _ = _
      unfold Kp.drop
      simp only [hati.out]
      rw [if_pos (by omega)]
    rw [hdrop.out]
    clear hII hdrop hss' hn2
    go_enter Try.func37, Try.ntmps37
    go_wp2_with fail
    unfold goneC at hW
    rw [← hW]
    refine hidx.out.mono ?_
    rintro e w1 ⟨rfl, hb1⟩
    have T4 := Lib.hid (T3.out.stays hb1)
    go_wp2_with fail
    refine (snapNo 6 _).mono ?_
    rintro e w2 ⟨rfl, hb2⟩
    have T5 := Lib.hid (T4.out.stays hb2)
    have hr2 : w.heap.size + 1 = r := hr.out
    simp only [hr2]
    have B1 := Lib.hid (show Box w2 r (goneC 0 none 0 0) 58 from Apt.head T5.out.now)
    go_wp2_with (refine wpList_store_box rfl 58 (.tmp 4) (.tmp 18) rfl r (goneC 6 none 0 0) rfl rfl 58 _ B1.out (by kernel_rfl) rfl rfl ?_; intro w3 hb3 hg3)
    refine bodyPost_ret (results_b Try.results37 _ _ r 58 (goneC 6 none 0 0) hb3 _ rfl Try.underlying58 rfl (by kernel_rfl)) rfl ⟨_, none, 0, 0, rfl, HT, ?_⟩
    exact Turns.withNil ((Turns.headBox T5.out hb3 hg3).tail.one)
end Go.Proofs.Ythjjfmnipemakaa
