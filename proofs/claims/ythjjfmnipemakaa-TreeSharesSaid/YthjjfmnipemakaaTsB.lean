/- The walk of Steps. -/
import Derived.Test.YthjjfmnipemakaaTsA
namespace Go.Proofs.Ythjjfmnipemakaa
open Go.RowKit
set_option linter.unusedVariables false
set_option maxRecDepth 100000

structure Ed where
  resize : Bool
  back : Int
  off : Int
  data : List Int
instance : Inhabited Ed := ⟨⟨false, 0, 0, []⟩⟩
def edC (e : Ed) : List Value := [.bool e.resize, .int .i64 e.back, .int .i64 e.off]
def edL : Lay Ed := Lay.map (Lay.pair (Lay.flat 3 (by decide) edC (fun _ => rfl) (fun x v hv => by
  unfold edC at hv
  simp only [List.mem_cons, List.mem_nil_iff, or_false] at hv
  rcases hv with rfl | rfl | rfl <;> rfl)) (Lay.int .u8).slice) (fun s => (s, s.data))
def verOf (i : Nat) (e : Ed) : Nat := (((i : Int) - e.back % 3) % ((i : Int) + 1)).toNat
def stOf (i : Nat) (e : Ed) : St := if e.resize then ⟨2, verOf i e, 0, (e.off % 2600).toNat, []⟩ else ⟨1, verOf i e, (e.off % 2000).toNat, 0, blockP e.data 300⟩
def stepsFrom : Nat → List Ed → List St
  | _, [] => []
  | i, e :: es => stOf i e :: stepsFrom (i + 1) es
def stepsP (es : List Ed) (n : Nat) : List St := stepsFrom 0 (es.take n)
theorem stepsFrom_length : ∀ (es : List Ed) (i : Nat), (stepsFrom i es).length = es.length
  | [], _ => rfl
  | e :: es, i => by show (stepsFrom (i + 1) es).length + 1 = _; rw [stepsFrom_length es]; rfl
theorem stepsFrom_append : ∀ (xs ys : List Ed) (i : Nat), stepsFrom i (xs ++ ys) = stepsFrom i xs ++ stepsFrom (i + xs.length) ys
  | [], _, _ => rfl
  | x :: xs, ys, i => by
    show stOf i x :: stepsFrom (i + 1) (xs ++ ys) = stOf i x :: (stepsFrom (i + 1) xs ++ _)
    rw [stepsFrom_append xs ys (i + 1), List.length_cons, show i + 1 + xs.length = i + (xs.length + 1) by omega]
theorem stepsP_succ (es : List Ed) (i : Nat) (e : Ed) (h : es[i]? = some e) : stepsP es (i + 1) = stepsP es i ++ [stOf i e] := by
  have h' := List.getElem?_eq_some_iff.1 h
  unfold stepsP
  rw [List.take_succ_eq_append_getElem h'.1, h'.2, stepsFrom_append, List.length_take, show 0 + min i es.length = i by have := h'.1; omega]; rfl
theorem stepsP_length (es : List Ed) (n : Nat) : (stepsP es n).length = min n es.length := by unfold stepsP; rw [stepsFrom_length, List.length_take]
theorem edAt {w : World} {F : Nat → Prop} {a : Option Addr} {len cap : Nat} {es : List Ed} (h : SRow edL w F a len cap es) (i : Nat) (hi : i < len) :
    ∃ b off e ad ld cd, a = some ⟨b, off, none⟩ ∧ b < w.heap.size ∧ es[i]? = some e ∧ Row .u8 w ad ld cd e.data ∧ w.cell? ⟨b, off + i * 4, none⟩ = some (.bool e.resize) ∧ w.cell? ⟨b, off + i * 4 + 1, none⟩ = some (.int .i64 e.back) ∧ w.cell? ⟨b, off + i * 4 + 2, none⟩ = some (.int .i64 e.off) ∧
      w.cell? ⟨b, off + i * 4 + 3, none⟩ = some (.slice ad ld cd) := by
  obtain ⟨b, off, vs, ha, _, hb, hx, hc⟩ := h.get i hi
  have hm := List.getElem?_eq_getElem (show i < es.length by rw [h.1]; exact hi)
  obtain ⟨us, ws, rfl, h1, ad, ld, cd, h2, h3⟩ := hx _ hm
  have e1 : us = edC (es[i]'(by rw [h.1]; exact hi)) := h1
  subst e1 h2
  exact ⟨b, off, _, ad, ld, cd, ha, hb, hm, h3.toRow, hc 0 (by decide), hc 1 (by decide), hc 2 (by decide), hc 3 (by decide)⟩
theorem info_step : (Try.prog.info? 29).map (fun i => (i.zero, i.size, i.bytes)) = some (some (.agg #[.int .i64 0, .int .i64 0, .int .i64 0, .int .i64 0, .slice none 0 0]), 5, 56) := by kernel_rfl
theorem st_at {B : Nat} {a : Option Addr} {n c : Nat} {w : World} (x : St) (h : (thOwn (Lay.int .u8) B 5 a n c x.data).holds w) :
    stL.at_ w (thOwn (Lay.int .u8) B 5 a n c x.data).foot x (x.toV a n c).toList :=
  ⟨four x, [.slice a n c], rfl, rfl, a, n, c, rfl, own_srowT h⟩
theorem Turns.nilRow {α : Type} {L : Lay α} {B : Nat} {e : TypeId} {w : World} : Turns (thAll []) (thRow L B e (fun _ => False) none 0 0 []) w w :=
  ⟨⟨SOwn.nil .., fun b hb => hb.elim⟩, Mv.refl _ _, fun b hb => by
    rcases hb with h | h
    · exact h.elim
    · cases (show (none : Option Nat) = some b from h)⟩
theorem Turns.put1 {t r o : Thing} {w w1 w2 : World} (h : Turns t r w w1) (k : Turns (thAll []) o w1 w2) : Turns t (thAll [o, r]) w w2 := by
  have hb := k.nilBelowT
  have h1 := h.stays hb
  have A : Apt [r] w2 := (Apt.nil w2).cons h1.now (fun s hs => by cases hs)
  have ho : ∀ b, o.foot b → w1.heap.size ≤ b := fun b hb => by
    rcases k.own b hb with ⟨s, hs, _⟩ | h2
    · cases hs
    · exact h2
  refine ⟨A.cons k.now (fun s hs b hb hs' => ?_), h1.mv, fun b ⟨s, hs, hbs⟩ => ?_⟩
  · obtain rfl := List.mem_singleton.1 hs
    have := s.lt h.now b hs'
    have := ho b hb
    omega
  · rcases List.mem_cons.1 hs with rfl | hs
    · right; have := ho b hbs; have := h.mv.size; omega
    · obtain rfl := List.mem_singleton.1 hs
      exact h1.own b hbs
theorem Turns.putBox {t : Thing} {l : List Thing} {w w1 : World} (h : Turns t (thAll l) w w1) (cs : Array Value) (ty : TypeId) : Turns t (thAll (thBox w1.heap.size cs ty :: l)) w (w1.alloc (.cells cs ty)) :=
  h.trans (Turns.beside h.now (Below_alloc1 _) (Box.new rfl) (fun b hb => by have : b = w1.heap.size := hb; omega))
theorem below_set {w0 w : World} (h : Below w0.heap.size w0 w) (a : Addr) (ha : w0.heap.size ≤ a.block) (v : Value) : Below w0.heap.size w0 (w.setCell a v) :=
  (Mv.setCell (S := fun b => b = a.block) v rfl).toBelow h h.size (fun b hb e => by omega)
theorem below_set5 {w0 w : World} (h : Below w0.heap.size w0 w) (g : Nat) (ha : w0.heap.size ≤ g) (v0 v1 v2 v3 v4 : Value) : Below w0.heap.size w0 (((((w.setCell ⟨g, 0, none⟩ v0).setCell ⟨g, 1, none⟩ v1).setCell ⟨g, 2, none⟩ v2).setCell ⟨g, 3, none⟩ v3).setCell ⟨g, 4, none⟩ v4) :=
  below_set (below_set (below_set (below_set (below_set h _ ha _) _ ha _) _ ha _) _ ha _) _ ha _
theorem box_set5 {w : World} {g : Nat} {x0 x1 x2 x3 x4 : Value} {t : TypeId} (h : Box w g #[x0, x1, x2, x3, x4] t) (v0 v1 v2 v3 v4 : Value) : Turns (thBox g #[x0, x1, x2, x3, x4] t) (thBox g #[v0, v1, v2, v3, v4] t) w (((((w.setCell ⟨g, 0, none⟩ v0).setCell ⟨g, 1, none⟩ v1).setCell ⟨g, 2, none⟩ v2).setCell ⟨g, 3, none⟩ v3).setCell ⟨g, 4, none⟩ v4) := by
  have T1 := Turns.cell h 0 v0
  have T2 := T1.trans (Turns.cell T1.now 1 v1)
  have T3 := T2.trans (Turns.cell T2.now 2 v2)
  have T4 := T3.trans (Turns.cell T3.now 3 v3)
  exact T4.trans (Turns.cell T4.now 4 v4)
set_option maxHeartbeats 8000000 in
theorem stepsW (F : Nat → Prop) (a : Option Addr) (len cap : Nat) (es : List Ed) (n : Nat) (w : World) (ha : SRow edL w F a len cap es) (hn : n ≤ 1000) :
    Calls Try.prog 10 #[.slice a len cap, .int .i64 n] w fun e w' => ∃ a' l' c' G, e = .returned (.slice a' l' c') ∧ Hid (Turns (thAll []) (thRow stL w.heap.size 29 G a' l' c' (stepsP es n)) w w') := by
  have HA := Lib.hid ha
  have hle := ha.hle
  have hmx := ha.hmax
  unfold maxLen at hmx
  have hll : Hid (es.length = len) := ha.1
  clear ha
  obtain ⟨B, hB⟩ : ∃ B, Hid (w.heap.size = B) := ⟨_, rfl⟩
  have T0 : Hid (Turns (thAll []) (thRow stL B 29 (fun _ => False) none 0 0 []) w w) := Turns.nilRow
  rw [hB.out]
  go_enter Try.func10, Try.ntmps10
  go_wp2_with fail
  go_loopw [5, 6] (fun ov iv wr => ∃ (i : Nat) (ao : Option Addr) (co : Nat) (G : Nat → Prop), i ≤ n ∧ i ≤ len ∧ iv = .int .i64 i ∧ ov = .slice ao i co ∧ Hid (Turns (thAll []) (thRow stL B 29 G ao i co (stepsP es i)) w wr)) (fun _ iv _ => n - (intOf iv).toNat)
  case atStart => exact ⟨0, none, 0, _, by omega, by omega, rfl, rfl, T0.out⟩
  case round =>
    obtain ⟨i, ao, co, G, hi, hi2, rfl, rfl, hT⟩ := hrel
    by_cases hlt : i < len
    · have il : (i : Int) < len := by omega
      by_cases hln : i < n
      · have iln : (i : Int) < n := by omega
        have HBW : Hid (Below w.heap.size w wr) := hT.out.nilBelowT
        obtain ⟨b, off, e, ad, ld, cd, rfl, hb, hei, hroww, c0w, c1w, c2w, c3w⟩ := edAt HA.out i hlt
        have hrow := hroww.below HBW.out
        have HC0 := Lib.hid c0w
        have HC2 := Lib.hid c2w
        have HBb := Lib.hid hb
        have c1 := (HBW.out.cell (World.block_lt_of_cell? _ _ c1w)).trans c1w
        have c2 := (HBW.out.cell (World.block_lt_of_cell? _ _ c2w)).trans c2w
        have c3 := (HBW.out.cell (World.block_lt_of_cell? _ _ c3w)).trans c3w
        clear c0w c1w c2w c3w hroww
        have hnext := Lib.hid (stepsP_succ es i e hei)
        have HR := Lib.hid hrow
        have hBwr : Hid (B ≤ wr.heap.size) := by have := hB.out; have := HBW.out.size; show _ ≤ _; omega
        obtain ⟨er, eb, eo, ed⟩ := e
        simp only at c1 c2 hrow
        have hB0 : Below wr.heap.size wr wr.drew := (Below.refl _ _).drew
        have wi : IntKind.i64.wrap ((i : Int) + 1) = (i : Int) + 1 := IntWalk.i64_in _ (by omega)
        have HKS : Hid (∀ w', Below wr.heap.size wr w' → Below wr.heap.size wr w' ∧ w'.cell? ⟨b, off + i * 4 + 1, none⟩ = some (.int .i64 eb) ∧ w'.cell? ⟨b, off + i * 4 + 2, none⟩ = some (.int .i64 eo) ∧ w'.cell? ⟨b, off + i * 4 + 3, none⟩ = some (.slice ad ld cd)) :=
          fun w' h => ⟨h, (h.cell (World.block_lt_of_cell? _ _ c1)).trans c1, (h.cell (World.block_lt_of_cell? _ _ c2)).trans c2, (h.cell (World.block_lt_of_cell? _ _ c3)).trans c3⟩
        have HS0 := Lib.hid (HKS.out wr.drew hB0)
        have hBA : Below wr.heap.size wr (wr.alloc (.cells #[.int .i64 0, .int .i64 0, .int .i64 0, .int .i64 0, .slice none 0 0] 29)).drew := (Below_alloc1 _).drew
        have HSA := Lib.hid (HKS.out _ hBA)
        have HBK := Lib.hid (blockW ad ld cd ed 300 wr.drew (hrow.drewN 1) (by decide) (by decide))
        have HBK2 : Hid (Calls Try.prog 12 #[.slice ad ld cd, .int .i64 300] (wr.alloc (.cells #[.int .i64 0, .int .i64 0, .int .i64 0, .int .i64 0, .slice none 0 0] 29)).drew fun e w' => ∃ a' l' c', e = .returned (.slice a' l' c') ∧ Hid (Box w' wr.heap.size #[.int .i64 0, .int .i64 0, .int .i64 0, .int .i64 0, .slice none 0 0] 29) ∧ Hid (Turns (thAll []) (thOwn (Lay.int .u8) (wr.heap.size + 1) 5 a' l' c' (blockP ed 300)) (wr.alloc (.cells #[.int .i64 0, .int .i64 0, .int .i64 0, .int .i64 0, .slice none 0 0] 29)).drew w')) := by
          refine (blockW ad ld cd ed 300 (wr.alloc (.cells #[.int .i64 0, .int .i64 0, .int .i64 0, .int .i64 0, .slice none 0 0] 29)).drew (Row.drewN (w := wr.alloc (.cells #[.int .i64 0, .int .i64 0, .int .i64 0, .int .i64 0, .slice none 0 0] 29)) (hrow.below (Below_alloc1 _)) 1) (by decide) (by decide)).mono ?_
          rintro e w' ⟨a', l', c', rfl, hT5⟩
          have hs : ((wr.alloc (.cells #[.int .i64 0, .int .i64 0, .int .i64 0, .int .i64 0, .slice none 0 0] 29)).drew).heap.size = wr.heap.size + 1 := by simp
          have hT6 := hT5.out
          rw [hs] at hT6
          exact ⟨a', l', c', rfl, Box.below (w := (wr.alloc (.cells #[.int .i64 0, .int .i64 0, .int .i64 0, .int .i64 0, .slice none 0 0] 29)).drew) (Box.drew (Box.new rfl)) hT6.nilBelowT (by show wr.heap.size < (wr.alloc _).heap.size; simp), hT6⟩
        clear hei hrow
        go_upto_region 5 with fail
        go_cut [7] from 17 to 42 (fun v7 wx => ∃ (g : Nat) (ag : Option Addr) (lg cg : Nat), v7 = .pointer (some ⟨g, 0, none⟩) ∧ Hid (Turns (thAll []) (thAll [thBox g (stepV 1 (verOf i ⟨er, eb, eo, ed⟩) (eo % 2000) 0 ag lg cg) 29, thOwn (Lay.int .u8) B 5 ag lg cg (blockP ed 300), thRow stL B 29 G ao i co (stepsP es i)]) w wx))
        case first =>
          go_region_held3 (fun w' => Below wr.heap.size wr w' ∧ w'.cell? ⟨b, off + i * 4 + 1, none⟩ = some (.int .i64 eb) ∧ w'.cell? ⟨b, off + i * 4 + 2, none⟩ = some (.int .i64 eo) ∧ w'.cell? ⟨b, off + i * 4 + 3, none⟩ = some (.slice ad ld cd))
            (first | with_reducible exact HS0.out | with_reducible exact HSA.out | with_reducible exact HKS.out _ hbS | with_reducible exact HKS.out _ hbS2 | with_reducible exact HKS.out _ (hbS.alloc hbS.size _) | with_reducible exact HKS.out _ (below_set5 hbS2 _ (Nat.le_refl _) _ _ _ _ _) | (go_keep; done))
            (first
              | (go_at_call 11; refine (picked _ _ _ (by omega) (by omega)).mono ?_; rintro e w' ⟨r, hr, hr0, hr1, rfl, rfl⟩)
              | (go_at_call 12; refine HBK.out.mono ?_; rintro e w5 ⟨ag, lg, cg, rfl, hT5⟩; have hbS : Below wr.heap.size wr w5 := hB0.trans hT5.out.nilBelowT)
              | (go_at_call 12; refine HBK2.out.mono ?_; rintro e w5 ⟨ag, lg, cg, rfl, hbx5, hT5⟩; have hbS2 : Below wr.heap.size wr w5 := hBA.trans (hT5.out.nilBelowT.mono (by simp)); have z0 : w5.cell? ⟨wr.heap.size, 0, none⟩ = some (.int .i64 0) := hbx5.out.cell 0; have z1 : w5.cell? ⟨wr.heap.size, 1, none⟩ = some (.int .i64 0) := hbx5.out.cell 1; have z2 : w5.cell? ⟨wr.heap.size, 2, none⟩ = some (.int .i64 0) := hbx5.out.cell 2; have z3 : w5.cell? ⟨wr.heap.size, 3, none⟩ = some (.int .i64 0) := hbx5.out.cell 3; have z4 : w5.cell? ⟨wr.heap.size, 4, none⟩ = some (.slice none 0 0) := hbx5.out.cell 4; have y0 : w5.frozen? ⟨wr.heap.size, 0, none⟩ = false := hbx5.out.free 0; have y1 : w5.frozen? ⟨wr.heap.size, 1, none⟩ = false := hbx5.out.free 1; have y2 : w5.frozen? ⟨wr.heap.size, 2, none⟩ = false := hbx5.out.free 2; have y3 : w5.frozen? ⟨wr.heap.size, 3, none⟩ = false := hbx5.out.free 3; have y4 : w5.frozen? ⟨wr.heap.size, 4, none⟩ = false := hbx5.out.free 4))
          all_goals
            rename_i p hp hp0 hp1 q hq hq0 hq1 held
            have e1 : ((verOf i ⟨er, eb, eo, ed⟩ : Nat) : Int) = q := by
              unfold verOf
              have h1 := hp.out
              have h2 := hq.out
              rw [IntWalk.i64_in _ (by omega)] at h2
              show ((((i : Int) - eb % 3) % ((i : Int) + 1)).toNat : Int) = q
              rw [← h1, ← h2]; omega
            have E1 := Lib.hid e1
            have E2 : Hid (eo % 2000 = r) := hr.out.symm
            clear e1 hp hq hr held
            first
            | (have TA := (hT.out.trans (Turns.single hT.out.now)).putBox #[.int .i64 0, .int .i64 0, .int .i64 0, .int .i64 0, .slice none 0 0] 29
               have TB := TA.stays (below_drewN (Below.refl _ _) 1 : Below (wr.alloc (.cells #[.int .i64 0, .int .i64 0, .int .i64 0, .int .i64 0, .slice none 0 0] 29)).heap.size (wr.alloc (.cells #[.int .i64 0, .int .i64 0, .int .i64 0, .int .i64 0, .slice none 0 0] 29)) _)
               have TC := TB.put1 hT5.out
               have TC1 := TC.trans (Turns.inside (i := 0) TC.now rfl (Turns.single (TC.now.all 0 _ rfl)))
               have TD := TC1.trans (Turns.join (l := [_]) (m := [_, _]) TC1.now)
               have TE := TD.trans (Turns.inside (i := 1) TD.now rfl (box_set5 (TD.now.all 1 _ rfl) (.int .i64 1) (.int .i64 q) (.int .i64 r) (.int .i64 0) (.slice ag lg cg)))
               have TF := TE.trans (Turns.inside (i := 0) TE.now rfl (t' := thOwn (Lay.int .u8) B 5 ag lg cg (blockP ed 300)) ⟨SOwn.mono (TE.now.all 0 _ rfl) (by have := hBwr.out; omega) (fun _ h => h), Mv.refl _ _, fun b hb => .inl hb⟩)
               have TG := Lib.hid (TF.trans (Turns.pick [1, 0, 2] TF.now (by decide) (by intro i hi; show i < 3; revert i; decide)))
               clear TA TB TC TC1 TD TE TF
               go_wp2_with fail
               go_meet
               exact ⟨wr.heap.size, ag, lg, cg, rfl, by show Turns _ _ _ _; rw [E1.out, E2.out]; exact TG.out⟩)
            | (have TC := (hT.out.stays (below_drewN (Below.refl _ _) 1 : Below wr.heap.size wr wr.drew)).put1 hT5.out
               have TF := TC.trans (Turns.inside (i := 0) TC.now rfl (t' := thOwn (Lay.int .u8) B 5 ag lg cg (blockP ed 300)) ⟨SOwn.mono (TC.now.all 0 _ rfl) (by have := hBwr.out; show B ≤ wr.heap.size; omega) (fun _ h => h), Mv.refl _ _, fun b hb => .inl hb⟩)
               have TG := Lib.hid (TF.putBox #[.int .i64 1, .int .i64 q, .int .i64 r, .int .i64 0, .slice ag lg cg] 29)
               clear TC TF
               go_wp2_with fail
               go_meet
               exact ⟨w5.heap.size, ag, lg, cg, rfl, by show Turns _ _ _ _; rw [E1.out, E2.out]; exact TG.out⟩)
        case rest =>
          obtain ⟨g, ag, lg, cg, rfl, hT5⟩ := hcut
          have HBc : Below w.heap.size w wc := hT5.out.nilBelowT
          have b0 : wc.cell? ⟨b, off + i * 4, none⟩ = some (.bool er) := (HBc.cell HBb.out).trans HC0.out
          have b2 : wc.cell? ⟨b, off + i * 4 + 2, none⟩ = some (.int .i64 eo) := (HBc.cell HBb.out).trans HC2.out
          have hbc : b < wc.heap.size := by have := HBb.out; have := HBc.size; omega
          have BX := Lib.hid (show Box wc g (stepV 1 (verOf i ⟨er, eb, eo, ed⟩) (eo % 2000) 0 ag lg cg) 29 from hT5.out.now.all 0 _ rfl)
          have g1 : wc.cell? ⟨g, 1, none⟩ = some (.int .i64 (verOf i ⟨er, eb, eo, ed⟩ : Nat)) := BX.out.cell 1
          have hgc : g < wc.heap.size := BX.out.lt
          clear hB0 HKS HS0 HSA hBA HBK HBK2 c1 c2 c3 HR HC0 HC2
          refine ‹∀ (a : Act) (w : World), Code.wp _ _ _ a w → _› _ _ ?_
          refine wp_seq_k ?_
          intro KK hKK
          go_cut [7] from 43 to 56 (fun v7 wx => ∃ (a2 : Option Addr) (l2 c2 : Nat), v7 = .pointer (some ⟨g, 0, none⟩) ∧ Hid (Turns (thAll []) (thAll [thBox g ((stOf i ⟨er, eb, eo, ed⟩).toV a2 l2 c2) 29, thOwn (Lay.int .u8) B 5 a2 l2 c2 (stOf i ⟨er, eb, eo, ed⟩).data, thRow stL B 29 G ao i co (stepsP es i)]) w wx))
          case first =>
            cases er with
            | false =>
              have e5 : stOf i ⟨false, eb, eo, ed⟩ = ⟨1, verOf i ⟨false, eb, eo, ed⟩, (eo % 2000).toNat, 0, blockP ed 300⟩ := rfl
              have hme : ((eo % 2000).toNat : Int) = eo % 2000 := by have := Int.emod_nonneg eo (b := 2000) (by decide); omega
              have E5 : Hid (Turns (thAll []) (thAll [thBox g ((stOf i ⟨false, eb, eo, ed⟩).toV ag lg cg) 29, thOwn (Lay.int .u8) B 5 ag lg cg (stOf i ⟨false, eb, eo, ed⟩).data, thRow stL B 29 G ao i co (stepsP es i)]) w wc) := by
                show Turns _ _ _ _
                rw [e5]
                show Turns _ (thAll [thBox g (stepV 1 (verOf i ⟨false, eb, eo, ed⟩ : Nat) ((eo % 2000).toNat : Nat) 0 ag lg cg) 29, _, _]) _ _
                rw [hme]; exact hT5.out
              clear hme e5
              go_wp2_with fail
              go_meet
              exact ⟨ag, lg, cg, rfl, E5⟩
            | true =>
              have e5 : stOf i ⟨true, eb, eo, ed⟩ = ⟨2, verOf i ⟨true, eb, eo, ed⟩, 0, (eo % 2600).toNat, []⟩ := rfl
              have hme : ((eo % 2600).toNat : Int) = eo % 2600 := by have := Int.emod_nonneg eo (b := 2600) (by decide); omega
              have Td := hT5.out.stays (below_drewN (Below.refl _ _) 1 : Below wc.heap.size wc wc.drew)
              have TE := Td.trans (Turns.inside (i := 0) Td.now rfl (box_set5 (Td.now.all 0 _ rfl) (.int .i64 2) (.int .i64 (verOf i ⟨true, eb, eo, ed⟩ : Nat)) (.int .i64 0) (.int .i64 (eo % 2600)) (.slice none 0 0)))
              have TF := TE.trans (Turns.inside (i := 1) TE.now rfl (t' := thOwn (Lay.int .u8) B 5 none 0 0 []) ⟨SOwn.nil .., Mv.refl _ _, fun b hb => by cases (show (none : Option Nat) = some b from hb)⟩)
              have E5 : Hid (Turns (thAll []) (thAll [thBox g ((stOf i ⟨true, eb, eo, ed⟩).toV none 0 0) 29, thOwn (Lay.int .u8) B 5 none 0 0 (stOf i ⟨true, eb, eo, ed⟩).data, thRow stL B 29 G ao i co (stepsP es i)]) w (((((wc.drew.setCell ⟨g, 0, none⟩ (.int .i64 2)).setCell ⟨g, 1, none⟩ (.int .i64 (verOf i ⟨true, eb, eo, ed⟩ : Nat))).setCell ⟨g, 2, none⟩ (.int .i64 0)).setCell ⟨g, 3, none⟩ (.int .i64 (eo % 2600))).setCell ⟨g, 4, none⟩ (.slice none 0 0))) := by
                show Turns _ _ _ _
                rw [e5]
                show Turns _ (thAll [thBox g (stepV 2 (verOf i ⟨true, eb, eo, ed⟩ : Nat) 0 ((eo % 2600).toNat : Nat) none 0 0) 29, _, _]) _ _
                rw [hme]; exact TF
              have g0 : wc.cell? ⟨g, 0, none⟩ = some (.int .i64 1) := BX.out.cell 0
              have g2 : wc.cell? ⟨g, 2, none⟩ = some (.int .i64 (eo % 2000)) := BX.out.cell 2
              have g3 : wc.cell? ⟨g, 3, none⟩ = some (.int .i64 0) := BX.out.cell 3
              have g4 : wc.cell? ⟨g, 4, none⟩ = some (.slice ag lg cg) := BX.out.cell 4
              have f0 : wc.frozen? ⟨g, 0, none⟩ = false := BX.out.free 0
              have f1 : wc.frozen? ⟨g, 1, none⟩ = false := BX.out.free 1
              have f2 : wc.frozen? ⟨g, 2, none⟩ = false := BX.out.free 2
              have f3 : wc.frozen? ⟨g, 3, none⟩ = false := BX.out.free 3
              have f4 : wc.frozen? ⟨g, 4, none⟩ = false := BX.out.free 4
              obtain ⟨vn, hvn⟩ : ∃ vn, Hid (verOf i ⟨true, eb, eo, ed⟩ = vn) := ⟨_, rfl⟩
              rw [hvn.out] at g1 E5
              clear hme e5 Td TE TF
              go_wp2_with fail
              go_region_law (first | (go_simp; go_at_call 11; refine (picked _ _ _ (by omega) (by omega)).mono ?_; rintro e w' ⟨r, hr, hr0, hr1, rfl, rfl⟩))
              all_goals
                obtain rfl := hr.out
                go_wp2_with fail
                go_meet
                exact ⟨none, 0, 0, rfl, E5⟩
          case rest =>
            obtain ⟨a2, l2, c2, rfl, hT6⟩ := hcut
            refine hKK _ _ ?_
            have TP := hT6.out.trans (Turns.part (l := [_, _]) (m := [_]) hT6.out.now)
            have TQ := Lib.hid (TP.trans (Turns.inside (i := 1) TP.now rfl (Turns.unsingle (TP.now.all 1 _ rfl))))
            have O2 := Lib.hid (show (thOwn (Lay.int .u8) B 5 a2 l2 c2 (stOf i ⟨er, eb, eo, ed⟩).data).holds wc from hT6.out.now.all 1 _ rfl)
            have BY := Lib.hid (show Box wc g ((stOf i ⟨er, eb, eo, ed⟩).toV a2 l2 c2) 29 from hT6.out.now.all 0 _ rfl)
            obtain ⟨s, hs⟩ : ∃ s, Hid (stOf i ⟨er, eb, eo, ed⟩ = s) := ⟨_, rfl⟩
            rw [hs.out] at TQ O2 BY hnext
            have g0 : wc.cell? ⟨g, 0, none⟩ = some (.int .i64 (s.kind : Int)) := BY.out.cell 0
            have g1 : wc.cell? ⟨g, 1, none⟩ = some (.int .i64 (s.version : Int)) := BY.out.cell 1
            have g2 : wc.cell? ⟨g, 2, none⟩ = some (.int .i64 (s.off : Int)) := BY.out.cell 2
            have g3 : wc.cell? ⟨g, 3, none⟩ = some (.int .i64 (s.count : Int)) := BY.out.cell 3
            have g4 : wc.cell? ⟨g, 4, none⟩ = some (.slice a2 l2 c2) := BY.out.cell 4
            have hgc : g < wc.heap.size := BY.out.lt
            have hBc : B ≤ wc.heap.size := by have := hT6.out.mv.size; have := hB.out; omega
            clear TP hT6
            go_wp2_with (at_builtin; refine wpList_append_RT (L := stL) (wr := wc) rfl (.tmp 57) (.tmp 59) 24 rfl B 29 _ 56 Try.underlying24 info_step rfl G ao i co _ rfl (thBox g (s.toV a2 l2 c2) 29) _ TQ.out.now (s.toV a2 l2 c2) s rfl (st_at _ O2.out) (by unfold maxLen; omega) (by omega) hBc ?_; intro a5 c5 w5 G5 T5; have T6 := Lib.hid ((TQ.out.trans T5).tail.one))
            go_roundw
            case rel => exact ⟨i + 1, a5, c5, G5, by omega, by omega, by go_num, rfl, by show Turns _ _ _ _; rw [hnext.out]; exact T6.out⟩
            case measure => (simp [intOf]; try omega)
      · obtain rfl : i = n := by omega
        go_wp2_with fail
        go_ret
        exact ⟨ao, i, co, G, rfl, hT⟩
    · obtain rfl : i = len := by omega
      have e : stepsP es i = stepsP es n := by unfold stepsP; rw [List.take_of_length_le (l := es) (by have := hll.out; omega), List.take_of_length_le (by have := hll.out; omega)]
      rw [e] at hT
      go_wp2_with fail
      go_ret
      exact ⟨ao, i, co, G, rfl, hT⟩
end Go.Proofs.Ythjjfmnipemakaa
