/- What a write and a resize come to, once the version is at hand: the calls one behind the other. -/
import Derived.Test.YthjjfmnipemakaaTrR
namespace Go.Proofs.Ythjjfmnipemakaa
open Go.RowKit
set_option linter.unusedVariables false
set_option maxRecDepth 100000

/-- Things of a list, by their numbers. -/
theorem Turns.pick {l : List Thing} {w : World} (is : List Nat) (h : Apt l w) (hn : is.Nodup) (hl : ∀ i ∈ is, i < l.length) : Turns (thAll l) (thAll (is.map fun i => l.getD i (thPure True))) w w := by
  refine Turns.by h (fun j => is.getD j 0) (fun i j e hi hj => ?_) (fun j t hj => ?_)
  · rw [List.length_map] at hi hj
    simp only [List.getD_eq_getElem?_getD, List.getElem?_eq_getElem hi, List.getElem?_eq_getElem hj, Option.getD_some] at e
    exact (List.getElem_inj hn).1 e
  · rw [List.getElem?_map] at hj
    cases hq : is[j]? with
    | none => rw [hq] at hj; cases hj
    | some i =>
      rw [hq] at hj
      have hj' : l.getD i (thPure True) = t := Option.some.inj hj
      have hi := hl i (List.mem_of_getElem? hq)
      simp only [List.getD_eq_getElem?_getD, hq, Option.getD_some]
      rw [← hj', List.getD_eq_getElem?_getD, List.getElem?_eq_getElem hi]; rfl
theorem raise_cost (cur : Nat) : ∀ (k : Nat) (r : Rt) (made : Nat), (raise cur k r made).2 = made + k
  | 0, _, _ => rfl
  | k + 1, r, made => by rw [raise, raise_cost cur k]; omega
theorem raised_ready (cur L made off : Nat) (data : List Int) (xr r1 : Option PRt) (h : r1.map PRt.er = (raiseO cur L (xr.map PRt.er) made).1) (hl : ∀ q, xr = some q → q.1 ≤ L) :
    (raiseO cur L (xr.map PRt.er) made).2 ≤ made + L ∧ ∃ Q : Option (PT L), r1 = asR Q ∧ wrote cur L off data (xr.map PRt.er) made = atRoot L (T.write cur off data L 0 (Q.map (PT.er L)) (raiseO cur L (xr.map PRt.er) made).2) := by
  cases xr with
  | none =>
    refine ⟨Nat.le_add_right _ _, none, ?_, rfl⟩
    cases r1 with
    | none => rfl
    | some p => cases h
  | some q =>
    have hq := hl q rfl
    cases r1 with
    | none => cases h
    | some p =>
      obtain ⟨n, t⟩ := p
      have h1 : PRt.er ⟨n, t⟩ = (raise cur (L - q.1) (PRt.er q) made).1 := Option.some.inj h
      have h2 : n = L := by
        have := congrArg Sigma.fst h1
        rw [raise_level] at this
        have h3 : n = q.1 + (L - q.1) := this
        omega
      subst h2
      refine ⟨by show (raise cur (n - q.1) (PRt.er q) made).2 ≤ _; rw [raise_cost]; omega, some t, rfl, ?_⟩
      show atRoot (raise cur (n - q.1) (PRt.er q) made).1.1 (T.write cur off data (raise cur (n - q.1) (PRt.er q) made).1.1 0 (some (raise cur (n - q.1) (PRt.er q) made).1.2) (raise cur (n - q.1) (PRt.er q) made).2) = atRoot n (T.write cur off data n 0 (some (PT.er n t)) (raise cur (n - q.1) (PRt.er q) made).2)
      obtain ⟨X, hX⟩ : ∃ X, raise cur (n - q.1) (PRt.er q) made = X := ⟨_, rfl⟩
      rw [hX] at h1 ⊢
      obtain ⟨X1, X2⟩ := X
      simp only at h1
      subst h1
      rfl
theorem atRoot_asR (L : Nat) (t : Option (PT L)) (x : Option (T L) × Nat) (h : t.map (PT.er L) = x.1) : (asR t).map PRt.er = (atRoot L x).1 := by
  unfold atRoot
  rw [← h]
  cases t <;> rfl
def Fo.push (f : Fo) (x : Ver × Nat) : Fo := ⟨f.vers ++ [x.1], x.2⟩
def stepV (kind ver off count : Int) (ad : Option Addr) (ld cd : Nat) : Array Value := #[.int .i64 kind, .int .i64 ver, .int .i64 off, .int .i64 count, .slice ad ld cd]
def show0 : Array Value := #[.int .i64 0, .int .i64 0, .int .i64 0, .slice none 0 0]
/-- A step under way: its own boxes, the forest. -/
def thStep (W0 W : World) (G : Nat → Prop) (B k b : Nat) (vv sv : Array Value) (av : Option Addr) (cur cv made : Nat) (vs : List (Option PRt × Nat)) : List Thing :=
  [thBox (b + 2) vv 78, thBox (b + 1) show0 68, thBox b sv 29, thBox k (forV av cur cv made) 74, thOwn verL B 78 av cur cv vs, thOld W G, thSince W0]
/-- The boxes of a step that its calls leave alone. -/
def thRest (W0 W : World) (G : Nat → Prop) (B b : Nat) (vv sv : Array Value) (av : Option Addr) (cur cv : Nat) (vs : List (Option PRt × Nat)) : Thing :=
  thAll [thBox (b + 2) vv 78, thBox (b + 1) show0 68, thBox b sv 29, thOwn verL B 78 av cur cv vs, thOld W G, thSince W0]
theorem step_rest {W0 W : World} {G : Nat → Prop} {B k b : Nat} {vv sv : Array Value} {av : Option Addr} {cur cv made : Nat} {vs : List (Option PRt × Nat)} {xr : Option PRt} {w : World} (ho : OldR W G cur xr)
    (h : Apt (thStep W0 W G B k b vv sv av cur cv made vs) w) : Turns (thAll (thStep W0 W G B k b vv sv av cur cv made vs)) (thAll [thBox k (forV av cur cv made) 74, thRest W0 W G B b vv sv av cur cv vs, thR W G cur xr]) w w := by
  have T1 := Turns.pick [3, 0, 1, 2, 4, 5, 6] h (by decide) (by intro i hi; show i < 7; revert i; decide)
  have T2 := T1.trans (Turns.head1 (a := thBox k (forV av cur cv made) 74) (l := [thBox (b + 2) vv 78, thBox (b + 1) show0 68, thBox b sv 29, thOwn verL B 78 av cur cv vs, thOld W G, thSince W0]) T1.now)
  exact T2.trans (Turns.pads (m := [thR W G cur xr]) T2.now (fun t ht => by obtain rfl := List.mem_singleton.1 ht; exact oldR_th ho w))
def StepFacts (b : Nat) (vv sv : Array Value) (w : World) : Prop := Box w (b + 2) vv 78 ∧ Box w b sv 29 ∧ Box w (b + 1) show0 68
theorem rest_facts {W0 W : World} {G : Nat → Prop} {B b : Nat} {vv sv : Array Value} {av : Option Addr} {cur cv : Nat} {vs : List (Option PRt × Nat)} {w : World} (h : (thRest W0 W G B b vv sv av cur cv vs).holds w) : StepFacts b vv sv w ∧ (thOld W G).holds w ∧ (thSince W0).holds w :=
  ⟨⟨Apt.all h 0 _ rfl, Apt.all h 2 _ rfl, Apt.all h 1 _ rfl⟩, Apt.all h 4 _ rfl, Apt.all h 5 _ rfl⟩
/-- The new version laid behind the others: what add makes of a step. -/
theorem addChain (W0 W : World) (G : Nat → Prop) (B k b : Nat) (vv sv : Array Value) (av : Option Addr) (cur cv made : Nat) (vs : List (Option PRt × Nat)) (r : Option PRt) (size : Nat) (w : World)
    (hG : ∀ b, G b → b < W.heap.size) (hold : ∀ x ∈ vs, OldR W G cur x.1) (hc : vs.length = cur) (hB : B ≤ w.heap.size) (hn : cur ≤ 1000) (hs : size ≤ 100000)
    (h : (thAll [thBox k (forV av cur cv made) 74, thRest W0 W G B b vv sv av cur cv vs, thR W G cur r]).holds w) :
    Calls Try.prog 30 #[.pointer (some ⟨k, 0, none⟩), .agg #[rptr r, .int .i64 (size : Nat)]] w fun e w' => e = .returned (.agg (shownC 0 (cur : Int) (size : Nat) none 0 0)) ∧ Hid (StepFacts b vv sv w') ∧
      ∃ t', Hid (IsFo W0 B k ⟨vs.map Ver.er ++ [⟨r.map PRt.er, size⟩], made⟩ t') ∧ Hid (Turns (thAll [thBox k (forV av cur cv made) 74, thRest W0 W G B b vv sv av cur cv vs, thR W G cur r]) (thAll [thBox (b + 1) show0 68, t']) w w') := by
  have A1 := Turns.pick [0, 2, 1] h (by decide) (by intro i hi; show i < 3; revert i; decide)
  have A2 : Turns _ (thAll (thBox k (forV av cur cv made) 74 :: thR W G cur r :: [thBox (b + 2) vv 78, thBox (b + 1) show0 68, thBox b sv 29, thOwn verL B 78 av cur cv vs, thOld W G, thSince W0])) w w := A1.trans (Turns.ungroup2 A1.now)
  have A3 := A2.trans (Turns.pick [0, 5, 1, 3, 6, 7, 2, 4] A2.now (by decide) (by intro i hi; show i < 8; revert i; decide))
  have A4 : Turns _ (thAll [thAll [thBox k (forV av cur cv made) 74, thOwn verL B 78 av cur cv vs], thAll [thR W G cur r, thBox (b + 1) show0 68, thOld W G, thSince W0, thBox (b + 2) vv 78, thBox b sv 29]]) w w :=
    A3.trans (Turns.part (l := [thBox k (forV av cur cv made) 74, thOwn verL B 78 av cur cv vs]) (m := [thR W G cur r, thBox (b + 1) show0 68, thOld W G, thSince W0, thBox (b + 2) vv 78, thBox b sv 29]) A3.now)
  refine (addW B k av cur cv made vs (r, size) w (A4.now.all 0 _ rfl) hB hn hs).mono ?_
  rintro e w' ⟨av', cv', rfl, hT⟩
  have A5 := A4.trans (Turns.inside (i := 0) A4.now rfl hT.out)
  have A6 := A5.trans (Turns.join A5.now)
  have A7 : Turns _ (thAll [thOld W G, thR W G cur r, thBox (b + 1) show0 68, thBox k (forV av' (cur + 1) cv' made) 74, thOwn verL B 78 av' (cur + 1) cv' (vs ++ [(r, size)]), thSince W0]) w w' := A6.trans (Turns.pick [4, 2, 3, 0, 1, 5] A6.now (by decide) (by intro i hi; show i < 8; revert i; decide))
  have A8 := A7.trans (Turns.part (l := [thOld W G, thR W G cur r]) (m := [thBox (b + 1) show0 68, thBox k (forV av' (cur + 1) cv' made) 74, thOwn verL B 78 av' (cur + 1) cv' (vs ++ [(r, size)]), thSince W0]) A7.now)
  obtain ⟨G', hG', hl, hr, hT9⟩ := ages hG (A8.now.all 0 _ rfl)
  have A9 := A8.trans (Turns.inside (i := 0) A8.now rfl hT9)
  have A10 := A9.trans (Turns.unhead1 A9.now)
  have A11 : Turns _ (thAll [thBox (b + 1) show0 68, thBox k (forV av' (cur + 1) cv' made) 74, thOwn verL B 78 av' (cur + 1) cv' (vs ++ [(r, size)]), thOld w' G', thSince W0]) w w' := A10.trans (Turns.pick [1, 2, 3, 0, 4] A10.now (by decide) (by intro i hi; show i < 5; revert i; decide))
  have A12 := A11.trans (Turns.head1 A11.now)
  have F : StepFacts b vv sv w' := ⟨A6.now.all 6 _ rfl, A6.now.all 7 _ rfl, A6.now.all 3 _ rfl⟩
  refine ⟨rfl, F, _, ?_, A12⟩
  have hlen : (vs ++ [(r, size)]).length = cur + 1 := by simp [hc]
  refine ⟨av', cv', vs ++ [(r, size)], w', G', by simp [Ver.er], hG', fun x hx => ?_, by rw [hlen]⟩
  rw [hlen]
  rcases List.mem_append.1 hx with hx | hx
  · exact hl _ (hold x hx)
  · obtain rfl := List.mem_singleton.1 hx
    exact hr
theorem show_set {w : World} {b : Nat} (c v s : Int) (a : Option Addr) (n cc : Nat) (h : Box w (b + 1) show0 68) : Turns (thBox (b + 1) show0 68) (thBox (b + 1) (shownC c v s a n cc) 68) w ((((w.setCell ⟨b + 1, 0, none⟩ (.int .i64 c)).setCell ⟨b + 1, 1, none⟩ (.int .i64 v)).setCell ⟨b + 1, 2, none⟩ (.int .i64 s)).setCell ⟨b + 1, 3, none⟩ (.slice a n cc)) := by
  have T1 := Turns.cell h 0 (.int .i64 c)
  have T2 := T1.trans (Turns.cell T1.now 1 (.int .i64 v))
  have T3 := T2.trans (Turns.cell T2.now 2 (.int .i64 s))
  exact T3.trans (Turns.cell T3.now 3 (.slice a n cc))
theorem writeChain (W0 W : World) (G : Nat → Prop) (B k b : Nat) (vv sv : Array Value) (av : Option Addr) (cur cv made : Nat) (vs : List (Option PRt × Nat)) (xr : Option PRt) (NS L off : Nat) (ad : Option Addr) (ld cd : Nat) (data : List Int) (w : World)
    (hG : ∀ b, G b → b < W.heap.size) (hold : ∀ x ∈ vs, OldR W G cur x.1) (hxo : OldR W G cur xr) (hxl : ∀ q, xr = some q → q.1 ≤ L) (hc : vs.length = cur) (hD : ∀ w, (thSince W0).holds w → Row .u8 w ad ld cd data) (hB : B ≤ w.heap.size) (hn : cur ≤ 1000) (hm : made ≤ 800000) (hL : L ≤ 3) (hs : NS ≤ 4096) (ho : off ≤ 4096) (hld : ld ≤ 4096)
    (h : (thAll (thStep W0 W G B k b vv sv av cur cv made vs)).holds w) :
    Calls Try.prog 32 #[.pointer (some ⟨k, 0, none⟩), .agg #[rptr xr, .int .i64 (NS : Nat)], .int .i64 L] w fun e w1 => ∃ p1, e = .returned (.pointer p1) ∧ Hid (StepFacts b vv sv w1) ∧
      Hid (Calls Try.prog 31 #[.pointer (some ⟨k, 0, none⟩), .pointer p1, .int .i64 L, .int .i64 0, .int .i64 off, .slice ad ld cd] w1 fun e w2 => ∃ p2, e = .returned (.pointer p2) ∧ Hid (StepFacts b vv sv w2) ∧
        Hid (Calls Try.prog 30 #[.pointer (some ⟨k, 0, none⟩), .agg #[.pointer p2, .int .i64 (NS : Nat)]] w2 fun e w3 => e = .returned (.agg (shownC 0 (cur : Int) (NS : Nat) none 0 0)) ∧ Hid (StepFacts b vv sv w3) ∧
          ∃ t', Hid (IsFo W0 B k ⟨vs.map Ver.er ++ [⟨(wrote cur L off data (xr.map PRt.er) made).1, NS⟩], (wrote cur L off data (xr.map PRt.er) made).2⟩ t') ∧ Hid (Turns (thAll (thStep W0 W G B k b vv sv av cur cv made vs)) (thAll [thBox (b + 1) show0 68, t']) w w3))) := by
  have T0 := step_rest hxo h
  have hS : ∀ w, (thRest W0 W G B b vv sv av cur cv vs).holds w → (thOld W G).holds w := fun w h => (rest_facts h).2.1
  refine (raisedW W G (thRest W0 W G B b vv sv av cur cv vs) k av cv cur made xr NS L w hS T0.now (by omega) (by omega)).mono ?_
  rintro e w1 ⟨r1, rfl, hr1, hT1⟩
  obtain ⟨hmd1, Q, rfl, hwq⟩ := raised_ready cur L made off data xr r1 hr1.out hxl
  have T1 := T0.trans hT1.out
  refine ⟨_, rfl, (rest_facts (T1.now.all 1 _ rfl)).1, ?_⟩
  have hcost : cost L ≤ 341 := cost_le L (by omega)
  have hroom : room L ≤ 4096 := room_mono (a := L) (b := 3) hL
  rw [asR_th] at T1
  have hWr := writeAt L (by omega) W G (thRest W0 W G B b vv sv av cur cv vs) k av cv cur (raiseO cur L (xr.map PRt.er) made).2 0 off Q ad ld cd data w1 (fun w h => ⟨(rest_facts h).2.1, hD w (rest_facts h).2.2⟩) T1.now (by omega) (by omega) (by omega) (by omega)
  have ep : (.pointer ((asR Q).map fun r => (⟨PT.gOf r.2, 0, none⟩ : Addr)) : Value) = ptr Q := asR_ptr Q
  show Calls _ _ _ _ _
  rw [ep]
  refine hWr.mono ?_
  rintro e w2 ⟨t2, rfl, hr2, hT2⟩
  have T2 := T1.trans hT2.out
  refine ⟨_, rfl, (rest_facts (T2.now.all 1 _ rfl)).1, ?_⟩
  have T2' : Turns (thAll (thStep W0 W G B k b vv sv av cur cv made vs)) (thAll [thBox k (forV av cur cv (wrote cur L off data (xr.map PRt.er) made).2) 74, thRest W0 W G B b vv sv av cur cv vs, thR W G cur (asR t2)]) w w2 := by
    rw [asR_th, hwq]; exact T2
  have hA := addChain W0 W G B k b vv sv av cur cv (wrote cur L off data (xr.map PRt.er) made).2 vs (asR t2) NS w2 hG hold hc (Nat.le_trans hB T2.mv.size) hn (by omega) T2'.now
  rw [asR_ptr] at hA
  refine hA.mono ?_
  rintro e w3 ⟨rfl, hb, t', hI, hT⟩
  refine ⟨rfl, hb, t', ?_, T2'.trans hT.out⟩
  have e1 : (wrote cur L off data (xr.map PRt.er) made).1 = (asR t2).map PRt.er := by rw [hwq]; exact (atRoot_asR L t2 _ hr2.out).symm
  rw [e1]
  exact hI.out
theorem resizeChain (W0 W : World) (G : Nat → Prop) (B k b : Nat) (vv sv : Array Value) (av : Option Addr) (cur cv made : Nat) (vs : List (Option PRt × Nat)) (xr : Option PRt) (xs : Nat) (size : Nat) (w : World)
    (hG : ∀ b, G b → b < W.heap.size) (hold : ∀ x ∈ vs, OldR W G cur x.1) (hxo : OldR W G cur xr) (hxl : ∀ q, xr = some q → q.1 ≤ 4) (hc : vs.length = cur) (hB : B ≤ w.heap.size) (hn : cur ≤ 1000) (hm : made ≤ 800000) (hs : size ≤ 4096)
    (h : (thAll (thStep W0 W G B k b vv sv av cur cv made vs)).holds w) :
    Calls Try.prog 33 #[.pointer (some ⟨k, 0, none⟩), .agg #[rptr xr, .int .i64 (xs : Nat)], .int .i64 size] w fun e w2 => ∃ p2, e = .returned (.agg #[.pointer p2, .int .i64 (size : Nat)]) ∧ Hid (StepFacts b vv sv w2) ∧
        Hid (Calls Try.prog 30 #[.pointer (some ⟨k, 0, none⟩), .agg #[.pointer p2, .int .i64 (size : Nat)]] w2 fun e w3 => e = .returned (.agg (shownC 0 (cur : Int) (size : Nat) none 0 0)) ∧ Hid (StepFacts b vv sv w3) ∧
          ∃ t', Hid (IsFo W0 B k ⟨vs.map Ver.er ++ [⟨(resizedO cur size (xr.map PRt.er) made).1, size⟩], (resizedO cur size (xr.map PRt.er) made).2⟩ t') ∧ Hid (Turns (thAll (thStep W0 W G B k b vv sv av cur cv made vs)) (thAll [thBox (b + 1) show0 68, t']) w w3)) := by
  have T0 := step_rest hxo h
  have hS : ∀ w, (thRest W0 W G B b vv sv av cur cv vs).holds w → (thOld W G).holds w := fun w h => (rest_facts h).2.1
  refine (resizedW W G (thRest W0 W G B b vv sv av cur cv vs) k av cv cur made xr xs size w hS hxo T0.now (by omega) hxl hs).mono ?_
  rintro e w1 ⟨r1, rfl, hr1, hT1⟩
  have T1 := T0.trans hT1.out
  refine ⟨_, rfl, (rest_facts (T1.now.all 1 _ rfl)).1, ?_⟩
  refine (addChain W0 W G B k b vv sv av cur cv (resizedO cur size (xr.map PRt.er) made).2 vs r1 size w1 hG hold hc (Nat.le_trans hB T1.mv.size) hn (by omega) T1.now).mono ?_
  rintro e w3 ⟨rfl, hb, t', hI, hT⟩
  refine ⟨rfl, hb, t', ?_, T1.trans hT.out⟩
  rw [← hr1.out]
  exact hI.out
end Go.Proofs.Ythjjfmnipemakaa
