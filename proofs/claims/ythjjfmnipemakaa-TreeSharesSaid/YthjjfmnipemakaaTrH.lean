/- The walk of resized. -/
import Derived.Test.YthjjfmnipemakaaTrG
import Derived.Test.YthjjfmnipemakaaGen
namespace Go.Proofs.Ythjjfmnipemakaa
open Go.RowKit
set_option linter.unusedVariables false
set_option maxRecDepth 100000

theorem unstash {S : Thing} {b6 b4 : Nat} {v6 v4 v6' : Array Value} {ty : TypeId} {w w' : World} (h : (thAll [thBox b6 v6 ty, thAll [thBox b4 v4 ty, S]]).holds w) (hb : Box w' b6 v6' ty) (hg : w.grownBy w' (some b6)) :
    Turns (thAll [thBox b6 v6 ty, thAll [thBox b4 v4 ty, S]]) S w w' := ((Turns.refl h).headBox hb hg).tail.one.tail.one
/-- A kid takes the place of its node. -/
theorem lowT {W w : World} {G : Nat → Prop} {cur n : Nat} {t : PT (n + 1)} {k0 : Option (PT n)} (hk : (InP.kids t)[0]? = some k0) (h : (thT W G cur (n + 1) (some t)).holds w) : Turns (thT W G cur (n + 1) (some t)) (thT W G cur n k0) w w := by
  have hm : k0 ∈ InP.kids t := List.mem_of_getElem? hk
  by_cases hb : PT.birthOf t < cur
  · have e : thT W G cur (n + 1) (some t) = thPure (OldT W G cur (n + 1) (some t)) := by unfold thT; rw [if_pos hb]
    rw [e] at h ⊢
    have ho : OldT W G cur (n + 1) (some t) := h
    have hA := oldKids (ks := InP.kids t) ho.2.2.2.2 w
    have hi : (thKids W G cur n (InP.kids t))[0]? = some (thT W G cur n k0) := by unfold thKids; rw [List.getElem?_map, hk]; rfl
    exact ⟨hA.1.all 0 _ hi, Mv.refl _ _, fun b hb => absurd hb (hA.2 _ (List.mem_of_getElem? hi) b)⟩
  · obtain ⟨g, id, birth, ks⟩ := t
    have h3 := h
    unfold thT at h3
    rw [if_neg hb] at h3
    have h4 : birth = cur ∧ _ := Apt.all h3 0 _ rfl
    obtain rfl : birth = cur := h4.1
    obtain ⟨_, Tb⟩ := innerBack W G birth n g id ks h
    have hi : (thKids W G birth n ks)[0]? = some (thT W G birth n k0) := by
      have hk' : ks[0]? = some k0 := hk
      unfold thKids; rw [List.getElem?_map, hk']; rfl
    exact (Tb.trans (Turns.by Tb.now (m := [thT W G birth n k0]) (fun _ => 1) (fun i j _ hi hj => by simp at hi hj; omega) (fun i u hu => by
      match i, hu with
      | 0, hu => rw [← hu]; exact hi
      | i + 1, hu => simp at hu))).one
theorem thT_fine {W w : World} {G : Nat → Prop} {cur n : Nat} {t : PT n} (h : (thT W G cur n (some t)).holds w) : PT.Fine t := by
  cases n with
  | zero =>
    unfold thT at h
    by_cases hb : PT.birthOf t < cur
    · rw [if_pos hb] at h; exact (OldT.box h).2.2.1
    · rw [if_neg hb] at h; exact (show PT.birthOf t = cur ∧ PT.Fine t from Apt.all h 0 _ rfl).2
  | succ n =>
    unfold thT at h
    by_cases hb : PT.birthOf t < cur
    · rw [if_pos hb] at h; exact (OldT.box h).2.2.1
    · rw [if_neg hb] at h; exact (show PT.birthOf t = cur ∧ PT.Fine t from Apt.all h 0 _ rfl).2
def kid0 {n : Nat} (t : PT (n + 1)) : Option (PT n) := (InP.kids t).getD 0 none
theorem kid0_at {n : Nat} (t : PT (n + 1)) (h : PT.Fine t) : (InP.kids t)[0]? = some (kid0 t) := by
  have h4 : (InP.kids t).length = 4 := h
  unfold kid0
  rw [List.getD_eq_getElem?_getD, List.getElem?_eq_getElem (by omega)]; rfl
theorem kid0_cell {n : Nat} (t : PT (n + 1)) (h : PT.Fine t) : (PT.cells t)[3]? = some (ptr (kid0 t)) := by
  have h4 : (InP.kids t).length = 4 := h
  show (nodeV _ _ _ ((InP.kids t).map ptr) _)[3 + 0]? = _
  rw [nodeV_kid _ _ _ _ _ _ (by rw [List.length_map]; omega), List.getElem?_map, kid0_at t h]; rfl
def asR {n : Nat} (k : Option (PT n)) : Option PRt := k.map fun t => ⟨n, t⟩
theorem asR_ptr {n : Nat} (k : Option (PT n)) : rptr (asR k) = ptr k := by cases k <;> rfl
theorem asR_th (W : World) (G : Nat → Prop) (cur : Nat) {n : Nat} (k : Option (PT n)) : thR W G cur (asR k) = thT W G cur n k := by
  cases k with
  | none => rw [thT_none]; rfl
  | some k => rfl
def lowO (level : Nat) (r : Option Rt) : Option Rt := r.bind fun r => lower level r.1 r.2
theorem lowO_step (level n : Nat) (t : PT (n + 1)) (h : level < n + 1) : lowO level (some (PRt.er ⟨n + 1, t⟩)) = lowO level ((asR (kid0 t)).map PRt.er) := by
  have e : (In.kids (PT.er (n + 1) t)).getD 0 none = (kid0 t).map (PT.er n) := by
    show ((InP.kids t).map (Option.map (PT.er n))).getD 0 none = _
    unfold kid0
    rw [List.getD_eq_getElem?_getD, List.getElem?_map, List.getD_eq_getElem?_getD]
    cases (InP.kids t)[0]? <;> rfl
  show lower level (n + 1) (PT.er (n + 1) t) = _
  unfold lower
  rw [if_neg (by omega), e]
  cases kid0 t <;> rfl
theorem lowO_end (level n : Nat) (t : PT n) (h : n ≤ level) : lowO level (some (PRt.er ⟨n, t⟩)) = some (PRt.er ⟨n, t⟩) := by
  show lower level n (PT.er n t) = _
  cases n with
  | zero => rfl
  | succ n => unfold lower; rw [if_pos h]; rfl
def freshP : (n : Nat) → (g id cur : Nat) → PT n
  | 0, g, id, cur => (⟨g, ⟨id, cur, zeros⟩⟩ : LfP)
  | n + 1, g, id, cur => (⟨g, id, cur, [none, none, none, none]⟩ : InP (PT n))
theorem freshP_er (n g md cur : Nat) : PT.er n (freshP n g (md + 1) cur) = T.fresh n cur md none := by cases n <;> rfl
theorem freshP_g (n g id cur : Nat) : PT.gOf (freshP n g id cur) = g := by cases n <;> rfl
theorem freshThing (W : World) (G : Nat → Prop) (cur n g id : Nat) {w : World} (h : Box w g (nodeV id cur n nils zeros) 82) :
    Turns (thBox g (nodeV id cur n nils zeros) 82) (thT W G cur n (some (freshP n g id cur))) w w := by
  cases n with
  | zero => exact leafThing W G cur g id zeros ⟨rfl, by decide⟩ h
  | succ n =>
    have T1 := boxKids (W := W) (G := G) (cur := cur) (n := n) (ks := [none, none, none, none]) nonesOld h
    exact T1.trans (innerThing W G cur n g id [none, none, none, none] rfl T1.now)
def resizedO (cur size : Nat) (r : Option Rt) (made : Nat) : Option Rt × Nat :=
  match lowO (levelOf size) (cutRoot cur size r made).1 with
  | none => if 0 < size then (some ⟨levelOf size, T.fresh (levelOf size) cur (cutRoot cur size r made).2 none⟩, (cutRoot cur size r made).2 + 1) else (none, (cutRoot cur size r made).2)
  | some q => raiseO cur (levelOf size) (some q) (cutRoot cur size r made).2
theorem resizedO_eq (f : Fo) (v : Ver) (size : Nat) : f.resized v size = (⟨(resizedO f.vers.length size v.root f.made).1, size⟩, (resizedO f.vers.length size v.root f.made).2) := by
  have e : lowered f.vers.length size v.root f.made = lowO (levelOf size) (cutRoot f.vers.length size v.root f.made).1 := rfl
  unfold Fo.resized resizedO
  rw [e]
  cases lowO (levelOf size) (cutRoot f.vers.length size v.root f.made).1 with
  | none =>
    by_cases h : 0 < size
    · simp only [if_pos h]
    · simp only [if_neg h]
  | some q => rfl
def verV (p : Value) (size : Int) : Array Value := #[p, .int .i64 size]
theorem cutR (W : World) (G : Nat → Prop) (S : Thing) (k : Nat) (av : Option Addr) (cv cur made size : Nat) (r : Option PRt) (w : World)
    (hS : ∀ w, S.holds w → (thOld W G).holds w) (hO : OldR W G cur r) (h : (thAll [thBox k (forV av cur cv made) 74, S, thR W G cur r]).holds w)
    (hm : made ≤ 899000) (hl : ∀ q, r = some q → q.1 ≤ 4) (he : size ≤ 100000) :
    Calls Try.prog 40 #[.pointer (some ⟨k, 0, none⟩), rptr r, .int .i64 0, .int .i64 size] w (RootEnd W G S k av cv cur made r (cutRoot cur size (r.map PRt.er) made) w id) := by
  cases r with
  | none =>
    have := cutAt 0 (by omega) W G S k av cv cur made 0 size none w hS trivial h (by show made + 1 ≤ _; omega) (by decide) he
    refine this.mono ?_
    rintro e w' ⟨t', rfl, h1, h2⟩
    refine ⟨asR t', by rw [asR_ptr]; rfl, ?_, ?_⟩
    · have h1' := h1.out
      cases t' with
      | none => rfl
      | some t' => cases h1'
    · show Turns _ (thAll [_, _, thR W G cur (asR t')]) _ _; rw [asR_th]; exact h2.out
  | some q =>
    obtain ⟨n, t⟩ := q
    have hn := hl ⟨n, t⟩ rfl
    have hc := cost_le n hn
    have hrm : room n ≤ room 4 := room_mono hn
    have hr4 : room 4 = 16384 := by decide
    have := cutAt n hn W G S k av cv cur made 0 size (some t) w hS hO h (by omega) (by omega) he
    refine this.mono ?_
    rintro e w' ⟨t', rfl, h1, h2⟩
    refine ⟨asR t', by rw [asR_ptr]; rfl, ?_, ?_⟩
    · show _ = (atRoot n (T.cut cur size n 0 (some (PT.er n t)) made)).1
      unfold atRoot
      have h1' : t'.map (PT.er n) = (T.cut cur size n 0 (some (PT.er n t)) made).1 := h1.out
      rw [← h1']
      cases t' <;> rfl
    · show Turns _ (thAll [_, _, thR W G cur (asR t')]) _ _; rw [asR_th]; exact h2.out
def levelAt (w : World) (v : Value) : Nat := match v with
  | .pointer (some a) => (match w.cell? ⟨a.block, 2, none⟩ with
    | some (.int _ n) => n.toNat + 1
    | _ => 0)
  | _ => 0
theorem cutRoot_level (cur size : Nat) (r : Option Rt) (made : Nat) (q : Rt) (h : (cutRoot cur size r made).1 = some q) (hl : ∀ q, r = some q → q.1 ≤ 4) : q.1 ≤ 4 := by
  cases r with
  | none => cases h
  | some r =>
    have h' : (atRoot r.1 (T.cut cur size r.1 0 (some r.2) made)).1 = some q := h
    unfold atRoot at h'
    cases hx : (T.cut cur size r.1 0 (some r.2) made).1 with
    | none => rw [hx] at h'; cases h'
    | some t => rw [hx] at h'; obtain rfl := Option.some.inj h'; exact hl r rfl
theorem cutRoot_cost {W w : World} {G : Nat → Prop} {cur size made : Nat} {r : Option PRt} (h : (thR W G cur r).holds w) (hl : ∀ q, r = some q → q.1 ≤ 4) : made ≤ (cutRoot cur size (r.map PRt.er) made).2 ∧ (cutRoot cur size (r.map PRt.er) made).2 ≤ made + 341 := by
  cases r with
  | none => exact ⟨Nat.le_refl _, by show made ≤ _; omega⟩
  | some q =>
    have h4 := thT_four q.1 (some q.2) h
    have h5 := cut_cost cur size q.1 0 (some (PT.er q.1 q.2)) made h4
    have h6 := cost_le q.1 (hl q rfl)
    have h7 : ∀ (n base : Nat) (t : Option (T n)) (m : Nat), m ≤ (T.cut cur size n base t m).2 := by
      intro n
      induction n with
      | zero =>
        intro base t m
        cases t with
        | none => exact Nat.le_refl _
        | some t =>
          unfold T.cut
          split
          · exact Nat.le_refl _
          · split
            · exact Nat.le_refl _
            · exact Nat.le_succ _
      | succ n ih =>
        intro base t m
        cases t with
        | none => exact Nat.le_refl _
        | some t =>
          have ge : ∀ (ks : List (Option (T n))) (i m : Nat), m ≤ (mapA (fun i k m => T.cut cur size n (base + i * room n) k m) i ks m).2 := by
            intro ks
            induction ks with
            | nil => intro i m; exact Nat.le_refl _
            | cons k ks ih2 => intro i m; exact Nat.le_trans (ih _ k m) (ih2 (i + 1) _)
          unfold T.cut
          split
          · exact Nat.le_refl _
          · split
            · exact Nat.le_refl _
            · exact Nat.le_trans (Nat.le_succ _) (ge _ 0 _)
    exact ⟨h7 q.1 0 (some (PT.er q.1 q.2)) made, by show (T.cut cur size q.1 0 (some (PT.er q.1 q.2)) made).2 ≤ _; omega⟩
set_option maxHeartbeats 8000000 in
theorem resizedW (W : World) (G : Nat → Prop) (S : Thing) (k : Nat) (av : Option Addr) (cv cur made : Nat) (r : Option PRt) (sz : Int) (size : Nat) (w : World)
    (hS : ∀ w, S.holds w → (thOld W G).holds w) (hO : OldR W G cur r)
    (h : (thAll [thBox k (forV av cur cv made) 74, S, thR W G cur r]).holds w) (hm : made ≤ 890000) (hl : ∀ q, r = some q → q.1 ≤ 4) (hs : size ≤ 4096) :
    Calls Try.prog 33 #[.pointer (some ⟨k, 0, none⟩), .agg #[rptr r, .int .i64 sz], .int .i64 size] w (RootEnd W G S k av cv cur made r (resizedO cur size (r.map PRt.er) made) w fun p => .agg #[p, .int .i64 size]) := by
  have hL3 := levelOf_le size
  have hLW := fun w => levelW size hs w
  have T0 := Turns.inside (i := 1) h rfl ((Turns.boxed (h.all 1 _ rfl) (verV (rptr r) sz) 78).trans (Turns.boxed (Turns.boxed (h.all 1 _ rfl) (verV (rptr r) sz) 78).now (verV (.pointer none) 0) 78))
  obtain ⟨b4, hb4⟩ : ∃ b4, Hid (w.heap.size = b4) := ⟨_, rfl⟩
  rw [show (w.alloc (.cells (verV (rptr r) sz) 78)).heap.size = w.heap.size + 1 by simp] at T0
  obtain ⟨V, hV⟩ : ∃ V, Hid ((w.alloc (.cells (verV (rptr r) sz) 78)).alloc (.cells (verV (.pointer none) 0) 78) = V) := ⟨_, rfl⟩
  rw [hb4.out, hV.out] at T0
  obtain ⟨S', hS'⟩ : ∃ S', Hid (thAll [thBox (b4 + 1) (verV (.pointer none) 0) 78, thAll [thBox b4 (verV (rptr r) sz) 78, S]] = S') := ⟨_, rfl⟩
  have T1 : Hid (Turns (thAll [thBox k (forV av cur cv made) 74, S, thR W G cur r]) (thAll [thBox k (forV av cur cv made) 74, S', thR W G cur r]) w V) := by show Turns _ _ _ _; rw [← hS'.out]; exact T0
  have HSS : Hid (∀ w, S'.holds w → Box w (b4 + 1) (verV (.pointer none) 0) 78 ∧ Box w b4 (verV (rptr r) sz) 78 ∧ S.holds w) := fun w h => by
    rw [← hS'.out] at h
    have h2 : Apt [thBox b4 (verV (rptr r) sz) 78, S] w := Apt.all h 1 _ rfl
    exact ⟨Apt.all h 0 _ rfl, h2.all 0 _ rfl, h2.all 1 _ rfl⟩
  have HS := Lib.hid (fun w (h : S'.holds w) => hS w (HSS.out w h).2.2)
  have hC := Lib.hid (cutR W G S' k av cv cur made size r V HS.out hO T1.out.now (by omega) hl (by omega))
  have hcc := cutRoot_cost (cur := cur) (size := size) (made := made) (T1.out.now.all 2 _ rfl) hl
  obtain ⟨X, hX⟩ : ∃ X, Hid (resizedO cur size (r.map PRt.er) made = X) := ⟨_, rfl⟩
  rw [hX.out]
  obtain ⟨C, hCC⟩ : ∃ C, Hid (cutRoot cur size (r.map PRt.er) made = C) := ⟨_, rfl⟩
  have hlev := Lib.hid (fun q h => cutRoot_level cur size (r.map PRt.er) made q h (fun q hq => by
    cases r with
    | none => cases hq
    | some r => obtain rfl := Option.some.inj hq; exact hl r rfl))
  have hX2 := hX.out
  unfold resizedO at hX2
  rw [hCC.out] at hC hlev hX2 hcc
  have HX := Lib.hid hX2
  obtain ⟨L, hL⟩ : ∃ L, Hid (levelOf size = L) := ⟨_, rfl⟩
  rw [hL.out] at hLW HX hL3
  obtain ⟨C2, hC2⟩ : ∃ C2, C.2 = C2 := ⟨_, rfl⟩
  have HC2 := Lib.hid hC2
  have HLW := Lib.hid hLW
  have HRR := Lib.hid (HSS.out V (T1.out.now.all 1 _ rfl))
  obtain ⟨x0, hx0⟩ : ∃ x0, Hid (r.map (fun r => (⟨PT.gOf r.2, 0, none⟩ : Addr)) = x0) := ⟨_, rfl⟩
  have ex0 : rptr r = .pointer x0 := by rw [← hx0.out]; rfl
  rw [ex0] at hC HSS HRR hV hS' ⊢
  have c40 : V.cell? ⟨b4, 0, none⟩ = some (.pointer x0) := HRR.out.2.1.cell 0
  have hb4l : b4 < V.heap.size := HRR.out.2.1.lt
  rw [hC2] at HX hcc
  have hV' := hV.out
  have hb4' := hb4.out
  clear T0 hS h hO hl hX2 hC2 hLW ex0 hV hb4
  go_enter Try.func33, Try.ntmps33
  go_wp2_with fail
  change Calls _ _ _ ((w.alloc (.cells (verV (.pointer x0) sz) 78)).alloc (.cells (verV (.pointer none) 0) 78)) _
  rw [hV']
  refine (HLW.out V).mono ?_
  rintro e w1 ⟨rfl, rfl⟩
  go_wp2_with fail
  refine hC.out.mono ?_
  rintro e w2 ⟨q0, rfl, hq0, hT2⟩
  simp only [id]
  have hT2' := hT2.out
  have hq0' := hq0.out
  have HTS := Lib.hid (T1.out.trans hT2')
  obtain ⟨pv, hpv⟩ : ∃ pv, Hid (rptr q0 = pv) := ⟨_, rfl⟩
  rw [hpv.out]
  have hlev0 : Hid (∀ p, q0 = some p → p.1 ≤ 4) := fun p hp => by
    subst hp
    exact hlev.out (PRt.er p) hq0'.symm
  have hlow0 : Hid (lowO L C.1 = lowO L (q0.map PRt.er)) := by show _ = _; rw [← hq0']
  have ec : C.2 = C2 := HC2.out
  rw [ec] at HTS
  clear hT2 hT2' hq0 hq0' hC hV' HRR c40 hb4l
  go_wp2_with fail
  go_loop [8] (fun nv => ∃ (q : Option PRt), Hid (rptr q = nv) ∧ Hid (∀ p, q = some p → p.1 ≤ 4) ∧ Hid (lowO L C.1 = lowO L (q.map PRt.er)) ∧ Hid (Turns (thAll [thBox k (forV av cur cv made) 74, S, thR W G cur r]) (thAll [thBox k (forV av cur cv C2) 74, S', thR W G cur q]) w w2)) (fun nv => levelAt w2 nv)
  case atStart => exact ⟨q0, hpv, hlev0, hlow0, HTS⟩
  case round =>
    obtain ⟨q, hv, hq4, hlo, hT⟩ := hrel
    clear hlev0 hlow0 HTS hpv
    cases q with
    | none =>
      obtain rfl : _ = Value.pointer none := hv.out.symm
      have hRa := Lib.hid (raisedW W G S' k av cv cur C2 none size L w2 HS.out hT.out.now (by omega) (by omega))
      have hlo2 : lowO L C.1 = none := hlo.out
      by_cases h0 : 0 < size
      · have q1 : decide ((0 : Int) < (size : Int)) = true := by simp; omega
        have hEX : Hid (X = (some ⟨L, T.fresh L cur C2 none⟩, C2 + 1)) := by have := HX.out; rw [hlo2] at this; rw [← this]; show (if 0 < size then _ else _) = _; rw [if_pos h0]
        change Hid (Calls _ _ #[.pointer (some ⟨k, 0, none⟩), .agg #[.pointer none, .int .i64 size], .int .i64 L] w2 _) at hRa
        go_wp2_with fail
        refine hRa.out.mono ?_
        rintro e w3 ⟨r3, rfl, hr3, hT3⟩
        obtain rfl : r3 = none := by have := hr3.out; cases r3 with | none => rfl | some r3 => cases this
        simp only [id, show rptr (none : Option PRt) = .pointer none from rfl]
        have T3 := Lib.hid (hT.out.trans hT3.out)
        have e3 : (raiseO cur L ((none : Option PRt).map PRt.er) C2).2 = C2 := rfl
        rw [e3] at T3
        have BF := Lib.hid (show Box w3 k (forV av cur cv C2) 74 from T3.out.now.all 0 _ rfl)
        have HF := Lib.hid (freshN k av cur cv C2 L w3 BF.out (by omega) (by omega))
        clear hT3 hRa
        go_wp2_with fail
        refine HF.out.mono ?_
        rintro e w4 ⟨rfl, TF⟩
        obtain ⟨u, hu⟩ : ∃ u, Hid (w3.heap.size = u) := ⟨_, rfl⟩
        rw [hu.out] at TF ⊢
        have T4 := T3.out.trans (Turns.inside (i := 0) T3.out.now rfl TF)
        have T4' := T4.trans (Turns.regroup T4.now)
        have T4b := Lib.hid (show Turns (thAll [thBox k (forV av cur cv made) 74, S, thR W G cur r]) (thAll [thBox k (forV av cur cv (C2 + 1)) 74, S', thR W G cur (some ⟨L, freshP L u (C2 + 1) cur⟩)]) w w4 from T4'.trans (Turns.inside (i := 2) T4'.now rfl (freshThing W G cur L u (C2 + 1) (T4'.now.all 2 _ rfl))))
        clear T4 T4' TF BF HF
        have B6x := Lib.hid (HSS.out w4 (T4b.out.now.all 1 _ rfl)).1
        go_wp2_with (first | (refine wpList_store_box rfl 78 (.tmp 6) (.tmp 48) rfl (b4 + 1) (verV (.pointer (some ⟨u, 0, none⟩)) size) rfl rfl 78 _ B6x.out (by kernel_rfl) rfl rfl ?_; intro w5 hb5 hg5; have T5 := Lib.hid (T4b.out.trans (Turns.inside (i := 1) T4b.out.now rfl (by rw [← hS'.out]; exact unstash (by have := T4b.out.now.all 1 _ rfl; rw [← hS'.out] at this; exact this) hb5 hg5))); have HB5 := Lib.hid hb5; clear hb5 hg5))
        refine bodyPost_ret (results_box0 Try.results33 _ _ (b4 + 1) _ _ HB5.out _ rfl Try.underlying78 rfl (by kernel_rfl)) rfl ?_
        exact ⟨some ⟨L, freshP L u (C2 + 1) cur⟩, by show _ = Ending.returned (.agg #[.pointer (some ⟨PT.gOf (freshP L u (C2 + 1) cur), 0, none⟩), .int .i64 size]); rw [freshP_g]; rfl, by show _ = _; rw [hEX.out]; show some (⟨L, PT.er L (freshP L u (C2 + 1) cur)⟩ : Rt) = _; rw [freshP_er], by show Turns _ _ _ _; rw [hEX.out]; exact T5.out⟩
      · obtain rfl : size = 0 := by omega
        have hEX : Hid (X = (none, C2)) := by have := HX.out; rw [hlo2] at this; rw [← this]; rfl
        change Hid (Calls _ _ #[.pointer (some ⟨k, 0, none⟩), .agg #[.pointer none, .int .i64 ((0 : Nat) : Int)], .int .i64 L] w2 _) at hRa
        go_wp2_with fail
        refine hRa.out.mono ?_
        rintro e w3 ⟨r3, rfl, hr3, hT3⟩
        obtain rfl : r3 = none := by have := hr3.out; cases r3 with | none => rfl | some r3 => cases this
        simp only [id, show rptr (none : Option PRt) = .pointer none from rfl]
        have T3 := Lib.hid (hT.out.trans hT3.out)
        have e3 : (raiseO cur L ((none : Option PRt).map PRt.er) C2).2 = C2 := rfl
        rw [e3] at T3
        clear hT3 hRa
        have B6x := Lib.hid (HSS.out w3 (T3.out.now.all 1 _ rfl)).1
        go_wp2_with (first | (refine wpList_store_box rfl 78 (.tmp 6) (.tmp 48) rfl (b4 + 1) (verV (.pointer none) ((0 : Nat) : Int)) rfl rfl 78 _ B6x.out (by kernel_rfl) rfl rfl ?_; intro w5 hb5 hg5; have T5 := Lib.hid (T3.out.trans (Turns.inside (i := 1) T3.out.now rfl (by rw [← hS'.out]; exact unstash (by have := T3.out.now.all 1 _ rfl; rw [← hS'.out] at this; exact this) hb5 hg5))); have HB5 := Lib.hid hb5; clear hb5 hg5))
        refine bodyPost_ret (results_box0 Try.results33 _ _ (b4 + 1) _ _ HB5.out _ rfl Try.underlying78 rfl (by kernel_rfl)) rfl ?_
        exact ⟨none, rfl, by show _ = _; rw [hEX.out]; rfl, by show Turns _ _ _ _; rw [hEX.out]; exact T5.out⟩
    | some q =>
      obtain ⟨n, t⟩ := q
      obtain ⟨g, hg⟩ : ∃ g, Hid (PT.gOf t = g) := ⟨_, rfl⟩
      have ev : rptr (some ⟨n, t⟩) = .pointer (some ⟨g, 0, none⟩) := by show Value.pointer (some ⟨PT.gOf t, 0, none⟩) = _; rw [hg.out]
      obtain rfl : _ = Value.pointer (some ⟨g, 0, none⟩) := hv.out.symm.trans ev
      have hB := rootBox (hT.out.now.all 2 _ rfl) (HS.out w2 (hT.out.now.all 1 _ rfl))
      rw [hg.out] at hB
      have n2 : w2.cell? ⟨g, 2, none⟩ = some (.int .i64 (n : Int)) := (hB.cell 2).trans (cells_level t)
      have hgl : g < w2.heap.size := hB.lt
      have hn4 := hq4.out _ rfl
      by_cases hlt : L < n
      · obtain ⟨m, rfl⟩ : ∃ m, n = m + 1 := ⟨n - 1, by omega⟩
        have q1 : decide ((L : Int) < ((m : Int) + 1)) = true := by simp; omega
        have hfine := thT_fine (hT.out.now.all 2 _ rfl)
        have c3 : w2.cell? ⟨g, 3, none⟩ = some (ptr (kid0 t)) := (hB.cell 3).trans (kid0_cell t hfine)
        have Tl := Turns.inside (i := 2) hT.out.now rfl (lowT (kid0_at t hfine) (hT.out.now.all 2 _ rfl))
        have T3 : Hid (Turns (thAll [thBox k (forV av cur cv made) 74, S, thR W G cur r]) (thAll [thBox k (forV av cur cv C2) 74, S', thR W G cur (asR (kid0 t))]) w w2) := by show Turns _ _ _ _; rw [asR_th]; exact hT.out.trans Tl
        have hlo3 : Hid (lowO L C.1 = lowO L ((asR (kid0 t)).map PRt.er)) := hlo.out.trans (lowO_step L m t hlt)
        have hm : Hid (levelAt w2 (ptr (kid0 t)) < m + 2) := by
          show _ < _
          have h1 := T3.out.now.all 2 _ rfl
          cases hk : kid0 t with
          | none => exact Nat.succ_pos _
          | some k' =>
            rw [hk] at h1
            have hB2 := rootBox (n := m) (t := k') h1 (HS.out w2 (hT.out.now.all 1 _ rfl))
            have : w2.cell? ⟨PT.gOf k', 2, none⟩ = some (.int .i64 (m : Int)) := (hB2.cell 2).trans (cells_level k')
            show (match w2.cell? ⟨PT.gOf k', 2, none⟩ with | some (.int _ n) => n.toNat + 1 | _ => 0) < m + 2
            rw [this]; show (m : Int).toNat + 1 < m + 2; simp
        have hlv : Hid (levelAt w2 (.pointer (some ⟨g, 0, none⟩)) = m + 2) := by
          show (match w2.cell? ⟨g, 2, none⟩ with | some (.int _ n) => n.toNat + 1 | _ => 0) = m + 2
          rw [n2]; show ((m + 1 : Nat) : Int).toNat + 1 = m + 2; simp
        obtain ⟨kv, hkv⟩ : ∃ kv, Hid ((kid0 t).map (fun t => (⟨PT.gOf t, 0, none⟩ : Addr)) = kv) := ⟨_, rfl⟩
        have ek : ptr (kid0 t) = .pointer kv := by rw [← hkv.out]; rfl
        rw [ek] at c3 hm
        have n2' : w2.cell? ⟨g, 2, none⟩ = some (.int .i64 ((m : Int) + 1)) := n2
        clear hB Tl n2 hfine
        go_wp2_with fail
        go_round
        case rel => exact ⟨asR (kid0 t), by show _ = _; rw [asR_ptr, ek], fun p hp => by
          cases hk : kid0 t with
          | none => rw [hk] at hp; cases hp
          | some k' => rw [hk] at hp; obtain rfl := Option.some.inj hp; show m ≤ 4; have : m + 1 ≤ 4 := hn4; omega, hlo3, T3⟩
        case measure => have h1 := hm.out; have h2 := hlv.out; rw [← h2] at h1; exact h1
      · have q1 : decide ((L : Int) < (n : Int)) = false := by simp; omega
        have hlo2 : lowO L C.1 = some (PRt.er ⟨n, t⟩) := hlo.out.trans (lowO_end L n t (by omega))
        have hRa := Lib.hid (raisedW W G S' k av cv cur C2 (some ⟨n, t⟩) size L w2 HS.out hT.out.now (by omega) (by omega))
        rw [ev] at hRa
        obtain ⟨Y, hY⟩ : ∃ Y, Hid (raiseO cur L ((some ⟨n, t⟩ : Option PRt).map PRt.er) C2 = Y) := ⟨_, rfl⟩
        have hEX : Hid (X = Y) := by have := HX.out; rw [hlo2] at this; rw [← this]; exact hY.out
        have hYs : ∃ y, Y.1 = some y := ⟨_, by rw [← hY.out]; rfl⟩
        rw [hY.out] at hRa
        clear hB
        go_wp2_with fail
        refine hRa.out.mono ?_
        rintro e w3 ⟨r3, rfl, hr3, hT3⟩
        obtain ⟨p3, rfl⟩ : ∃ p, r3 = some p := by
          obtain ⟨y, hy⟩ := hYs
          have := hr3.out
          rw [hy] at this
          cases r3 with
          | none => cases this
          | some p => exact ⟨p, rfl⟩
        obtain ⟨g3, hg3⟩ : ∃ g3, Hid (PT.gOf p3.2 = g3) := ⟨_, rfl⟩
        have ev3 : rptr (some p3) = .pointer (some ⟨g3, 0, none⟩) := by show Value.pointer (some ⟨PT.gOf p3.2, 0, none⟩) = _; rw [hg3.out]
        simp only [id, ev3]
        have T3 := Lib.hid (hT.out.trans hT3.out)
        clear hT3 hRa
        have B6x := Lib.hid (HSS.out w3 (T3.out.now.all 1 _ rfl)).1
        go_wp2_with (first | (refine wpList_store_box rfl 78 (.tmp 6) (.tmp 48) rfl (b4 + 1) (verV (.pointer (some ⟨g3, 0, none⟩)) size) rfl rfl 78 _ B6x.out (by kernel_rfl) rfl rfl ?_; intro w5 hb5 hg5; have T5 := Lib.hid (T3.out.trans (Turns.inside (i := 1) T3.out.now rfl (by rw [← hS'.out]; exact unstash (by have := T3.out.now.all 1 _ rfl; rw [← hS'.out] at this; exact this) hb5 hg5))); have HB5 := Lib.hid hb5; clear hb5 hg5))
        refine bodyPost_ret (results_box0 Try.results33 _ _ (b4 + 1) _ _ HB5.out _ rfl Try.underlying78 rfl (by kernel_rfl)) rfl ?_
        exact ⟨some p3, by show _ = Ending.returned (.agg #[.pointer (some ⟨PT.gOf p3.2, 0, none⟩), .int .i64 size]); rw [hg3.out]; rfl, by show _ = _; rw [hEX.out]; exact hr3.out, by show Turns _ _ _ _; rw [hEX.out]; exact T5.out⟩
end Go.Proofs.Ythjjfmnipemakaa
