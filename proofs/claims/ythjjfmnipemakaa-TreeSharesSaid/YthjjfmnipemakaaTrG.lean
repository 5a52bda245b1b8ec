/- Roots: the walks of levelOf and raised. -/
import Derived.Test.YthjjfmnipemakaaTrK
namespace Go.Proofs.Ythjjfmnipemakaa
open Go.RowKit
set_option linter.unusedVariables false
set_option maxRecDepth 100000

abbrev PRt := (n : Nat) × PT n
def PRt.er (r : PRt) : Rt := ⟨r.1, PT.er r.1 r.2⟩
def rptr (r : Option PRt) : Value := .pointer (r.map fun r => (⟨PT.gOf r.2, 0, none⟩ : Addr))
def thR (W : World) (G : Nat → Prop) (cur : Nat) (r : Option PRt) : Thing := match r with
  | none => thPure True
  | some r => thT W G cur r.1 (some r.2)
def OldR (W : World) (G : Nat → Prop) (cur : Nat) (r : Option PRt) : Prop := match r with
  | none => True
  | some r => OldT W G cur r.1 (some r.2)
theorem Turns.pads {l m : List Thing} {w : World} (h : Apt l w) (hm : ∀ t ∈ m, t.holds w ∧ ∀ b, ¬ t.foot b) : Turns (thAll l) (thAll (l ++ m)) w w := by
  have split : ∀ (i : Nat) (t : Thing), (l ++ m)[i]? = some t → l[i]? = some t ∨ t ∈ m := fun i t hi => by
    by_cases hl : i < l.length
    · rw [List.getElem?_append_left hl] at hi; exact .inl hi
    · rw [List.getElem?_append_right (by omega)] at hi; exact .inr (List.mem_of_getElem? hi)
  refine ⟨⟨fun i t hi => ?_, fun i j s t hi hj hne b hb hb2 => ?_⟩, Mv.refl _ _, fun b ⟨t, ht, hb⟩ => ?_⟩
  · rcases split i t hi with h1 | h1
    · exact h.all i t h1
    · exact (hm t h1).1
  · rcases split i s hi with h1 | h1
    · rcases split j t hj with h2 | h2
      · exact h.apart i j s t h1 h2 hne b hb hb2
      · exact (hm t h2).2 b hb2
    · exact (hm s h1).2 b hb
  · rcases List.mem_append.1 ht with h1 | h1
    · exact .inl ⟨t, h1, hb⟩
    · exact absurd hb ((hm t h1).2 b)
theorem Turns.regroup1 {a b s c : Thing} {w : World} (h : Apt [thAll [a, b], s, c] w) : Turns (thAll [thAll [a, b], s, c]) (thAll [b, s, a, c]) w w := by
  have hab : Apt [a, b] w := h.all 0 _ rfl
  have ma : ∀ x, a.foot x → (thAll [a, b]).foot x := fun x hx => ⟨a, by simp, hx⟩
  have mb : ∀ x, b.foot x → (thAll [a, b]).foot x := fun x hx => ⟨b, by simp, hx⟩
  have hc : Apt [c] w := (Apt.nil w).cons (h.all 2 _ rfl) (fun s hs => by cases hs)
  have h1 : Apt [a, c] w := hc.cons (hab.all 0 _ rfl) (fun t ht x hx hx2 => by
    obtain rfl := List.mem_singleton.1 ht
    exact h.apart 0 2 _ _ rfl rfl (by decide) x (ma x hx) hx2)
  have h2 : Apt [s, a, c] w := h1.cons (h.all 1 _ rfl) (fun t ht x hx hx2 => by
    rcases List.mem_cons.1 ht with rfl | ht
    · exact h.apart 1 0 _ _ rfl rfl (by decide) x hx (ma x hx2)
    · obtain rfl := List.mem_singleton.1 ht
      exact h.apart 1 2 _ _ rfl rfl (by decide) x hx hx2)
  refine ⟨h2.cons (hab.all 1 _ rfl) (fun t ht x hx hx2 => ?_), Mv.refl _ _, fun x ⟨t, ht, hx⟩ => ?_⟩
  · rcases List.mem_cons.1 ht with rfl | ht
    · exact h.apart 0 1 _ _ rfl rfl (by decide) x (mb x hx) hx2
    · rcases List.mem_cons.1 ht with rfl | ht
      · exact hab.apart 1 0 _ _ rfl rfl (by decide) x hx hx2
      · obtain rfl := List.mem_singleton.1 ht
        exact h.apart 0 2 _ _ rfl rfl (by decide) x (mb x hx) hx2
  · left
    rcases List.mem_cons.1 ht with rfl | ht
    · exact ⟨_, List.mem_cons_self .., mb x hx⟩
    · rcases List.mem_cons.1 ht with rfl | ht
      · exact ⟨t, by simp, hx⟩
      · rcases List.mem_cons.1 ht with rfl | ht
        · exact ⟨_, List.mem_cons_self .., ma x hx⟩
        · obtain rfl := List.mem_singleton.1 ht
          exact ⟨t, by simp, hx⟩
theorem thT_none (W : World) (G : Nat → Prop) (cur n : Nat) : thT W G cur n none = thPure True := by cases n <;> rfl
theorem rootBox {W w : World} {G : Nat → Prop} {cur n : Nat} {t : PT n} (h : (thT W G cur n (some t)).holds w) (ho : (thOld W G).holds w) : Box w (PT.gOf t) (PT.cells t) 82 := by
  cases n with
  | zero =>
    unfold thT at h
    by_cases hb : PT.birthOf t < cur
    · rw [if_pos hb] at h; exact OldT.now h ho
    · rw [if_neg hb] at h; exact Apt.all h 1 _ rfl
  | succ n =>
    unfold thT at h
    by_cases hb : PT.birthOf t < cur
    · rw [if_pos hb] at h; exact OldT.now h ho
    · rw [if_neg hb] at h; exact Apt.all h 1 _ rfl
theorem cells_level {n : Nat} (t : PT n) : (PT.cells t)[2]? = some (.int .i64 (n : Int)) := by
  cases n with
  | zero => simp [PT.cells, nodeV]
  | succ n => simp [PT.cells, nodeV]
/-- A new node above. -/
theorem Turns.up {W : World} {G : Nat → Prop} {F S : Thing} {cur n g id : Nat} {t : PT n} {w : World} (h : Apt [thAll [thBox g (nodeV id cur (n + 1) nils zeros) 82, F], S, thT W G cur n (some t)] w) :
    Turns (thAll [thAll [thBox g (nodeV id cur (n + 1) nils zeros) 82, F], S, thT W G cur n (some t)]) (thAll [F, S, thT W G cur (n + 1) (some (⟨g, id, cur, [some t, none, none, none]⟩ : InP (PT n)))]) w (w.setCell ⟨g, 3, none⟩ (ptr (some t))) := by
  have T1 := Turns.regroup1 h
  have T2 := T1.trans (Turns.inside (i := 2) T1.now rfl (Turns.cell (T1.now.all 2 _ rfl) (3 + 0) (ptr (some t))))
  rw [nodeV_setKid _ _ _ _ _ _ (by decide)] at T2
  have T3 := T2.trans (Turns.group2 T2.now)
  have P : Turns (thAll [thBox g (nodeV id cur (n + 1) (nils.set 0 (ptr (some t))) zeros) 82, thT W G cur n (some t)]) (thT W G cur (n + 1) (some (⟨g, id, cur, [some t, none, none, none]⟩ : InP (PT n)))) (w.setCell ⟨g, 3 + 0, none⟩ (ptr (some t))) (w.setCell ⟨g, 3 + 0, none⟩ (ptr (some t))) := by
    have A : Apt [thBox g (nodeV id cur (n + 1) (nils.set 0 (ptr (some t))) zeros) 82, thT W G cur n (some t)] (w.setCell ⟨g, 3 + 0, none⟩ (ptr (some t))) := T3.now.all 2 _ rfl
    have A2 := Turns.pads A (m := [thT W G cur n none, thT W G cur n none, thT W G cur n none]) (fun u hu => by
      have : u = thPure True := by
        simp only [thT_none, List.mem_cons, List.mem_nil_iff, or_self, or_false] at hu; exact hu
      subst this
      exact ⟨trivial, fun b hb => hb⟩)
    exact A2.trans (innerThing W G cur n g id [some t, none, none, none] rfl A2.now)
  exact T3.trans (Turns.inside (i := 2) T3.now rfl P)
theorem levelOf_le (s : Nat) : levelOf s ≤ 3 := by unfold levelOf; repeat' split
                                                   all_goals omega
set_option maxHeartbeats 4000000 in
theorem levelW (s : Nat) (hs : s ≤ 4096) (w : World) : Calls Try.prog 29 #[.int .i64 s] w fun e w' => e = .returned (.int .i64 (levelOf s : Nat)) ∧ w = w' := by
  have hl3 := levelOf_le s
  have hroom := Lib.hid (levelOf_room hs)
  have hleast : Hid (0 < levelOf s → room (levelOf s - 1) < s) := fun h => levelOf_least h
  obtain ⟨L, hL⟩ : ∃ L, levelOf s = L := ⟨_, rfl⟩
  rw [hL] at hl3 hroom hleast ⊢
  clear hL
  go_enter Try.func29, Try.ntmps29
  go_wp2_with fail
  go_loop [3] (fun iv => ∃ i : Nat, i ≤ L ∧ iv = .int .i64 i) (fun iv => 4 - (intOf iv).toNat)
  case atStart => exact ⟨0, by omega, rfl⟩
  case round =>
    obtain ⟨i, hi, rfl⟩ := hrel
    have hR := Lib.hid (roomW i (by omega) w)
    obtain ⟨r, hr⟩ : ∃ r, Hid (room i = r) := ⟨_, rfl⟩
    rw [hr.out] at hR
    by_cases hlt : r < s
    · have q : decide ((r : Int) < (s : Int)) = true := by simp; omega
      have hil : i < L := by
        by_cases e : i = L
        · subst e; have := hroom.out; have := hr.out; omega
        · omega
      go_wp2_with fail
      refine hR.out.mono ?_
      rintro e w' ⟨rfl, rfl⟩
      go_wp2_with fail
      go_round
      case rel => exact ⟨i + 1, by omega, by go_num⟩
      case measure => (simp [intOf]; try omega)
    · have q : decide ((r : Int) < (s : Int)) = false := by simp; omega
      have hil : Hid (i = L) := by
        show i = L
        by_cases e : i = L
        · exact e
        · have h1 := hleast.out (by omega)
          have h2 := room_mono (a := i) (b := L - 1) (by omega)
          have := hr.out
          omega
      go_wp2_with fail
      refine hR.out.mono ?_
      rintro e w' ⟨rfl, rfl⟩
      go_wp2_with fail
      go_ret
      exact ⟨by rw [hil.out]; rfl, rfl⟩
def raiseO (cur level : Nat) (r : Option Rt) (made : Nat) : Option Rt × Nat := match r with
  | none => (none, made)
  | some r => (some (raise cur (level - r.1) r made).1, (raise cur (level - r.1) r made).2)
def RootEnd (W : World) (G : Nat → Prop) (S : Thing) (k : Nat) (av : Option Addr) (cv cur : Nat) (made : Nat) (r : Option PRt) (x : Option Rt × Nat) (w : World) (v : Value → Value) (e : Ending) (w' : World) : Prop :=
  ∃ r' : Option PRt, e = .returned (v (rptr r')) ∧ Hid (r'.map PRt.er = x.1) ∧ Hid (Turns (thAll [thBox k (forV av cur cv made) 74, S, thR W G cur r]) (thAll [thBox k (forV av cur cv x.2) 74, S, thR W G cur r']) w w')
theorem raise_step (cur level : Nat) (r : Rt) (md : Nat) (h : r.1 < level) : raise cur (level - r.1) r md = raise cur (level - (upOf cur md r).1) (upOf cur md r) (md + 1) := by
  have : level - r.1 = (level - (upOf cur md r).1) + 1 := by show level - r.1 = level - (r.1 + 1) + 1; omega
  rw [this]; rfl
set_option maxHeartbeats 8000000 in
theorem raisedW (W : World) (G : Nat → Prop) (S : Thing) (k : Nat) (av : Option Addr) (cv cur made : Nat) (r : Option PRt) (size : Int) (level : Nat) (w : World)
    (hS : ∀ w, S.holds w → (thOld W G).holds w)
    (h : (thAll [thBox k (forV av cur cv made) 74, S, thR W G cur r]).holds w) (hm : made ≤ 900000) (hl : level ≤ 4) :
    Calls Try.prog 32 #[.pointer (some ⟨k, 0, none⟩), .agg #[rptr r, .int .i64 size], .int .i64 level] w (RootEnd W G S k av cv cur made r (raiseO cur level (r.map PRt.er) made) w id) := by
  have HS := Lib.hid hS
  have HH := Lib.hid h
  clear hS h
  cases r with
  | none =>
    change Calls _ _ #[.pointer (some ⟨k, 0, none⟩), .agg #[.pointer none, .int .i64 size], .int .i64 level] w _
    go_enter Try.func32, Try.ntmps32
    go_wp2_with fail
    go_ret
    exact ⟨none, rfl, rfl, (Turns.refl HH.out).stays (Below_alloc1 _)⟩
  | some r =>
    obtain ⟨g0, hg0⟩ : ∃ g0, Hid (PT.gOf r.2 = g0) := ⟨_, rfl⟩
    have e0 : rptr (some r) = .pointer (some ⟨g0, 0, none⟩) := by show Value.pointer (some ⟨PT.gOf r.2, 0, none⟩) = _; rw [hg0.out]
    rw [e0]
    obtain ⟨X, hX⟩ : ∃ X, Hid (raiseO cur level ((some r : Option PRt).map PRt.er) made = X) := ⟨_, rfl⟩
    rw [hX.out]
    have hX2 : Hid (raise cur (level - r.1) (PRt.er r) made = raise cur (level - (PRt.er r).1) (PRt.er r) made) := rfl
    clear e0
    go_enter Try.func32, Try.ntmps32
    go_wp2_with fail
    go_loopw [7] (fun nv wr => ∃ (q : PRt) (md g : Nat), nv = .pointer (some ⟨g, 0, none⟩) ∧ Hid (PT.gOf q.2 = g) ∧ q.1 ≤ max level r.1 ∧ md + (level - q.1) ≤ made + 4 ∧ Hid (raise cur (level - r.1) (PRt.er r) made = raise cur (level - (PRt.er q).1) (PRt.er q) md) ∧ Hid (Turns (thAll [thBox k (forV av cur cv made) 74, S, thR W G cur (some r)]) (thAll [thBox k (forV av cur cv md) 74, S, thR W G cur (some q)]) w wr) ∧ ∃ n, q.1 = n) (fun nv wr => match (match nv with | .pointer (some a) => wr.cell? ⟨a.block, 2, none⟩ | _ => none) with | some (.int _ n) => level - n.toNat | _ => 0)
    case atStart => exact ⟨r, made, g0, rfl, hg0.out, by omega, by omega, hX2.out, (Turns.refl HH.out).stays (Below_alloc1 _), _, rfl⟩
    case round =>
      obtain ⟨q, md, g, rfl, hg, hq, hmd, hE, hT, n, hn⟩ := hrel
      obtain ⟨n', t⟩ := q
      obtain rfl : n' = n := hn
      have B := rootBox (hT.out.now.all 2 _ rfl) (HS.out wr (hT.out.now.all 1 _ rfl))
      rw [hg.out] at B
      have n2 : wr.cell? ⟨g, 2, none⟩ = some (.int .i64 (n' : Int)) := (B.cell 2).trans (cells_level t)
      have hgl : g < wr.heap.size := B.lt
      simp only at hq hmd
      by_cases hlt : n' < level
      · have q1 : decide ((n' : Int) < (level : Int)) = true := by simp; omega
        have BF := Lib.hid (show Box wr k (forV av cur cv md) 74 from hT.out.now.all 0 _ rfl)
        have wn : IntKind.i64.wrap ((n' : Int) + 1) = (n' : Int) + 1 := IntWalk.i64_in _ (by omega)
        have HF := freshN k av cur cv md (n' + 1) wr BF.out (by omega) (by omega)
        have en : ((n' + 1 : Nat) : Int) = (n' : Int) + 1 := by push_cast; rfl
        rw [en] at HF
        have HF2 := Lib.hid HF
        clear HF B
        go_wp2_with fail
        refine HF2.out.mono ?_
        rintro e V ⟨rfl, TF⟩
        obtain ⟨u, hu⟩ : ∃ u, Hid (wr.heap.size = u) := ⟨_, rfl⟩
        rw [hu.out] at TF ⊢
        have T1 := Lib.hid (hT.out.trans (Turns.inside (i := 0) hT.out.now rfl TF))
        have A1 : Apt [thBox u (nodeV (md + 1) cur (n' + 1) nils zeros) 82, thBox k (forV av cur cv (md + 1)) 74] V := T1.out.now.all 0 _ rfl
        have BU := A1.all 0 _ rfl
        have c3 : V.cell? ⟨u, 3, none⟩ = some (.pointer none) := (Box.cell BU 3).trans rfl
        have f3 : V.frozen? ⟨u, 3, none⟩ = false := Box.free BU 3
        have hul : u < V.heap.size := Box.lt BU
        have T2 := T1.out.trans (Turns.up T1.out.now)
        have ep : ptr (some t) = .pointer (some ⟨g, 0, none⟩) := by show Value.pointer (some ⟨PT.gOf t, 0, none⟩) = _; rw [← hg.out]
        rw [ep] at T2
        have T3 := Lib.hid T2
        have hE2 := hE.out.trans (raise_step cur level (PRt.er ⟨n', t⟩) md hlt)
        have HE2 := Lib.hid hE2
        have HLT := Lib.hid hlt
        have nn : (V.setCell ⟨u, 3, none⟩ (.pointer (some ⟨g, 0, none⟩))).cell? ⟨u, 2, none⟩ = some (.int .i64 ((n' : Int) + 1)) := by
          have := Box.cell (Box.set BU 3 (.pointer (some ⟨g, 0, none⟩))) 2
          rw [this]; simp [nodeV]
        have NN := Lib.hid nn
        clear T2 A1 BU ep TF hE2 nn HF2 BF
        go_wp2_with fail
        go_roundw
        case rel => exact ⟨⟨n' + 1, (⟨u, md + 1, cur, [some t, none, none, none]⟩ : InP (PT n'))⟩, md + 1, u, rfl, rfl, by show n' + 1 ≤ _; omega, by show md + 1 + (level - (n' + 1)) ≤ _; omega, HE2.out, T3.out, _, rfl⟩
        case measure =>
          simp only [n2, NN.out]
          have e1 : ((n' : Int) + 1).toNat = n' + 1 := by omega
          have e2 : (n' : Int).toNat = n' := by omega
          rw [e1, e2]
          exact Nat.sub_lt_sub_left HLT.out (Nat.lt_succ_self _)
      · have q1 : decide ((n' : Int) < (level : Int)) = false := by simp; omega
        have hE3 : Hid (X = (some (PRt.er ⟨n', t⟩), md)) := by
          show _ = _
          rw [← hX.out]
          show ((some (raise cur (level - r.1) (PRt.er r) made).1, (raise cur (level - r.1) (PRt.er r) made).2) : Option Rt × Nat) = _
          rw [hE.out]
          have : level - (PRt.er ⟨n', t⟩).1 = 0 := by show level - n' = 0; omega
          rw [this]; rfl
        clear B
        go_wp2_with fail
        go_ret
        refine ⟨some ⟨n', t⟩, by show _ = Ending.returned (.pointer (some ⟨PT.gOf t, 0, none⟩)); rw [← hg.out]; rfl, by show _ = _; rw [hE3.out]; rfl, by show Turns _ _ _ _; rw [hE3.out]; exact hT.out⟩
end Go.Proofs.Ythjjfmnipemakaa
