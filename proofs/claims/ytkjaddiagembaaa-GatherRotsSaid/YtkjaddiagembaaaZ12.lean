/- Texts that belong together: RbF, RbG. -/
import Derived.Test.YtkjaddiagembaaaZ11
import Derived.Test.YtkjaddiagembaaaZ7
/- Invert, whose rows lie in new blocks. -/
namespace Go.Proofs.Ytkjaddiagembaaa
open Go.RowKit
set_option linter.unusedVariables false
set_option maxRecDepth 100000

def Inverted2 (M : List (List Int)) (n : Nat) (w : World) (e : Ending) (w' : World) : Prop :=
  (((redN M n).2 < n ∧ e = .returned (.tuple #[.slice none 0 0, .int .i64 10])) ∨ ((redN M n).2 = n ∧ ∃ a c, e = .returned (.tuple #[.slice a n c, .int .i64 0]) ∧ Hid (SRow (Lay.int .i64).slice w' (fun b => w.heap.size ≤ b) a n c (invM M n)))) ∧ Below w.heap.size w w'
set_option maxHeartbeats 4000000 in
theorem invertW2 {F : Nat → Prop} (a : Option Addr) (cap : Nat) (M : List (List Int)) (n : Nat) (w : World) (h : SRow (Lay.int .i64).slice w F a n cap M) (hm : Mat M n n) :
    Calls Try.prog 53 #[.slice a n cap] w (Inverted2 M n w) := by
  have hr1 := hm.2.1.1
  have hr8 := hm.2.1.2
  have hle := h.hle
  have hmx := h.hmax
  unfold maxLen at hmx
  obtain ⟨b, off, a', l', c', rfl, hb, e0, hrow⟩ := mget h 0 (by omega)
  obtain rfl : l' = n := by have := hrow.hlen; have := (hm.get 0 (by omega)).1; omega
  rw [Nat.add_zero] at e0
  have HS := Lib.hid h
  have HM := Lib.hid hm
  have i0 : (0 : Int) < (l' : Int) := by omega
  have i0n : 0 < l' := by omega
  have hrn := rank_le_cols hm.rect (Nat.le_refl l')
  clear h hm hrow
  go_enter Try.func53, Try.ntmps53
  go_wp2_with fail
  refine (mayM _ _ _ M l' l' w HS.out HM.out).mono ?_
  rintro e w1 ⟨rfl, rfl⟩
  have bne : ((l' : Int) != (l' : Int)) = false := by simp
  go_wp2_with fail
  refine (besideW (some ⟨b, off, none⟩) cap M l' l' l' w HS.out HM.out (.inr rfl)).mono fun e w1 hp => ?_
  obtain ⟨g, cp, bs, rfl, hN, hb1⟩ := besided_some hp hr1
  go_wp2_with fail
  refine (reduceW l' w1 hN hb1.size (by omega) (by omega) hr8).mono ?_
  rintro e w2 ⟨bs2, rfl, hN2, hb2⟩
  rw [rank_beside HM.out.rect]
  have L2 := Lib.hid (hb1.trans hb2)
  have N2 := Lib.hid hN2
  clear hp hN hb1 hN2 hb2 e0
  obtain ⟨rk, hrk⟩ : ∃ k, Hid ((redN M l').2 = k) := ⟨_, rfl⟩
  rw [hrk.out] at hrn ⊢
  by_cases hfull : rk < l'
  · have b1 : decide ((rk : Int) < (l' : Int)) = true := decide_eq_true (by omega)
    have hf2 := Lib.hid hfull
    clear hfull
    go_wp2_with fail
    go_ret2
    exact ⟨.inl ⟨by rw [hrk.out]; exact hf2.out, rfl⟩, L2.out⟩
  · have b1 : decide ((rk : Int) < (l' : Int)) = false := decide_eq_false (by omega)
    have hfull2 : Hid (rk = l') := by show _ = _; omega
    have HRED : Hid (Rect (redN (besideM M l') l').1 l' (l' + l')) := redN_rect (besideM_rect HM.out.rect l') l'
    obtain ⟨X, hX⟩ : ∃ X, Hid ((redN (besideM M l') l').1 = X) := ⟨_, rfl⟩
    have hinv : Hid (invM M l' = X.map (fun x => x.drop l')) := by show _ = _; unfold invM; rw [hX.out]
    rw [hX.out] at N2 HRED
    obtain ⟨B, hB⟩ : ∃ B, Hid (w2.heap.size = B) := ⟨_, rfl⟩
    have hlx : X.length = l' := HRED.out.1
    go_wp2_with fail
    go_loopw [6, 30] (fun ov iv wr => ∃ (i : Nat) (ao : Option Addr) (co : Nat), i ≤ l' ∧ iv = .int .i64 i ∧ ov = .slice ao i co ∧ Hid (SOwn (Lay.int .i64).slice wr B 23 (fun b => B ≤ b) ao i co ((X.map (fun x => x.drop l')).take i)) ∧ Hid (Below B w2 wr)) (fun _ iv _ => l' - (intOf iv).toNat)
    case atStart => exact ⟨0, none, 0, by omega, rfl, rfl, SOwn.nil .., Below.refl _ _⟩
    case round =>
      obtain ⟨i, ao, co, hi, rfl, rfl, hO, hL⟩ := hrel
      have hBr : B ≤ wr.heap.size := by have := hL.out.size; have := hB.out; omega
      by_cases hlt : i < l'
      · have hLw : Below w2.heap.size w2 wr := by rw [hB.out]; exact hL.out
        have N3 := N2.out.below hLw
        have e1 := N3.cell i hlt
        obtain ⟨bi, hbi⟩ : ∃ b, bs2.getD i 0 = b := ⟨_, rfl⟩
        obtain ⟨row, hrow⟩ : ∃ y, X.getD i [] = y := ⟨_, rfl⟩
        obtain ⟨hl2, hel⟩ := HRED.out.get i hlt
        rw [hrow] at hl2 hel
        rw [hbi] at e1
        have hrowd : Row .i64 wr (some ⟨bi, l', none⟩) l' l' (row.drop l') := by
          refine ⟨by rw [List.length_drop, hl2]; omega, Nat.le_refl _, by unfold maxLen; omega, (fun h => by cases h), El.wf (fun v hv => hel v (List.mem_of_mem_drop hv)), .inr ⟨bi, l', rfl, fun k hk => ?_⟩⟩
          have := N3.at i (l' + k) hlt (by omega)
          rw [hbi, hrow] at this
          rw [this]; simp [List.getD]
        have hnext : Hid ((X.map (fun x => x.drop l')).take (i + 1) = (X.map (fun x => x.drop l')).take i ++ [row.drop l']) := by
          show _ = _
          rw [List.take_add_one, List.getElem?_map, List.getElem?_eq_getElem (by omega)]
          rw [← hrow, show X.getD i [] = X[i]'(by omega) by simp [List.getD, hlx, hlt]]; rfl
        have i1 : (i : Int) < (l' : Int) := by omega
        have i2 : (0 : Int) ≤ (l' : Int) := by omega
        have i3 : (l' : Int) ≤ (l' : Int) + (l' : Int) := by omega
        have i4 : ¬ l' + l' = l' := by omega
        have i5 : l' + l' - l' = l' := by omega
        have HROW := Lib.hid hrowd
        clear hbi hrow hrowd hl2 hel N3 hLw
        go_wp2_with fail
        refine (cloneI _ l' l' _ wr HROW.out (by omega) (by omega)).mono ?_
        rintro e w4 ⟨gx, cx, rfl, hOx, hb4⟩
        have O4 := Lib.hid (hO.out.below hb4)
        have L4 := Lib.hid (hL.out.trans (hb4.mono hBr))
        have hB4 : B ≤ w4.heap.size := by have := hb4.size; omega
        have hgx := (World.ownsRow.lt hOx gx rfl)
        have hno : ∀ z, (Value.slice ao i co).ownBlock = some z → z < wr.heap.size := fun z hz => (hO.out.lt z hz).2
        have HDX : Hid ((Lay.int .i64).slice.at_ w4 (fun b => b = gx) (row.drop l') [.slice (some ⟨gx, 0, none⟩) l' cx]) := ⟨_, _, _, rfl, (hOx.row.toRow HROW.out.hwf).toS (fun x hx _ => by cases hx; rfl)⟩
        have HF2 : Hid (∀ b, b = gx → B ≤ b ∧ b < w4.heap.size ∧ (Value.slice ao i co).ownBlock ≠ some b) := fun b hb => ⟨by omega, by omega, fun e => by have := hno b e; omega⟩
        clear hO hL hb4 hOx hno HROW
        go_wp2_with (at_builtin; refine wpList_append_one (L := (Lay.int .i64).slice) (wr := w4) rfl (.tmp 34) (.tmp 39) 93 rfl B 23 _ 24 Try.underlying93 info_row rfl (fun b => B ≤ b) ao i co _ rfl O4.out #[.slice (some ⟨gx, 0, none⟩) l' cx] (row.drop l') rfl (fun b => b = gx) HDX.out HF2.out (by unfold maxLen; omega) (by omega) hB4 ?_)
        intro a5 c5 w5 hown5 hg5
        have L5 := Lib.hid (O4.out.grown L4.out (Nat.le_refl _) hB4 hg5)
        have O5 := Lib.hid hown5
        clear hown5 hg5 O4 L4 HDX HF2
        go_wp2_with fail
        go_roundw
        case rel => exact ⟨i + 1, a5, c5, by omega, by go_num, rfl, by rw [hnext.out]; exact O5, L5⟩
        case measure => simp [intOf]; omega
      · obtain rfl : i = l' := by omega
        have hfin : (X.map (fun x => x.drop i)).take i = X.map (fun x => x.drop i) := List.take_of_length_le (by simp; omega)
        rw [hfin, ← hinv.out] at hO
        have hwB : w.heap.size ≤ B := by have := L2.out.size; have := hB.out; omega
        have HO := Lib.hid ((hO.out.row (fun b hb => hb)).keep (G := fun b => w.heap.size ≤ b) (fun b hb => Nat.le_trans hwB hb) (fun _ _ _ => rfl))
        have LF : Hid (Below w.heap.size w wr) := L2.out.trans (hL.out.mono (by have := L2.out.size; have := hB.out; omega))
        clear hO hL hfin
        go_wp2_with fail
        go_ret2
        exact ⟨.inr ⟨by rw [hrk.out]; exact hfull2.out, _, _, rfl, HO⟩, LF.out⟩
end Go.Proofs.Ytkjaddiagembaaa
/- Package par: fill walked. -/
namespace Go.Proofs.Ytkjaddiagembaaa
open Go.RowKit
set_option linter.unusedVariables false
set_option maxRecDepth 100000

/-- All but the blocks R stay. -/
structure Fr (R : Nat → Prop) (w w' : World) : Prop where
  os : w'.os = w.os
  tape : w'.tape = w.tape
  output : w'.output = w.output
  size : w.heap.size ≤ w'.heap.size
  block : ∀ k, k < w.heap.size → ¬ R k → w'.heap[k]? = w.heap[k]?
theorem Fr.refl (R : Nat → Prop) (w : World) : Fr R w w := ⟨rfl, rfl, rfl, Nat.le_refl _, fun _ _ _ => rfl⟩
theorem Fr.trans {R : Nat → Prop} {w w1 w2 : World} (h : Fr R w w1) (k : Fr R w1 w2) : Fr R w w2 :=
  ⟨k.os.trans h.os, k.tape.trans h.tape, k.output.trans h.output, Nat.le_trans h.size k.size, fun i hi hn => (k.block i (Nat.lt_of_lt_of_le hi h.size) hn).trans (h.block i hi hn)⟩
theorem Fr.of_below {R : Nat → Prop} {w w' : World} (h : Below w.heap.size w w') : Fr R w w' := ⟨h.os, h.tape, h.output, h.size, fun k hk _ => h.block k hk⟩
theorem Fr.of_grown {R : Nat → Prop} {w w' : World} {b : Nat} (h : w.grownBy w' (some b)) (hb : R b) : Fr R w w' := ⟨h.os, h.tape, h.output, h.size, fun k hk hn => h.block k hk (fun e => hn (by injection e with e; rw [e]; exact hb))⟩
theorem Fr.below {R : Nat → Prop} {w w' : World} {B : Nat} (h : Fr R w w') (hB : B ≤ w.heap.size) (hR : ∀ k, R k → B ≤ k) : Below B w w' :=
  ⟨h.os, h.tape, h.output, h.size, fun k hk => h.block k (Nat.lt_of_lt_of_le hk hB) (fun hr => by have := hR k hr; omega)⟩
theorem SRow.frame {α : Type} {Y : Lay α} {w w' : World} {R F : Nat → Prop} {a : Option Addr} {len cap : Nat} {xs : List α} (h : SRow Y w F a len cap xs) (hf : Fr R w w') (hF : ∀ b, F b → ¬ R b) : SRow Y w' F a len cap xs :=
  h.keep (fun _ hb => hb) (fun b hb hlt => hf.block b hlt (hF b hb))
def rowsOf (vs : List Value) : Nat → Prop := fun k => ∃ (i : Nat) (v : Value), vs[i]? = some v ∧ v.ownBlock = some k
theorem Outs.rows {w : World} {B g n : Nat} {vs : List Value} {L : List (List Int)} (h : Outs w B g n vs L) (k : Nat) (hk : rowsOf vs k) : B ≤ k ∧ k < w.heap.size := by
  obtain ⟨i, v, hv, hb⟩ := hk
  have hi : i < n := by rw [← h.vl]; exact (List.getElem?_eq_some_iff.1 hv).1
  obtain ⟨a, c, h1, h2, _⟩ := h.row i hi
  rw [h1] at hv
  injection hv with hv
  subst hv
  exact World.ownsRow.lt h2 k hb
theorem row_at {k : IntKind} {w : World} {bl ol len cap : Nat} {xs : List Int} (h : Row k w (some ⟨bl, ol, none⟩) len cap xs) (i : Nat) (hi : i < len) : w.cell? ⟨bl, ol + i, none⟩ = some (.int k (xs.getD i 0)) := by
  rcases h.hat with h0 | ⟨b, o, e, hc⟩
  · omega
  · injection e with e; injection e with e1 e2
    subst e1 e2
    exact hc i hi
/-- The matrix of the factors. -/
def facM (hs us : List Nat) : List (List Int) := us.map fun j => hs.map fun i => ((twos (i * j) : Nat) : Int)
def wantC (L : List (List Int)) (n size j : Nat) : List Int := mixN 1 (encN (L.take n) size j n) (L.getD (n + j) []) size
def wants (L : List (List Int)) (n size : Nat) (us : List Nat) : List (List Int) := us.map fun j => wantC L n size j
def fillRow (X : List Int) (W : List (List Int)) (size : Nat) (x0 : List Int) : Nat → List Int
  | 0 => x0
  | b + 1 => mixN (X.getD b 0).toNat (fillRow X W size x0 b) (W.getD b []) size
def fillN (hs : List Nat) (X W : List (List Int)) (size K : Nat) (L : List (List Int)) : Nat → List (List Int)
  | 0 => L
  | a + 1 => (fillN hs X W size K L a).set (hs.getD a 0) (fillRow (X.getD a []) W size ((fillN hs X W size K L a).getD (hs.getD a 0) []) K)
theorem fillRow_length (X : List Int) (W : List (List Int)) (size : Nat) (x0 : List Int) : ∀ b, (fillRow X W size x0 b).length = x0.length
  | 0 => rfl
  | b + 1 => by unfold fillRow; rw [mixN_length, fillRow_length]
theorem fillRow_byt {X : List Int} {W : List (List Int)} {size : Nat} {x0 : List Int} (hX : El X) (h : Byt x0) : ∀ b, Byt (fillRow X W size x0 b)
  | 0 => h
  | b + 1 => by
    unfold fillRow
    have := hX.getD b
    exact mixN_byt (by omega) (fillRow_byt hX h b) size
theorem fillN_length (hs : List Nat) (X W : List (List Int)) (size K : Nat) (L : List (List Int)) : ∀ a, (fillN hs X W size K L a).length = L.length
  | 0 => rfl
  | a + 1 => by unfold fillN; rw [List.length_set, fillN_length]
theorem fillN_lens (hs : List Nat) (X W : List (List Int)) (size K : Nat) (L : List (List Int)) (i : Nat) : ∀ a, ((fillN hs X W size K L a).getD i []).length = (L.getD i []).length
  | 0 => rfl
  | a + 1 => by
    unfold fillN
    by_cases h : hs.getD a 0 < (fillN hs X W size K L a).length
    · rw [getDL_set _ _ _ _ h]
      split
      · rename_i e; rw [fillRow_length, e, fillN_lens]
      · exact fillN_lens hs X W size K L i a
    · rw [List.set_eq_of_length_le (by omega)]; exact fillN_lens hs X W size K L i a
theorem facM_mat {hs us : List Nat} {K : Nat} (h1 : hs.length = K) (h2 : us.length = K) (hK : 1 ≤ K) (hK3 : K ≤ 8) : Mat (facM hs us) K K := by
  refine ⟨by simp [facM, h2], ⟨hK, hK3⟩, ⟨hK, hK3⟩, fun x hx => ?_⟩
  simp only [facM, List.mem_map] at hx
  obtain ⟨j, _, rfl⟩ := hx
  refine ⟨by simp [h1], fun v hv => ?_⟩
  simp only [List.mem_map] at hv
  obtain ⟨i, _, rfl⟩ := hv
  have := twos_lt (i * j)
  omega
theorem map_take_succ {α β : Type} (f : α → β) (l : List α) (k : Nat) (d : α) (h : k < l.length) : (l.map f).take (k + 1) = (l.map f).take k ++ [f (l.getD k d)] := by
  rw [List.take_add_one, List.getElem?_map, List.getElem?_eq_getElem h]
  simp [List.getD, h]
/-- A block of one kind. -/
def Kind (w : World) (t : TypeId) (b : Nat) : Prop := ∃ cur, w.heap[b]? = some (.cells cur t (0, 0))
theorem Kind.lt {w : World} {t : TypeId} {b : Nat} (h : Kind w t b) : b < w.heap.size := by
  obtain ⟨cur, h⟩ := h; exact (Array.getElem?_eq_some_iff.1 h).1
theorem Kind.ne {w : World} {t t' : TypeId} {b : Nat} (h : Kind w t b) (h' : Kind w t' b) : t = t' := by
  obtain ⟨c, h⟩ := h; obtain ⟨c', h'⟩ := h'
  rw [h] at h'; simp at h'; exact h'.2
/-- Blocks of these kinds are as they were. -/
def Keeps (ts : List TypeId) (w w' : World) : Prop := w.heap.size ≤ w'.heap.size ∧ ∀ t ∈ ts, ∀ b, Kind w t b → w'.heap[b]? = w.heap[b]?
theorem Keeps.kind {ts : List TypeId} {w w' : World} (h : Keeps ts w w') {t : TypeId} (ht : t ∈ ts) {b : Nat} (hb : Kind w t b) : Kind w' t b := by
  obtain ⟨cur, hc⟩ := hb
  exact ⟨cur, (h.2 t ht b ⟨cur, hc⟩).trans hc⟩
theorem Keeps.refl (ts : List TypeId) (w : World) : Keeps ts w w := ⟨Nat.le_refl _, fun _ _ _ _ => rfl⟩
theorem Keeps.trans {ts : List TypeId} {a b c : World} (h : Keeps ts a b) (h' : Keeps ts b c) : Keeps ts a c :=
  ⟨Nat.le_trans h.1 h'.1, fun t ht x hx => (h'.2 t ht x (h.kind ht hx)).trans (h.2 t ht x hx)⟩
theorem Keeps.sub {ts us : List TypeId} {w w' : World} (h : Keeps ts w w') (hs : ∀ t ∈ us, t ∈ ts) : Keeps us w w' := ⟨h.1, fun t ht => h.2 t (hs t ht)⟩
theorem Keeps.below (ts : List TypeId) {w w' : World} (h : Below w.heap.size w w') : Keeps ts w w' := ⟨h.size, fun t _ b hb => h.block b hb.lt⟩
theorem Keeps.grown {ts : List TypeId} {w w' : World} {row : Option Nat} (h : w.grownBy w' row) (hr : ∀ k, row = some k → ∀ t ∈ ts, ¬ Kind w t k) : Keeps ts w w' :=
  ⟨h.size, fun t ht b hb => h.block b hb.lt (fun e => hr b e.symm t ht hb)⟩
theorem Keeps.set {ts : List TypeId} {w : World} {g j : Nat} (v : Value) (hr : ∀ t ∈ ts, ¬ Kind w t g) : Keeps ts w (w.setCell ⟨g, j, none⟩ v) := by
  refine ⟨by simp [World.setCell], fun t ht b hb => ?_⟩
  exact Below.heap_setCell w ⟨g, j, none⟩ v b (by intro e; exact hr t ht (by rw [show g = b from e.symm]; exact hb))
theorem Box.kind {w : World} {g : Nat} {vs : Array Value} {t : TypeId} (h : Box w g vs t) : Kind w t g := ⟨vs, h⟩
theorem Box.keeps {w w' : World} {g : Nat} {vs : Array Value} {t : TypeId} (h : Box w g vs t) {ts : List TypeId} (hk : Keeps ts w w') (ht : t ∈ ts) : Box w' g vs t := (hk.2 t ht g h.kind).trans h
theorem Own.kind {w : World} {base : Nat} {e : TypeId} {size : Nat} {a : Option Addr} {len cap : Nat} {vs : List Value} (h : Own w base e size a len cap vs) : ∀ k, (Value.slice a len cap).ownBlock = some k → Kind w e k := by
  intro k hk
  rcases h.form with ⟨rfl, _⟩ | ⟨g, cur, rfl, _, hh, _⟩
  · cases hk
  · obtain rfl : g = k := by injection hk
    exact ⟨cur, hh⟩
theorem Own.keeps {w w' : World} {base : Nat} {e : TypeId} {size : Nat} {a : Option Addr} {len cap : Nat} {vs : List Value} (h : Own w base e size a len cap vs) {ts : List TypeId} (hk : Keeps ts w w') (he : e ∈ ts) : Own w' base e size a len cap vs := by
  refine ⟨h.1, ?_⟩
  rcases h.2 with h0 | ⟨g, c, cur, hv, hbg, hg, r⟩
  · exact .inl h0
  · exact .inr ⟨g, c, cur, hv, hbg, (hk.2 e he g ⟨cur, hg⟩).trans hg, r⟩
theorem SOwn.keepsK {α : Type} {L : Lay α} {w w' : World} {base C : Nat} {e T : TypeId} {a : Option Addr} {len cap : Nat} {xs : List α} (h : SOwn L w base e (fun b => C ≤ b ∧ Kind w T b) a len cap xs) {ts : List TypeId} (hk : Keeps ts w w') (he : e ∈ ts) (hT : T ∈ ts) :
    SOwn L w' base e (fun b => C ≤ b ∧ Kind w' T b) a len cap xs := by
  obtain ⟨hl, vss, F, ho, hp, hF⟩ := h
  refine ⟨hl, vss, F, ho.keeps hk he, hp.keep (fun _ hb => hb) (fun b hb _ => hk.2 _ hT b (hF b hb).1.2), fun b hb => ⟨⟨(hF b hb).1.1, hk.kind hT (hF b hb).1.2⟩, by have := (hF b hb).2.1; have := hk.1; omega, (hF b hb).2.2⟩⟩
theorem SOwn.fresh {α : Type} {L : Lay α} {w w' : World} {base C : Nat} {e T : TypeId} {a : Option Addr} {len cap : Nat} {xs : List α} (h : SOwn L w' base e (fun b => C ≤ b ∧ Kind w T b) a len cap xs) {ts : List TypeId} (hk : Keeps ts w w') (hT : T ∈ ts) : SOwn L w' base e (fun b => C ≤ b ∧ Kind w' T b) a len cap xs :=
  h.mono (Nat.le_refl _) (fun b hb => ⟨hb.1, hk.kind hT hb.2⟩)
theorem SOwn.kind {α : Type} {L : Lay α} {w : World} {base : Nat} {e : TypeId} {G : Nat → Prop} {a : Option Addr} {len cap : Nat} {xs : List α} (h : SOwn L w base e G a len cap xs) : ∀ k, (Value.slice a len cap).ownBlock = some k → Kind w e k := by
  obtain ⟨hl, vss, F, ho, hp, hF⟩ := h; exact ho.kind
theorem nest_get2 {w : World} {F : Nat → Prop} {a : Option Addr} {len cap : Nat} {L : List (List Int)} (h : SRow (Lay.int .u8).slice w F a len cap L) (i : Nat) (hi : i < len) :
    ∃ b off a' l' c', a = some ⟨b, off, none⟩ ∧ b < w.heap.size ∧ w.cell? ⟨b, off + i, none⟩ = some (.slice a' l' c') ∧ SRow (Lay.int .u8) w F a' l' c' (L.getD i []) := by
  obtain ⟨b, off, vs, rfl, _, hb, hx, hc⟩ := h.get i hi
  have hl : i < L.length := by rw [h.1]; exact hi
  obtain ⟨a', l', c', rfl, hr⟩ := hx _ (List.getElem?_eq_getElem hl)
  refine ⟨b, off, a', l', c', rfl, hb, ?_, ?_⟩
  · have := hc 0 (by decide)
    simpa [Lay.slice] using this
  · rw [show L.getD i [] = L[i] by simp [List.getD, hl]]
    exact hr
theorem set_self (L : List (List Int)) (i : Nat) : L.set i (L.getD i []) = L := by
  apply List.ext_getElem (by simp)
  intro j h1 h2
  rw [List.getElem_set]
  split
  · rename_i e; subst e; simp [List.getD, h2]
  · rfl
/-- What fill has to be given. -/
structure FillIn (w : World) (B g N n size K : Nat) (vs : List Value) (L : List (List Int)) (hs us : List Nat) : Prop where
  outs : Outs w B g N vs L
  hB : B ≤ w.heap.size
  hn : 1 ≤ n ∧ n ≤ 12 ∧ n ≤ N ∧ N ≤ n + 3
  hsz : size ≤ 4096
  cols : ∀ i, i < n → (L.getD i []).length = size
  hl : hs.length = K
  ul : us.length = K
  K3 : K ≤ 3
  holes : ∀ a, a < K → hs.getD a 0 < n ∧ ∃ b c, vs[hs.getD a 0]? = some (.slice (some ⟨b, 0, none⟩) size c)
  used : ∀ a, a < K → us.getD a 0 ≤ 2 ∧ n + us.getD a 0 < N ∧ (L.getD (n + us.getD a 0) []).length = size
  full : 1 ≤ K → (redN (facM hs us) K).2 = K
def filled (L : List (List Int)) (n size K : Nat) (hs us : List Nat) : List (List Int) := fillN hs (invM (facM hs us) K) (wants L n size us) size K L K
set_option maxHeartbeats 8000000 in
theorem fillW (B g N n size K : Nat) (vs : List Value) (L : List (List Int)) (hs us : List Nat) (ah : Option Addr) (ch : Nat) (au : Option Addr) (cu : Nat) (w : World) (h : FillIn w B g N n size K vs L hs us)
    (hh : ∀ w', Fr (rowsOf vs) w w' → Row .i64 w' ah K ch (nats hs)) (hu : ∀ w', Fr (rowsOf vs) w w' → Row .i64 w' au K cu (nats us)) :
    Calls Try.prog 49 #[.slice (some ⟨g, 0, none⟩) N N, .int .i64 n, .slice ah K ch, .slice au K cu] w fun e w' => e = .returned (.tuple #[]) ∧ Outs w' B g N vs (filled L n size K hs us) ∧ Fr (rowsOf vs) w w' := by
  have q1 := (hh w (Fr.refl _ _)).hle
  have q2 := (hh w (Fr.refl _ _)).hmax
  have q3 := (hu w (Fr.refl _ _)).hle
  have q4 := (hu w (Fr.refl _ _)).hmax
  have K3 := h.K3
  obtain ⟨n1, n2, n3, n4⟩ := h.hn
  have hsz := h.hsz
  have hgN := (World.ownsRow.lt h.outs.out g rfl).1
  unfold maxLen at q2 q4
  have HH : Hid (∀ w', Fr (rowsOf vs) w w' → Row .i64 w' ah K ch (nats hs)) := hh
  have HU : Hid (∀ w', Fr (rowsOf vs) w w' → Row .i64 w' au K cu (nats us)) := hu
  have HI := Lib.hid h
  clear h hh hu
  by_cases hK : K = 0
  · subst hK
    go_enter Try.func49, Try.ntmps49
    go_wp2_with fail
    try simp only [Exit.inBlock, Exit.then]
    refine bodyPost_ret (results_none rfl _ _ _) rfl ?_
    exact ⟨rfl, HI.out.outs, Fr.refl _ _⟩
  have hK0 : 0 < K := by omega
  have hKb : ((K : Int) == 0) = false := by simp; omega
  have hKd : decide ((K : Int) = 0) = false := by simp; omega
  obtain ⟨bh, oh, rfl⟩ : ∃ b o, ah = some ⟨b, o, none⟩ := by
    rcases (HH.out w (Fr.refl _ _)).hat with h0 | ⟨b, o, e, _⟩
    · omega
    · exact ⟨b, o, e⟩
  obtain ⟨bu, ou, rfl⟩ : ∃ b o, au = some ⟨b, o, none⟩ := by
    rcases (HU.out w (Fr.refl _ _)).hat with h0 | ⟨b, o, e, _⟩
    · omega
    · exact ⟨b, o, e⟩
  obtain ⟨B0, hB0⟩ : ∃ b, Hid (w.heap.size = b) := ⟨_, rfl⟩
  have hCols : Hid (Cols (L.take n) size) := by
    refine ⟨by rw [List.length_take, HI.out.outs.len]; omega, by rw [List.length_take]; omega, hsz, fun c hc => ?_⟩
    obtain ⟨i, hi, e⟩ := List.mem_iff_getElem.1 hc
    have hi' : i < n := by rw [List.length_take] at hi; omega
    rw [← e, List.getElem_take, ← HI.out.cols i hi']
    have hiL : i < L.length := by rw [HI.out.outs.len]; omega
    simp [List.getD, hiL]
  clear hK
  go_enter Try.func49, Try.ntmps49
  go_wp2_with fail
  go_loopw [8, 10, 26] (fun mv wv iv wr => ∃ (k : Nat) (am : Option Addr) (cm : Nat) (aw : Option Addr) (cw : Nat), k ≤ K ∧ iv = .int .i64 k ∧ mv = .slice am k cm ∧ wv = .slice aw k cw ∧ Hid (SOwn (Lay.int .i64).slice wr B0 23 (fun b => B0 ≤ b ∧ Kind wr 3 b) am k cm ((facM hs us).take k)) ∧ Hid (SOwn (Lay.int .u8).slice wr B0 22 (fun b => B0 ≤ b ∧ Kind wr 5 b) aw k cw ((wants L n size us).take k)) ∧ Hid (Below B0 w wr)) (fun _ _ iv _ => K - (intOf iv).toNat)
  case atStart => exact ⟨0, none, 0, none, 0, by omega, rfl, rfl, rfl, SOwn.nil .., SOwn.nil .., Below.refl _ _⟩
  case round =>
    obtain ⟨k, am, cm, aw, cw, hk, rfl, rfl, rfl, hM, hW, hL⟩ := hrel
    have hBr : B0 ≤ wr.heap.size := by have := hL.out.size; have := hB0.out; omega
    by_cases hlt : k < K
    · have i1 : (k : Int) < (K : Int) := by omega
      have hFw : Fr (rowsOf vs) w wr := Fr.of_below (by rw [hB0.out]; exact hL.out)
      have e0 := row_at (HU.out wr hFw) k hlt
      rw [nats_getD] at e0
      obtain ⟨j, hj⟩ : ∃ j, us.getD k 0 = j := ⟨_, rfl⟩
      obtain ⟨hu1, hu2, hu3⟩ := HI.out.used k hlt
      rw [hj] at e0 hu1 hu2 hu3
      have hMn : Hid ((facM hs us).take (k + 1) = (facM hs us).take k ++ [hs.map fun i => ((twos (i * j) : Nat) : Int)]) := by
        show _ = _
        have := map_take_succ (fun j => hs.map fun i => ((twos (i * j) : Nat) : Int)) us k 0 (by rw [HI.out.ul]; exact hlt)
        rw [hj] at this; exact this
      have hWn : Hid ((wants L n size us).take (k + 1) = (wants L n size us).take k ++ [wantC L n size j]) := by
        show _ = _
        have := map_take_succ (wantC L n size) us k 0 (by rw [HI.out.ul]; exact hlt)
        rw [hj] at this; exact this
      clear hj hFw
      go_wp2_with fail
      go_loopw [13, 32] (fun rv iv wi => ∃ (i : Nat) (ar : Option Addr) (cr : Nat), i ≤ K ∧ iv = .int .i64 i ∧ rv = .slice ar i cr ∧ Hid (SOwn (Lay.int .i64) wi wr.heap.size 3 (fun _ => False) ar i cr ((hs.map fun i => ((twos (i * j) : Nat) : Int)).take i)) ∧ Hid (Below wr.heap.size wr wi)) (fun _ iv _ => K - (intOf iv).toNat)
      case atStart => exact ⟨0, none, 0, by omega, rfl, rfl, SOwn.nil .., Below.refl _ _⟩
      case round =>
        obtain ⟨wo, rfl⟩ : ∃ W, W = wr := ⟨wr, rfl⟩
        obtain ⟨i, ar, cr, hi, rfl, rfl, hR, hLi⟩ := hrel
        have hwi : B0 ≤ wo.heap.size := by have := hLi.out.size; omega
        have hwi2 : wr.heap.size ≤ wo.heap.size := hLi.out.size
        by_cases hil : i < K
        · have i2 : (i : Int) < (K : Int) := by omega
          have hFi : Fr (rowsOf vs) w wo := Fr.of_below (by rw [hB0.out]; exact hL.out.trans (hLi.out.mono hBr))
          have e1 := row_at (HH.out wo hFi) i hil
          rw [nats_getD] at e1
          obtain ⟨x, hx⟩ : ∃ x, hs.getD i 0 = x := ⟨_, rfl⟩
          obtain ⟨hh1, _⟩ := HI.out.holes i hil
          rw [hx] at e1 hh1
          have hRn : Hid ((hs.map fun i => ((twos (i * j) : Nat) : Int)).take (i + 1) = (hs.map fun i => ((twos (i * j) : Nat) : Int)).take i ++ [((twos (x * j) : Nat) : Int)]) := by
            show _ = _
            have := map_take_succ (fun i => ((twos (i * j) : Nat) : Int)) hs i 0 (by rw [HI.out.hl]; exact hil)
            rw [hx] at this; exact this
          have HW : Hid ((Lit.int .i64 ((twos (x * j) : Nat) : Int)).wf = true) := nat_wf (by have := twos_lt (x * j); omega)
          obtain ⟨tw, htw⟩ : ∃ t : Nat, Hid (twos (x * j) = t) := ⟨_, rfl⟩
          rw [htw.out] at hRn HW
          clear hx hFi
          go_wp2_with fail
          refine (factor j x wo (by omega) (by omega)).mono ?_
          rintro e w2 ⟨rfl, hle2⟩
          rw [htw.out]
          have R2 := Lib.hid (hR.out.below hle2)
          have L2 := Lib.hid (hLi.out.trans (hle2.mono hwi2))
          have hw2 : wr.heap.size ≤ w2.heap.size := by have := hle2.size; omega
          clear hR hLi hle2
          go_wp2_with (at_builtin; refine wpList_append_one (L := Lay.int .i64) (wr := w2) rfl (.tmp 36) (.tmp 40) 23 rfl wr.heap.size 3 _ 8 Try.underlying23 info_int1 rfl (fun _ => False) ar i cr _ rfl R2.out #[.int .i64 (tw : Int)] (tw : Int) rfl (fun _ => False) ⟨rfl, HW.out⟩ (fun b h => h.elim) (by unfold maxLen; omega) (by omega) hw2 ?_)
          intro a5 c5 w5 hown5 hg5
          have L5 := Lib.hid (R2.out.grown L2.out (Nat.le_refl _) hw2 hg5)
          have O5 := Lib.hid hown5
          clear hown5 hg5 R2 L2 HW
          go_wp2_with fail
          go_roundw
          case rel => exact ⟨i + 1, a5, c5, by omega, by go_num, rfl, by rw [hRn.out]; exact O5, L5⟩
          case measure => simp [intOf]; omega
        · obtain rfl : i = K := by omega
          have hfin : (hs.map fun i => ((twos (i * j) : Nat) : Int)).take i = hs.map fun i => ((twos (i * j) : Nat) : Int) := List.take_of_length_le (by rw [List.length_map, HI.out.hl]; exact Nat.le_refl _)
          rw [hfin] at hR
          clear hfin
          obtain ⟨row, hrow⟩ : ∃ r, (hs.map fun i => ((twos (i * j) : Nat) : Int)) = r := ⟨_, rfl⟩
          rw [hrow] at hR hMn
          have HR := Lib.hid hR.out.ints
          have K1 : Keeps [3, 23, 5, 22] wr wo := Keeps.below _ hLi.out
          have M1 := Lib.hid (hM.out.keepsK K1 (by decide) (by decide))
          have W1 := Lib.hid (hW.out.keepsK K1 (by decide) (by decide))
          have L1 := Lib.hid (hL.out.trans (hLi.out.mono hBr))
          have HDX : Hid ((Lay.int .i64).slice.at_ wo (fun b => (Value.slice ar i cr).ownBlock = some b) row [.slice ar i cr]) := ⟨_, _, _, rfl, HR.out.toS (fun x hx _ => by rw [hx]; rfl)⟩
          have HF2 : Hid (∀ b, (Value.slice ar i cr).ownBlock = some b → (B0 ≤ b ∧ Kind wo 3 b) ∧ b < wo.heap.size ∧ (Value.slice am k cm).ownBlock ≠ some b) := fun b hb => by
            have h1 := hR.out.lt b hb
            exact ⟨⟨by omega, hR.out.kind b hb⟩, h1.2, fun e => by have := (hM.out.lt b e).2; omega⟩
          clear hR hM hW hL hLi HR hrow K1
          go_wp2_with (at_builtin; refine wpList_append_one (L := (Lay.int .i64).slice) (wr := wo) rfl (.tmp 43) (.tmp 45) 93 rfl B0 23 _ 24 Try.underlying93 info_row rfl (fun b => B0 ≤ b ∧ Kind wo 3 b) am k cm _ rfl M1.out #[.slice ar i cr] row rfl (fun b => (Value.slice ar i cr).ownBlock = some b) HDX.out HF2.out (by unfold maxLen; omega) (by omega) hwi ?_)
          intro a3 c3 w3 hown3 hg3
          have hB3 : B0 ≤ w3.heap.size := by have := hg3.size; omega
          have L3 := Lib.hid (M1.out.grown L1.out (Nat.le_refl _) hwi hg3)
          have K3' : Keeps [3, 5, 22] wo w3 := Keeps.grown hg3 (fun q hq t ht hk => by
            have := (M1.out.kind q hq).ne hk
            rw [← this] at ht; exact absurd ht (by decide))
          have M3 := Lib.hid (hown3.fresh K3' (by decide))
          have W3 := Lib.hid (W1.out.keepsK K3' (by decide) (by decide))
          rw [← hMn.out] at M3
          have OU3 := HI.out.outs.below (by rw [hB0.out]; exact L3.out)
          have S3 := Lib.hid (OU3.srow n n3)
          obtain ⟨aj, cj, _, e2, hoj, hbj⟩ := OU3.get (n + j) hu2
          rw [hu3] at e2 hoj
          have RJ := Lib.hid (hoj.row.toRow (fun v hv => WalkArith.wf_u8 (hbj v hv)))
          have j1 : ((n : Int) + (j : Int)) < (N : Int) := by omega
          have j2 : (0 : Int) ≤ (n : Int) + (j : Int) := by omega
          have nN : (n : Int) ≤ (N : Int) := by omega
          have HLn : Hid ((L.take n).length = n) := by show _ = _; rw [List.length_take, HI.out.outs.len]; omega
          clear hown3 hg3 K3' M1 W1 L1 HDX HF2 OU3 hoj hbj
          go_wp2_with fail
          refine (encode _ n N (L.take n) size j w3 S3.out hCols.out (by omega)).mono ?_
          rintro e w4 ⟨gw, c4, rfl, hown4, hle4⟩
          have hlen4 := encN_length (L.take n) size j (L.take n).length
          rw [HLn.out] at hown4 hlen4 ⊢
          rw [hlen4] at hown4 ⊢
          have hbyt4 := encN_byt (L.take n) size j n
          have e3 : w4.cell? ⟨g, n + j, none⟩ = some (.slice aj size cj) := (hle4.out.cell (p := ⟨g, n + j, none⟩) (World.block_lt_of_cell? _ _ e2)).trans e2
          have hw34 : w3.heap.size ≤ w4.heap.size := hle4.out.size
          have HO4 := Lib.hid hown4.out
          have HB4 := Lib.hid hbyt4
          obtain ⟨E, hE⟩ : ∃ E, Hid (encN (L.take n) size j n = E) := ⟨_, rfl⟩
          rw [hE.out] at HO4 HB4
          obtain ⟨J, hJ⟩ : ∃ J, Hid (L.getD (n + j) [] = J) := ⟨_, rfl⟩
          rw [hJ.out] at RJ
          have hwant : Hid (wantC L n size j = mixN 1 E J size) := by show _ = _; unfold wantC; rw [hE.out, hJ.out]
          have HLE := Lib.hid hle4.out
          clear hown4 hle4 hbyt4 e2 S3 hlen4
          go_wp2_with fail
          refine (mix gw size c4 E aj size cj J 1 w4 w3.heap.size HO4.out hw34 (fun w' hl => RJ.out.below (HLE.out.trans hl)) (Nat.le_refl _) (by omega) HB4.out).mono ?_
          rintro e w5 ⟨rfl, ho5, hle5⟩
          have LL : Below w3.heap.size w3 w5 := HLE.out.trans hle5
          have K5 : Keeps [3, 23, 5, 22] w3 w5 := Keeps.below _ LL
          have M5 := Lib.hid (M3.out.keepsK K5 (by decide) (by decide))
          have W5 := Lib.hid (W3.out.keepsK K5 (by decide) (by decide))
          have L5 := Lib.hid (L3.out.trans (LL.mono hB3))
          have hB5 : B0 ≤ w5.heap.size := by have := LL.size; omega
          obtain ⟨WC, hWC⟩ : ∃ x, mixN 1 E J size = x := ⟨_, rfl⟩
          have hbw : Byt WC := by rw [← hWC]; exact mixN_byt (by decide) HB4.out size
          have ho5' : Own w5 w3.heap.size 5 1 (some ⟨gw, 0, none⟩) size c4 (WC.map (.int .u8)) := by rw [← hWC]; exact ho5
          rw [hWC] at hwant
          rw [hwant.out] at hWn
          have hgw := World.ownsRow.lt ho5' gw rfl
          have HDW : Hid ((Lay.int .u8).slice.at_ w5 (fun b => b = gw) WC [.slice (some ⟨gw, 0, none⟩) size c4]) := ⟨_, _, _, rfl, (ho5'.row.toRow (fun v hv => WalkArith.wf_u8 (hbw v hv))).toS (fun x hx _ => by cases hx; rfl)⟩
          have HFW : Hid (∀ b, b = gw → (B0 ≤ b ∧ Kind w5 5 b) ∧ b < w5.heap.size ∧ (Value.slice aw k cw).ownBlock ≠ some b) := fun b hb => by
            subst hb
            exact ⟨⟨by omega, Own.kind ho5' _ rfl⟩, hgw.2, fun e => by have := (W3.out.lt b e).2; omega⟩
          clear LL K5 hle5 ho5 ho5' M3 W3 L3 hWC hbw HO4 HB4 HLE RJ hwant e3
          go_wp2_with (at_builtin; refine wpList_append_one (L := (Lay.int .u8).slice) (wr := w5) rfl (.tmp 60) (.tmp 62) 46 rfl B0 22 _ 24 Try.underlying46 info_bytes rfl (fun b => B0 ≤ b ∧ Kind w5 5 b) aw k cw _ rfl W5.out #[.slice (some ⟨gw, 0, none⟩) size c4] WC rfl (fun b => b = gw) HDW.out HFW.out (by unfold maxLen; omega) (by omega) hB5 ?_)
          intro a7 c7 w7 hown7 hg7
          have L7 := Lib.hid (W5.out.grown L5.out (Nat.le_refl _) hB5 hg7)
          have K7 : Keeps [3, 23, 5] w5 w7 := Keeps.grown hg7 (fun q hq t ht hk => by
            have := (W5.out.kind q hq).ne hk
            rw [← this] at ht; exact absurd ht (by decide))
          have W7 := Lib.hid (hown7.fresh K7 (by decide))
          have M7 := Lib.hid (M5.out.keepsK K7 (by decide) (by decide))
          rw [← hWn.out] at W7
          clear hown7 hg7 K7 M5 W5 L5 HDW HFW
          go_wp2_with fail
          go_roundw
          case rel => exact ⟨k + 1, a3, c3, a7, c7, by omega, by go_num, rfl, rfl, M7, W7, L7⟩
          case measure => simp [intOf]; omega
    · obtain rfl : k = K := by omega
      have f1 : (facM hs us).take k = facM hs us := List.take_of_length_le (by simp [facM, HI.out.ul])
      have f2 : (wants L n size us).take k = wants L n size us := List.take_of_length_le (by simp [wants, HI.out.ul])
      rw [f1] at hM
      rw [f2] at hW
      have HMat := Lib.hid (facM_mat HI.out.hl HI.out.ul (by omega) (by omega : k ≤ 8))
      obtain ⟨M, hMe⟩ : ∃ M, Hid (facM hs us = M) := ⟨_, rfl⟩
      have hfull : Hid ((redN M k).2 = k) := by rw [← hMe.out]; exact HI.out.full (by omega)
      rw [hMe.out] at hM HMat
      obtain ⟨W, hWe⟩ : ∃ W, Hid (wants L n size us = W) := ⟨_, rfl⟩
      rw [hWe.out] at hW
      have hWlen : Hid (∀ b, b < k → (W.getD b []).length = size) := fun b hb => by
        rw [← hWe.out]
        unfold wants
        rw [List.getD, List.getElem?_map, List.getElem?_eq_getElem (by rw [HI.out.ul]; exact hb)]
        show (wantC L n size _).length = size
        unfold wantC; rw [mixN_length, encN_length]
      have SM := Lib.hid hM.out.sRow
      have SW := Lib.hid ((hW.out.mono (G' := fun b => B0 ≤ b) (Nat.le_refl _) (fun b hb => hb.1)).row (fun b hb => hb))
      have L0 := Lib.hid hL.out
      have m1 := SM.out.hle
      have m2 := SM.out.hmax
      have m3 := SW.out.hle
      have m4 := SW.out.hmax
      unfold maxLen at m2 m4
      clear hM hW hL f1 f2
      go_wp2_with fail
      refine (invertW2 am cm M k wr SM.out HMat.out).mono ?_
      rintro e w1 ⟨hcase, hb1⟩
      rcases hcase with ⟨hlt2, _⟩ | ⟨_, a3, c3, rfl, hS3⟩
      · have := hfull.out; omega
      have HXm := Lib.hid (invM_mat HMat.out)
      obtain ⟨X, hX⟩ : ∃ X, Hid (invM M k = X) := ⟨_, rfl⟩
      rw [hX.out] at hS3 HXm
      have SX := Lib.hid (hS3.out.keep (G := fun b => B0 ≤ b) (fun b hb => Nat.le_trans hBr hb) (fun _ _ _ => rfl))
      have SW1 := Lib.hid (SW.out.below hb1)
      have L1 := Lib.hid (L0.out.trans (hb1.mono hBr))
      have OU1 := Lib.hid (HI.out.outs.below (by rw [hB0.out]; exact L1.out))
      have F1 : Hid (Fr (rowsOf vs) w w1) := Fr.of_below (by rw [hB0.out]; exact L1.out)
      have hRlt : Hid (∀ q, B0 ≤ q → ¬ rowsOf vs q) := fun q hq hr => by have := (HI.out.outs.rows q hr).2; have := hB0.out; omega
      have x1 := SX.out.hle
      have x2 := SX.out.hmax
      unfold maxLen at x2
      clear hb1 hS3 SM SW L0
      go_wp2_with fail
      go_loopw [72] (fun iv wz => ∃ a : Nat, a ≤ k ∧ iv = .int .i64 a ∧ Hid (Outs wz B g N vs (fillN hs X W size k L a)) ∧ Hid (Fr (rowsOf vs) w1 wz)) (fun iv _ => k - (intOf iv).toNat)
      case atStart => exact ⟨0, by omega, rfl, OU1, Fr.refl _ _⟩
      case round =>
        obtain ⟨a, ha, rfl, hO, hF⟩ := hrel
        by_cases halt : a < k
        · have i1 : (a : Int) < (k : Int) := by omega
          have e0 := row_at (HH.out wr (F1.out.trans hF.out)) a halt
          rw [nats_getD] at e0
          obtain ⟨x, hx⟩ : ∃ x, hs.getD a 0 = x := ⟨_, rfl⟩
          obtain ⟨hh1, bx, cx, hvx⟩ := HI.out.holes a halt
          have hnext : Hid (fillN hs X W size k L (a + 1) = (fillN hs X W size k L a).set x (fillRow (X.getD a []) W size ((fillN hs X W size k L a).getD x []) k)) := by
            show fillN hs X W size k L (a + 1) = _
            conv => lhs; unfold fillN
            rw [hx]
          rw [hx] at e0 hh1 hvx
          obtain ⟨La, hLa⟩ : ∃ l, Hid (fillN hs X W size k L a = l) := ⟨_, rfl⟩
          have hLal : Hid (La.length = N) := by show _ = _; rw [← hLa.out, fillN_length, HI.out.outs.len]
          have hLax : Hid ((La.getD x []).length = size) := by show _ = _; rw [← hLa.out, fillN_lens, HI.out.cols x hh1]
          rw [hLa.out] at hO hnext
          obtain ⟨x0, hx0⟩ : ∃ y, Hid (La.getD x [] = y) := ⟨_, rfl⟩
          rw [hx0.out] at hnext hLax
          have hbx0 : Hid (Byt x0) := by
            obtain ⟨_, _, _, _, hb0⟩ := hO.out.row x (by omega)
            rw [hx0.out] at hb0; exact hb0
          obtain ⟨hXl, hXe⟩ := HXm.out.get a halt
          obtain ⟨Xr, hXr⟩ : ∃ y, Hid (X.getD a [] = y) := ⟨_, rfl⟩
          rw [hXr.out] at hXl hXe hnext
          have HXe := Lib.hid hXe
          have HXl := Lib.hid hXl
          have hRx : Hid (rowsOf vs bx) := ⟨x, _, hvx, rfl⟩
          have HVX := Lib.hid hvx
          have hxN : x < N := by omega
          have hxNi : (x : Int) < (N : Int) := by omega
          clear hx hvx hXe hXl
          go_wp2_with fail
          go_loopw [79] (fun iv wz => ∃ b : Nat, b ≤ k ∧ iv = .int .i64 b ∧ Hid (Outs wz B g N vs (La.set x (fillRow Xr W size x0 b))) ∧ Hid (Fr (rowsOf vs) w1 wz)) (fun iv _ => k - (intOf iv).toNat)
          case atStart => exact ⟨0, by omega, rfl, by rw [show fillRow Xr W size x0 0 = La.getD x [] from hx0.out.symm, set_self]; exact hO, hF⟩
          case round =>
            obtain ⟨b, hb, rfl, hO2, hF2⟩ := hrel
            by_cases hblt : b < k
            · have i2 : (b : Int) < (k : Int) := by omega
              obtain ⟨bw, ow, aW, lW, cW, rfl, _, eW, rW⟩ := nest_get2 (SW1.out.frame hF2.out (fun q hq => hRlt.out q hq)) b hblt
              obtain rfl : lW = size := by rw [← rW.1]; exact hWlen.out b hblt
              obtain ⟨bX, oX, aX, lX, cX, rfl, _, eX, rX⟩ := mget (SX.out.frame hF2.out (fun q hq => hRlt.out q hq)) a halt
              rw [hXr.out] at rX
              obtain rfl : lX = k := by rw [← rX.hlen]; exact HXl.out
              obtain ⟨bY, oY, rfl⟩ : ∃ p o, aX = some ⟨p, o, none⟩ := by
                rcases rX.hat with h0 | ⟨p, o, e, _⟩
                · omega
                · exact ⟨p, o, e⟩
              have eY := row_at rX b hblt
              have hvb := HXe.out.getD b
              obtain ⟨v, hv⟩ : ∃ v, Xr.getD b 0 = v := ⟨_, rfl⟩
              rw [hv] at eY hvb
              have eO : wr.cell? ⟨g, x, none⟩ = some (.slice (some ⟨bx, 0, none⟩) lW cx) := by rw [World.ownsRow.cellAt hO2.out.out x (by omega), HVX.out]
              have hstep : Hid (fillRow Xr W lW x0 (b + 1) = mixN v.toNat (fillRow Xr W lW x0 b) (W.getD b []) lW) := by
                show fillRow Xr W lW x0 (b + 1) = _
                conv => lhs; unfold fillRow
                rw [hv]
              have hyl : (fillRow Xr W lW x0 b).length = lW := by rw [fillRow_length]; exact hLax.out
              have hyb : Byt (fillRow Xr W lW x0 b) := fillRow_byt HXe.out hbx0.out b
              obtain ⟨y, hy⟩ : ∃ y, Hid (fillRow Xr W lW x0 b = y) := ⟨_, rfl⟩
              rw [hy.out] at hstep hyl hyb hO2
              have OWx : Own wr B 5 1 (some ⟨bx, 0, none⟩) lW cx (y.map (.int .u8)) := by
                obtain ⟨a', c', h1, h2, _⟩ := hO2.out.row x hxN
                rw [getDL_set _ _ _ _ (by rw [hLal.out]; exact hxN), if_pos rfl] at h1 h2
                rw [HVX.out] at h1
                injection h1 with h1
                injection h1 with e1 e2 e3
                subst e1 e3
                rw [hyl] at h2
                exact h2
              have HOWx := Lib.hid OWx
              have RW := Lib.hid rW
              have HYB := Lib.hid hyb
              have HYL := Lib.hid hyl
              clear hv rX rW OWx hyl hyb
              go_wp2_with fail
              go_still_tail 12, (by kernel_rfl)
              change wpList _ _ _ _ _ wr.drew
              obtain ⟨WD, hWD⟩ : ∃ w, w = wr.drew := ⟨_, rfl⟩
              rw [← hWD]
              have bD : Below wr.heap.size wr WD := by rw [hWD]; exact below_drewN (Below.refl _ _) 1
              have OD := Lib.hid (hO2.out.below bD)
              have FD := Lib.hid (hF2.out.trans (Fr.of_below bD))
              have HOWD := Lib.hid (HOWx.out.below bD)
              have RWD := Lib.hid (RW.out.below bD)
              clear hWD bD HOWx RW hO2 hF2
              go_wp2_with fail
              refine (mix2 bx lW cx y aW lW cW (W.getD b []) v WD B HOWD.out (fun w' hg => (RWD.out.frame (Fr.of_grown hg hRx.out) (fun q hq => hRlt.out q hq)).toRow) (Nat.le_refl _) hvb HYB.out).mono ?_
              rintro e w5 ⟨rfl, ho5, hg5⟩
              rw [← hstep.out] at ho5
              have hyl5 : (fillRow Xr W lW x0 (b + 1)).length = lW := by rw [fillRow_length]; exact hLax.out
              have hyb5 : Byt (fillRow Xr W lW x0 (b + 1)) := fillRow_byt HXe.out hbx0.out (b + 1)
              have hgl : ((La.set x y).getD x []).length = lW := by rw [getDL_set _ _ _ _ (by rw [hLal.out]; exact hxN), if_pos rfl]; exact HYL.out
              have O5 := OD.out.turn x hxN HVX.out hyl5 hgl ho5 hyb5 hg5
              rw [List.set_set] at O5
              have HO5 := Lib.hid O5
              have F5 := Lib.hid (FD.out.trans (Fr.of_grown hg5 hRx.out))
              clear O5 hgl hyb5 hyl5 ho5 hg5 OD FD HOWD RWD
              go_wp2_with fail
              go_roundw
              case rel => exact ⟨b + 1, by omega, by go_num, HO5, F5⟩
              case measure => simp [intOf]; omega
            · obtain rfl : b = k := by omega
              go_wp2_with fail
              go_roundw
              case rel => exact ⟨a + 1, by omega, by go_num, by rw [hnext.out]; exact hO2, hF2⟩
              case measure => simp [intOf]; omega
        · obtain rfl : a = k := by omega
          go_wp2_with fail
          go_end0
          refine ⟨rfl, ?_, F1.out.trans hF.out⟩
          unfold filled
          rw [hMe.out, hX.out, hWe.out]
          exact hO.out
end Go.Proofs.Ytkjaddiagembaaa
