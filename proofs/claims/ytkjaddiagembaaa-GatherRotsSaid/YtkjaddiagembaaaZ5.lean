/- Texts that belong together: PrL, PrD, Facts, Sev. -/
import Derived.Deep.DeepCutAuto
import Derived.Test.YtkjaddiagembaaaZ4
import Derived.Test.YtkjaddiagembaaaZ3
/- The plain laws of the parity columns. -/
namespace Go.Proofs.Ytkjaddiagembaaa
open Go.RowKit
set_option linter.unusedVariables false

/-- One byte of a parity column. -/
def encE (D : List (List Int)) (j m : Nat) : Nat → Nat
  | 0 => 0
  | n + 1 => encE D j m n ^^^ gmul (twos (n * j)) ((D.getD n []).getD m 0).toNat
theorem encE_lt (D : List (List Int)) (j m : Nat) : ∀ n, encE D j m n < 256
  | 0 => by unfold encE; omega
  | n + 1 => by unfold encE; exact xor_lt (encE_lt D j m n) (gmul_lt (twos_lt _))
theorem encN_E (D : List (List Int)) (size j m : Nat) (hm : m < size) : ∀ n, (encN D size j n).getD m 0 = (encE D j m n : Int)
  | 0 => by simp [encN, encE, List.getD, hm]
  | n + 1 => by
    have hl := encN_length D size j n
    have ih := encN_E D size j m hm n
    have hb := (encN_byt D size j n).getD m
    show (mixN (twos (n * j)) (encN D size j n) (D.getD n []) size).getD m 0 = _
    rw [mixN_getD _ _ _ m (by omega), if_pos hm, mixI_eq (twos_lt _) hb, ih]
    rfl
theorem encAll_get (D : List (List Int)) (size p j : Nat) (h : j < p) : (encAll D size p).getD j [] = encN D size j D.length := by
  simp [encAll, List.getD, h]
/-- Two lists of columns, added place by place. -/
def addCol (x y : List Int) (n : Nat) : List Int := (List.range n).map fun k => bits .xor .u8 (x.getD k 0) (y.getD k 0)
theorem addCol_succ (x y : List Int) (n : Nat) : addCol x y (n + 1) = addCol x y n ++ [bits .xor .u8 (x.getD n 0) (y.getD n 0)] := by simp [addCol, List.range_succ]
theorem addCol_length (x y : List Int) (n : Nat) : (addCol x y n).length = n := by simp [addCol]
theorem xor8 {a b : Int} (ha : 0 ≤ a ∧ a ≤ 255) (hb : 0 ≤ b ∧ b ≤ 255) : bits .xor .u8 a b = ((a.toNat ^^^ b.toNat : Nat) : Int) := u8_xor a b ha.1 (by omega) hb.1 (by omega)
theorem xor8_bd {a b : Int} (ha : 0 ≤ a ∧ a ≤ 255) (hb : 0 ≤ b ∧ b ≤ 255) : 0 ≤ bits .xor .u8 a b ∧ bits .xor .u8 a b ≤ 255 := by
  rw [xor8 ha hb]
  have : a.toNat ^^^ b.toNat < 256 := xor_lt (by omega) (by omega)
  omega
theorem addCol_get (x y : List Int) (n k : Nat) (h : k < n) : (addCol x y n).getD k 0 = bits .xor .u8 (x.getD k 0) (y.getD k 0) := by simp [addCol, List.getD, h]
theorem addCol_byt {x y : List Int} (hx : Byt x) (hy : Byt y) (n : Nat) : Byt (addCol x y n) := by
  intro v hv
  simp only [addCol, List.mem_map, List.mem_range] at hv
  obtain ⟨k, _, rfl⟩ := hv
  exact xor8_bd (hx.getD k) (hy.getD k)
def addCols (X Y : List (List Int)) (size n : Nat) : List (List Int) := (List.range n).map fun i => addCol (X.getD i []) (Y.getD i []) size
theorem addCols_succ (X Y : List (List Int)) (size n : Nat) : addCols X Y size (n + 1) = addCols X Y size n ++ [addCol (X.getD n []) (Y.getD n []) size] := by simp [addCols, List.range_succ]
theorem addCols_length (X Y : List (List Int)) (size n : Nat) : (addCols X Y size n).length = n := by simp [addCols]
theorem addCols_get (X Y : List (List Int)) (size n i : Nat) (h : i < n) : (addCols X Y size n).getD i [] = addCol (X.getD i []) (Y.getD i []) size := by simp [addCols, List.getD, h]
theorem addCols_cols (X Y : List (List Int)) (size n : Nat) (h1 : 1 ≤ n) (h2 : n ≤ 12) (hs : size ≤ 4096) : Cols (addCols X Y size n) size := by
  refine ⟨by rw [addCols_length]; exact h1, by rw [addCols_length]; exact h2, hs, ?_⟩
  intro c hc
  simp only [addCols, List.mem_map, List.mem_range] at hc
  obtain ⟨i, _, rfl⟩ := hc
  exact addCol_length _ _ _
def Byts (D : List (List Int)) : Prop := ∀ c ∈ D, Byt c
theorem Byts.get {D : List (List Int)} (h : Byts D) (i : Nat) : Byt (D.getD i []) := by
  by_cases hi : i < D.length
  · rw [show D.getD i [] = D[i] by simp [List.getD, hi]]; exact h _ (List.getElem_mem hi)
  · rw [show D.getD i [] = [] by simp [List.getD, hi]]; intro v hv; cases hv
theorem colsN_byts {xs : List Int} (h : Byt xs) (size n : Nat) : Byts (colsN xs size n) := by
  intro c hc
  simp only [colsN, List.mem_map, List.mem_range] at hc
  obtain ⟨i, _, rfl⟩ := hc
  exact fun v hv => h v (List.mem_of_mem_drop (List.mem_of_mem_take hv))
/-- Encoding is linear. -/
theorem encE_add (X Y : List (List Int)) (size N j m : Nat) (hX : Byts X) (hY : Byts Y) (hm : m < size) : ∀ n, n ≤ N → encE (addCols X Y size N) j m n = encE X j m n ^^^ encE Y j m n
  | 0, _ => by unfold encE; rfl
  | n + 1, hn => by
    have ih := encE_add X Y size N j m hX hY hm n (by omega)
    have hx := (hX.get n).getD m
    have hy := (hY.get n).getD m
    unfold encE
    rw [ih, addCols_get X Y size N n (by omega), addCol_get _ _ _ _ hm, xor8 hx hy, Int.toNat_natCast, gmul_xor_r (twos_lt _) (by omega) (by omega), xor4]
theorem enc_sum (X Y : List (List Int)) (size N j m : Nat) (hX : Byts X) (hY : Byts Y) (hm : m < size) :
    bits .xor .u8 ((encN X size j N).getD m 0) ((encN Y size j N).getD m 0) = (encN (addCols X Y size N) size j N).getD m 0 := by
  rw [encN_E _ _ _ _ hm, encN_E _ _ _ _ hm, encN_E _ _ _ _ hm, encE_add X Y size N j m hX hY hm N (Nat.le_refl _)]
  have h1 := encE_lt X j m N
  have h2 := encE_lt Y j m N
  rw [xor8 (by omega) (by omega)]; rfl
/-- One byte of one column changed. -/
theorem encE_touch (D : List (List Int)) (hD : Byts D) (i k : Nat) (b : Int) (hb : 0 ≤ b ∧ b ≤ 255) (hi : i < D.length) (hk : k < (D.getD i []).length) (j m : Nat) :
    ∀ n, encE (D.set i ((D.getD i []).set k (bits .xor .u8 ((D.getD i []).getD k 0) b))) j m n = if i < n ∧ m = k then encE D j m n ^^^ gmul (twos (i * j)) b.toNat else encE D j m n
  | 0 => by unfold encE; simp
  | n + 1 => by
    have ih := encE_touch D hD i k b hb hi hk j m n
    unfold encE
    rw [ih]
    by_cases e : n = i
    · subst e
      rw [if_neg (by omega)]
      have hg : (D.set n ((D.getD n []).set k (bits .xor .u8 ((D.getD n []).getD k 0) b))).getD n [] = (D.getD n []).set k (bits .xor .u8 ((D.getD n []).getD k 0) b) := by simp [List.getD, hi]
      rw [hg]
      by_cases hm : m = k
      · subst hm
        rw [if_pos ⟨by omega, rfl⟩]
        have hv := (hD.get n).getD m
        have e1 : ((D.getD n []).set m (bits .xor .u8 ((D.getD n []).getD m 0) b)).getD m 0 = bits .xor .u8 ((D.getD n []).getD m 0) b := by
          generalize (D.getD n []) = c at hk ⊢
          simp [List.getD, hk]
        rw [e1, xor8 hv hb, Int.toNat_natCast, gmul_xor_r (twos_lt _) (by omega) (by omega), Nat.xor_assoc]
      · rw [if_neg (fun h => hm h.2)]
        have e1 : ∀ z, ((D.getD n []).set k z).getD m 0 = (D.getD n []).getD m 0 := by intro z; simp [List.getD, List.getElem?_set_ne (show k ≠ m from fun h => hm h.symm)]
        rw [e1]
    · have hg : ∀ z, (D.set i z).getD n [] = D.getD n [] := by intro z; simp [List.getD, List.getElem?_set_ne (show i ≠ n from fun h => e h.symm)]
      rw [hg]
      by_cases h : i < n ∧ m = k
      · rw [if_pos h, if_pos ⟨by omega, h.2⟩, Nat.xor_assoc, Nat.xor_assoc, Nat.xor_comm (gmul (twos (i * j)) b.toNat)]
      · rw [if_neg h, if_neg (fun h2 => h ⟨by omega, h2.2⟩)]
theorem enc_touch (D : List (List Int)) (hD : Byts D) (size i k : Nat) (b : Int) (hb : 0 ≤ b ∧ b ≤ 255) (hi : i < D.length) (hk : k < (D.getD i []).length) (j m : Nat) (hm : m < size) :
    ((encN D size j D.length).getD m 0 ≠ (encN (D.set i ((D.getD i []).set k (bits .xor .u8 ((D.getD i []).getD k 0) b))) size j D.length).getD m 0) ↔ (m = k ∧ b ≠ 0) := by
  rw [encN_E _ _ _ _ hm, encN_E _ _ _ _ hm, encE_touch D hD i k b hb hi hk j m]
  have h1 := encE_lt D j m D.length
  have hz : gmul (twos (i * j)) b.toNat = 0 ↔ b = 0 := by
    rw [mul_eq_zero (twos_lt _) (by omega)]
    constructor
    · rintro (h | h)
      · exact absurd h (twos_ne_zero _)
      · omega
    · intro h; right; omega
  by_cases hmk : m = k
  · rw [if_pos ⟨hi, hmk⟩]
    constructor
    · intro h
      refine ⟨hmk, fun hb0 => h ?_⟩
      rw [hz.2 hb0, Nat.xor_zero]
    · rintro ⟨_, hb0⟩ h
      have h3 : encE D j m D.length ^^^ (encE D j m D.length ^^^ gmul (twos (i * j)) b.toNat) = encE D j m D.length ^^^ encE D j m D.length := by rw [← Int.natCast_inj.1 h]
      rw [← Nat.xor_assoc, Nat.xor_self, Nat.zero_xor] at h3
      exact hb0 (hz.1 h3)
  · rw [if_neg (fun h => hmk h.2)]
    constructor
    · intro h; exact absurd rfl h
    · rintro ⟨h, _⟩; exact absurd h hmk
end Go.Proofs.Ytkjaddiagembaaa
/- ColumnsOf again: its columns lie in blocks of their own, no two in one. -/
namespace Go.Proofs.Ytkjaddiagembaaa
open Go.RowKit
set_option linter.unusedVariables false
set_option maxRecDepth 100000

theorem vrow_one {w : World} (v : Value) (e : TypeId) : VRow (w.alloc (.cells #[v] e)) 1 (some ⟨w.heap.size, 0, none⟩) 1 1 [v] := by
  refine ⟨rfl, Nat.le_refl _, by unfold maxLen; omega, (fun h => by cases h), .inr ⟨w.heap.size, 0, rfl, fun i hi => ?_⟩⟩
  obtain rfl : i = 0 := by omega
  exact (Box.new rfl).cell 0
/-- Slices of blocks of two kinds lie apart. -/
theorem own_apart {w : World} {B B' : Nat} {e e' : TypeId} {s s' : Nat} {a a' : Option Addr} {l c l' c' : Nat} {vs vs' : List Value} (h : Own w B e s a l c vs) (h' : Own w B' e' s' a' l' c' vs') (hne : e ≠ e') :
    ∀ g, (Value.slice a l c).ownBlock = some g → (Value.slice a' l' c').ownBlock ≠ some g := by
  intro g hg hg'
  rcases h.form with ⟨rfl, _⟩ | ⟨g1, cur, rfl, _, hh, _⟩
  · cases hg
  rcases h'.form with ⟨rfl, _⟩ | ⟨g2, cur', rfl, _, hh', _⟩
  · cases hg'
  obtain rfl : g1 = g := by injection hg
  obtain rfl : g2 = g1 := by injection hg'
  rw [hh] at hh'
  simp at hh'
  exact hne hh'.2
def RowsOf (w : World) (B size : Nat) (vs : List Value) (L : List (List Int)) : Prop := ∀ (i : Nat) (v : Value) (d : List Int), vs[i]? = some v → L[i]? = some d → ∃ a' c', v = .slice a' size c' ∧ Own w B 5 1 a' size c' (d.map (.int .u8)) ∧ Byt d
def Apart (vs : List Value) : Prop := ∀ (i j : Nat) (v v' : Value), i ≠ j → vs[i]? = some v → vs[j]? = some v' → ∀ g, v.ownBlock = some g → v'.ownBlock ≠ some g
/-- Rows of bytes that the call made, each in a block of its own, no two in one. -/
def Nest (w : World) (B : Nat) (a : Option Addr) (l c size : Nat) (L : List (List Int)) : Prop :=
  ∃ vs : List Value, Own w B 22 1 a l c vs ∧ L.length = l ∧
    RowsOf w B size vs L ∧ Apart vs
theorem Nest.len {w : World} {B : Nat} {a : Option Addr} {l c size : Nat} {L : List (List Int)} (h : Nest w B a l c size L) : L.length = l := by obtain ⟨_, _, h, _⟩ := h; exact h
theorem Nest.nil (w : World) (B size : Nat) : Nest w B none 0 0 size [] := ⟨[], Own.nil .., rfl, fun i v d h => by simp at h, fun i j v v' _ h => by simp at h⟩
theorem Nest.below {w w' : World} {B : Nat} {a : Option Addr} {l c size : Nat} {L : List (List Int)} (h : Nest w B a l c size L) (hb : Below w.heap.size w w') : Nest w' B a l c size L := by
  obtain ⟨vs, ho, hl, hr, hd⟩ := h
  refine ⟨vs, ho.below hb, hl, fun i v d hv hdd => ?_, hd⟩
  obtain ⟨a', c', e, h1, h2⟩ := hr i v d hv hdd
  exact ⟨a', c', e, h1.below hb, h2⟩
theorem Nest.row {w : World} {B : Nat} {a : Option Addr} {l c size : Nat} {L : List (List Int)} (h : Nest w B a l c size L) : SRow (Lay.int .u8).slice w (fun _ => True) a l c L := by
  obtain ⟨vs, ho, hl, hr, hd⟩ := h
  have hvl : vs.length = L.length := by have := ho.row.hlen; omega
  have hf : (vs.map fun v => [v]).flatten = vs := by clear ho hl hr hd hvl; induction vs with | nil => rfl | cons v vs ih => simp_all
  refine ⟨hl, fun _ _ _ => trivial, vs.map fun v => [v], by rw [hf]; exact ho.row, by simp [hvl], fun i x v hx hv => ?_⟩
  rw [List.getElem?_map] at hv
  cases hvi : vs[i]? with
  | none => rw [hvi] at hv; cases hv
  | some u =>
    rw [hvi] at hv
    simp at hv
    subst hv
    obtain ⟨a', c', e, h1, h2⟩ := hr i u x hvi hx
    subst e
    exact ⟨a', size, c', rfl, (h1.row.toRow (fun y hy => WalkArith.wf_u8 (h2 y hy))).toS (fun _ _ _ => trivial)⟩
theorem Nest.add {w w' : World} {B : Nat} {a : Option Addr} {l c size : Nat} {L : List (List Int)} {vs : List Value} (ho : Own w B 22 1 a l c vs) (hl : L.length = l)
    (hr : RowsOf w B size vs L)
    (hd : Apart vs)
    {a1 : Option Addr} {c1 : Nat} {d : List Int} (h1 : Own w B 5 1 a1 size c1 (d.map (.int .u8))) (hb : Byt d)
    (hnew : ∀ (i : Nat) (v : Value) (g : Nat), vs[i]? = some v → v.ownBlock = some g → (Value.slice a1 size c1).ownBlock ≠ some g)
    {a2 : Option Addr} {c2 : Nat} (h2 : Own w' B 22 1 a2 (l + 1) c2 (vs ++ [.slice a1 size c1])) (hg : w.grownBy w' (Value.slice a l c).ownBlock) : Nest w' B a2 (l + 1) c2 size (L ++ [d]) := by
  have hvl : vs.length = l := by have := ho.row.hlen; omega
  have keep : ∀ {a' : Option Addr} {c' : Nat} {us : List Value}, Own w B 5 1 a' size c' us → Own w' B 5 1 a' size c' us := fun h => h.grownOther hg (fun k hk e => own_apart h ho (by decide) k hk e.symm)
  refine ⟨_, h2, by simp [hl], fun i v x hv hx => ?_, fun i j v v' hij hv hv' g hg1 hg2 => ?_⟩
  · by_cases hi : i < l
    · rw [List.getElem?_append_left (by omega)] at hv hx
      obtain ⟨a', c', e, h3, h4⟩ := hr i v x hv hx
      exact ⟨a', c', e, keep h3, h4⟩
    · rw [List.getElem?_append_right (by omega)] at hv hx
      rw [hvl] at hv
      rw [hl] at hx
      obtain ⟨hi0, rfl⟩ : i - l = 0 ∧ v = .slice a1 size c1 := by
        cases h : i - l with
        | zero => rw [h] at hv; simp at hv; exact ⟨rfl, hv.symm⟩
        | succ n => rw [h] at hv; simp at hv
      rw [hi0] at hx
      simp at hx
      subst hx
      exact ⟨a1, c1, rfl, keep h1, hb⟩
  · have parts : ∀ {i : Nat} {v : Value}, (vs ++ [.slice a1 size c1])[i]? = some v → (i < l ∧ vs[i]? = some v) ∨ (i = l ∧ v = .slice a1 size c1) := by
      intro i v hv
      by_cases hi : i < l
      · rw [List.getElem?_append_left (by omega)] at hv; exact .inl ⟨hi, hv⟩
      · rw [List.getElem?_append_right (by omega), hvl] at hv
        cases h : i - l with
        | zero => rw [h] at hv; simp at hv; exact .inr ⟨by omega, hv.symm⟩
        | succ n => rw [h] at hv; simp at hv
    rcases parts hv with ⟨hi, hv⟩ | ⟨hi, rfl⟩
    · rcases parts hv' with ⟨hj, hv'⟩ | ⟨hj, rfl⟩
      · exact hd i j v v' hij hv hv' g hg1 hg2
      · exact hnew i v g hv hg1 hg2
    · rcases parts hv' with ⟨hj, hv'⟩ | ⟨hj, rfl⟩
      · exact hnew j v' g hv' hg2 hg1
      · omega
/-- A byte of one row written. -/
theorem Nest.store {w : World} {B : Nat} {a : Option Addr} {l c size : Nat} {L : List (List Int)} (h : Nest w B a l c size L) (i k : Nat) (hi : i < l) (hk : k < size) (z : Int) (hz : 0 ≤ z ∧ z ≤ 255) :
    ∃ b g ci, a = some ⟨b, 0, none⟩ ∧ B ≤ g ∧ B ≤ b ∧ g < w.heap.size ∧ w.cell? ⟨b, i, none⟩ = some (.slice (some ⟨g, 0, none⟩) size ci) ∧ size ≤ ci ∧ ci ≤ maxLen ∧ w.cell? ⟨g, k, none⟩ = some (.int .u8 ((L.getD i []).getD k 0)) ∧ w.frozen? ⟨g, k, none⟩ = false ∧
      Nest (w.setCell ⟨g, k, none⟩ (.int .u8 z)) B a l c size (L.set i ((L.getD i []).set k z)) := by
  obtain ⟨vs, ho, hl, hr, hd⟩ := h
  have hvl : vs.length = l := by have := ho.row.hlen; omega
  have hvi : vs[i]? = some vs[i] := List.getElem?_eq_getElem (by omega)
  have hLi : L[i]? = some L[i] := List.getElem?_eq_getElem (by omega)
  obtain ⟨a', c', e, h1, h2⟩ := hr i _ _ hvi hLi
  have hdl : L[i].length = size := by have := h1.row.hlen; simpa using this
  rcases h1.form with ⟨_, h0, _⟩ | ⟨g, cur, rfl, hBg, hh, hcl, hcm, _⟩
  · omega
  rcases ho.form with ⟨_, h0, _⟩ | ⟨b, curo, rfl, hBb, hho, _⟩
  · omega
  have hcell : w.cell? ⟨b, i, none⟩ = some (.slice (some ⟨g, 0, none⟩) size c') := by rw [World.ownsRow.cellAt ho i (by omega), hvi, e]
  have hgd : L.getD i [] = L[i] := by simp [List.getD, hLi]
  have hbne : b ≠ g := by
    intro hbg
    subst hbg
    rw [hh] at hho
    simp at hho
  refine ⟨b, g, c', rfl, hBg, hBb, (Array.getElem?_eq_some_iff.1 hh).1, hcell, hcl, hcm, ?_, World.ownsRow.frozenAt h1 _, ?_⟩
  · rw [World.ownsRow.cellAt h1 k (by omega), hgd]
    simp [List.getD, List.getElem?_eq_getElem (show k < L[i].length by omega)]
  · have hst := World.ownsRow.stored h1 k (.int .u8 z)
    rw [← List.map_set] at hst
    have other : ∀ {e' : TypeId} {s : Nat} {a'' : Option Addr} {l'' c'' : Nat} {us : List Value}, Own w B e' s a'' l'' c'' us → (Value.slice a'' l'' c'').ownBlock ≠ some g → Own (w.setCell ⟨g, k, none⟩ (.int .u8 z)) B e' s a'' l'' c'' us :=
      fun h hne => h.grownOther hst.2 (fun k' hk' e' => hne (hk'.trans (e'.trans rfl)))
    refine ⟨vs, other ho (by intro e'; injection e' with e'; exact hbne e'), by simp [hl], fun j v x hv hx => ?_, hd⟩
    by_cases hij : i = j
    · subst hij
      rw [hvi] at hv
      simp at hv
      rw [List.getElem?_set_self (by omega)] at hx
      simp at hx
      subst hx hv
      rw [e]
      refine ⟨_, c', rfl, ?_, ?_⟩
      · simp only [hLi, Option.getD_some]; exact hst.1
      · exact Byt.set (by simpa [hLi] using h2) k hz
    · rw [List.getElem?_set_ne hij] at hx
      obtain ⟨a3, c3, e3, h3, h4⟩ := hr j v x hv hx
      refine ⟨a3, c3, e3, other h3 (fun hg3 => ?_), h4⟩
      exact hd i j _ _ hij hvi hv g (by rw [e]; rfl) (by rw [e3]; exact hg3)
def ColsPost2 (xs : List Int) (n : Nat) (w : World) (e : Ending) (w' : World) : Prop :=
  ∃ a c, e = .returned (.slice a n c) ∧ Hid (Nest w' w.heap.size a n c (colSize xs.length n) (colsN xs (colSize xs.length n) n)) ∧ Hid (Below w.heap.size w w')
end Go.Proofs.Ytkjaddiagembaaa
/- Facts about memory, carried together from world to world. -/
namespace Go.Proofs.Ytkjaddiagembaaa
open Go.RowKit
set_option linter.unusedVariables false

/-- A fact about memory that new blocks leave standing. -/
structure Stay where
  holds : World → Prop
  stays : ∀ {w w' : World}, holds w → Below w.heap.size w w' → holds w'
/-- All of some facts. -/
def Facts : List Stay → World → Prop
  | [], _ => True
  | p :: ps, w => p.holds w ∧ Facts ps w
theorem Facts.below : ∀ {L : List Stay} {w w' : World}, Facts L w → Below w.heap.size w w' → Facts L w'
  | [], _, _, _, _ => trivial
  | p :: _, _, _, h, hb => ⟨p.stays h.1 hb, Facts.below h.2 hb⟩
theorem Facts.none (w : World) : Facts [] w := trivial
theorem Facts.add {L : List Stay} {w : World} (h : Facts L w) (p : Stay) (hp : p.holds w) : Facts (p :: L) w := ⟨hp, h⟩
theorem Facts.drewN {L : List Stay} {w : World} (h : Facts L w) (n : Nat) : Facts L (w.drewN n) := h.below (below_drewN (Below.refl _ _) n)
def sRow (k : IntKind) (a : Option Addr) (len cap : Nat) (xs : List Int) : Stay := ⟨fun w => Row k w a len cap xs, fun h hb => h.below hb⟩
def sData {α : Type} (L : Lay α) (F : Nat → Prop) (a : Option Addr) (len cap : Nat) (xs : List α) : Stay := ⟨fun w => SRow L w F a len cap xs, fun h hb => h.below hb⟩
def sOwn {α : Type} (L : Lay α) (base : Nat) (e : TypeId) (G : Nat → Prop) (a : Option Addr) (len cap : Nat) (xs : List α) : Stay := ⟨fun w => SOwn L w base e G a len cap xs, fun h hb => h.below hb⟩
def sBox (g : Nat) (vs : Array Value) (t : TypeId) : Stay := ⟨fun w => Box w g vs t, fun h hb => h.below hb h.lt⟩
/-- Of the world W nothing has turned since. -/
def sSince (W : World) : Stay := ⟨fun w => Below W.heap.size W w, fun h hb => h.trans (hb.mono h.size)⟩
/-- A new block, under a name. -/
theorem boxed (w : World) (cs : Array Value) (t : TypeId) : ∃ V g, V = w.alloc (.cells cs t) ∧ w.heap.size = g ∧ Box V g cs t ∧ Below w.heap.size w V :=
  ⟨_, _, rfl, rfl, Box.new rfl, Below_alloc1 _⟩
end Go.Proofs.Ytkjaddiagembaaa
/- The walk of Several. -/
namespace Go.Proofs.Ytkjaddiagembaaa
open Go.RowKit
set_option linter.unusedVariables false

def sevStep (n most : Nat) (st : List Bool × Nat) (x : Int) : List Bool × Nat :=
  if st.2 < most then (if st.1.getD (x % (n : Int)).toNat false then st else (st.1.set (x % (n : Int)).toNat true, st.2 + 1)) else st
def sevRun (n most : Nat) (l : List Int) : List Bool × Nat := l.foldl (sevStep n most) (List.replicate n false, 0)
def sevTo (hs : List Bool) (j : Nat) : List Nat := (List.range j).filter (fun k => hs.getD k false)
/-- at most so many different numbers below n, ascending -/
def several (l : List Int) (most n : Nat) : List Nat := sevTo (sevRun n most l).1 n
theorem sevTo_succ (hs : List Bool) (j : Nat) : sevTo hs (j + 1) = sevTo hs j ++ if hs.getD j false then [j] else [] := by
  unfold sevTo
  rw [List.range_succ, List.filter_append]
  by_cases h : hs.getD j false = true
  · rw [if_pos h]; simp only [List.filter_cons, h]; rfl
  · rw [if_neg h]
    have h2 : hs.getD j false = false := by simpa using h
    simp only [List.filter_cons, h2]; rfl
theorem sevTo_length (hs : List Bool) (j : Nat) : (sevTo hs j).length ≤ j := by
  have := List.length_filter_le (fun k => hs.getD k false) (List.range j)
  rw [List.length_range] at this; exact this
theorem sevStep_length (n most : Nat) (st : List Bool × Nat) (x : Int) : (sevStep n most st x).1.length = st.1.length := by
  unfold sevStep; split <;> (try split) <;> simp
theorem sevFold_length (n most : Nat) : ∀ (l : List Int) (st : List Bool × Nat), (l.foldl (sevStep n most) st).1.length = st.1.length
  | [], _ => rfl
  | x :: l, st => by rw [List.foldl_cons, sevFold_length n most l, sevStep_length]
theorem sevRun_length (n most : Nat) (l : List Int) : (sevRun n most l).1.length = n := by rw [sevRun, sevFold_length, List.length_replicate]
theorem sevStep_full (n most : Nat) (st : List Bool × Nat) (x : Int) (h : ¬ st.2 < most) : sevStep n most st x = st := by unfold sevStep; rw [if_neg h]
theorem sevFold_full (n most : Nat) : ∀ (l : List Int) (st : List Bool × Nat), ¬ st.2 < most → l.foldl (sevStep n most) st = st
  | [], _, _ => rfl
  | x :: l, st, h => by rw [List.foldl_cons, sevStep_full n most st x h, sevFold_full n most l st h]
theorem sevRun_take (n most : Nat) (l : List Int) (k : Nat) (hk : k < l.length) : sevRun n most (l.take (k + 1)) = sevStep n most (sevRun n most (l.take k)) (l.getD k 0) := by
  unfold sevRun
  rw [List.take_succ_eq_append_getElem hk, List.foldl_append]
  simp [List.getD, hk]
theorem sevRun_done (n most : Nat) (l : List Int) (k : Nat) (h : ¬ (sevRun n most (l.take k)).2 < most) : sevRun n most l = sevRun n most (l.take k) := by
  conv => lhs; rw [← List.take_append_drop k l]
  unfold sevRun at h ⊢
  rw [List.foldl_append, sevFold_full _ _ _ _ h]
theorem set_bools (hs : List Bool) (k : Nat) : (hs.map Value.bool).toArray.setIfInBounds k (.bool true) = ((hs.set k true).map Value.bool).toArray := by simp [List.map_set]

theorem info_bool : (Try.prog.info? 4).map (fun i => (i.zero, i.size, i.bytes)) = some (some (.bool false), 1, 1) := by kernel_rfl
theorem info_int' : (Try.prog.info? 3).map (fun i => (i.zero, i.size, i.bytes)) = some (some (.int .i64 0), 1, 8) := by kernel_rfl
theorem nat_wf {x : Nat} (h1 : x ≤ 4294967296) : (Lit.int .i64 (x : Int)).wf = true := by
  simp [Lit.wf, IntKind.min, IntKind.max, IntKind.signed, IntKind.bits]; omega

def nats (p : List Nat) : List Int := p.map (fun x : Nat => (x : Int))
def Sevs (p : List Nat) (w : World) (e : Ending) (w' : World) : Prop := ∃ a len cap, e = .returned (.slice a len cap) ∧ Hid (SOwn (Lay.int .i64) w' w.heap.size 3 (fun _ => False) a len cap (nats p)) ∧ Below w.heap.size w w'
set_option maxHeartbeats 2000000 in
theorem sev (a : Option Addr) (len cap : Nat) (l : List Int) (most n : Int) (w : World) (ha : Row .i64 w a len cap l) (hm : 0 ≤ most) (hm2 : most ≤ 4096) (hn : 0 < n) (hn2 : n ≤ 4096) :
    Calls Try.prog 11 #[.slice a len cap, .int .i64 most, .int .i64 n] w (Sevs (several l most.toNat n.toNat) w) := by
  obtain ⟨n, rfl⟩ := Int.eq_ofNat_of_zero_le (show 0 ≤ n by omega)
  obtain ⟨most, rfl⟩ := Int.eq_ofNat_of_zero_le hm
  rw [Int.toNat_natCast, Int.toNat_natCast]
  have h1 := ha.hle
  have h2 := ha.hmax
  unfold maxLen at h2
  have HL := Lib.hid ha.hlen
  go_enter Try.func11, Try.ntmps11
  go_wp2_with (at_make; refine wpList_make_zeros rfl (.tmp 13) (.tmp 13) 49 rfl 4 (.bool false) 1 Try.underlying49 info_bool rfl .i64 .i64 (n : Int) (n : Int) n rfl rfl rfl rfl (by omega) (by unfold maxLen; omega) ?_)
  intro w1 hoz hb1
  have hbox : Box w1 w.heap.size ((List.replicate n false).map Value.bool).toArray 4 := by
    have := hoz.box
    rwa [show List.replicate n (Value.bool false) = (List.replicate n false).map Value.bool by simp] at this
  obtain ⟨g, hg⟩ : ∃ g, Hid (w.heap.size = g) := ⟨_, rfl⟩
  rw [hg.out] at hbox
  rw [hg.out]
  have HB := Lib.hid hbox
  clear hoz hbox
  go_wp2_with fail
  go_loopw [8, 9] (fun cv iv wr => ∃ (k c : Nat) (hs : List Bool), k ≤ len ∧ c ≤ most ∧ iv = .int .i64 k ∧ cv = .int .i64 c ∧ Hid (sevRun n most (l.take k) = (hs, c)) ∧ Hid (Box wr g (hs.map Value.bool).toArray 4) ∧ Below w.heap.size w wr) (fun _ iv _ => len - (intOf iv).toNat)
  case atStart => exact ⟨0, 0, List.replicate n false, by omega, by omega, rfl, rfl, rfl, HB.out, hb1⟩
  case round =>
    obtain ⟨k, c, hs, hk, hc, rfl, rfl, hst, hbox, hbl⟩ := hrel
    by_cases hboth : k < len ∧ c < most
    · obtain ⟨hlt, hcm⟩ := hboth
      · rcases ha.hat with h0 | ⟨b, off, rfl, hcell⟩
        · omega
        have e1 := hcell k hlt
        have hbb : b < w.heap.size := World.block_lt_of_cell? _ _ e1
        have e2 : wr.cell? ⟨b, off + k, none⟩ = some (.int .i64 (l.getD k 0)) := (hbl.cell (p := ⟨b, off + k, none⟩) hbb).trans e1
        obtain ⟨x, hx⟩ : ∃ x, Hid (l.getD k 0 = x) := ⟨_, rfl⟩
        rw [hx.out] at e2
        have hki : (k : Int) < (len : Int) := by omega
        have hci : decide ((c : Int) < (most : Int)) = true := by simp; omega
        clear hcell e1
        go_wp2_with fail
        refine (picked _ _ _ (by omega) (by omega)).mono ?_
        rintro e w' ⟨r, hr, hr0, hr1, rfl, rfl⟩
        obtain ⟨j, rfl⟩ := Int.eq_ofNat_of_zero_le hr0
        have hj : j < n := by omega
        have hjr : Hid ((x % (n : Int)).toNat = j) := by have := hr.out; show _ = _; omega
        clear hr hr0
        have hhl : hs.length = n := by have := sevRun_length n most (l.take k); rw [hst.out] at this; exact this
        have c1 : wr.cell? ⟨g, j, none⟩ = some (.bool (hs.getD j false)) := by
          rw [hbox.out.cell j]
          simp [List.getD, hhl, hj]
        have f1 : wr.frozen? ⟨g, j, none⟩ = false := hbox.out.free j
        have hgl : g < wr.heap.size := hbox.out.lt
        have hnext : Hid (sevRun n most (l.take (k + 1)) = if hs.getD j false then (hs, c) else (hs.set j true, c + 1)) := by
          show _ = _
          rw [sevRun_take n most l k (by rw [HL.out]; exact hlt), hst.out, sevStep, if_pos hcm, hx.out, hjr.out]
        have HHL := Lib.hid hhl
        clear hhl
        by_cases hv : hs.getD j false = true
        · rw [hv] at c1
          have HN : Hid (sevRun n most (l.take (k + 1)) = (hs, c)) := by have := hnext.out; rw [if_pos hv] at this; exact this
          clear hv hnext
          go_wp2_with fail
          go_roundw
          case rel => exact ⟨k + 1, c, hs, by omega, hc, by go_num, rfl, HN, hbox, hbl⟩
          case measure => simp [intOf]; omega
        · have hv2 : hs.getD j false = false := by simpa using hv
          rw [hv2] at c1
          have HN : Hid (sevRun n most (l.take (k + 1)) = (hs.set j true, c + 1)) := by have := hnext.out; rw [if_neg hv] at this; exact this
          clear hv hv2 hnext
          go_wp2_with fail
          go_roundw
          case rel =>
            refine ⟨k + 1, c + 1, hs.set j true, by omega, by omega, by go_num, by go_num, HN, ?_, ?_⟩
            · have := hbox.out.set j (.bool true)
              rw [set_bools] at this; exact this
            · exact hbl.setCell (by show w.heap.size ≤ g; have := hg.out; omega) _
          case measure => simp [intOf]; omega
    · have hhl : hs.length = n := by have := sevRun_length n most (l.take k); rw [hst.out] at this; exact this
      have HHL := Lib.hid hhl
      have hfin : Hid (sevRun n most l = (hs, c)) := by
        rw [← hst.out]
        by_cases hlt : k < len
        · exact sevRun_done n most l k (by rw [hst.out]; exact fun h => hboth ⟨hlt, h⟩)
        · rw [List.take_of_length_le (by rw [HL.out]; omega)]; rfl
      have hgl : g < wr.heap.size := hbox.out.lt
      obtain ⟨wo, rfl⟩ : ∃ wo : World, wo = wr := ⟨_, rfl⟩
      clear hst hhl
      by_cases hlt : k < len
      all_goals try have hci : decide (c < most) = false := by (simp; omega)
      all_goals
        clear hboth
        go_wp2_with fail
        go_loopw [11, 12] (fun o kv wx => ∃ (j m : Nat) (a2 : Option Addr) (c2 : Nat), j ≤ n ∧ m ≤ j ∧ kv = .int .i64 j ∧ o = .slice a2 m c2 ∧ Hid (SOwn (Lay.int .i64) wx wo.heap.size 3 (fun _ => False) a2 m c2 (nats (sevTo hs j))) ∧ Below wo.heap.size wo wx) (fun _ kv _ => n - (intOf kv).toNat)
        case atStart => exact ⟨0, 0, none, 0, by omega, by omega, rfl, rfl, SOwn.nil .., Below.refl _ _⟩
        case round =>
          obtain ⟨j, m, a2, c2, hj, hmj, rfl, rfl, hown, hbx⟩ := hrel
          have hlt' := hown.out.hle
          have hmx' := hown.out.hmax
          unfold maxLen at hmx'
          by_cases hjn : j < n
          · have hbw : Box wr g (hs.map Value.bool).toArray 4 := hbox.out.below hbx hgl
            have c1 : wr.cell? ⟨g, j, none⟩ = some (.bool (hs.getD j false)) := by
              rw [hbw.cell j]
              simp [List.getD, HHL.out, hjn]
            have hji : (j : Int) < (n : Int) := by omega
            clear hbw
            by_cases hv : hs.getD j false = true
            · rw [hv] at c1
              have hs1 : Hid (sevTo hs (j + 1) = sevTo hs j ++ [j]) := by show _ = _; rw [sevTo_succ, if_pos hv]
              clear hv
              go_wp2_with (at_builtin; refine wpList_append_one rfl (.tmp 51) (.tmp 53) 23 rfl wo.heap.size 3 (.int .i64 0) 8 Try.underlying23 info_int' rfl (fun _ => False) a2 m c2 _ rfl hown.out #[.int .i64 (j : Int)] (j : Int) rfl (fun _ => False) ⟨rfl, nat_wf (by omega)⟩ (fun b h => h.elim) (by unfold maxLen; omega) (by omega) hbx.size ?_)
              intro a' cap' w2 hown1 hg1
              have hb2 : Below wo.heap.size wo w2 := hown.out.grown hbx (Nat.le_refl _) hbx.size hg1
              have H2 : Hid (SOwn (Lay.int .i64) w2 wo.heap.size 3 (fun _ => False) a' (m + 1) cap' (nats (sevTo hs (j + 1)))) := by
                rw [hs1.out, nats, List.map_append]; exact hown1
              clear hown1 hg1
              go_wp2_with fail
              go_roundw
              case rel => exact ⟨j + 1, m + 1, a', cap', by omega, by omega, by go_num, by go_num, H2, hb2⟩
              case measure => simp [intOf]; omega
            · have hv2 : hs.getD j false = false := by simpa using hv
              rw [hv2] at c1
              have hs1 : Hid (sevTo hs (j + 1) = sevTo hs j) := by show _ = _; rw [sevTo_succ, if_neg hv, List.append_nil]
              clear hv hv2
              go_wp2_with fail
              go_roundw
              case rel => exact ⟨j + 1, m, a2, c2, by omega, by omega, by go_num, rfl, by rw [hs1.out]; exact hown, hbx⟩
              case measure => simp [intOf]; omega
          · obtain rfl : j = n := by omega
            have HR : Hid (nats (several l most j) = nats (sevTo hs j)) := by show _ = _; rw [several, hfin.out]
            go_wp2_with fail
            go_ret
            exact ⟨a2, m, c2, rfl, by rw [HR.out]; exact hown.out.mono hbl.size (fun _ h => h), hbl.trans (hbx.mono hbl.size)⟩
end Go.Proofs.Ytkjaddiagembaaa
