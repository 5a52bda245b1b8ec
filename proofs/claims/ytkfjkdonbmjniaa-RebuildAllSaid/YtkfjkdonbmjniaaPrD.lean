/- ColumnsOf again: its columns lie in blocks of their own, no two in one. -/
import Derived.Test.YtkfjkdonbmjniaaPrL
import Derived.Deep.DeepCutAuto
namespace Go.Proofs.Ytkfjkdonbmjniaa
open Go.RowKit
set_option linter.unusedVariables false
set_option maxRecDepth 100000

theorem vrow_one {w : World} (v : Value) (e : TypeId) : VRow (w.alloc (.cells #[v] e)) 1 (some ⟨w.heap.size, 0, none⟩) 1 1 [v] := by
  refine ⟨rfl, Nat.le_refl _, by unfold maxLen; omega, (fun h => by cases h), .inr ⟨w.heap.size, 0, rfl, fun i hi => ?_⟩⟩
  obtain rfl : i = 0 := by omega
  exact (Box.new rfl).cell 0
/-- Slices of blocks of two kinds lie apart. -/
theorem own_apart {w : World} {B B' : Nat} {e e' : TypeId} {s s' : Nat} {a a' : Option Addr} {l c l' c' : Nat} {vs vs' : List Value} (h : Own w B e s a l c vs) (h' : Own w B' e' s' a' l' c' vs') (hne : e ≠ e') :
    ∀ g, (Value.slice a l c).ownBlock = some g → (Value.slice a' l' c').ownBlock ≠ some g := by
  intro g hg hg'
  rcases h.form with ⟨rfl, _⟩ | ⟨g1, cur, rfl, _, hh, _⟩
  · cases hg
  rcases h'.form with ⟨rfl, _⟩ | ⟨g2, cur', rfl, _, hh', _⟩
  · cases hg'
  obtain rfl : g1 = g := by injection hg
  obtain rfl : g2 = g1 := by injection hg'
  rw [hh] at hh'
  simp at hh'
  exact hne hh'.2
def RowsOf (w : World) (B size : Nat) (vs : List Value) (L : List (List Int)) : Prop := ∀ (i : Nat) (v : Value) (d : List Int), vs[i]? = some v → L[i]? = some d → ∃ a' c', v = .slice a' size c' ∧ Own w B 5 1 a' size c' (d.map (.int .u8)) ∧ Byt d
def Apart (vs : List Value) : Prop := ∀ (i j : Nat) (v v' : Value), i ≠ j → vs[i]? = some v → vs[j]? = some v' → ∀ g, v.ownBlock = some g → v'.ownBlock ≠ some g
/-- Rows of bytes that the call made, each in a block of its own, no two in one. -/
def Nest (w : World) (B : Nat) (a : Option Addr) (l c size : Nat) (L : List (List Int)) : Prop :=
  ∃ vs : List Value, Own w B 45 1 a l c vs ∧ L.length = l ∧
    RowsOf w B size vs L ∧ Apart vs
theorem Nest.len {w : World} {B : Nat} {a : Option Addr} {l c size : Nat} {L : List (List Int)} (h : Nest w B a l c size L) : L.length = l := by obtain ⟨_, _, h, _⟩ := h; exact h
theorem Nest.nil (w : World) (B size : Nat) : Nest w B none 0 0 size [] := ⟨[], Own.nil .., rfl, fun i v d h => by simp at h, fun i j v v' _ h => by simp at h⟩
theorem Nest.below {w w' : World} {B : Nat} {a : Option Addr} {l c size : Nat} {L : List (List Int)} (h : Nest w B a l c size L) (hb : Below w.heap.size w w') : Nest w' B a l c size L := by
  obtain ⟨vs, ho, hl, hr, hd⟩ := h
  refine ⟨vs, ho.below hb, hl, fun i v d hv hdd => ?_, hd⟩
  obtain ⟨a', c', e, h1, h2⟩ := hr i v d hv hdd
  exact ⟨a', c', e, h1.below hb, h2⟩
theorem Nest.row {w : World} {B : Nat} {a : Option Addr} {l c size : Nat} {L : List (List Int)} (h : Nest w B a l c size L) : SRow (Lay.int .u8).slice w (fun _ => True) a l c L := by
  obtain ⟨vs, ho, hl, hr, hd⟩ := h
  have hvl : vs.length = L.length := by have := ho.row.hlen; omega
  have hf : (vs.map fun v => [v]).flatten = vs := by clear ho hl hr hd hvl; induction vs with | nil => rfl | cons v vs ih => simp_all
  refine ⟨hl, fun _ _ _ => trivial, vs.map fun v => [v], by rw [hf]; exact ho.row, by simp [hvl], fun i x v hx hv => ?_⟩
  rw [List.getElem?_map] at hv
  cases hvi : vs[i]? with
  | none => rw [hvi] at hv; cases hv
  | some u =>
    rw [hvi] at hv
    simp at hv
    subst hv
    obtain ⟨a', c', e, h1, h2⟩ := hr i u x hvi hx
    subst e
    exact ⟨a', size, c', rfl, (h1.row.toRow (fun y hy => WalkArith.wf_u8 (h2 y hy))).toS (fun _ _ _ => trivial)⟩
theorem Nest.add {w w' : World} {B : Nat} {a : Option Addr} {l c size : Nat} {L : List (List Int)} {vs : List Value} (ho : Own w B 45 1 a l c vs) (hl : L.length = l)
    (hr : RowsOf w B size vs L)
    (hd : Apart vs)
    {a1 : Option Addr} {c1 : Nat} {d : List Int} (h1 : Own w B 5 1 a1 size c1 (d.map (.int .u8))) (hb : Byt d)
    (hnew : ∀ (i : Nat) (v : Value) (g : Nat), vs[i]? = some v → v.ownBlock = some g → (Value.slice a1 size c1).ownBlock ≠ some g)
    {a2 : Option Addr} {c2 : Nat} (h2 : Own w' B 45 1 a2 (l + 1) c2 (vs ++ [.slice a1 size c1])) (hg : w.grownBy w' (Value.slice a l c).ownBlock) : Nest w' B a2 (l + 1) c2 size (L ++ [d]) := by
  have hvl : vs.length = l := by have := ho.row.hlen; omega
  have keep : ∀ {a' : Option Addr} {c' : Nat} {us : List Value}, Own w B 5 1 a' size c' us → Own w' B 5 1 a' size c' us := fun h => h.grownOther hg (fun k hk e => own_apart h ho (by decide) k hk e.symm)
  refine ⟨_, h2, by simp [hl], fun i v x hv hx => ?_, fun i j v v' hij hv hv' g hg1 hg2 => ?_⟩
  · by_cases hi : i < l
    · rw [List.getElem?_append_left (by omega)] at hv hx
      obtain ⟨a', c', e, h3, h4⟩ := hr i v x hv hx
      exact ⟨a', c', e, keep h3, h4⟩
    · rw [List.getElem?_append_right (by omega)] at hv hx
      rw [hvl] at hv
      rw [hl] at hx
      obtain ⟨hi0, rfl⟩ : i - l = 0 ∧ v = .slice a1 size c1 := by
        cases h : i - l with
        | zero => rw [h] at hv; simp at hv; exact ⟨rfl, hv.symm⟩
        | succ n => rw [h] at hv; simp at hv
      rw [hi0] at hx
      simp at hx
      subst hx
      exact ⟨a1, c1, rfl, keep h1, hb⟩
  · have parts : ∀ {i : Nat} {v : Value}, (vs ++ [.slice a1 size c1])[i]? = some v → (i < l ∧ vs[i]? = some v) ∨ (i = l ∧ v = .slice a1 size c1) := by
      intro i v hv
      by_cases hi : i < l
      · rw [List.getElem?_append_left (by omega)] at hv; exact .inl ⟨hi, hv⟩
      · rw [List.getElem?_append_right (by omega), hvl] at hv
        cases h : i - l with
        | zero => rw [h] at hv; simp at hv; exact .inr ⟨by omega, hv.symm⟩
        | succ n => rw [h] at hv; simp at hv
    rcases parts hv with ⟨hi, hv⟩ | ⟨hi, rfl⟩
    · rcases parts hv' with ⟨hj, hv'⟩ | ⟨hj, rfl⟩
      · exact hd i j v v' hij hv hv' g hg1 hg2
      · exact hnew i v g hv hg1 hg2
    · rcases parts hv' with ⟨hj, hv'⟩ | ⟨hj, rfl⟩
      · exact hnew j v' g hv' hg2 hg1
      · omega
/-- A byte of one row written. -/
theorem Nest.store {w : World} {B : Nat} {a : Option Addr} {l c size : Nat} {L : List (List Int)} (h : Nest w B a l c size L) (i k : Nat) (hi : i < l) (hk : k < size) (z : Int) (hz : 0 ≤ z ∧ z ≤ 255) :
    ∃ b g ci, a = some ⟨b, 0, none⟩ ∧ B ≤ g ∧ B ≤ b ∧ g < w.heap.size ∧ w.cell? ⟨b, i, none⟩ = some (.slice (some ⟨g, 0, none⟩) size ci) ∧ size ≤ ci ∧ ci ≤ maxLen ∧ w.cell? ⟨g, k, none⟩ = some (.int .u8 ((L.getD i []).getD k 0)) ∧ w.frozen? ⟨g, k, none⟩ = false ∧
      Nest (w.setCell ⟨g, k, none⟩ (.int .u8 z)) B a l c size (L.set i ((L.getD i []).set k z)) := by
  obtain ⟨vs, ho, hl, hr, hd⟩ := h
  have hvl : vs.length = l := by have := ho.row.hlen; omega
  have hvi : vs[i]? = some vs[i] := List.getElem?_eq_getElem (by omega)
  have hLi : L[i]? = some L[i] := List.getElem?_eq_getElem (by omega)
  obtain ⟨a', c', e, h1, h2⟩ := hr i _ _ hvi hLi
  have hdl : L[i].length = size := by have := h1.row.hlen; simpa using this
  rcases h1.form with ⟨_, h0, _⟩ | ⟨g, cur, rfl, hBg, hh, hcl, hcm, _⟩
  · omega
  rcases ho.form with ⟨_, h0, _⟩ | ⟨b, curo, rfl, hBb, hho, _⟩
  · omega
  have hcell : w.cell? ⟨b, i, none⟩ = some (.slice (some ⟨g, 0, none⟩) size c') := by rw [World.ownsRow.cellAt ho i (by omega), hvi, e]
  have hgd : L.getD i [] = L[i] := by simp [List.getD, hLi]
  have hbne : b ≠ g := by
    intro hbg
    subst hbg
    rw [hh] at hho
    simp at hho
  refine ⟨b, g, c', rfl, hBg, hBb, (Array.getElem?_eq_some_iff.1 hh).1, hcell, hcl, hcm, ?_, World.ownsRow.frozenAt h1 _, ?_⟩
  · rw [World.ownsRow.cellAt h1 k (by omega), hgd]
    simp [List.getD, List.getElem?_eq_getElem (show k < L[i].length by omega)]
  · have hst := World.ownsRow.stored h1 k (.int .u8 z)
    rw [← List.map_set] at hst
    have other : ∀ {e' : TypeId} {s : Nat} {a'' : Option Addr} {l'' c'' : Nat} {us : List Value}, Own w B e' s a'' l'' c'' us → (Value.slice a'' l'' c'').ownBlock ≠ some g → Own (w.setCell ⟨g, k, none⟩ (.int .u8 z)) B e' s a'' l'' c'' us :=
      fun h hne => h.grownOther hst.2 (fun k' hk' e' => hne (hk'.trans (e'.trans rfl)))
    refine ⟨vs, other ho (by intro e'; injection e' with e'; exact hbne e'), by simp [hl], fun j v x hv hx => ?_, hd⟩
    by_cases hij : i = j
    · subst hij
      rw [hvi] at hv
      simp at hv
      rw [List.getElem?_set_self (by omega)] at hx
      simp at hx
      subst hx hv
      rw [e]
      refine ⟨_, c', rfl, ?_, ?_⟩
      · simp only [hLi, Option.getD_some]; exact hst.1
      · exact Byt.set (by simpa [hLi] using h2) k hz
    · rw [List.getElem?_set_ne hij] at hx
      obtain ⟨a3, c3, e3, h3, h4⟩ := hr j v x hv hx
      refine ⟨a3, c3, e3, other h3 (fun hg3 => ?_), h4⟩
      exact hd i j _ _ hij hvi hv g (by rw [e]; rfl) (by rw [e3]; exact hg3)
def ColsPost2 (xs : List Int) (n : Nat) (w : World) (e : Ending) (w' : World) : Prop :=
  ∃ a c, e = .returned (.slice a n c) ∧ Hid (Nest w' w.heap.size a n c (colSize xs.length n) (colsN xs (colSize xs.length n) n)) ∧ Hid (Below w.heap.size w w')
set_option maxHeartbeats 2000000 in
theorem columnsOf2 (a : Option Addr) (len cap : Nat) (xs : List Int) (n : Nat) (w : World) (h : Row .u8 w a len cap xs) (h1 : 1 ≤ n) (h2 : n ≤ 12) :
    Calls Try.prog 32 #[.slice a len cap, .int .i64 n] w (ColsPost2 xs n w) := by
  have hle := h.hle
  have hmx := h.hmax
  have hln := h.hlen
  unfold maxLen at hmx
  have HR := Lib.hid h
  obtain ⟨size, hsz⟩ : ∃ s, Hid (colSize len n = s) := ⟨_, rfl⟩
  have hs0 : size = min (len / n) 64 := by rw [← hsz.out]; rfl
  have hsl : n * size ≤ len := by rw [← hsz.out]; exact colSize_le len n h1
  have hs64 : size ≤ 64 := by omega
  obtain ⟨q, hq⟩ : ∃ q, len / n = q := ⟨_, rfl⟩
  have hqi : (len : Int) / (n : Int) = (q : Int) := by rw [← hq]; rfl
  have hqm : q ≤ len := by rw [← hq]; exact Nat.div_le_self _ _
  rw [hq] at hs0
  obtain ⟨B, hB⟩ : ∃ B, Hid (w.heap.size = B) := ⟨_, rfl⟩
  go_enter Try.func32, Try.ntmps32
  go_upto_if 13 with fail
  obtain ⟨sz, hsz2⟩ : ∃ z : Int, Hid ((size : Int) = z) := ⟨_, rfl⟩
  go_cut [5] (fun v wx => v = .int .i64 sz ∧ wx = w)
  case first =>
    by_cases h64 : 64 < q
    · have e : size = 64 := by omega
      subst e
      go_wp2_with fail
      go_meet
      exact ⟨by first | (rw [← hsz2.out]; done) | (rw [← hsz2.out]; rfl), rfl⟩
    · have e : size = q := by omega
      subst e
      go_wp2_with fail
      go_meet
      exact ⟨by first | (rw [← hsz2.out]; done) | (rw [← hsz2.out]; rfl), rfl⟩
  case rest =>
    obtain ⟨rfl, rfl⟩ := hcut
    clear hq hqi hqm hs0 h
    go_wp2_with fail
    go_loopw [6, 7] (fun ov i wr => ∃ (k : Nat) (ao : Option Addr) (co : Nat), k ≤ n ∧ i = .int .i64 k ∧ ov = .slice ao k co ∧ Hid (Nest wr B ao k co size (colsN xs size k)) ∧ Hid (Below B wc wr)) (fun _ i _ => n - (intOf i).toNat)
    case atStart => exact ⟨0, none, 0, by omega, rfl, rfl, Nest.nil .., Below.refl _ _⟩
    case round =>
      obtain ⟨k, ao, co, hk, rfl, rfl, hO, hL⟩ := hrel
      obtain ⟨vsv, hov1, hlv1, hrv1, hdv1⟩ := hO.out
      have hov := Lib.hid hov1
      have hlv := Lib.hid hlv1
      have hrv := Lib.hid hrv1
      have hdv := Lib.hid hdv1
      clear hov1 hlv1 hrv1 hdv1
      by_cases hlt : k < n
      · obtain ⟨lo, hlo⟩ : ∃ lo, k * size = lo := ⟨_, rfl⟩
        have hhi : (k + 1) * size = lo + size := by rw [Nat.add_mul, hlo, Nat.one_mul]
        have hbd : lo + size ≤ len := by rw [← hhi]; exact Nat.le_trans (Nat.mul_le_mul_right _ hlt) hsl
        have i1 : (k : Int) * sz = (lo : Int) := by rw [← hsz2.out, ← Int.natCast_mul, hlo]
        have i2 : ((k : Int) + 1) * sz = (lo : Int) + (size : Int) := by rw [Int.add_mul, i1, Int.one_mul, hsz2.out]
        have w1 : IntKind.i64.wrap (lo : Int) = (lo : Int) := IntWalk.i64_in _ (by omega)
        have w2 : IntKind.i64.wrap ((lo : Int) + (size : Int)) = (lo : Int) + (size : Int) := IntWalk.i64_in _ (by omega)
        have hBr : B ≤ wr.heap.size := by have := hL.out.size; have := hB.out; omega
        have hp := (HR.out.below (by rw [hB.out]; exact hL.out)).toV.piece lo (lo + size) (by omega) hbd
        rw [Nat.mul_one, show lo + size - lo = size by omega, Nat.mul_one, ← List.map_drop, ← List.map_take] at hp
        have hwf : ∀ x ∈ (xs.drop lo).take size, (Lit.int .u8 x).wf = true := fun x hx => HR.out.hwf x (List.mem_of_mem_drop (List.mem_of_mem_take hx))
        have HW := Lib.hid hwf
        clear hwf
        by_cases hs00 : size = 0
        · subst hs00
          obtain rfl : lo = 0 := by omega
          have hn0 := HR.out.hnil
          clear hp
          by_cases hc0 : cap = 0
          · subst hc0
            rcases a with _ | z
            all_goals
             go_wp2_with (at_builtin; refine wpList_append_any rfl (.tmp 19) (.tmp 30) 46 rfl B 45 _ 1 24 Try.underlying46 info_bytes rfl (by decide) ao k co _ rfl (hov.out.below (Below_alloc1 _)) (some ⟨wr.heap.size, 0, none⟩) 1 1 [.slice none 0 0] rfl (vrow_one _ _) (fun u hu => by rw [List.mem_singleton.1 hu]; rfl) (by unfold maxLen; omega) (by omega) (by simp; omega) ?_)
             intro a7 c7 w7 hown7 hg7
             have L7 : Hid (Below B wc w7) := Own.grown (hov.out.below (Below_alloc1 _)) (hL.out.trans ((Below_alloc1 _).mono hBr)) (Nat.le_refl _) (by simp; omega) hg7
             have O7 : Hid (Nest w7 B a7 (k + 1) c7 0 (colsN xs 0 (k + 1))) := by
               rw [colsN_succ, List.take_zero]
               exact Nest.add hov.out hlv.out hrv.out hdv.out (a1 := none) (c1 := 0) (d := []) (Own.nil _ _ _ _) (fun v hv => by cases hv) (fun i v g _ _ h => by cases h) hown7 ((World.grownBy_alloc wr _ _).trans hg7)
             clear hown7 hg7 hov hlv hrv hdv hL
             go_wp2_with fail
             go_roundw
             case rel => exact ⟨k + 1, a7, c7, by omega, by go_num, rfl, O7, L7⟩
             case measure => simp [intOf]; omega
          · have hsome : ∃ z, a = some z := by cases a with | none => exact absurd (hn0 rfl) hc0 | some z => exact ⟨z, rfl⟩
            obtain ⟨z, rfl⟩ := hsome
            go_wp2_with (at_builtin; refine wpList_append_any rfl (.tmp 19) (.tmp 30) 46 rfl B 45 _ 1 24 Try.underlying46 info_bytes rfl (by decide) ao k co _ rfl (hov.out.below (Below_alloc1 _)) (some ⟨wr.heap.size, 0, none⟩) 1 1 [.slice none 0 0] rfl (vrow_one _ _) (fun u hu => by rw [List.mem_singleton.1 hu]; rfl) (by unfold maxLen; omega) (by omega) (by simp; omega) ?_)
            intro a7 c7 w7 hown7 hg7
            have L7 : Hid (Below B wc w7) := Own.grown (hov.out.below (Below_alloc1 _)) (hL.out.trans ((Below_alloc1 _).mono hBr)) (Nat.le_refl _) (by simp; omega) hg7
            have O7 : Hid (Nest w7 B a7 (k + 1) c7 0 (colsN xs 0 (k + 1))) := by
              rw [colsN_succ, List.take_zero]
              exact Nest.add hov.out hlv.out hrv.out hdv.out (a1 := none) (c1 := 0) (d := []) (Own.nil _ _ _ _) (fun v hv => by cases hv) (fun i v g _ _ h => by cases h) hown7 ((World.grownBy_alloc wr _ _).trans hg7)
            clear hown7 hg7 hov hlv hrv hdv hL
            go_wp2_with fail
            go_roundw
            case rel => exact ⟨k + 1, a7, c7, by omega, by go_num, rfl, O7, L7⟩
            case measure => simp [intOf]; omega
        · have hcl : ¬ cap = lo := by omega
          rw [if_neg hcl] at hp
          have HP := Lib.hid hp
          clear hp
          go_wp2_with (at_builtin; refine wpList_append_any rfl (.const (.slice none 0 0)) (.tmp 28) 45 rfl wr.heap.size 5 _ 1 1 Try.underlying45 info_byte rfl (by decide) none 0 0 [] rfl (Own.nil _ _ _ _) (a.map (·.add lo)) size (cap - lo) (((xs.drop lo).take size).map (.int .u8)) (by show Value.slice _ (lo + size - lo) _ = _; rw [Nat.add_sub_cancel_left]) HP.out (fun u hu => by obtain ⟨x, _, rfl⟩ := List.mem_map.1 hu; rfl) (by unfold maxLen; omega) (by omega) (Nat.le_refl _) ?_)
          intro a6 c6 w6 ho hg
          have LR6 : Below wr.heap.size wr w6 := Own.grown (Own.nil wr wr.heap.size 5 1) (Below.refl _ _) (Nat.le_refl _) (Nat.le_refl _) hg
          have ho' : Own w6 wr.heap.size 5 1 a6 size c6 (((xs.drop lo).take size).map (.int .u8)) := by simpa using ho
          have HO := Lib.hid (ho'.row.toRow HW.out)
          have hnewr : Hid (Own w6 B 5 1 a6 size c6 (((xs.drop lo).take size).map (.int .u8))) := ho'.mono hBr
          have hge : Hid (∀ g, (Value.slice a6 size c6).ownBlock = some g → wr.heap.size ≤ g) := fun g hg' => (World.ownsRow.lt ho' g hg').1
          have O6 := Lib.hid (hov.out.below LR6)
          have hrv6 : Hid (RowsOf w6 B size vsv (colsN xs size k)) := fun i v d hv hd => by
            obtain ⟨a', c', e, h1, h2⟩ := hrv.out i v d hv hd
            exact ⟨a', c', e, h1.below LR6, h2⟩
          have hold : Hid (∀ (i : Nat) (v : Value) (g : Nat), vsv[i]? = some v → v.ownBlock = some g → (Value.slice a6 size c6).ownBlock ≠ some g) := by
            intro i v g hv hg1 hg2
            have hi : i < (colsN xs size k).length := by
              have h1 := (List.getElem?_eq_some_iff.1 hv).1
              have h2 := hov.out.row.hlen
              rw [colsN_length]; omega
            obtain ⟨a', c', e, h1, h2⟩ := hrv.out i v _ hv (List.getElem?_eq_getElem hi)
            rw [e] at hg1
            have h3 := (World.ownsRow.lt h1 g hg1).2
            have h4 := hge.out g hg2
            omega
          have hbw : Byt ((xs.drop lo).take size) := fun v hv => byte_range (HW.out v hv)
          have HBW := Lib.hid hbw
          clear hbw
          have L6 : Hid (Below B wc w6) := hL.out.trans (LR6.mono hBr)
          have hBw6 : B ≤ w6.heap.size := by have := LR6.size; omega
          clear ho ho' hg LR6 hov hrv hL HP HW hge
          go_wp2_with (at_builtin; refine wpList_append_any rfl (.tmp 19) (.tmp 30) 46 rfl B 45 _ 1 24 Try.underlying46 info_bytes rfl (by decide) ao k co _ rfl (O6.out.below (Below_alloc1 _)) (some ⟨w6.heap.size, 0, none⟩) 1 1 [.slice a6 size c6] rfl (vrow_one _ _) (fun u hu => by rw [List.mem_singleton.1 hu]; rfl) (by unfold maxLen; omega) (by omega) (by simp; omega) ?_)
          intro a7 c7 w7 hown7 hg7
          have L7 : Hid (Below B wc w7) := Own.grown (O6.out.below (Below_alloc1 _)) (L6.out.trans ((Below_alloc1 _).mono hBw6)) (Nat.le_refl _) (by simp; omega) hg7
          have O7 : Hid (Nest w7 B a7 (k + 1) c7 size (colsN xs size (k + 1))) := by
            rw [colsN_succ, hlo]
            exact Nest.add O6.out hlv.out hrv6.out hdv.out hnewr.out HBW.out hold.out hown7 ((World.grownBy_alloc w6 _ _).trans hg7)
          clear hown7 hg7 O6 L6 HO hrv6 hdv hold hnewr HBW
          go_wp2_with fail
          go_roundw
          case rel => exact ⟨k + 1, a7, c7, by omega, by go_num, rfl, O7, L7⟩
          case measure => simp [intOf]; omega
      · obtain rfl : k = n := by omega
        go_wp2_with fail
        go_ret
        exact ⟨ao, co, rfl, by rw [hB.out, hln, hsz.out]; exact hO, by rw [hB.out]; exact hL⟩
end Go.Proofs.Ytkfjkdonbmjniaa
