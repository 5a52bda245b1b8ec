/- The walk of Hear, at the line of an answer. -/
import Derived.Test.YtdonmdiebibabaaDoorLnD
import Derived.RegionTactic
import Derived.ChangeAlike
namespace Go.Proofs.YtdonmdiebibabaaDoor
open Go.RowKit Go.Sort
set_option linter.unusedVariables false
set_option maxRecDepth 100000
set_option linter.unusedSimpArgs false

theorem splitW (s : Nm) (W : World) (sh : W.ShapedOpen Tryd.prog) (hs : s.length < 4294967281) :
    Calls Tryd.prog 22 #[encStr s, .string ⟨#[32]⟩] W fun e w' => e = .returned (.slice (some ⟨W.heap.size, 0, none⟩) (cutP s).length (cutP s).length) ∧ w' = W.alloc (.cells ((cutP s).map encStr).toArray 9) := by
  have h := strings_Split_shaped ⟨s.toArray⟩ ⟨#[32]⟩ W sh (by rw [strLen]; exact hs) (by decide)
  have hc := split_cut s.length s (Nat.le_refl _)
  have e1 : Lib.countB ⟨s.toArray⟩ ⟨#[32]⟩ = Lib.count s [32] := rfl
  have e2 : (Lib.splitB ⟨#[32]⟩ 0 (Lib.count s [32]) ⟨s.toArray⟩).map Value.string = (cutP s).map encStr := by
    rw [← hc.1]
    have hd := Lib.splitB_data ⟨#[32]⟩ 0 (Lib.count s [32]) ⟨s.toArray⟩
    have hd' : (Lib.splitB ⟨#[32]⟩ 0 (Lib.count s [32]) ⟨s.toArray⟩).map (·.data.toList) = Lib.splitK [32] 0 (Lib.count s [32]) s := hd
    rw [← hd', List.map_map]
    rfl
  rw [e1, e2, hc.2] at h
  exact h
theorem partsT_ne (t : Tl) : partsT t ≠ [] := by unfold partsT; simp
theorem partsT_cut (t : Tl) (hd : ∀ x ∈ t.data, 0 ≤ x ∧ x < 256) (hn : ∀ x ∈ t.names, ∀ c ∈ x, c ≠ 32) : cutP (joinP (partsT t)) = partsT t := by
  refine cut_join _ (partsT_ne t) (fun x hx => ?_)
  unfold partsT at hx
  simp only [List.mem_append] at hx
  rcases hx with ((hx | hx) | hx) | hx
  · unfold headT at hx
    split at hx
    · obtain rfl := List.mem_singleton.1 hx; decide
    · simp only [List.mem_cons, List.mem_nil_iff, or_false] at hx
      rcases hx with rfl | rfl
      · decide
      · exact itoa_free _
  · simp only [List.mem_cons, List.mem_nil_iff, or_false] at hx
    rcases hx with rfl | rfl
    · exact itoa_free _
    · exact hex_free _ hd
  · split at hx
    · obtain rfl := List.mem_singleton.1 hx; decide
    · cases hx
  · exact hn x hx
/-- What stands behind the head, with what the head ends in. -/
def restT (t : Tl) (x : Nm) : List Nm := x :: Lib.itoa t.size :: hexP t.data :: ((if t.done then [doneN] else []) ++ t.names)
theorem partsT_zero (t : Tl) (h : t.code = 0) : partsT t = restT t okN := by unfold partsT restT headT; rw [if_pos h]; simp
theorem partsT_code (t : Tl) (h : t.code ≠ 0) : partsT t = noN :: restT t (Lib.itoa t.code) := by unfold partsT restT headT; rw [if_neg h]; simp
theorem restT_length (t : Tl) (x : Nm) : (restT t x).length = 3 + (if t.done then 1 else 0) + t.names.length := by
  unfold restT
  cases t.done <;> simp <;> omega
/-- A piece of a block of texts, as a row. -/
theorem pieceRow {w : World} {F : Nat → Prop} {P o : Nat} {t : TypeId} {cells : Array Value} (xs : List Nm) (h : Box w P cells t) (hF : F P) (hl : xs.length ≤ 1000000) (hc : ∀ i (hi : i < xs.length), cells[o + i]? = some (encStr xs[i])) : SRow strL w F (some ⟨P, o, none⟩) xs.length xs.length xs := by
  refine ⟨rfl, fun x hx _ => by obtain rfl := Option.some.inj hx; exact hF, xs.map fun s => [encStr s], ⟨?_, Nat.le_refl _, by unfold maxLen; omega, (fun h => by cases h), .inr ⟨P, o, rfl, fun i hi => ?_⟩⟩, ⟨by simp, fun i x vs hx hv => ?_⟩⟩
  · rw [flatten_length 1 _ (fun y hy => by obtain ⟨s, _, rfl⟩ := List.mem_map.1 hy; rfl)]; show _ = xs.length * 1; simp
  · have hi' : i < xs.length := by have : i < xs.length * 1 := hi; omega
    have e : (xs.map fun s => [encStr s]).flatten = xs.map encStr := by
      clear h hl hc hi hi'
      induction xs with
      | nil => rfl
      | cons x xs ih => simp only [List.map_cons, List.flatten_cons, ih]; rfl
    rw [e, h.cell (o + i), hc i hi', List.getElem?_map, List.getElem?_eq_getElem hi']; rfl
  · rw [List.getElem?_map, hx] at hv
    obtain rfl : [encStr x] = vs := by simpa using hv
    rfl
theorem below_setG {w0 w : World} (h : Below w0.heap.size w0 w) (g : Nat) (hg : w0.heap.size ≤ g) (j : Nat) (v : Value) : Below w0.heap.size w0 (w.setCell ⟨g, j, none⟩ v) :=
  ⟨h.os, h.tape, h.output, by simp [World.setCell]; exact h.size, fun k hk => (Below.heap_setCell _ _ _ _ (fun e => by have : k = g := e; omega)).trans (h.block k hk)⟩
def told0 : Array Value := #[.int .i64 0, .bool false, .int .i64 0, .slice none 0 0, .slice none 0 0]
/-- What Hear hands back. -/
def Heard (t : Tl) (w : World) (e : Ending) (w' : World) : Prop :=
  if t.names.any oddP then e = .returned (.tuple #[.agg told0, .int .i64 4]) ∧ Below w.heap.size w w'
  else ∃ (ad : Option Addr) (ld cd : Nat) (an : Option Addr) (ln cn : Nat), e = .returned (.tuple #[.agg (tlV t ad ld cd an ln cn), .int .i64 0]) ∧ Row .u8 w' ad ld cd t.data ∧ SRow strL w' (fun _ => True) an ln cn t.names ∧ Below w.heap.size w w'
theorem row_setG {w : World} {a : Option Addr} {l c : Nat} {xs : List Int} (h : Row .u8 w a l c xs) (g j : Nat) (v : Value) (hne : ∀ x, a = some x → x.block ≠ g) : Row .u8 (w.setCell ⟨g, j, none⟩ v) a l c xs :=
  VRow.toRow (h.toV.keep (fun b o e _ _ => Below.heap_setCell _ _ _ _ (fun e' => hne _ e e'))) h.hwf
theorem unhexHex (b : List Int) (w : World) (hb : ∀ x ∈ b, 0 ≤ x ∧ x < 256) (hl : b.length ≤ 2000000) :
    Calls Tryd.prog 24 #[encStr (hexP b)] w fun e w' => ∃ a n c, e = .returned (.tuple #[.slice a n c, .bool true]) ∧ Hid (NewB w w' a n c b) := by
  have hlen : (hexP b).length ≤ 4000000 := by
    unfold hexP
    split
    · simp
    · rw [pairs_length]; omega
  refine (unhexW (hexP b) w hlen).mono ?_
  intro e w' h
  unfold Unhexed at h
  rw [unhex_hex b hb] at h
  exact h
theorem heard_odd {t : Tl} {w w' : World} (h : t.names.any oddP = true) (hb : Below w.heap.size w w') : Heard t w (.returned (.tuple #[.agg told0, .int .i64 4])) w' := by
  unfold Heard; rw [if_pos h]; exact ⟨rfl, hb⟩
theorem heard_good {t : Tl} {w w' : World} {ad : Option Addr} {ld cd : Nat} {an : Option Addr} {ln cn : Nat} (h : t.names.any oddP = false) (hb : Below w.heap.size w w') (hd : Row .u8 w' ad ld cd t.data) (hn : SRow strL w' (fun _ => True) an ln cn t.names) : Heard t w (.returned (.tuple #[.agg (tlV t ad ld cd an ln cn), .int .i64 0])) w' := by
  unfold Heard; rw [if_neg (by rw [h]; decide)]; exact ⟨ad, ld, cd, an, ln, cn, rfl, hd, hn, hb⟩
theorem texts_row {w' : World} {base : Nat} {v : Value} {n : Nat} {xs : List Nm} (h : w'.ownsRow base 9 1 v n (xs.map encStr)) (hl : xs.length = n) : ∃ a c, v = .slice a n c ∧ SRow strL w' (fun b => base ≤ b) a n c xs := by
  have hform : ∃ a c, v = .slice a n c := by
    rcases h.2 with ⟨h0, h1⟩ | ⟨g, c, cur, hv, _⟩
    · exact ⟨none, 0, by rw [h0, h1]⟩
    · exact ⟨_, _, hv⟩
  obtain ⟨a, c, rfl⟩ := hform
  have hO : Own w' base 9 1 a n c (xs.map encStr) := h
  refine ⟨a, c, rfl, hl, fun x hx _ => (World.ownsRow.lt hO x.block (by rw [hx]; rfl)).1, xs.map fun s => [encStr s], ?_, ⟨by simp, fun i x vs hx hv => ?_⟩⟩
  · have e : (xs.map fun s => [encStr s]).flatten = xs.map encStr := by
      clear h hO hl
      induction xs with
      | nil => rfl
      | cons x xs ih => simp only [List.map_cons, List.flatten_cons, ih]; rfl
    rw [e]; exact hO.row
  · rw [List.getElem?_map, hx] at hv
    obtain rfl : [encStr x] = vs := by simpa using hv
    rfl
theorem cloneNames (F : Nat → Prop) (b o n c : Nat) (xs : List Nm) (w : World) (h : SRow strL w F (some ⟨b, o, none⟩) n c xs) (hn : n ≤ 1000000) :
    Calls Tryd.prog 25 #[.slice (some ⟨b, o, none⟩) n c] w fun e w' => ∃ a' c', e = .returned (.slice a' n c') ∧ Hid (SRow strL w' (fun b => w.heap.size ≤ b) a' n c' xs) ∧ Hid (Below w.heap.size w w') := by
  by_cases h0 : n = 0
  · subst h0
    have hx : xs = [] := List.eq_nil_of_length_eq_zero h.1
    subst hx
    refine (slices_Clone_string_zero ⟨b, o, none⟩ c w).mono ?_
    rintro e w' ⟨v', rfl, h1, _, h2⟩
    obtain ⟨a, c', rfl, hr⟩ := texts_row (xs := []) h1 rfl
    exact ⟨a, c', rfl, hr, h2⟩
  · have hl : xs.length = n := h.1
    have hg : ∀ j (hj : j < xs.length), w.cell? ⟨b, o + j, none⟩ = some (encStr xs[j]) := fun j hj => by
      obtain ⟨b2, o2, x, e, hx, hc⟩ := nmAt h j (by omega)
      obtain ⟨rfl, rfl⟩ : b = b2 ∧ o = o2 := by simpa using e
      rw [List.getElem?_eq_getElem hj] at hx
      rw [hc, Option.some.inj hx]
    refine (slices_Clone_string b o n c (xs.map fun s => (⟨s.toArray⟩ : ByteArray)) w (by simp; omega) (by omega) (fun j hj => ?_)).mono ?_
    · have hj' : j < xs.length := by simpa using hj
      rw [hg j hj', List.getD_eq_getElem?_getD, List.getElem?_map, List.getElem?_eq_getElem hj']; rfl
    · rintro e w' ⟨v', rfl, h1, _, h2⟩
      have e1 : ((xs.map fun s => (⟨s.toArray⟩ : ByteArray)).take n).map Value.string = xs.map encStr := by
        rw [List.take_of_length_le (by simp; omega), List.map_map]; rfl
      rw [e1] at h1
      obtain ⟨a, c', rfl, hr⟩ := texts_row h1 hl
      exact ⟨a, c', rfl, hr, h2⟩
set_option maxHeartbeats 8000000 in
theorem hearW (t : Tl) (w : World) (hE : Env w) (hd : ∀ x ∈ t.data, 0 ≤ x ∧ x < 256) (hn : ∀ x ∈ t.names, x.length ≤ 100 ∧ ∀ c ∈ x, c ≠ 32) (hh : t.done = false → t.names.head? ≠ some doneN) (hc : t.code ≤ 1000) (hs : t.size ≤ 4611686018427387904) (hl : t.data.length ≤ 2000000) (hln : t.names.length ≤ 1000) (hjl : (joinP (partsT t)).length < 4294967281) :
    Calls Tryd.prog 9 #[encStr (joinP (partsT t))] w (Heard t w) := by
  have hcut := partsT_cut t hd (fun x hx => (hn x hx).2)
  obtain ⟨s, hs0⟩ : ∃ s, Hid (joinP (partsT t) = s) := ⟨_, rfl⟩
  have hBT : Hid (Below w.heap.size w (w.alloc (.cells told0 28))) := Below_alloc1 _
  have hSP := splitW s _ (hE.below hBT.out).sh (by rw [← hs0.out]; exact hjl)
  rw [show cutP s = partsT t by rw [← hs0.out]; exact hcut] at hSP
  have HSP := Lib.hid hSP
  have HE := Lib.hid hE
  have HD := Lib.hid hd
  have HN := Lib.hid hn
  have HH := Lib.hid hh
  rw [hs0.out]
  obtain ⟨CS, hCS⟩ : ∃ CS, Hid (((partsT t).map encStr).toArray = CS) := ⟨_, rfl⟩
  obtain ⟨NP, hNP⟩ : ∃ NP, Hid ((partsT t).length = NP) := ⟨_, rfl⟩
  rw [hCS.out, hNP.out] at HSP
  have HAT : Hid (∀ i (hi : i < (partsT t).length), CS[i]? = some (encStr (partsT t)[i])) := fun i hi => by rw [← hCS.out]; simp [hi]
  unfold told0 at HSP hBT
  have hlen : Hid (NP = (if t.code = 0 then 0 else 1) + (3 + (if t.done then 1 else 0) + t.names.length)) := by
    show _ = _
    rw [← hNP.out]
    by_cases h0 : t.code = 0
    · rw [partsT_zero t h0, restT_length, if_pos h0]; omega
    · rw [partsT_code t h0, List.length_cons, restT_length, if_neg h0]; omega
  clear hE hd hn hh hcut hSP hjl
  go_enter Tryd.func9, Tryd.ntmps9
  go_upto_region 2 with (go_at_call 22; refine HSP.out.mono ?_; rintro e w1 ⟨rfl, rfl⟩)
  obtain ⟨W, hW⟩ : ∃ W, W = ((w.alloc (.cells #[.int .i64 0, .bool false, .int .i64 0, .slice none 0 0, .slice none 0 0] 28)).alloc (.cells CS 9)).alloc (.cells #[.int .i64 0, .bool false, .int .i64 0, .slice none 0 0, .slice none 0 0] 28) := ⟨_, rfl⟩
  have hBW : Hid (Below w.heap.size w W) := by rw [hW]; exact (Below_alloc2 _ _).alloc (by simp; omega) _
  have BXr : Hid (Box W w.heap.size #[.int .i64 0, .bool false, .int .i64 0, .slice none 0 0, .slice none 0 0] 28) := by rw [hW]; exact Box.alloc (Box.alloc (Box.new rfl) _) _
  have BXp : Hid (Box W (w.heap.size + 1) CS 9) := by rw [hW]; exact Box.alloc (Box.new (by simp)) _
  have BXt : Hid (Box W (w.heap.size + 2) #[.int .i64 0, .bool false, .int .i64 0, .slice none 0 0, .slice none 0 0] 28) := by rw [hW]; exact Box.new (by simp)
  go_cut [5] from 5 to 5 (fun v5 wx => v5 = .pointer (some ⟨w.heap.size + 1 + 1, 0, none⟩) ∧ wx = W)
  case first =>
    go_wp2_with fail
    rw [← hW]
    go_meet
    exact ⟨rfl, rfl⟩
  case rest =>
  obtain ⟨rfl, rfl⟩ := hcut
  refine ‹∀ (a : Act) (w : World), Code.wp _ _ _ a w → _› _ _ ?_
  clear hW
  obtain ⟨W, hWe⟩ : ∃ W, W = wc := ⟨_, rfl⟩
  rw [← hWe] at hBW BXr BXp BXt ⊢
  clear hWe
  have BXt' : Hid (Box W (w.heap.size + 1 + 1) #[.int .i64 0, .bool false, .int .i64 0, .slice none 0 0, .slice none 0 0] 28) := BXt.out
  obtain ⟨G, hG⟩ : ∃ G, Hid (w.heap.size + 1 + 1 = G) := ⟨_, rfl⟩
  obtain ⟨P, hP⟩ : ∃ P, Hid (w.heap.size + 1 = P) := ⟨_, rfl⟩
  obtain ⟨g0, hg0⟩ : ∃ g0, Hid (w.heap.size = g0) := ⟨_, rfl⟩
  rw [hG.out] at BXt' ⊢
  rw [hP.out] at BXp ⊢
  rw [hg0.out] at BXr ⊢
  have hgP : g0 < P := by have := hg0.out; have := hP.out; omega
  have hPG : P < G := by have := hG.out; have := hP.out; omega
  have HG0 : Hid (w.heap.size ≤ g0) := by show _ ≤ _; have := hg0.out; omega
  have hNPl : 3 ≤ NP := by have := hlen.out; omega
  have hNPb : NP ≤ 2000 := by have := hlen.out; split at this <;> split at this <;> omega
  clear BXt
  refine wp_seq_k ?_
  intro KK hKK
  go_cut [4] from 12 to 31 (fun v4 wx => ∃ (o n : Nat) (x : Nm), v4 = .slice (some ⟨P, o, none⟩) n n ∧ Hid (n = 3 + (if t.done then 1 else 0) + t.names.length) ∧ Hid (∀ i (hi : i < (restT t x).length), CS[o + i]? = some (encStr (restT t x)[i])) ∧ Hid (Box wx G #[.int .i64 (t.code : Int), .bool false, .int .i64 0, .slice none 0 0, .slice none 0 0] 28) ∧ Hid (Box wx P CS 9) ∧ Hid (Box wx g0 #[.int .i64 0, .bool false, .int .i64 0, .slice none 0 0, .slice none 0 0] 28) ∧ Hid (Below w.heap.size w wx))
  case first =>
    by_cases h0 : t.code = 0
    · have hp := partsT_zero t h0
      have hA : Hid (∀ i (hi : i < (restT t okN).length), CS[0 + i]? = some (encStr (restT t okN)[i])) := by
        have := HAT.out
        rw [hp] at this
        intro i hi; rw [Nat.zero_add]; exact this i hi
      have c0 : W.cell? ⟨P, 0, none⟩ = some (encStr okN) := (BXp.out.cell 0).trans (hA.out 0 (by rw [restT_length]; omega))
      have hn1 : Hid (NP = 3 + (if t.done then 1 else 0) + t.names.length) := by show _ = _; have := hlen.out; rw [if_pos h0] at this; omega
      have hB1 : Hid (Box W G #[.int .i64 (t.code : Int), .bool false, .int .i64 0, .slice none 0 0, .slice none 0 0] 28) := by show Box _ _ _ _; rw [h0]; exact BXt'.out
      have hNPi : (0 : Int) < (NP : Int) := by omega
      unfold okN at c0
      clear h0 hp
      go_wp2_with fail
      go_meet
      exact ⟨0, NP, okN, rfl, hn1, hA, hB1, BXp, BXr, hBW⟩
    · have hp := partsT_code t h0
      have hA0 := HAT.out
      rw [hp] at hA0
      have hA : Hid (∀ i (hi : i < (restT t (Lib.itoa t.code)).length), CS[1 + i]? = some (encStr (restT t (Lib.itoa t.code))[i])) := fun i hi => by
        have := hA0 (i + 1) (by simp; omega)
        rw [Nat.add_comm]; exact this
      have c0 : W.cell? ⟨P, 0, none⟩ = some (encStr noN) := (BXp.out.cell 0).trans (hA0 0 (by simp))
      have c1 : W.cell? ⟨P, 1, none⟩ = some (encStr (Lib.itoa t.code)) := (BXp.out.cell 1).trans (hA.out 0 (by rw [restT_length]; omega))
      have hn1 : Hid (NP - 1 = 3 + (if t.done then 1 else 0) + t.names.length) := by show _ = _; have := hlen.out; rw [if_neg h0] at this; omega
      have hNPi : (1 : Int) < (NP : Int) := by omega
      have hNPn : 1 < NP := by omega
      have hNum := Lib.hid (numberItoa (t.code : Int) W (by omega) (by omega) (HE.out.below hBW.out))
      unfold noN at c0
      clear h0 hp hA0
      go_wp2_with (go_at_call 23; refine hNum.out.mono ?_; rintro e w4 ⟨rfl, hb4⟩)
      have hX4 : Hid (Box w4 G #[.int .i64 0, .bool false, .int .i64 0, .slice none 0 0, .slice none 0 0] 28) := BXt'.out.below hb4.out BXt'.out.lt
      have z0 : w4.cell? ⟨G, 0, none⟩ = some (.int .i64 0) := hX4.out.cell 0
      have y0 : w4.frozen? ⟨G, 0, none⟩ = false := hX4.out.free 0
      have hB4 : Hid (Below w.heap.size w w4) := hBW.out.trans (hb4.out.mono hBW.out.size)
      have hn3 : ¬ NP = 1 := by omega
      have hn4 : ¬ (NP : Int) = 1 := by omega
      go_region
      all_goals
        go_wp2_with fail
        go_meet
        refine ⟨1, NP - 1, Lib.itoa t.code, rfl, hn1, hA, ?_, ?_, ?_, ?_⟩
        · exact Box.set (w := w4.drew) hX4.out 0 _
        · exact Box.other (w := w4.drew) (BXp.out.below hb4.out.drew BXp.out.lt) ⟨G, 0, none⟩ (by show G ≠ P; omega) _
        · exact Box.other (w := w4.drew) (BXr.out.below hb4.out.drew BXr.out.lt) ⟨G, 0, none⟩ (by show G ≠ g0; omega) _
        · exact below_setG (below_drewN hB4.out 1) G (by have := HG0.out; omega) 0 _
  case rest =>
    obtain ⟨o, n, x, rfl, hn, hA, hXG, hXP, hX0, hBV⟩ := hcut
    refine hKK _ _ ?_
    clear hKK BXr BXp BXt' hBW HAT HSP hCS hNP hlen hNPl hNPb
    obtain ⟨V, hVe⟩ : ∃ V, V = wc := ⟨_, rfl⟩
    rw [← hVe] at hXG hXP hX0 hBV ⊢
    clear hVe
    have hn3 : 3 ≤ n := by have := hn.out; split at this <;> omega
    have hnb : n ≤ 2000 := by have := hn.out; split at this <;> omega
    have c1 : V.cell? ⟨P, o + 1, none⟩ = some (encStr (Lib.itoa t.size)) := (hXP.out.cell (o + 1)).trans (hA.out 1 (by rw [restT_length]; omega))
    have c2 : V.cell? ⟨P, o + 2, none⟩ = some (encStr (hexP t.data)) := (hXP.out.cell (o + 2)).trans (hA.out 2 (by rw [restT_length]; omega))
    have hPl := hXP.out.lt
    have hNum := Lib.hid (numberItoa (t.size : Int) V (by omega) (by omega) (HE.out.below hBV.out))
    have hUn := Lib.hid (fun W => unhexHex t.data W HD.out hl)
    refine wp_seq_k ?_
    intro KK2 hKK2
    obtain ⟨code, done, size, data, names⟩ := t
    simp only at *
    go_cut [4] from 32 to 68 (fun v4 wx => ∃ (ad : Option Addr) (ld cd : Nat) (oa : Nat) (ln cn : Nat), Hid (Box wx G (tlV ⟨code, done, size, data, names⟩ ad ld cd (some ⟨P, oa, none⟩) ln cn) 28) ∧ Hid (Row .u8 wx ad ld cd data ∧ ∀ p, ad = some p → p.block ≠ G ∧ p.block ≠ g0) ∧ Hid (SRow strL wx (fun _ => True) (some ⟨P, oa, none⟩) ln cn names) ∧ Hid (Box wx g0 #[.int .i64 0, .bool false, .int .i64 0, .slice none 0 0, .slice none 0 0] 28) ∧ Hid (Below w.heap.size w wx))
    case first =>
      by_cases hz : names = []
      · subst hz
        cases done with
        | false =>
          obtain rfl : n = 3 := hn.out
          go_wp2_with (go_at_call 23; refine hNum.out.mono ?_; rintro e w4 ⟨rfl, hb4⟩; have hX4 : Hid (Box w4 G #[.int .i64 (code : Int), .bool false, .int .i64 0, .slice none 0 0, .slice none 0 0] 28) := hXG.out.below hb4.out hXG.out.lt; have z2 : w4.cell? ⟨G, 2, none⟩ = some (.int .i64 0) := hX4.out.cell 2; have y2 : w4.frozen? ⟨G, 2, none⟩ = false := hX4.out.free 2; have e1 := (hb4.out.cell hPl).trans c1; have e2 := (hb4.out.cell hPl).trans c2; have hP4 : P < w4.heap.size := Nat.lt_of_lt_of_le hPl hb4.out.size)
          have hX5 : Hid (Box (w4.setCell ⟨G, 2, none⟩ (.int .i64 (size : Int))) G #[.int .i64 (code : Int), .bool false, .int .i64 (size : Int), .slice none 0 0, .slice none 0 0] 28) := hX4.out.set 2 _
          obtain ⟨w5, hw5⟩ : ∃ w5, w5 = w4.setCell ⟨G, 2, none⟩ (.int .i64 (size : Int)) := ⟨_, rfl⟩
          have hB5 : Hid (Below w.heap.size w w5) := by rw [hw5]; exact below_setG (hBV.out.trans (hb4.out.mono hBV.out.size)) G (by have := HG0.out; omega) 2 _
          have hP5 : Hid (Box w5 P CS 9) := by rw [hw5]; exact Box.other (hXP.out.below hb4.out hXP.out.lt) ⟨G, 2, none⟩ (by show G ≠ P; omega) _
          have h05 : Hid (Box w5 g0 #[.int .i64 0, .bool false, .int .i64 0, .slice none 0 0, .slice none 0 0] 28) := by rw [hw5]; exact Box.other (hX0.out.below hb4.out hX0.out.lt) ⟨G, 2, none⟩ (by show G ≠ g0; omega) _
          rw [← hw5] at hX5 ⊢
          clear hw5
          refine (hUn.out w5).mono ?_
          rintro e w6 ⟨a6, l6, c6, rfl, hN6⟩
          have hX6 : Hid (Box w6 G #[.int .i64 (code : Int), .bool false, .int .i64 (size : Int), .slice none 0 0, .slice none 0 0] 28) := hX5.out.below hN6.out.below hX5.out.lt
          have z3 : w6.cell? ⟨G, 3, none⟩ = some (.slice none 0 0) := hX6.out.cell 3
          have y3 : w6.frozen? ⟨G, 3, none⟩ = false := hX6.out.free 3
          have z1 : w6.cell? ⟨G, 1, none⟩ = some (.bool false) := hX6.out.cell 1
          have y1 : w6.frozen? ⟨G, 1, none⟩ = false := hX6.out.free 1
          have z4 : w6.cell? ⟨G, 4, none⟩ = some (.slice none 0 0) := hX6.out.cell 4
          have y4 : w6.frozen? ⟨G, 4, none⟩ = false := hX6.out.free 4
          have hP6 : Hid (Box w6 P CS 9) := hP5.out.below hN6.out.below hP5.out.lt
          have hGP : G ≠ P := by omega
          have hGg : G ≠ g0 := by omega
          have hGw : w.heap.size ≤ G := by have := HG0.out; omega
          go_wp2_with fail
          go_meet
          have hGn : ∀ p, a6 = some p → p.block ≠ G := fun p hp => by have := (hN6.out.new p hp).1; have := hX5.out.lt; omega
          refine ⟨a6, l6, c6, o, 0, 0, ?_, ?_, ?_, ?_, ?_⟩
          · exact ((hX6.out.set 3 (.slice a6 l6 c6)).set 1 (.bool false)).set 4 (.slice (some ⟨P, o, none⟩) (0) (0))
          · exact ⟨row_setG (row_setG (row_setG hN6.out.row G 3 _ hGn) G 1 _ hGn) G 4 _ hGn, fun p hp => ⟨hGn p hp, by have h1 := (hN6.out.new p hp).1; have h2 := hX5.out.lt; omega⟩⟩
          · exact pieceRow (o := o) [] (Box.other (Box.other (Box.other hP6.out ⟨G, 3, none⟩ hGP _) ⟨G, 1, none⟩ hGP _) ⟨G, 4, none⟩ hGP _) trivial (by simp) (fun i hi => absurd hi (by simp))
          · exact Box.other (Box.other (Box.other (h05.out.below hN6.out.below h05.out.lt) ⟨G, 3, none⟩ hGg _) ⟨G, 1, none⟩ hGg _) ⟨G, 4, none⟩ hGg _
          · have hB6 := hB5.out.trans (hN6.out.below.mono hB5.out.size)
            exact below_setG (below_setG (below_setG hB6 G hGw 3 _) G hGw 1 _) G hGw 4 _
        | true =>
          obtain rfl : n = 4 := hn.out
          have c3 : V.cell? ⟨P, o + 3, none⟩ = some (encStr doneN) := (hXP.out.cell (o + 3)).trans (hA.out 3 (by rw [restT_length]; simp <;> omega))
          unfold doneN at c3
          go_wp2_with (go_at_call 23; refine hNum.out.mono ?_; rintro e w4 ⟨rfl, hb4⟩; have hX4 : Hid (Box w4 G #[.int .i64 (code : Int), .bool false, .int .i64 0, .slice none 0 0, .slice none 0 0] 28) := hXG.out.below hb4.out hXG.out.lt; have z2 : w4.cell? ⟨G, 2, none⟩ = some (.int .i64 0) := hX4.out.cell 2; have y2 : w4.frozen? ⟨G, 2, none⟩ = false := hX4.out.free 2; have e1 := (hb4.out.cell hPl).trans c1; have e2 := (hb4.out.cell hPl).trans c2; have hP4 : P < w4.heap.size := Nat.lt_of_lt_of_le hPl hb4.out.size)
          have hX5 : Hid (Box (w4.setCell ⟨G, 2, none⟩ (.int .i64 (size : Int))) G #[.int .i64 (code : Int), .bool false, .int .i64 (size : Int), .slice none 0 0, .slice none 0 0] 28) := hX4.out.set 2 _
          obtain ⟨w5, hw5⟩ : ∃ w5, w5 = w4.setCell ⟨G, 2, none⟩ (.int .i64 (size : Int)) := ⟨_, rfl⟩
          have hB5 : Hid (Below w.heap.size w w5) := by rw [hw5]; exact below_setG (hBV.out.trans (hb4.out.mono hBV.out.size)) G (by have := HG0.out; omega) 2 _
          have hP5 : Hid (Box w5 P CS 9) := by rw [hw5]; exact Box.other (hXP.out.below hb4.out hXP.out.lt) ⟨G, 2, none⟩ (by show G ≠ P; omega) _
          have h05 : Hid (Box w5 g0 #[.int .i64 0, .bool false, .int .i64 0, .slice none 0 0, .slice none 0 0] 28) := by rw [hw5]; exact Box.other (hX0.out.below hb4.out hX0.out.lt) ⟨G, 2, none⟩ (by show G ≠ g0; omega) _
          rw [← hw5] at hX5 ⊢
          clear hw5
          refine (hUn.out w5).mono ?_
          rintro e w6 ⟨a6, l6, c6, rfl, hN6⟩
          have hX6 : Hid (Box w6 G #[.int .i64 (code : Int), .bool false, .int .i64 (size : Int), .slice none 0 0, .slice none 0 0] 28) := hX5.out.below hN6.out.below hX5.out.lt
          have z3 : w6.cell? ⟨G, 3, none⟩ = some (.slice none 0 0) := hX6.out.cell 3
          have y3 : w6.frozen? ⟨G, 3, none⟩ = false := hX6.out.free 3
          have z1 : w6.cell? ⟨G, 1, none⟩ = some (.bool false) := hX6.out.cell 1
          have y1 : w6.frozen? ⟨G, 1, none⟩ = false := hX6.out.free 1
          have z4 : w6.cell? ⟨G, 4, none⟩ = some (.slice none 0 0) := hX6.out.cell 4
          have y4 : w6.frozen? ⟨G, 4, none⟩ = false := hX6.out.free 4
          have hP6 : Hid (Box w6 P CS 9) := hP5.out.below hN6.out.below hP5.out.lt
          have d3 : w6.cell? ⟨P, o + 3, none⟩ = some (encStr [100, 111, 110, 101]) := (hP6.out.cell (o + 3)).trans (hA.out 3 (by rw [restT_length]; simp <;> omega))
          have hGP : G ≠ P := by omega
          have hGg : G ≠ g0 := by omega
          have hGw : w.heap.size ≤ G := by have := HG0.out; omega
          go_wp2_with fail
          go_meet
          have hGn : ∀ p, a6 = some p → p.block ≠ G := fun p hp => by have := (hN6.out.new p hp).1; have := hX5.out.lt; omega
          refine ⟨a6, l6, c6, o + 3, 0, 0, ?_, ?_, ?_, ?_, ?_⟩
          · exact ((hX6.out.set 3 (.slice a6 l6 c6)).set 1 (.bool true)).set 4 (.slice (some ⟨P, o + 3, none⟩) (0) (0))
          · exact ⟨row_setG (row_setG (row_setG hN6.out.row G 3 _ hGn) G 1 _ hGn) G 4 _ hGn, fun p hp => ⟨hGn p hp, by have h1 := (hN6.out.new p hp).1; have h2 := hX5.out.lt; omega⟩⟩
          · exact pieceRow (o := o + 3) [] (Box.other (Box.other (Box.other hP6.out ⟨G, 3, none⟩ hGP _) ⟨G, 1, none⟩ hGP _) ⟨G, 4, none⟩ hGP _) trivial (by simp) (fun i hi => absurd hi (by simp))
          · exact Box.other (Box.other (Box.other (h05.out.below hN6.out.below h05.out.lt) ⟨G, 3, none⟩ hGg _) ⟨G, 1, none⟩ hGg _) ⟨G, 4, none⟩ hGg _
          · have hB6 := hB5.out.trans (hN6.out.below.mono hB5.out.size)
            exact below_setG (below_setG (below_setG hB6 G hGw 3 _) G hGw 1 _) G hGw 4 _
      · cases done with
        | false =>
          have hnl : Hid (n = 3 + names.length) := by show _ = _; have := hn.out; simp only [Bool.false_eq_true, if_false] at this; omega
          have hn3' : ¬ n = 3 := by have := hnl.out; have : 0 < names.length := List.length_pos_iff.2 hz; omega
          have hn3i : ¬ (n : Int) = 3 := by omega
          have hn4 : 3 < n := by omega
          have hn6 : 0 < n - 3 := by omega
          have hn7 : (0 : Int) < ((n - 3 : Nat) : Int) := by omega
          obtain ⟨x0, r0, hx0⟩ : ∃ x0 r0, names = x0 :: r0 := by cases names with | nil => exact absurd rfl hz | cons a b => exact ⟨a, b, rfl⟩
          have c3 : V.cell? ⟨P, o + 3, none⟩ = some (encStr x0) := by subst hx0; exact (hXP.out.cell (o + 3)).trans (hA.out 3 (by rw [restT_length]; simp <;> omega))
          have hxd : (x0 == doneN) = false := by have := HH.out rfl; rw [hx0] at this; simpa using this
          have hxd' : (x0 == [100, 111, 110, 101]) = false := hxd
          clear hx0
          go_wp2_with (go_at_call 23; refine hNum.out.mono ?_; rintro e w4 ⟨rfl, hb4⟩; have hX4 : Hid (Box w4 G #[.int .i64 (code : Int), .bool false, .int .i64 0, .slice none 0 0, .slice none 0 0] 28) := hXG.out.below hb4.out hXG.out.lt; have z2 : w4.cell? ⟨G, 2, none⟩ = some (.int .i64 0) := hX4.out.cell 2; have y2 : w4.frozen? ⟨G, 2, none⟩ = false := hX4.out.free 2; have e1 := (hb4.out.cell hPl).trans c1; have e2 := (hb4.out.cell hPl).trans c2; have hP4 : P < w4.heap.size := Nat.lt_of_lt_of_le hPl hb4.out.size)
          have hX5 : Hid (Box (w4.setCell ⟨G, 2, none⟩ (.int .i64 (size : Int))) G #[.int .i64 (code : Int), .bool false, .int .i64 (size : Int), .slice none 0 0, .slice none 0 0] 28) := hX4.out.set 2 _
          obtain ⟨w5, hw5⟩ : ∃ w5, w5 = w4.setCell ⟨G, 2, none⟩ (.int .i64 (size : Int)) := ⟨_, rfl⟩
          have hB5 : Hid (Below w.heap.size w w5) := by rw [hw5]; exact below_setG (hBV.out.trans (hb4.out.mono hBV.out.size)) G (by have := HG0.out; omega) 2 _
          have hP5 : Hid (Box w5 P CS 9) := by rw [hw5]; exact Box.other (hXP.out.below hb4.out hXP.out.lt) ⟨G, 2, none⟩ (by show G ≠ P; omega) _
          have h05 : Hid (Box w5 g0 #[.int .i64 0, .bool false, .int .i64 0, .slice none 0 0, .slice none 0 0] 28) := by rw [hw5]; exact Box.other (hX0.out.below hb4.out hX0.out.lt) ⟨G, 2, none⟩ (by show G ≠ g0; omega) _
          rw [← hw5] at hX5 ⊢
          clear hw5
          refine (hUn.out w5).mono ?_
          rintro e w6 ⟨a6, l6, c6, rfl, hN6⟩
          have hX6 : Hid (Box w6 G #[.int .i64 (code : Int), .bool false, .int .i64 (size : Int), .slice none 0 0, .slice none 0 0] 28) := hX5.out.below hN6.out.below hX5.out.lt
          have z3 : w6.cell? ⟨G, 3, none⟩ = some (.slice none 0 0) := hX6.out.cell 3
          have y3 : w6.frozen? ⟨G, 3, none⟩ = false := hX6.out.free 3
          have z1 : w6.cell? ⟨G, 1, none⟩ = some (.bool false) := hX6.out.cell 1
          have y1 : w6.frozen? ⟨G, 1, none⟩ = false := hX6.out.free 1
          have z4 : w6.cell? ⟨G, 4, none⟩ = some (.slice none 0 0) := hX6.out.cell 4
          have y4 : w6.frozen? ⟨G, 4, none⟩ = false := hX6.out.free 4
          have hP6 : Hid (Box w6 P CS 9) := hP5.out.below hN6.out.below hP5.out.lt
          have d3 : w6.cell? ⟨P, o + 3, none⟩ = some (encStr x0) := ((hP6.out.cell (o + 3)).trans (hXP.out.cell (o + 3)).symm).trans c3
          have hGP : G ≠ P := by omega
          have hGg : G ≠ g0 := by omega
          have hGw : w.heap.size ≤ G := by have := HG0.out; omega
          go_wp2_with fail
          go_meet
          have hGn : ∀ p, a6 = some p → p.block ≠ G := fun p hp => by have := (hN6.out.new p hp).1; have := hX5.out.lt; omega
          refine ⟨a6, l6, c6, o + 3, n - 3, n - 3, ?_, ?_, ?_, ?_, ?_⟩
          · exact ((hX6.out.set 3 (.slice a6 l6 c6)).set 1 (.bool false)).set 4 (.slice (some ⟨P, o + 3, none⟩) (n - 3) (n - 3))
          · exact ⟨row_setG (row_setG (row_setG hN6.out.row G 3 _ hGn) G 1 _ hGn) G 4 _ hGn, fun p hp => ⟨hGn p hp, by have h1 := (hN6.out.new p hp).1; have h2 := hX5.out.lt; omega⟩⟩
          · have hq : n - 3 = names.length := by have := hnl.out; omega
            show SRow _ _ _ _ _ _ _
            rw [hq]
            exact pieceRow (o := o + 3) names (Box.other (Box.other (Box.other hP6.out ⟨G, 3, none⟩ hGP _) ⟨G, 1, none⟩ hGP _) ⟨G, 4, none⟩ hGP _) trivial (by omega) (fun i hi => by
              have := hA.out (i + 3) (by rw [restT_length]; simp <;> omega)
              rw [show o + (i + 3) = o + 3 + i by omega] at this
              exact this)
          · exact Box.other (Box.other (Box.other (h05.out.below hN6.out.below h05.out.lt) ⟨G, 3, none⟩ hGg _) ⟨G, 1, none⟩ hGg _) ⟨G, 4, none⟩ hGg _
          · have hB6 := hB5.out.trans (hN6.out.below.mono hB5.out.size)
            exact below_setG (below_setG (below_setG hB6 G hGw 3 _) G hGw 1 _) G hGw 4 _
        | true =>
          have hnl : Hid (n = 4 + names.length) := by show _ = _; have := hn.out; simp only [if_true] at this; omega
          have hn3' : ¬ n = 3 := by have := hnl.out; have : 0 < names.length := List.length_pos_iff.2 hz; omega
          have hn3i : ¬ (n : Int) = 3 := by omega
          have hn4 : 3 < n := by omega
          have hn5 : ¬ n - 3 = 1 := by have := hnl.out; have : 0 < names.length := List.length_pos_iff.2 hz; omega
          have hn6 : 1 < n - 3 := by omega
          have hn7 : (1 : Int) < ((n - 3 : Nat) : Int) := by omega
          have hn8 : ¬ ((n - 3 : Nat) : Int) = 1 := by omega
          have c3 : V.cell? ⟨P, o + 3, none⟩ = some (encStr doneN) := (hXP.out.cell (o + 3)).trans (hA.out 3 (by rw [restT_length]; simp <;> omega))
          unfold doneN at c3
          go_wp2_with (go_at_call 23; refine hNum.out.mono ?_; rintro e w4 ⟨rfl, hb4⟩; have hX4 : Hid (Box w4 G #[.int .i64 (code : Int), .bool false, .int .i64 0, .slice none 0 0, .slice none 0 0] 28) := hXG.out.below hb4.out hXG.out.lt; have z2 : w4.cell? ⟨G, 2, none⟩ = some (.int .i64 0) := hX4.out.cell 2; have y2 : w4.frozen? ⟨G, 2, none⟩ = false := hX4.out.free 2; have e1 := (hb4.out.cell hPl).trans c1; have e2 := (hb4.out.cell hPl).trans c2; have hP4 : P < w4.heap.size := Nat.lt_of_lt_of_le hPl hb4.out.size)
          have hX5 : Hid (Box (w4.setCell ⟨G, 2, none⟩ (.int .i64 (size : Int))) G #[.int .i64 (code : Int), .bool false, .int .i64 (size : Int), .slice none 0 0, .slice none 0 0] 28) := hX4.out.set 2 _
          obtain ⟨w5, hw5⟩ : ∃ w5, w5 = w4.setCell ⟨G, 2, none⟩ (.int .i64 (size : Int)) := ⟨_, rfl⟩
          have hB5 : Hid (Below w.heap.size w w5) := by rw [hw5]; exact below_setG (hBV.out.trans (hb4.out.mono hBV.out.size)) G (by have := HG0.out; omega) 2 _
          have hP5 : Hid (Box w5 P CS 9) := by rw [hw5]; exact Box.other (hXP.out.below hb4.out hXP.out.lt) ⟨G, 2, none⟩ (by show G ≠ P; omega) _
          have h05 : Hid (Box w5 g0 #[.int .i64 0, .bool false, .int .i64 0, .slice none 0 0, .slice none 0 0] 28) := by rw [hw5]; exact Box.other (hX0.out.below hb4.out hX0.out.lt) ⟨G, 2, none⟩ (by show G ≠ g0; omega) _
          rw [← hw5] at hX5 ⊢
          clear hw5
          refine (hUn.out w5).mono ?_
          rintro e w6 ⟨a6, l6, c6, rfl, hN6⟩
          have hX6 : Hid (Box w6 G #[.int .i64 (code : Int), .bool false, .int .i64 (size : Int), .slice none 0 0, .slice none 0 0] 28) := hX5.out.below hN6.out.below hX5.out.lt
          have z3 : w6.cell? ⟨G, 3, none⟩ = some (.slice none 0 0) := hX6.out.cell 3
          have y3 : w6.frozen? ⟨G, 3, none⟩ = false := hX6.out.free 3
          have z1 : w6.cell? ⟨G, 1, none⟩ = some (.bool false) := hX6.out.cell 1
          have y1 : w6.frozen? ⟨G, 1, none⟩ = false := hX6.out.free 1
          have z4 : w6.cell? ⟨G, 4, none⟩ = some (.slice none 0 0) := hX6.out.cell 4
          have y4 : w6.frozen? ⟨G, 4, none⟩ = false := hX6.out.free 4
          have hP6 : Hid (Box w6 P CS 9) := hP5.out.below hN6.out.below hP5.out.lt
          have d3 : w6.cell? ⟨P, o + 3, none⟩ = some (encStr [100, 111, 110, 101]) := (hP6.out.cell (o + 3)).trans (hA.out 3 (by rw [restT_length]; simp <;> omega))
          have hGP : G ≠ P := by omega
          have hGg : G ≠ g0 := by omega
          have hGw : w.heap.size ≤ G := by have := HG0.out; omega
          go_wp2_with fail
          go_meet
          have hGn : ∀ p, a6 = some p → p.block ≠ G := fun p hp => by have := (hN6.out.new p hp).1; have := hX5.out.lt; omega
          refine ⟨a6, l6, c6, o + 3 + 1, n - 3 - 1, n - 3 - 1, ?_, ?_, ?_, ?_, ?_⟩
          · exact ((hX6.out.set 3 (.slice a6 l6 c6)).set 1 (.bool true)).set 4 (.slice (some ⟨P, o + 3 + 1, none⟩) (n - 3 - 1) (n - 3 - 1))
          · exact ⟨row_setG (row_setG (row_setG hN6.out.row G 3 _ hGn) G 1 _ hGn) G 4 _ hGn, fun p hp => ⟨hGn p hp, by have h1 := (hN6.out.new p hp).1; have h2 := hX5.out.lt; omega⟩⟩
          · have hq : n - 3 - 1 = names.length := by have := hnl.out; omega
            show SRow _ _ _ _ _ _ _
            rw [hq]
            exact pieceRow (o := o + 3 + 1) names (Box.other (Box.other (Box.other hP6.out ⟨G, 3, none⟩ hGP _) ⟨G, 1, none⟩ hGP _) ⟨G, 4, none⟩ hGP _) trivial (by omega) (fun i hi => by
              have := hA.out (i + 4) (by rw [restT_length]; simp <;> omega)
              rw [show o + (i + 4) = o + 3 + 1 + i by omega] at this
              exact this)
          · exact Box.other (Box.other (Box.other (h05.out.below hN6.out.below h05.out.lt) ⟨G, 3, none⟩ hGg _) ⟨G, 1, none⟩ hGg _) ⟨G, 4, none⟩ hGg _
          · have hB6 := hB5.out.trans (hN6.out.below.mono hB5.out.size)
            exact below_setG (below_setG (below_setG hB6 G hGw 3 _) G hGw 1 _) G hGw 4 _
    case rest =>
      obtain ⟨ad, ld, cd, oa, ln, cn, hBG, hRD, hRN, hB0, hBw⟩ := hcut
      refine hKK2 _ _ ?_
      clear hKK2 hXG hXP hX0 hBV hA c1 c2 hNum hUn hn
      obtain ⟨U, hUe⟩ : ∃ U, U = wc := ⟨_, rfl⟩
      rw [← hUe] at hBG hRD hRN hB0 hBw ⊢
      clear hUe
      have hld : Hid (data.length = ld) := hRD.out.1.hlen
      have hlnl : Hid (names.length = ln) := hRN.out.1
      have hldb : ld ≤ 2000000 := by have := hld.out; omega
      have hlnb : ln ≤ 1000 := by have := hlnl.out; omega
      have hx100 : ∀ x ∈ names, x.length ≤ 100 := fun x hx => (HN.out x hx).1
      cases ho : names.any oddP with
      | true =>
        have hT := Lib.hid (tellOdd ⟨code, done, size, data, names⟩ (fun _ => True) ad ld cd _ ln cn U hRN.out hx100 ho)
        have HO := Lib.hid ho
        unfold tlV at hT hBG
        simp only at hT hBG
        clear ho
        go_wp2_with (first
          | (refine wpList_load_box rfl 28 (.tmp 5) rfl G rfl 28 _ hBG.out _ Tryd.underlying28 rfl (by kernel_rfl) ?_)
          | (go_at_call 8; refine hT.out.mono ?_; rintro e w9 ⟨rfl, hb9⟩; have HB9 : Hid (Box w9 g0 #[.int .i64 0, .bool false, .int .i64 0, .slice none 0 0, .slice none 0 0] 28) := hB0.out.below hb9.out hB0.out.lt)
          | (refine wpList_store_box rfl 28 (.tmp 2) (.tmp 81) rfl g0 _ rfl rfl 28 _ HB9.out (by kernel_rfl) rfl (by rfl) ?_; intro w10 hb10 hg10; have HB10 := Lib.hid hb10; have HG10 := Lib.hid hg10; clear hb10 hg10)
          | fail)
        refine bodyPost_ret (results_box_tmp Tryd.results9 _ _ g0 _ _ HB10.out _ rfl Tryd.underlying28 rfl (by kernel_rfl)) rfl ?_
        exact heard_odd HO.out ((hBw.out.trans (hb9.out.mono hBw.out.size)).grown HG10.out (Nat.le_trans hBw.out.size hb9.out.size) (fun k hk => by injection hk with hk; have := HG0.out; omega))
      | false =>
        have hT0 := tellGood ⟨code, done, size, data, names⟩ (fun _ => True) ad ld cd _ ln cn U hRD.out.1 hRN.out (HE.out.below hBw.out) hx100 hc hs hldb hlnb ho
        rw [hs0.out] at hT0
        have hT := Lib.hid hT0
        have HO := Lib.hid ho
        unfold tlV at hT hBG
        simp only at hT hBG
        clear ho hT0
        go_upto_region 17 with (first
          | (refine wpList_load_box rfl 28 (.tmp 5) rfl G rfl 28 _ hBG.out _ Tryd.underlying28 rfl (by kernel_rfl) ?_)
          | (go_at_call 8; refine hT.out.mono ?_; rintro e w9 ⟨rfl, hb9⟩)
          | fail)
        have hG9 : Hid (Box w9 G #[.int .i64 (code : Int), .bool done, .int .i64 (size : Int), .slice ad ld cd, .slice (some ⟨P, oa, none⟩) ln cn] 28) := hBG.out.below hb9.out hBG.out.lt
        have hR9 : Hid (SRow strL w9 (fun _ => True) (some ⟨P, oa, none⟩) ln cn names) := hRN.out.below hb9.out
        have hB9 : Hid (Below w.heap.size w w9) := hBw.out.trans (hb9.out.mono hBw.out.size)
        have h09 : Hid (Box w9 g0 #[.int .i64 0, .bool false, .int .i64 0, .slice none 0 0, .slice none 0 0] 28) := hB0.out.below hb9.out hB0.out.lt
        have hD9 : Hid (Row .u8 w9 ad ld cd data ∧ ∀ p, ad = some p → p.block ≠ G ∧ p.block ≠ g0) := ⟨hRD.out.1.below hb9.out, hRD.out.2⟩
        have n4 : w9.cell? ⟨G, 4, none⟩ = some (.slice (some ⟨P, oa, none⟩) ln cn) := hG9.out.cell 4
        have HCl := Lib.hid (cloneNames (fun _ => True) P oa ln cn names w9 hR9.out (by omega))
        clear hb9 hBG hRN hBw hB0 hRD
        go_wp2_with (first
          | (go_at_call 25; refine HCl.out.mono ?_; rintro e w10 ⟨ac, cc, rfl, hRc, hbc⟩; have hG10 : Hid (Box w10 G #[.int .i64 (code : Int), .bool done, .int .i64 (size : Int), .slice ad ld cd, .slice (some ⟨P, oa, none⟩) ln cn] 28) := hG9.out.below hbc.out hG9.out.lt; have n10 : w10.cell? ⟨G, 4, none⟩ = some (.slice (some ⟨P, oa, none⟩) ln cn) := hG10.out.cell 4; have m10 : w10.frozen? ⟨G, 4, none⟩ = false := hG10.out.free 4; have hGs : Hid (Box (w10.setCell ⟨G, 4, none⟩ (.slice ac ln cc)) G #[.int .i64 (code : Int), .bool done, .int .i64 (size : Int), .slice ad ld cd, .slice ac ln cc] 28) := hG10.out.set 4 (.slice ac ln cc); have h0s : Hid (Box (w10.setCell ⟨G, 4, none⟩ (.slice ac ln cc)) g0 #[.int .i64 0, .bool false, .int .i64 0, .slice none 0 0, .slice none 0 0] 28) := Box.other (h09.out.below hbc.out h09.out.lt) ⟨G, 4, none⟩ (by show G ≠ g0; omega) _)
          | (refine wpList_load_box rfl 28 (.tmp 5) rfl G rfl 28 _ hGs.out _ Tryd.underlying28 rfl (by kernel_rfl) ?_)
          | (refine wpList_store_box rfl 28 (.tmp 2) (.tmp 86) rfl g0 _ rfl rfl 28 _ h0s.out (by kernel_rfl) rfl (by rfl) ?_; intro w11 hb11 hg11; have HB11 := Lib.hid hb11; have HG11 := Lib.hid hg11; clear hb11 hg11)
          | fail)
        refine bodyPost_ret (results_box_tmp Tryd.results9 _ _ g0 _ _ HB11.out _ rfl Tryd.underlying28 rfl (by kernel_rfl)) rfl ?_
        have hGw : w.heap.size ≤ G := by have := HG0.out; omega
        have hs9 : G < w9.heap.size := hG9.out.lt
        have hBs : Below w.heap.size w (w10.setCell ⟨G, 4, none⟩ (.slice ac ln cc)) := below_setG (hB9.out.trans (hbc.out.mono hB9.out.size)) G hGw 4 _
        have hBf : Below w.heap.size w w11 := hBs.grown HG11.out hBs.size (fun k hk => by injection hk with hk; have := HG0.out; omega)
        have blk : ∀ b, b ≠ G → b ≠ g0 → b < w10.heap.size → w11.heap[b]? = w10.heap[b]? := fun b h1 h2 h3 => (HG11.out.block b (by simp [World.setCell]; exact h3) (fun e => h2 (by injection e))).trans (Below.heap_setCell _ _ _ _ h1)
        have hDf : Row .u8 w11 ad ld cd data := VRow.toRow (((hD9.out.1.below hbc.out).toV).keep (fun b o e _ hlt => blk b (hD9.out.2 _ e).1 (hD9.out.2 _ e).2 hlt)) hD9.out.1.hwf
        have hNf : SRow strL w11 (fun _ => True) ac ln cc names := hRc.out.keep (fun _ _ => trivial) (fun b hb hlt => blk b (by omega) (by omega) hlt)
        exact heard_good HO.out hBf hDf hNf
end Go.Proofs.YtdonmdiebibabaaDoor
