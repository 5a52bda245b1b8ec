/- The walk of Tell. -/
import Derived.Test.YtdonmdiebibabaaDoorLnC
import Derived.Test.YtdonmdiebibabaaDoorBoxOps
import Derived.OrdersHeld
import Derived.Deep.DeepCutAuto
namespace Go.Proofs.YtdonmdiebibabaaDoor
open Go.RowKit Go.Sort
set_option linter.unusedVariables false
set_option maxRecDepth 100000
set_option linter.unusedSimpArgs false

structure Tl where
  code : Nat
  done : Bool
  size : Nat
  data : List Int
  names : List Nm
def okN : Nm := [111, 107]
def noN : Nm := [110, 111]
def headT (code : Nat) : List Nm := if code = 0 then [okN] else [noN, Lib.itoa code]
def partsT (t : Tl) : List Nm := headT t.code ++ [Lib.itoa t.size, hexP t.data] ++ (if t.done then [doneN] else []) ++ t.names
def tellS (t : Tl) : Nm := if t.names.any oddP then [] else joinP (partsT t)
def tellC (t : Tl) : Nat := if t.names.any oddP then 4 else 0
def tlV (t : Tl) (ad : Option Addr) (ld cd : Nat) (an : Option Addr) (ln cn : Nat) : Array Value := #[.int .i64 (t.code : Int), .bool t.done, .int .i64 (t.size : Int), .slice ad ld cd, .slice an ln cn]
/-- Texts of a literal, in a new block, as a row of the call's own. -/
theorem litOwn {w : World} {F : Nat → Prop} {g : Nat} (xs : List Nm) (h : Box w g (xs.map encStr).toArray 9) (hl : xs.length ≤ 1000) : SOwn strL w g 9 F (some ⟨g, 0, none⟩) xs.length xs.length xs := by
  refine ⟨rfl, xs.map fun s => [encStr s], fun _ => False, ⟨?_, .inr ⟨g, xs.length, (xs.map encStr).toArray, rfl, Nat.le_refl _, h, Nat.le_refl _, by unfold maxLen; omega, ?_, ?_⟩⟩, ⟨by simp, fun i x vs hx hv => ?_⟩, fun b hb => hb.elim⟩
  · rw [flatten_length 1 _ (fun y hy => by obtain ⟨s, _, rfl⟩ := List.mem_map.1 hy; rfl)]; show _ = xs.length * 1; simp
  · show (xs.map encStr).toArray.size = xs.length * 1; simp
  · have e : (xs.map fun s => [encStr s]).flatten = xs.map encStr := by
      clear h hl
      induction xs with
      | nil => rfl
      | cons x xs ih => simp only [List.map_cons, List.flatten_cons, ih]; rfl
    rw [e]; show (xs.map encStr).take (xs.length * 1) = _
    exact List.take_of_length_le (by simp)
  · rw [List.getElem?_map, hx] at hv
    obtain rfl : [encStr x] = vs := by simpa using hv
    rfl
theorem bytesBack : ∀ xs : List Nm, (xs.map fun s => (⟨s.toArray⟩ : ByteArray)).map (·.data.toList) = xs
  | [] => rfl
  | x :: xs => congrArg (x :: ·) (bytesBack xs)
theorem lens_le (n : Nat) : ∀ xs : List Nm, (∀ x ∈ xs, x.length ≤ n) → Lib.lens xs ≤ xs.length * n
  | [], _ => by simp [Lib.lens]
  | x :: xs, h => by
    have h1 := h x (List.mem_cons_self ..)
    have h2 := lens_le n xs (fun y hy => h y (List.mem_cons_of_mem _ hy))
    have e : Lib.lens (x :: xs) = x.length + Lib.lens xs := by simp [Lib.lens]
    rw [e, List.length_cons, Nat.add_mul]; omega
theorem joinW (F : Nat → Prop) (a : Option Addr) (len cap : Nat) (xs : List Nm) (w : World) (h : SRow strL w F a len cap xs) (h0 : 0 < len) (hl : len ≤ 2000) (hx : ∀ x ∈ xs, x.length ≤ 5000000) :
    Calls Tryd.prog 21 #[.slice a len cap, .string ⟨#[32]⟩] w fun e w' => e = .returned (encStr (joinP xs)) ∧ Hid (Below w.heap.size w w') := by
  have hlen : xs.length = len := h.1
  obtain ⟨b, off, _, rfl, _, hb, _, _⟩ := h.get 0 h0
  have hc := h.hle
  have := strings_Join b off cap (xs.map fun s => (⟨s.toArray⟩ : ByteArray)) ⟨#[32]⟩ w (fun j x hj => by
    rw [List.getElem?_map] at hj
    cases hq : xs[j]? with
    | none => rw [hq] at hj; cases hj
    | some y =>
      rw [hq] at hj
      obtain rfl := Option.some.inj hj
      obtain ⟨b2, o2, y2, e, hy2, hcell⟩ := nmAt h j (by have := (List.getElem?_eq_some_iff.1 hq).1; omega)
      obtain ⟨rfl, rfl⟩ : b = b2 ∧ off = o2 := by simpa using e
      rw [hq] at hy2
      obtain rfl := Option.some.inj hy2
      exact hcell) hb (by simp; omega) (by simp; omega) (by
    have e := bytesBack xs
    rw [e]
    cases hxs : xs with
    | nil => rw [hxs] at hlen; simp at hlen; omega
    | cons y r =>
      rw [Lib.join_length]
      have h2 := lens_le 5000000 (y :: r) (by rw [← hxs]; exact hx)
      have h3 : (y :: r).length ≤ 2000 := by rw [← hxs]; omega
      have h4 : (y :: r).length * 5000000 ≤ 2000 * 5000000 := Nat.mul_le_mul_right _ h3
      show [(32 : UInt8)].length * r.length + _ ≤ _
      simp only [List.length_cons, List.length_nil] at h2 h3 h4 ⊢
      omega)
  rw [show (xs.map fun s => (⟨s.toArray⟩ : ByteArray)).length = len by simp [hlen]] at this
  refine this.mono ?_
  rintro e w' ⟨rfl, hb'⟩
  refine ⟨?_, hb'⟩
  have e := bytesBack xs
  rw [e]; rfl
theorem litRow {w : World} {F : Nat → Prop} {g : Nat} (xs : List Nm) (h : Box w g (xs.map encStr).toArray 9) (hl : xs.length ≤ 1000) : VRow w strL.size (some ⟨g, 0, none⟩) xs.length xs.length (xs.map fun s => [encStr s]).flatten ∧ Pt strL w F xs (xs.map fun s => [encStr s]) := by
  obtain ⟨_, vss, F2, ho, hp, _⟩ := litOwn (F := F) xs h hl
  have hp' : Pt strL w F xs (xs.map fun s => [encStr s]) := ⟨by simp, fun i x vs hx hv => by
    rw [List.getElem?_map, hx] at hv
    obtain rfl : [encStr x] = vs := by simpa using hv
    rfl⟩
  refine ⟨?_, hp'⟩
  have e : vss = xs.map fun s => [encStr s] := by
    apply List.ext_getElem?
    intro i
    by_cases hi : i < xs.length
    · have hi' : i < vss.length := by rw [← hp.1]; exact hi
      have := hp.2 i _ _ (List.getElem?_eq_getElem hi) (List.getElem?_eq_getElem hi')
      rw [List.getElem?_eq_getElem hi', show vss[i] = [encStr xs[i]] from this, List.getElem?_map, List.getElem?_eq_getElem hi]; rfl
    · rw [List.getElem?_eq_none (by have := hp.1; omega), List.getElem?_eq_none (by rw [List.length_map]; omega)]
  rw [← e]; exact ho.row
theorem info_strD : (Tryd.prog.info? 9).map (fun i => (i.zero, i.size, i.bytes)) = some (some (.string ⟨#[]⟩), 1, 16) := by kernel_rfl
theorem itoaW (n : Int) (h0 : -9223372036854775808 ≤ n) (h1 : n ≤ 9223372036854775807) (W : World) (hE : Env W) : Calls Tryd.prog 19 #[.int .i64 n] W fun e w' => e = .returned (encStr (Lib.itoa n)) ∧ Hid (Below W.heap.size W w') :=
  (strconv_Itoa n h0 h1 W hE.tab).mono fun e w' ⟨h, k, os, hw⟩ => ⟨h, by subst hw; exact below_growN W k os⟩
set_option maxHeartbeats 8000000 in
theorem tellOdd (t : Tl) (F : Nat → Prop) (ad : Option Addr) (ld cd : Nat) (an : Option Addr) (ln cn : Nat) (w : World) (hn : SRow strL w F an ln cn t.names) (hx : ∀ x ∈ t.names, x.length ≤ 100) (ho : t.names.any oddP = true) :
    Calls Tryd.prog 8 #[.agg (tlV t ad ld cd an ln cn)] w fun e w' => e = .returned (.tuple #[encStr [], .int .i64 4]) ∧ Hid (Below w.heap.size w w') := by
  have hB : Hid (Below w.heap.size w (w.alloc (.cells (tlV t ad ld cd an ln cn) 28))) := Below_alloc1 _
  have hC := containsOdd F an ln cn t.names _ (hn.below hB.out) hx
  rw [ho] at hC
  have HC := Lib.hid hC
  obtain ⟨code, done, size, data, names⟩ := t
  unfold tlV at HC hB ⊢
  simp only at HC hB ⊢
  have q1 : ¬ ((code : Int) < 0) := by omega
  have q2 : ¬ ((size : Int) < 0) := by omega
  clear hC hn hx ho
  go_enter Tryd.func8, Tryd.ntmps8
  go_wp2_with (go_at_call 18; refine HC.out.mono ?_; rintro e w2 ⟨rfl, hb2⟩)
  exact bodyPost_ret (results_tmp2 Tryd.results8 _ _ _) rfl ⟨rfl, hB.out.trans (hb2.out.mono hB.out.size)⟩
set_option maxHeartbeats 8000000 in
theorem tellGood (t : Tl) (F : Nat → Prop) (ad : Option Addr) (ld cd : Nat) (an : Option Addr) (ln cn : Nat) (w : World) (hd : Row .u8 w ad ld cd t.data) (hn : SRow strL w F an ln cn t.names) (hE : Env w) (hx : ∀ x ∈ t.names, x.length ≤ 100) (hc : t.code ≤ 1000) (hs : t.size ≤ 4611686018427387904) (hl : ld ≤ 2000000) (hln : ln ≤ 1000) (ho : t.names.any oddP = false) :
    Calls Tryd.prog 8 #[.agg (tlV t ad ld cd an ln cn)] w fun e w' => e = .returned (.tuple #[encStr (joinP (partsT t)), .int .i64 0]) ∧ Hid (Below w.heap.size w w') := by
  have hB : Hid (Below w.heap.size w (w.alloc (.cells (tlV t ad ld cd an ln cn) 28))) := Below_alloc1 _
  have hBX : Hid (Box (w.alloc (.cells (tlV t ad ld cd an ln cn) 28)) w.heap.size (tlV t ad ld cd an ln cn) 28) := Box.new rfl
  have hC := containsOdd F an ln cn t.names _ (hn.below hB.out) hx
  rw [ho] at hC
  have HC := Lib.hid hC
  have HD := Lib.hid hd
  have HN := Lib.hid hn
  have HE := Lib.hid hE
  have HX := Lib.hid hx
  have hnle := hn.hle
  have hnmx := hn.hmax
  unfold maxLen at hnmx
  have HLN : Hid (t.names.length = ln) := hn.1
  have HLD : Hid (t.data.length = ld) := hd.hlen
  obtain ⟨code, done, size, data, names⟩ := t
  unfold tlV at HC hB hBX ⊢
  simp only at HC hB hBX hc hs HD HN HX HLN HLD ⊢
  have q1 : ¬ ((code : Int) < 0) := by omega
  have q2 : ¬ ((size : Int) < 0) := by omega
  clear hC hd hn hx ho hE
  go_enter Tryd.func8, Tryd.ntmps8
  go_upto_region 4 with (go_at_call 18; refine HC.out.mono ?_; rintro e w2 ⟨rfl, hb2⟩)
  have hBX2 : Hid (Box w2 w.heap.size #[.int .i64 (code : Int), .bool done, .int .i64 (size : Int), .slice ad ld cd, .slice an ln cn] 28) := hBX.out.below hb2.out hBX.out.lt
  have hB2 : Hid (Below w.heap.size w w2) := hB.out.trans (hb2.out.mono hB.out.size)
  clear HC hB hBX hb2
  obtain ⟨X, hX⟩ : ∃ X, X = w2.alloc (.cells #[encStr okN] 9) := ⟨_, rfl⟩
  have hOX : Hid (SOwn strL X w2.heap.size 9 (fun _ => True) (some ⟨w2.heap.size, 0, none⟩) 1 1 [okN]) := litOwn [okN] (by rw [hX]; exact Box.new rfl) (by decide)
  have hBX' : Hid (Below w2.heap.size w2 X) := by rw [hX]; exact Below_alloc1 _
  unfold okN at hX
  go_cut [5] from 20 to 20 (fun v5 wx => v5 = .slice (some ⟨w2.heap.size, 0, none⟩) 1 1 ∧ wx = X)
  case first =>
    go_wp2_with fail
    rw [← hX]
    go_meet
    exact ⟨rfl, rfl⟩
  case rest =>
    obtain ⟨rfl, rfl⟩ := hcut
    refine ‹∀ (a : Act) (w : World), Code.wp _ _ _ a w → _› _ _ ?_
    refine wp_seq_k ?_
    intro KK hKK
    have HBXx : Hid (Box wc w.heap.size #[.int .i64 (code : Int), .bool done, .int .i64 (size : Int), .slice ad ld cd, .slice an ln cn] 28) := hBX2.out.below hBX'.out hBX2.out.lt
    have HBwx : Hid (Below w.heap.size w wc) := hB2.out.trans (hBX'.out.mono hB2.out.size)
    have hwx : w2.heap.size ≤ wc.heap.size := hBX'.out.size
    clear hX
    go_cut [5] from 21 to 27 (fun v5 wx => ∃ (g l : Nat), v5 = .slice (some ⟨g, 0, none⟩) l l ∧ l ≤ 2 ∧ 1 ≤ l ∧ Hid (SOwn strL wx g 9 (fun _ => True) (some ⟨g, 0, none⟩) l l (headT code)) ∧ Hid (Below w.heap.size w wx) ∧ Hid (w.heap.size < g ∧ g < wx.heap.size) ∧ Hid (Box wx w.heap.size #[.int .i64 (code : Int), .bool done, .int .i64 (size : Int), .slice ad ld cd, .slice an ln cn] 28))
    case first =>
      have c0 : wc.cell? ⟨w.heap.size, 0, none⟩ = some (.int .i64 (code : Int)) := HBXx.out.cell 0
      by_cases hc0 : code = 0
      · have hq : ((code : Int) == 0) = true := by simp; omega
        have hH : Hid (headT code = [okN]) := by show _ = _; unfold headT; rw [if_pos hc0]
        have hlt : Hid (w2.heap.size < wc.heap.size) := by
          have := World.ownsRow.lt hOX.out.2.choose_spec.choose_spec.1 w2.heap.size rfl
          exact this.2
        clear hc0
        go_wp2_with fail
        go_meet
        exact ⟨w2.heap.size, 1, rfl, by omega, by omega, by show SOwn _ _ _ _ _ _ _ _ _; rw [hH.out]; exact hOX.out, HBwx, ⟨hBX2.out.lt, hlt.out⟩, HBXx⟩
      · have hq : ((code : Int) == 0) = false := by simp; omega
        have hH : Hid (headT code = [noN, Lib.itoa code]) := by show _ = _; unfold headT; rw [if_neg hc0]
        have HI := Lib.hid (itoaW (code : Int) (by omega) (by omega) wc (HE.out.below HBwx.out))
        clear hc0
        go_wp2_with (go_at_call 19; refine HI.out.mono ?_; rintro e w4 ⟨rfl, hb4⟩)
        go_meet
        have hB4 : Below w.heap.size w w4 := HBwx.out.trans (hb4.out.mono HBwx.out.size)
        refine ⟨w4.heap.size, 2, rfl, by omega, by omega, ?_, hB4.alloc hB4.size _, ⟨Nat.lt_of_lt_of_le HBXx.out.lt hb4.out.size, by simp⟩, Box.alloc (HBXx.out.below hb4.out HBXx.out.lt) _⟩
        show SOwn _ _ _ _ _ _ _ _ _
        rw [hH.out]
        exact litOwn [noN, Lib.itoa code] (Box.new rfl) (by simp)
    case rest =>
      obtain ⟨g, l, rfl, hl2, hl1, hO, HBw0, hg0, HBX0⟩ := hcut
      refine hKK _ _ ?_
      clear HBXx HBwx hOX hBX' hB2 hBX2 hwx hKK
      obtain ⟨wr, hwr⟩ : ∃ wr, wr = wc := ⟨_, rfl⟩
      rw [← hwr] at hO HBw0 hg0 HBX0 ⊢
      clear hwr
      have HEr : Hid (Env wr) := HE.out.below HBw0.out
      have HDr : Hid (Row .u8 wr ad ld cd data) := HD.out.below HBw0.out
      have HNr : Hid (SRow strL wr F an ln cn names) := HN.out.below HBw0.out
      go_upto_region 7 with fail
      go_cut [5] from 28 to 36 (fun v5 wx => ∃ (a5 : Option Addr) (c5 : Nat), v5 = .slice a5 (l + 2) c5 ∧ Hid (SOwn strL wx g 9 (fun _ => True) a5 (l + 2) c5 (headT code ++ [Lib.itoa size, hexP data])) ∧ Hid (Below w.heap.size w wx) ∧ Hid (Box wx w.heap.size #[.int .i64 (code : Int), .bool done, .int .i64 (size : Int), .slice ad ld cd, .slice an ln cn] 28) ∧ Hid (g ≤ wx.heap.size))
      case first =>
        have hL0 : Below wr.heap.size wr wr.drew := (Below.refl _ _).drew
        refine wp_region_held_drew (S := fun w' => Box w' w.heap.size #[.int .i64 (code : Int), .bool done, .int .i64 (size : Int), .slice ad ld cd, .slice an ln cn] 28) (by kernel_rfl) (HBX0.out.below hL0 HBX0.out.lt) (fun hHeld => ?_)
        refine wpAnyH_take (i := 0) (v := .slice (some ⟨g, 0, none⟩) l l) rfl (by kernel_rfl) (by kernel_rfl) (by kernel_rfl) (fun _ _ _ h => h) (Or.inl ⟨by rfl, ?_⟩) (by assumption) ?_
        · intro w' hS
          go_simp
          done
        try simp only [Act.put, List.getElem_toArray, List.getElem_cons_zero, List.getElem_cons_succ, List.setIfInBounds_toArray, List.set_cons_zero, List.set_cons_succ]
        refine wpAnyH_take (i := 1) (v := .pointer (some ⟨w.heap.size, 2, none⟩)) rfl (by kernel_rfl) (by kernel_rfl) (by kernel_rfl) (fun _ _ _ h => h) (Or.inl ⟨by rfl, ?_⟩) (by assumption) ?_
        · intro w' hS
          go_simp
          done
        try simp only [Act.put, List.getElem_toArray, List.getElem_cons_zero, List.getElem_cons_succ, List.setIfInBounds_toArray, List.set_cons_zero, List.set_cons_succ]
        refine wpAnyH_take (i := 2) (v := .int .i64 (size : Int)) rfl (by kernel_rfl) (by kernel_rfl) (by kernel_rfl) (fun _ _ _ h => h) (Or.inl ⟨by rfl, ?_⟩) (by assumption) ?_
        · intro w' hS
          have q0 : w'.cell? ⟨w.heap.size, 2, none⟩ = some (.int .i64 (size : Int)) := Box.cell hS 2
          go_simp
          done
        try simp only [Act.put, List.getElem_toArray, List.getElem_cons_zero, List.getElem_cons_succ, List.setIfInBounds_toArray, List.set_cons_zero, List.set_cons_succ]
        refine wpAnyH_take (i := 4) (v := .pointer (some ⟨w.heap.size, 3, none⟩)) rfl (by kernel_rfl) (by kernel_rfl) (by kernel_rfl) (fun _ _ _ h => h) (Or.inl ⟨by rfl, ?_⟩) (by assumption) ?_
        · intro w' hS
          go_simp
          done
        try simp only [Act.put, List.getElem_toArray, List.getElem_cons_zero, List.getElem_cons_succ, List.setIfInBounds_toArray, List.set_cons_zero, List.set_cons_succ]
        refine wpAnyH_take (i := 5) (v := .slice ad ld cd) rfl (by kernel_rfl) (by kernel_rfl) (by kernel_rfl) (fun _ _ _ h => h) (Or.inl ⟨by rfl, ?_⟩) (by assumption) ?_
        · intro w' hS
          have q0 : w'.cell? ⟨w.heap.size, 3, none⟩ = some (.slice ad ld cd) := Box.cell hS 3
          go_simp
          done
        try simp only [Act.put, List.getElem_toArray, List.getElem_cons_zero, List.getElem_cons_succ, List.setIfInBounds_toArray, List.set_cons_zero, List.set_cons_succ]
        refine wpAnyH_ready (rs := [3]) (by kernel_rfl) (by simp) ?_
        refine AllReadyH.cons rfl (fun K hK => ?_) AllReadyH.nil
        go_simp
        refine (itoaW (size : Int) (by omega) (by omega) _ (HEr.out.below hL0)).mono ?_
        rintro e w3 ⟨rfl, hb3⟩
        go_wp2_with fail
        have hL3 : Below wr.heap.size wr w3 := hL0.trans hb3.out
        refine hK.out _ _ (HBX0.out.below hL3 HBX0.out.lt) (fun hHeld3 => ?_)
        clear hK K
        try simp only [Act.put, List.getElem_toArray, List.getElem_cons_zero, List.getElem_cons_succ, List.setIfInBounds_toArray, List.set_cons_zero, List.set_cons_succ]
        refine wpAnyH_ready (rs := [6]) (by kernel_rfl) (by simp) ?_
        refine AllReadyH.cons rfl (fun K hK => ?_) AllReadyH.nil
        go_simp
        refine (hexW ad ld cd data _ (HDr.out.below hL3) (by omega)).mono ?_
        rintro e w4 ⟨rfl, hb4⟩
        go_wp2_with fail
        have hL4 : Below wr.heap.size wr w4 := hL3.trans (hb4.out.mono hL3.size)
        refine hK.out _ _ (HBX0.out.below hL4 HBX0.out.lt) (fun hHeld4 => ?_)
        clear hK K
        try simp only [Act.put, List.getElem_toArray, List.getElem_cons_zero, List.getElem_cons_succ, List.setIfInBounds_toArray, List.set_cons_zero, List.set_cons_succ]
        refine wpAnyH_ready (rs := [7]) (by kernel_rfl) (by simp) ?_
        refine AllReadyH.cons rfl (fun K hK => ?_) AllReadyH.nil
        go_simp
        have hL5 : Below wr.heap.size wr (w4.alloc (.cells #[encStr (Lib.itoa size), encStr (hexP data)] 9)) := hL4.alloc hL4.size _
        refine hK.out _ _ (HBX0.out.below hL5 HBX0.out.lt) (fun hHeld5 => ?_)
        clear hK K
        try simp only [Act.put, List.getElem_toArray, List.getElem_cons_zero, List.getElem_cons_succ, List.setIfInBounds_toArray, List.set_cons_zero, List.set_cons_succ]
        have hLit := litRow (F := fun _ => False) (w := w4.alloc (.cells #[encStr (Lib.itoa size), encStr (hexP data)] 9)) [Lib.itoa size, hexP data] (Box.new rfl) (by simp)
        have hO5 : SOwn strL (w4.alloc (.cells #[encStr (Lib.itoa size), encStr (hexP data)] 9)) g 9 (fun _ => True) (some ⟨g, 0, none⟩) l l (headT code) := hO.out.below hL5
        have hg5 : g ≤ (w4.alloc (.cells #[encStr (Lib.itoa size), encStr (hexP data)] 9)).heap.size := by have h1 := hg0.out.2; have h2 := hL5.size; omega
        refine wpAnyH_ready (rs := [8]) (by kernel_rfl) (by simp) ?_
        refine AllReadyH.cons rfl (fun K hK => ?_) AllReadyH.nil
        refine step_append_data (L := strL) rfl (.tmp 28) (.tmp 35) 26 rfl g 9 _ 16 Tryd.underlying26 info_strD rfl (fun _ => True) (some ⟨g, 0, none⟩) l l (headT code) rfl hO5 (some ⟨w4.heap.size, 0, none⟩) 2 2 [Lib.itoa size, hexP data] _ rfl hLit.1 (fun _ => False) hLit.2 rfl (fun b hb => hb.elim) (by unfold maxLen; omega) (by omega) hg5 ?_
        intro a5 c5 w5 hown5 hgr5
        have hL6 : Below w.heap.size w w5 := SOwn.grown hO5 (HBw0.out.trans (hL5.mono HBw0.out.size)) (Nat.le_of_lt hg0.out.1) (Nat.le_trans HBw0.out.size hL5.size) hgr5
        have hX6 : Box w5 w.heap.size #[.int .i64 (code : Int), .bool done, .int .i64 (size : Int), .slice ad ld cd, .slice an ln cn] 28 := (hgr5.block w.heap.size (Nat.lt_of_lt_of_le HBX0.out.lt hL5.size) (fun e => by have e' : w.heap.size = g := (by simpa [Value.ownBlock] using e); have := hg0.out.1; omega)).trans (HBX0.out.below hL5 HBX0.out.lt)
        have hg6 : g ≤ w5.heap.size := Nat.le_trans hg5 hgr5.size
        refine hK.out _ _ hX6 (fun hHeld6 => ?_)
        clear hK K
        try simp only [Act.put, List.getElem_toArray, List.getElem_cons_zero, List.getElem_cons_succ, List.setIfInBounds_toArray, List.set_cons_zero, List.set_cons_succ]
        refine wpAnyH_take (i := 9) (v := .slice a5 (l + 2) c5) rfl (by kernel_rfl) (by kernel_rfl) (by kernel_rfl) (fun _ _ _ h => h) (Or.inl ⟨by rfl, ?_⟩) (by assumption) ?_
        · intro w' hS
          go_simp
          done
        try simp only [Act.put, List.getElem_toArray, List.getElem_cons_zero, List.getElem_cons_succ, List.setIfInBounds_toArray, List.set_cons_zero, List.set_cons_succ]
        refine wpAnyH_done (by kernel_rfl) ?_ _
        go_wp2_with fail
        go_meet
        exact ⟨a5, c5, rfl, hown5, hL6, hX6, hg6⟩
      case rest =>
        obtain ⟨a5, c5, rfl, hO5, hB5, hX5, hg5⟩ := hcut
        refine ‹∀ (a : Act) (w : World), Code.wp _ _ _ a w → _› _ _ ?_
        clear HEr HDr HNr hO HBw0 HBX0
        have hl5 : l + 2 ≤ 4 := by omega
        obtain ⟨l5, hl5e⟩ : ∃ l5, Hid (l + 2 = l5) := ⟨_, rfl⟩
        rw [hl5e.out] at hO5 hl5 ⊢
        have hl51 : 1 ≤ l5 := by have := hl5e.out; omega
        obtain ⟨wr, hwr⟩ : ∃ wr, wr = wc := ⟨_, rfl⟩
        rw [← hwr] at hO5 hB5 hX5 hg5 ⊢
        clear hwr
        refine wp_seq_k ?_
        intro KK2 hKK2
        go_cut [5] from 37 to 41 (fun v5 wx => ∃ (a6 : Option Addr) (l6 c6 : Nat), v5 = .slice a6 l6 c6 ∧ l6 ≤ 5 ∧ 1 ≤ l6 ∧ Hid (SOwn strL wx g 9 (fun _ => True) a6 l6 c6 (headT code ++ [Lib.itoa size, hexP data] ++ (if done then [doneN] else []))) ∧ Hid (Below w.heap.size w wx) ∧ Hid (Box wx w.heap.size #[.int .i64 (code : Int), .bool done, .int .i64 (size : Int), .slice ad ld cd, .slice an ln cn] 28) ∧ Hid (g ≤ wx.heap.size))
        case first =>
          cases done with
          | false =>
            have c1 : wr.cell? ⟨w.heap.size, 1, none⟩ = some (.bool false) := hX5.out.cell 1
            go_wp2_with fail
            go_meet
            exact ⟨a5, l5, c5, rfl, by omega, hl51, by show SOwn _ _ _ _ _ _ _ _ _; rw [show headT code ++ [Lib.itoa size, hexP data] ++ (if (false : Bool) = true then [doneN] else []) = headT code ++ [Lib.itoa size, hexP data] from List.append_nil _]; exact hO5.out, hB5, hX5, hg5⟩
          | true =>
            have c1 : wr.cell? ⟨w.heap.size, 1, none⟩ = some (.bool true) := hX5.out.cell 1
            have HY : Hid (strL.at_ wr (fun _ => False) doneN (#[encStr doneN] : Array Value).toList) := rfl
            have HF : Hid (∀ b, False → True ∧ b < wr.heap.size ∧ (Value.slice a5 l5 c5).ownBlock ≠ some b) := fun b h => h.elim
            have hg5' : g ≤ wr.heap.size := hg5.out
            go_wp2_with (at_builtin; refine wpList_append_one (L := strL) (wr := wr) rfl (.tmp 39) (.tmp 40) 26 rfl g 9 _ 16 Tryd.underlying26 info_strD rfl (fun _ => True) a5 l5 c5 _ rfl hO5.out #[encStr doneN] doneN rfl _ HY.out HF.out (by unfold maxLen; omega) (by omega) hg5' ?_; intro a6 c6 w6 hown6 hg6; have HO6 := Lib.hid hown6; have HB6 : Hid (Below w.heap.size w w6) := SOwn.grown hO5.out hB5.out (Nat.le_of_lt hg0.out.1) hB5.out.size hg6; have HX6 : Hid (Box w6 w.heap.size #[.int .i64 (code : Int), .bool true, .int .i64 (size : Int), .slice ad ld cd, .slice an ln cn] 28) := (hg6.block w.heap.size hX5.out.lt (fun e => by have h7 := World.ownsRow.lt hO5.out.2.choose_spec.choose_spec.1 w.heap.size e.symm; have := hg0.out.1; omega)).trans hX5.out; have HG6 : Hid (g ≤ w6.heap.size) := Nat.le_trans hg5' hg6.size; clear hown6 hg6)
            go_meet
            exact ⟨a6, l5 + 1, c6, rfl, by omega, by omega, HO6, HB6, HX6, HG6⟩
        case rest =>
          obtain ⟨a6, l6, c6, rfl, hl6, hl61, hO6, hB6, hX6, hg6⟩ := hcut
          refine hKK2 _ _ ?_
          clear hKK2 hO5 hB5 hX5 hg5
          obtain ⟨wq, hwq⟩ : ∃ wq, wq = wc := ⟨_, rfl⟩
          rw [← hwq] at hO6 hB6 hX6 hg6 ⊢
          clear hwq
          have c4 : wq.cell? ⟨w.heap.size, 4, none⟩ = some (.slice an ln cn) := hX6.out.cell 4
          have HNq : SRow strL wq F an ln cn names := HN.out.below hB6.out
          obtain ⟨uss, hV, hP, hL⟩ := HNq.whole
          have HV := Lib.hid hV
          have HP : Hid (Pt strL wq (fun _ => False) names uss) := ⟨hP.1, fun i x vs hx hv => hP.2 i x vs hx hv⟩
          have HL := Lib.hid hL
          have HF : Hid (∀ b, False → True ∧ b < wq.heap.size ∧ (Value.slice a6 l6 c6).ownBlock ≠ some b) := fun b h => h.elim
          have hg6' : g ≤ wq.heap.size := hg6.out
          have HSZ : Hid ((hexP data).length ≤ 5000000 ∧ (Lib.itoa (size : Int)).length ≤ 5000000 ∧ (Lib.itoa (code : Int)).length ≤ 5000000) := by
            refine ⟨?_, by have := itoa_len (size : Int) (by omega) (by omega); omega, by have := itoa_len (code : Int) (by omega) (by omega); omega⟩
            unfold hexP
            split
            · simp
            · rw [pairs_length, HLD.out]; omega
          have HXX : Hid (∀ x ∈ headT code ++ [Lib.itoa size, hexP data] ++ (if done then [doneN] else []) ++ names, x.length ≤ 5000000) := by
            intro x hx
            simp only [List.mem_append] at hx
            rcases hx with ((hx | hx) | hx) | hx
            · unfold headT at hx
              split at hx
              · obtain rfl := List.mem_singleton.1 hx; decide
              · simp only [List.mem_cons, List.mem_nil_iff, or_false] at hx
                rcases hx with rfl | rfl
                · decide
                · exact HSZ.out.2.2
            · simp only [List.mem_cons, List.mem_nil_iff, or_false] at hx
              rcases hx with rfl | rfl
              · exact HSZ.out.2.1
              · exact HSZ.out.1
            · split at hx
              · obtain rfl := List.mem_singleton.1 hx; decide
              · cases hx
            · have := HX.out x hx; omega
          clear hV hP hL HNq
          go_wp2_with (at_builtin; refine wpList_append_data (L := strL) rfl (.tmp 42) (.tmp 44) 26 rfl g 9 _ 16 Tryd.underlying26 info_strD rfl (fun _ => True) a6 l6 c6 _ rfl hO6.out an ln cn names uss rfl HV.out (fun _ => False) HP.out HL.out HF.out (by unfold maxLen; omega) (by omega) hg6' ?_; intro a7 c7 w7 hown7 hg7; have HO7 : Hid (SOwn strL w7 g 9 (fun _ => True) a7 (l6 + ln) c7 (partsT ⟨code, done, size, data, names⟩)) := hown7; have HB7 : Hid (Below w.heap.size w w7) := SOwn.grown hO6.out hB6.out (Nat.le_of_lt hg0.out.1) hB6.out.size hg7; clear hown7 hg7)
          have hl7 : l6 + ln ≤ 2000 := by omega
          have hl70 : 0 < l6 + ln := by omega
          refine (joinW (fun _ => True) a7 (l6 + ln) c7 (partsT ⟨code, done, size, data, names⟩) w7 (SOwn.sRow HO7.out) hl70 hl7 HXX.out).mono ?_
          rintro e w8 ⟨rfl, hb8⟩
          have HB8 : Hid (Below w.heap.size w w8) := HB7.out.trans (hb8.out.mono HB7.out.size)
          clear hb8
          go_wp2_with fail
          exact bodyPost_ret (results_tmp2 Tryd.results8 _ _ _) rfl ⟨rfl, HB8⟩
end Go.Proofs.YtdonmdiebibabaaDoor
