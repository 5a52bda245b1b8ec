/- The walk of Read. -/
import Derived.Test.YtdonmdiebibabaaDoorLoC
import Derived.Test.YtdonmdiebibabaaDoorLnF
import Derived.Lib.OthersKept
namespace Go.Proofs.YtdonmdiebibabaaDoor
open Go.RowKit Go.Sort
set_option linter.unusedVariables false
set_option maxRecDepth 100000
set_option linter.unusedSimpArgs false

def cmd0 : Array Value := (Cmd.mt 0).cells none 0 0
/-- What Read hands back. -/
def Readed (s : Nm) (w : World) (e : Ending) (w' : World) : Prop := match readP s with
  | some c => ∃ a l k, e = .returned (.tuple #[.agg (c.cells a l k), .int .i64 0]) ∧ Row .u8 w' a l k c.data ∧ Below w.heap.size w w'
  | none => e = .returned (.tuple #[.agg cmd0, .int .i64 4]) ∧ Below w.heap.size w w'
theorem readed_none {s : Nm} {w w' : World} (h : readP s = none) (hb : Below w.heap.size w w') : Readed s w (.returned (.tuple #[.agg cmd0, .int .i64 4])) w' := by
  unfold Readed; rw [h]; exact ⟨rfl, hb⟩
theorem readed_some {s : Nm} {c : Cmd} {w w' : World} {a : Option Addr} {l k : Nat} (h : readP s = some c) (hr : Row .u8 w' a l k c.data) (hb : Below w.heap.size w w') : Readed s w (.returned (.tuple #[.agg (c.cells a l k), .int .i64 0])) w' := by
  unfold Readed; rw [h]; exact ⟨a, l, k, rfl, hr, hb⟩
theorem part_lenN : ∀ (n : Nat) (s : Nm), s.length ≤ n → ∀ x ∈ cutP s, x.length ≤ s.length := by
  intro n
  induction n with
  | zero =>
    intro s hs x hx
    have : s = [] := List.eq_nil_of_length_eq_zero (by omega)
    subst this
    obtain rfl := List.mem_singleton.1 hx
    exact Nat.le_refl _
  | succ n ih =>
    intro s hs x hx
    rcases part32 s with h | ⟨a, b, rfl, h⟩
    · rw [cutP_none s h] at hx
      obtain rfl := List.mem_singleton.1 hx
      exact Nat.le_refl _
    · rw [cutP_hit a b h] at hx
      rcases List.mem_cons.1 hx with rfl | hx
      · simp
      · have := ih b (by simp at hs; omega) x hx
        simp; omega
theorem part_len (s : Nm) : ∀ x ∈ cutP s, x.length ≤ s.length := part_lenN _ s (Nat.le_refl _)
theorem alloc_below {B : Nat} {w0 w : World} (h : Below B w0 w) (hB : B ≤ w.heap.size) (o : Obj) : Below B w0 (w.alloc o) := h.alloc hB o
/-- How far Read is: what is left of the reading, or that a part was none. -/
def RdSt (ls : Nm) (ss : List Nm) (c0 : Cmd) (pos : Nat) (b : Bool) (cm : Cmd) : Prop := (b = true ∧ readL ls ss c0 = readL (ls.drop pos) (ss.drop pos) cm) ∨ (b = false ∧ readL ls ss c0 = none)
theorem RdSt.dead {ls : Nm} {ss : List Nm} {c0 : Cmd} {pos p' : Nat} {cm cm' : Cmd} (h : RdSt ls ss c0 pos false cm) : RdSt ls ss c0 p' false cm' := by
  rcases h with ⟨h, _⟩ | ⟨_, h⟩
  · cases h
  · exact .inr ⟨rfl, h⟩
theorem RdSt.step {ls : Nm} {ss : List Nm} {c0 : Cmd} {pos : Nat} {cm cm' : Cmd} {x : UInt8} {s : Nm} {fine : Bool} (h : RdSt ls ss c0 pos true cm) (hl : ls[pos]? = some x) (hs : ss[pos]? = some s) (hp : putL x s cm = if fine then some cm' else none) : RdSt ls ss c0 (pos + 1) fine cm' := by
  rcases h with ⟨_, h⟩ | ⟨h, _⟩
  · obtain ⟨h1, h2⟩ := List.getElem?_eq_some_iff.1 hl
    obtain ⟨h3, h4⟩ := List.getElem?_eq_some_iff.1 hs
    rw [List.drop_eq_getElem_cons h1, List.drop_eq_getElem_cons h3, h2, h4] at h
    simp only [readL, hp] at h
    cases fine with
    | true => exact .inl ⟨rfl, h⟩
    | false => exact .inr ⟨rfl, h⟩
  · cases h
theorem RdSt.done {ls : Nm} {ss : List Nm} {c0 cm : Cmd} {b : Bool} (h : RdSt ls ss c0 ls.length b cm) : readL ls ss c0 = if b then some cm else none := by
  rcases h with ⟨rfl, h⟩ | ⟨rfl, h⟩
  · rw [h, List.drop_length]; cases ss.drop ls.length <;> rfl
  · exact h
theorem putL_110 (c : Cmd) (s : Nm) : putL 110 s c = if nameOk s then some { c with name := s } else none := rfl
theorem putL_111 (c : Cmd) (s : Nm) : putL 111 s c = if nameOk s then some { c with other := s } else none := rfl
theorem putL_102 (c : Cmd) (s : Nm) : putL 102 s c = if (numP s).2 then some { c with off := (numP s).1 } else none := rfl
theorem putL_99 (c : Cmd) (s : Nm) : putL 99 s c = if (numP s).2 then some { c with count := (numP s).1 } else none := rfl
theorem putL_100 (c : Cmd) (s : Nm) : putL 100 s c = if (numP s).2 then some { c with drive := (numP s).1 } else none := rfl
theorem putL_107 (c : Cmd) (s : Nm) : putL 107 s c = if (numP s).2 then some { c with keep := (numP s).1 } else none := rfl
theorem unhexAny (s : Nm) (w : World) (hl : s.length ≤ 4000000) : Calls Tryd.prog 24 #[encStr s] w fun e w' =>
    ∃ a l c xs fine, e = .returned (.tuple #[.slice a l c, .bool fine]) ∧ Hid (∀ cm : Cmd, putL 120 s cm = if fine then some { cm with data := xs } else none) ∧ Hid (NewB w w' a l c xs) := by
  refine (unhexW s w hl).mono ?_
  intro e w' h
  unfold Unhexed at h
  cases hu : unhexP s with
  | some l =>
    rw [hu] at h
    obtain ⟨a, n, c, rfl, hN⟩ := h
    exact ⟨a, n, c, l, true, rfl, fun cm => by show (match unhexP s with | some l => some { cm with data := l } | none => none) = _; rw [hu]; rfl, hN⟩
  | none =>
    rw [hu] at h
    obtain ⟨a, n, c, l, rfl, hN⟩ := h
    exact ⟨a, n, c, l, false, rfl, fun cm => by show (match unhexP s with | some l => some { cm with data := l } | none => none) = _; rw [hu]; rfl, hN⟩
theorem iterPos_of {w : World} {k pos : Nat} {s : ByteArray} (h : w.heap[k]? = some (.stringIter s pos)) : w.iterPos k = pos := by simp [World.iterPos, h]
theorem keepIt {w w2 : World} {g pos : Nat} {s : ByteArray} (hb : w2.heap[g + 1]? = w.heap[g + 1]?) (h : w.heap[g + 1]? = some (.stringIter s pos)) (j : Nat) (v : Value) : (w2.setCell ⟨g, j, none⟩ v).heap[g + 1]? = some (.stringIter s pos) :=
  (Below.heap_setCell _ _ _ _ (by show g + 1 ≠ g; omega)).trans (hb.trans h)
/-- What stays while Read's loop runs. -/
structure RdK (w : World) (n : Nat) (CS : Array Value) (wr : World) : Prop where
  below : Below w.heap.size w wr
  x0 : Box wr w.heap.size cmd0 39
  xp : Box wr (w.heap.size + 2) #[.slice (some ⟨w.heap.size + 1, 0, none⟩) n n] 26
  xP : Box wr (w.heap.size + 1) CS 9
theorem RdK.under {w wr w2 : World} {n : Nat} {CS : Array Value} (h : RdK w n CS wr) (hb : Below wr.heap.size wr w2) : RdK w n CS w2 :=
  ⟨h.below.trans (hb.mono h.below.size), h.x0.below hb h.x0.lt, h.xp.below hb h.xp.lt, h.xP.below hb h.xP.lt⟩
theorem RdK.set {w wr : World} {n : Nat} {CS : Array Value} (h : RdK w n CS wr) {G : Nat} (hG : w.heap.size + 3 ≤ G) (j : Nat) (v : Value) : RdK w n CS (wr.setCell ⟨G, j, none⟩ v) :=
  ⟨below_setG h.below G (by omega) j v, Box.other h.x0 _ (by show G ≠ _; omega) _, Box.other h.xp _ (by show G ≠ _; omega) _, Box.other h.xP _ (by show G ≠ _; omega) _⟩
theorem RdK.iter {w wr : World} {n : Nat} {CS : Array Value} (h : RdK w n CS wr) {G : Nat} (hG : w.heap.size + 3 ≤ G) (s : ByteArray) (p : Nat) : RdK w n CS (wr.iterAt (G + 1) s p) :=
  ⟨Lib.below_iterAt h.below (by omega) s p, (Lib.iterAt_other wr (G + 1) _ s p (by omega)).trans h.x0, (Lib.iterAt_other wr (G + 1) _ s p (by omega)).trans h.xp, (Lib.iterAt_other wr (G + 1) _ s p (by omega)).trans h.xP⟩
theorem row_iter {w : World} {k : Nat} {s : ByteArray} {p : Nat} {a : Option Addr} {l c : Nat} {xs : List Int} (h : Row .u8 w a l c xs) (hne : ∀ x, a = some x → x.block ≠ k) : Row .u8 (w.iterAt k s p) a l c xs :=
  VRow.toRow (h.toV.keep (fun b o e _ _ => Lib.iterAt_other w k b s p (hne _ e))) h.hwf
set_option maxHeartbeats 8000000 in
theorem readW (s : Nm) (w : World) (hE : EnvX w) (hl : s.length ≤ 4000000) : Calls Tryd.prog 13 #[encStr s] w (Readed s w) := by
  obtain ⟨hd, ss, hcut⟩ : ∃ hd ss, cutP s = hd :: ss := by
    cases h : cutP s with
    | nil => exact absurd h (cutP_ne s)
    | cons a b => exact ⟨a, b, rfl⟩
  obtain ⟨W0, hW0⟩ : ∃ W0, W0 = w.alloc (.cells cmd0 39) := ⟨_, rfl⟩
  have hB0 : Hid (Below w.heap.size w W0) := by rw [hW0]; exact Below_alloc1 _
  have hX0 : Hid (Box W0 w.heap.size cmd0 39) := by rw [hW0]; exact Box.new rfl
  have hS0 : Hid (W0.heap.size = w.heap.size + 1) := by show _ = _; rw [hW0]; simp
  have hSP := Lib.hid (splitW s W0 (hE.below hB0.out).env.sh (by omega))
  rw [hcut] at hSP
  obtain ⟨n, hn⟩ : ∃ n, Hid ((hd :: ss).length = n) := ⟨_, rfl⟩
  rw [hn.out] at hSP
  obtain ⟨W1, hW1⟩ : ∃ W1, W1 = W0.alloc (.cells ((hd :: ss).map encStr).toArray 9) := ⟨_, rfl⟩
  rw [← hW1] at hSP
  obtain ⟨W2, hW2⟩ : ∃ W2, W2 = W1.alloc (.cells #[.slice (some ⟨w.heap.size + 1, 0, none⟩) n n] 26) := ⟨_, rfl⟩
  have hSP2 : Hid (Calls Tryd.prog 22 #[encStr s, .string ⟨#[32]⟩] W0 fun e w' => e = .returned (.slice (some ⟨w.heap.size + 1, 0, none⟩) n n) ∧ w' = W1) := by
    have := hSP.out; rw [hS0.out] at this; exact this
  have hS1 : Hid (W1.heap.size = w.heap.size + 2) := by show _ = _; rw [hW1]; simp [hS0.out]
  have hBx1 : Hid (Box W1 (w.heap.size + 1) ((hd :: ss).map encStr).toArray 9) := by rw [hW1]; exact Box.new hS0.out.symm
  have hXp : Hid (Box W2 (w.heap.size + 2) #[.slice (some ⟨w.heap.size + 1, 0, none⟩) n n] 26) := by rw [hW2]; exact Box.new hS1.out.symm
  have hXP : Hid (Box W2 (w.heap.size + 1) ((hd :: ss).map encStr).toArray 9) := by rw [hW2]; exact Box.alloc hBx1.out _
  have hX2 : Hid (Box W2 w.heap.size cmd0 39) := by rw [hW2, hW1]; exact Box.alloc (Box.alloc hX0.out _) _
  have hB1 : Hid (Below w.heap.size w W1) := by rw [hW1]; exact hB0.out.alloc (by have := hS0.out; omega) _
  have hB2 : Hid (Below w.heap.size w W2) := by rw [hW2]; exact hB1.out.alloc (by have := hS1.out; omega) _
  have hS2 : Hid (W2.heap.size = w.heap.size + 3) := by show _ = _; rw [hW2]; simp [hS1.out]
  have hnp : 0 < n := by have := hn.out; simp at this; omega
  have hIx := Lib.hid (indexWord hd (w.heap.size + 2) (w.heap.size + 1) 0 n n W2 (hE.below hB2.out) (hXp.out.cell 0) (hXP.out.cell 0) hnp)
  have HE := Lib.hid hE
  have HC := Lib.hid hcut
  clear hSP hE hcut
  unfold cmd0 Cmd.cells Cmd.mt at hW0
  simp only at hW0
  go_enter Tryd.func13, Tryd.ntmps13
  have HW1 := Lib.hid hW1
  have HW2 := Lib.hid hW2
  clear hW1 hW2
  go_upto_region 2 with (first
    | (go_at_call 22; rw [← hW0]; refine hSP2.out.mono ?_; rintro e w1 ⟨rfl, rfl⟩)
    | fail)
  rw [← HW2.out, hS1.out]
  clear hSP2 HW2 HW1 hW0 hX0 hB0 hS0 hB1 hS1 hBx1
  cases hix : wordIx hd with
  | none =>
    rw [hix] at hIx
    have hR : Hid (readP s = none) := by show _ = _; unfold readP; rw [HC.out]; simp only [hix]
    clear hix
    unfold ixOf at hIx
    go_upto_region 3 with (go_at_call 29; refine hIx.out.mono ?_; rintro e w3 ⟨rfl, hb3⟩)
    have hX3 : Hid (Box w3 w.heap.size cmd0 39) := hX2.out.below hb3.out hX2.out.lt
    have hB3 : Hid (Below w.heap.size w w3) := hB2.out.trans (hb3.out.mono hB2.out.size)
    go_quiet (fail)
    go_wp2_with (first
      | (refine wpList_store_box rfl 39 (.tmp 2) (.tmp 33) rfl w.heap.size cmd0 rfl rfl 39 _ (hX3.out.drewN nq) (by kernel_rfl) rfl (by rfl) ?_; intro w4 hb4 hg4; have HB4 := Lib.hid hb4; have HG4 := Lib.hid hg4; clear hb4 hg4)
      | fail)
    refine bodyPost_ret (results_box_tmp Tryd.results13 _ _ w.heap.size _ _ HB4.out _ rfl Tryd.underlying39 rfl (by kernel_rfl)) rfl ?_
    exact readed_none hR.out ((below_drewN hB3.out nq).grown HG4.out hB3.out.size (fun k hk => by injection hk with hk; omega))
  | some k =>
    rw [hix] at hIx
    obtain ⟨hk, hkw⟩ := wordIx_some hix
    have HK := Lib.hid hkw
    obtain ⟨ls, hls⟩ : ∃ ls, Hid (lettersOf k = ls) := ⟨_, rfl⟩
    have hLL : Hid (∀ x ∈ ls, x ∈ lettersAll) := by rw [← hls.out]; exact (words_ok ⟨k, hk⟩).1
    have hLlen : ls.length ≤ 4 := by
      rw [← hls.out]
      have h4 : ∀ k : Fin 19, (lettersOf k.val).length ≤ 4 := by decide
      exact h4 ⟨k, hk⟩
    have hnn : (hd :: ss).length = ss.length + 1 := rfl
    have hR0 : Hid (readP s = if ss.length = ls.length then readL ls ss (.mt ((k : Int) + 1)) else none) := by show _ = _; unfold readP; rw [HC.out]; simp only [hix, hls.out]
    clear hix hkw
    unfold ixOf at hIx
    have hk0 : (0 : Int) ≤ (k : Int) := by omega
    have hk1 : (k : Int) < 19 := by omega
    go_upto_region 3 with (go_at_call 29; refine hIx.out.mono ?_; rintro e w3 ⟨rfl, hb3⟩)
    have hX3 : Hid (Box w3 w.heap.size cmd0 39) := hX2.out.below hb3.out hX2.out.lt
    have hB3 : Hid (Below w.heap.size w w3) := hB2.out.trans (hb3.out.mono hB2.out.size)
    have hX3p : Hid (Box w3 (w.heap.size + 2) #[.slice (some ⟨w.heap.size + 1, 0, none⟩) n n] 26) := hXp.out.below hb3.out hXp.out.lt
    have hX3P : Hid (Box w3 (w.heap.size + 1) ((hd :: ss).map encStr).toArray 9) := hXP.out.below hb3.out hXP.out.lt
    have hS3 : Hid (w.heap.size + 3 ≤ w3.heap.size) := by have := hb3.out.size; have := hS2.out; show _ ≤ _; omega
    clear hb3 hX2 hXp hXP hB2 hS2
    have c2 : w3.cell? ⟨w.heap.size + 2, 0, none⟩ = some (.slice (some ⟨w.heap.size + 1, 0, none⟩) n n) := hX3p.out.cell 0
    have HE3 := Lib.hid (HE.out.below hB3.out)
    have c1 : w3.cell? ⟨0, k * 2 + 1, none⟩ = some (encStr ls) := by
      have := (HE3.out.word hk).2
      rw [hls.out, Nat.mul_comm] at this; exact this
    have hwr : IntKind.i64.wrap ((ls.length : Int) + 1) = (ls.length : Int) + 1 := IntWalk.i64_in _ (by omega)
    by_cases hne : n = ls.length + 1
    · have hq : ((n : Int) != (ls.length : Int) + 1) = false := by simp; omega
      have hkd : decide ((k : Int) < 0) = false := decide_eq_false (by omega)
      have hkw : IntKind.i64.wrap (1 + (k : Int)) = (k : Int) + 1 := by rw [IntWalk.i64_in _ (by omega)]; omega
      have HNE := Lib.hid hne
      clear hne
      go_quiet (fail)
      have hs5 : w3.heap.size = (w3.drewN nq).heap.size := rfl
      have hB5 : Hid (Below w.heap.size w (w3.drewN nq)) := below_drewN hB3.out nq
      have hX5 : Hid (Box (w3.drewN nq) w.heap.size cmd0 39) := hX3.out
      have hX5p : Hid (Box (w3.drewN nq) (w.heap.size + 2) #[.slice (some ⟨w.heap.size + 1, 0, none⟩) n n] 26) := hX3p.out
      have hX5P : Hid (Box (w3.drewN nq) (w.heap.size + 1) ((hd :: ss).map encStr).toArray 9) := hX3P.out
      have HE5 : Hid (EnvX (w3.drewN nq)) := HE.out.below hB5.out
      have hS5 : Hid (w.heap.size + 3 ≤ (w3.drewN nq).heap.size) := hS3.out
      clear hs5 hX3 hB3 hX3p hX3P hS3 c2 HE3 c1 hIx
      obtain ⟨w5, hw5⟩ : ∃ w5, w5 = w3.drewN nq := ⟨_, rfl⟩
      rw [← hw5] at hB5 hX5 hX5p hX5P HE5 hS5 ⊢
      clear hw5
      have c1 : w5.cell? ⟨0, k * 2 + 1, none⟩ = some (encStr ls) := by
        have := (HE5.out.word hk).2
        rw [hls.out, Nat.mul_comm] at this; exact this
      go_upto_region 7 with fail
      obtain ⟨G, hG⟩ : ∃ G, Hid (w5.heap.size = G) := ⟨_, rfl⟩
      obtain ⟨w6, hw6⟩ : ∃ w6, w6 = w5.alloc (.cells #[.int .i64 ((k : Int) + 1), .string ⟨#[]⟩, .string ⟨#[]⟩, .int .i64 0, .int .i64 0, .int .i64 0, .int .i64 0, .slice none 0 0] 39) := ⟨_, rfl⟩
      have hBy : Hid (Below w5.heap.size w5 w6) := by rw [hw6]; exact Below_alloc1 _
      have hX6G : Hid (Box w6 G ((Cmd.mt ((k : Int) + 1)).cells none 0 0) 39) := by rw [hw6, ← hG.out]; exact Box.new rfl
      have hX6 : Hid (Box w6 w.heap.size cmd0 39) := hX5.out.below hBy.out hX5.out.lt
      have hX6p : Hid (Box w6 (w.heap.size + 2) #[.slice (some ⟨w.heap.size + 1, 0, none⟩) n n] 26) := hX5p.out.below hBy.out hX5p.out.lt
      have hX6P : Hid (Box w6 (w.heap.size + 1) ((hd :: ss).map encStr).toArray 9) := hX5P.out.below hBy.out hX5P.out.lt
      have hB6 : Hid (Below w.heap.size w w6) := hB5.out.trans (hBy.out.mono hB5.out.size)
      have hG3 : Hid (w.heap.size + 3 ≤ G) := by rw [← hG.out]; exact hS5.out
      have hS6 : Hid (w6.heap.size = G + 1) := by show _ = _; rw [hw6, ← hG.out]; simp
      have c1' : w6.cell? ⟨0, k * 2 + 1, none⟩ = some (encStr ls) := (hBy.out.cell HE5.out.lt).trans c1
      rw [← hw6, hG.out]
      clear hw6 hBy hX5 hX5p hX5P hB5 hS5 c1 HE5 hG
      have hI7 : Hid ((w6.iter ⟨ls.toArray⟩ 0).heap[G + 1]? = some (.stringIter ⟨ls.toArray⟩ 0)) := by
        have := World.iter_heap w6 ⟨ls.toArray⟩ 0
        rw [hS6.out] at this; exact this
      have hK7 : Hid (RdK w n ((hd :: ss).map encStr).toArray (w6.iter ⟨ls.toArray⟩ 0)) := RdK.under ⟨hB6.out, hX6.out, hX6p.out, hX6P.out⟩ (Below_alloc1 _)
      have hX7 : Hid (Box (w6.iter ⟨ls.toArray⟩ 0) G ((Cmd.mt ((k : Int) + 1)).cells none 0 0) 39) := Box.alloc hX6G.out _
      have hssl : Hid (ss.length = ls.length) := by show _ = _; have := hn.out; have := HNE.out; omega
      clear hX6 hX6p hX6P hB6 hX6G
      go_wp2_with fail
      rw [hS6.out]
      obtain ⟨w7, hw7⟩ : ∃ w7, w7 = w6.iter ⟨ls.toArray⟩ 0 := ⟨_, rfl⟩
      have hw7' : w6.iter ⟨ls.toArray⟩ 0 = w7 := hw7.symm
      rw [hw7'] at hK7 hX7 hI7
      try rw [hw7']
      clear hw7 hw7' hS6 c1'
      go_loopw [7] (fun ov wr => ∃ (pos : Nat) (b : Bool) (cm : Cmd) (a : Option Addr) (l c : Nat), pos ≤ ls.length ∧ ov = .bool b ∧ Hid (wr.heap[G + 1]? = some (.stringIter ⟨ls.toArray⟩ pos)) ∧ Hid (Box wr G (cm.cells a l c) 39) ∧ Hid (Row .u8 wr a l c cm.data ∧ ∀ x, a = some x → G + 1 < x.block) ∧ Hid (RdK w n ((hd :: ss).map encStr).toArray wr) ∧ Hid (RdSt ls ss (.mt ((k : Int) + 1)) pos b cm)) (fun _ wr => ls.length - wr.iterPos (G + 1))
      case atStart => exact ⟨0, true, .mt ((k : Int) + 1), none, 0, 0, by omega, rfl, hI7, hX7, ⟨⟨rfl, Nat.le_refl _, Nat.zero_le _, fun _ => rfl, fun x hx => (List.not_mem_nil hx).elim, .inl rfl⟩, fun x hx => by cases hx⟩, hK7, .inl ⟨rfl, rfl⟩⟩
      case round =>
        obtain ⟨pos, b, cm, a, l, c, hp, rfl, hk0r, hXGr, hRr, hKr, hSt⟩ := hrel
        clear hK7 hX7 hI7
        have hsz : (⟨ls.toArray⟩ : ByteArray).size = ls.length := strLen ls
        by_cases hlt : pos < ls.length
        · obtain ⟨x, hx⟩ : ∃ x, ls[pos]? = some x := ⟨_, List.getElem?_eq_getElem hlt⟩
          obtain ⟨s1, hs1e⟩ : ∃ s1, ss[pos]? = some s1 := ⟨_, List.getElem?_eq_getElem (by have := hssl.out; omega)⟩
          have hxm := hLL.out x (List.mem_of_getElem? hx)
          have hgl := Lib.hid hx
          have hgs := Lib.hid hs1e
          have h128 : x.toNat < 128 := by
            have h7 : ∀ x ∈ lettersAll, x.toNat < 128 := by decide
            exact h7 x hxm
          have hat : (⟨ls.toArray⟩ : ByteArray)[pos]'(by rw [hsz]; exact hlt) = x := by
            obtain ⟨h1, h2⟩ := List.getElem?_eq_some_iff.1 hx
            exact h2
          have hnext : ∀ ty, (Instr.next (.pointer (some ⟨G + 1, 0, none⟩)) true ty).run Tryd.prog wr = .ok (.tuple #[.bool true, .int .i64 (pos : Int), .int .i32 (x.toNat : Int)]) (wr.iterAt (G + 1) ⟨ls.toArray⟩ (pos + 1)) := fun ty => by
            have h1 := Lib.run_next_ascii_at (P := Tryd.prog) wr (G + 1) ⟨ls.toArray⟩ pos ty hk0r.out (by rw [hsz]; exact hlt) (by rw [hat]; exact h128)
            rw [hat] at h1; exact h1
          have hmu : Hid (wr.iterPos (G + 1) = pos) := iterPos_of hk0r.out
          have hGw : w.heap.size + 3 ≤ G := hG3.out
          have hk1 : Hid ((wr.iterAt (G + 1) ⟨ls.toArray⟩ (pos + 1)).heap[G + 1]? = some (.stringIter ⟨ls.toArray⟩ (pos + 1))) := Lib.iterAt_heap wr (G + 1) _ pos (pos + 1) hk0r.out
          have hXG1 : Hid (Box (wr.iterAt (G + 1) ⟨ls.toArray⟩ (pos + 1)) G (cm.cells a l c) 39) := (Lib.iterAt_other wr (G + 1) G _ _ (by omega)).trans hXGr.out
          have hR1 : Hid (Row .u8 (wr.iterAt (G + 1) ⟨ls.toArray⟩ (pos + 1)) a l c cm.data ∧ ∀ x, a = some x → G + 1 < x.block) := ⟨row_iter hRr.out.1 (fun x hx => by have := hRr.out.2 x hx; omega), hRr.out.2⟩
          have hK1 : Hid (RdK w n ((hd :: ss).map encStr).toArray (wr.iterAt (G + 1) ⟨ls.toArray⟩ (pos + 1))) := hKr.out.iter hGw _ _
          obtain ⟨W1, hW1⟩ : ∃ W1, wr.iterAt (G + 1) ⟨ls.toArray⟩ (pos + 1) = W1 := ⟨_, rfl⟩
          rw [hW1] at hk1 hXG1 hR1 hK1
          simp only [hW1] at hnext
          clear hW1 hk0r hXGr hRr hKr hx hs1e hat
          have hG1 : G < W1.heap.size := hXG1.out.lt
          have hI1 : G + 1 < W1.heap.size := (Array.getElem?_eq_some_iff.1 hk1.out).1
          have HE1 : Hid (EnvX W1) := HE.out.below hK1.out.below
          have q1 : W1.cell? ⟨w.heap.size + 2, 0, none⟩ = some (.slice (some ⟨w.heap.size + 1, 0, none⟩) n n) := hK1.out.xp.cell 0
          have q2 : W1.cell? ⟨w.heap.size + 1, pos + 1, none⟩ = some (encStr s1) := by
            have := hK1.out.xP.cell (pos + 1)
            rw [this]
            simp [hgs.out]
          have hs1 : s1.length ≤ 4000000 := by
            have h1 := part_len s
            rw [HC.out] at h1
            have := h1 s1 (List.mem_cons_of_mem _ (List.mem_of_getElem? hgs.out))
            omega
          have hpn : (pos : Int) + 1 < (n : Int) := by have := HNE.out; omega
          have hpw : IntKind.i64.wrap ((pos : Int) + 1) = (pos : Int) + 1 := IntWalk.i64_in _ (by omega)
          simp only [lettersAll, List.mem_cons, List.mem_nil_iff, or_false] at hxm
          rcases hxm with rfl | rfl | rfl | rfl | rfl | rfl | rfl
          -- (LETTERS)
          · -- letter 110
            have HF : Hid (Calls Tryd.prog 28 #[.pointer (some ⟨G, 0, none⟩), .int .i32 110] W1 fun e w' => e = .returned (.tuple #[.pointer (some ⟨G, 1, none⟩), .pointer none, .pointer none]) ∧ w' = W1) := fieldW G 110 (by decide) W1
            have HN := Lib.hid (nameWL s1 W1 hs1)
            cases b
            · go_wp2_with (first
                | (go_at_call 28; refine HF.out.mono ?_; rintro e w' ⟨rfl, rfl⟩)
                | (go_at_call 17; refine HN.out.mono ?_; rintro e w2 ⟨rfl, hb2⟩; have HB2 := Lib.hid hb2; clear hb2; have z0 : w2.cell? ⟨G, 1, none⟩ = some (encStr cm.name) := (HB2.out.cell hG1).trans (hXG1.out.cell 1); have y0 : w2.frozen? ⟨G, 1, none⟩ = false := (hXG1.out.below HB2.out hG1).free 1)
                | fail)
              go_roundw
              case rel =>
                refine ⟨pos + 1, false, { cm with name := s1 }, a, l, c, by omega, rfl, ?_, (hXG1.out.below HB2.out hG1).set 1 (encStr s1), ?_, ?_, ?_⟩
                · exact keepIt (HB2.out.block (G + 1) hI1) hk1.out 1 (encStr s1)
                · exact ⟨row_setG (hR1.out.1.below HB2.out) G 1 _ (fun x hx => by have := hR1.out.2 x hx; omega), hR1.out.2⟩
                · exact (hK1.out.under HB2.out).set hGw 1 (encStr s1)
                · exact hSt.out.dead
              case measure =>
                rw [hmu.out, iterPos_of (keepIt (HB2.out.block (G + 1) hI1) hk1.out 1 (encStr s1))]; omega
            · go_wp2_with (first
                | (go_at_call 28; refine HF.out.mono ?_; rintro e w' ⟨rfl, rfl⟩)
                | (go_at_call 17; refine HN.out.mono ?_; rintro e w2 ⟨rfl, hb2⟩; have HB2 := Lib.hid hb2; clear hb2; have z0 : w2.cell? ⟨G, 1, none⟩ = some (encStr cm.name) := (HB2.out.cell hG1).trans (hXG1.out.cell 1); have y0 : w2.frozen? ⟨G, 1, none⟩ = false := (hXG1.out.below HB2.out hG1).free 1)
                | fail)
              go_roundw
              case rel =>
                refine ⟨pos + 1, nameOk s1, { cm with name := s1 }, a, l, c, by omega, rfl, ?_, (hXG1.out.below HB2.out hG1).set 1 (encStr s1), ?_, ?_, ?_⟩
                · exact keepIt (HB2.out.block (G + 1) hI1) hk1.out 1 (encStr s1)
                · exact ⟨row_setG (hR1.out.1.below HB2.out) G 1 _ (fun x hx => by have := hR1.out.2 x hx; omega), hR1.out.2⟩
                · exact (hK1.out.under HB2.out).set hGw 1 (encStr s1)
                · exact hSt.out.step hgl hgs (by first | exact putL_110 cm s1 | exact hfn.out cm)
              case measure =>
                rw [hmu.out, iterPos_of (keepIt (HB2.out.block (G + 1) hI1) hk1.out 1 (encStr s1))]; omega
          · -- letter 111
            have HF : Hid (Calls Tryd.prog 28 #[.pointer (some ⟨G, 0, none⟩), .int .i32 111] W1 fun e w' => e = .returned (.tuple #[.pointer (some ⟨G, 2, none⟩), .pointer none, .pointer none]) ∧ w' = W1) := fieldW G 111 (by decide) W1
            have HN := Lib.hid (nameWL s1 W1 hs1)
            cases b
            · go_wp2_with (first
                | (go_at_call 28; refine HF.out.mono ?_; rintro e w' ⟨rfl, rfl⟩)
                | (go_at_call 17; refine HN.out.mono ?_; rintro e w2 ⟨rfl, hb2⟩; have HB2 := Lib.hid hb2; clear hb2; have z0 : w2.cell? ⟨G, 2, none⟩ = some (encStr cm.other) := (HB2.out.cell hG1).trans (hXG1.out.cell 2); have y0 : w2.frozen? ⟨G, 2, none⟩ = false := (hXG1.out.below HB2.out hG1).free 2)
                | fail)
              go_roundw
              case rel =>
                refine ⟨pos + 1, false, { cm with other := s1 }, a, l, c, by omega, rfl, ?_, (hXG1.out.below HB2.out hG1).set 2 (encStr s1), ?_, ?_, ?_⟩
                · exact keepIt (HB2.out.block (G + 1) hI1) hk1.out 2 (encStr s1)
                · exact ⟨row_setG (hR1.out.1.below HB2.out) G 2 _ (fun x hx => by have := hR1.out.2 x hx; omega), hR1.out.2⟩
                · exact (hK1.out.under HB2.out).set hGw 2 (encStr s1)
                · exact hSt.out.dead
              case measure =>
                rw [hmu.out, iterPos_of (keepIt (HB2.out.block (G + 1) hI1) hk1.out 2 (encStr s1))]; omega
            · go_wp2_with (first
                | (go_at_call 28; refine HF.out.mono ?_; rintro e w' ⟨rfl, rfl⟩)
                | (go_at_call 17; refine HN.out.mono ?_; rintro e w2 ⟨rfl, hb2⟩; have HB2 := Lib.hid hb2; clear hb2; have z0 : w2.cell? ⟨G, 2, none⟩ = some (encStr cm.other) := (HB2.out.cell hG1).trans (hXG1.out.cell 2); have y0 : w2.frozen? ⟨G, 2, none⟩ = false := (hXG1.out.below HB2.out hG1).free 2)
                | fail)
              go_roundw
              case rel =>
                refine ⟨pos + 1, nameOk s1, { cm with other := s1 }, a, l, c, by omega, rfl, ?_, (hXG1.out.below HB2.out hG1).set 2 (encStr s1), ?_, ?_, ?_⟩
                · exact keepIt (HB2.out.block (G + 1) hI1) hk1.out 2 (encStr s1)
                · exact ⟨row_setG (hR1.out.1.below HB2.out) G 2 _ (fun x hx => by have := hR1.out.2 x hx; omega), hR1.out.2⟩
                · exact (hK1.out.under HB2.out).set hGw 2 (encStr s1)
                · exact hSt.out.step hgl hgs (by first | exact putL_111 cm s1 | exact hfn.out cm)
              case measure =>
                rw [hmu.out, iterPos_of (keepIt (HB2.out.block (G + 1) hI1) hk1.out 2 (encStr s1))]; omega
          · -- letter 102
            have HF : Hid (Calls Tryd.prog 28 #[.pointer (some ⟨G, 0, none⟩), .int .i32 102] W1 fun e w' => e = .returned (.tuple #[.pointer none, .pointer (some ⟨G, 3, none⟩), .pointer none]) ∧ w' = W1) := fieldW G 102 (by decide) W1
            have HN := Lib.hid (numberW s1 W1 HE1.out hs1)
            cases b
            · go_wp2_with (first
                | (go_at_call 28; refine HF.out.mono ?_; rintro e w' ⟨rfl, rfl⟩)
                | (go_at_call 23; refine HN.out.mono ?_; rintro e w2 ⟨rfl, HB2⟩; have z0 : w2.cell? ⟨G, 3, none⟩ = some (.int .i64 cm.off) := (HB2.out.cell hG1).trans (hXG1.out.cell 3); have y0 : w2.frozen? ⟨G, 3, none⟩ = false := (hXG1.out.below HB2.out hG1).free 3)
                | fail)
              go_roundw
              case rel =>
                refine ⟨pos + 1, false, { cm with off := (numP s1).1 }, a, l, c, by omega, rfl, ?_, (hXG1.out.below HB2.out hG1).set 3 (.int .i64 (numP s1).1), ?_, ?_, ?_⟩
                · exact keepIt (HB2.out.block (G + 1) hI1) hk1.out 3 (.int .i64 (numP s1).1)
                · exact ⟨row_setG (hR1.out.1.below HB2.out) G 3 _ (fun x hx => by have := hR1.out.2 x hx; omega), hR1.out.2⟩
                · exact (hK1.out.under HB2.out).set hGw 3 (.int .i64 (numP s1).1)
                · exact hSt.out.dead
              case measure =>
                rw [hmu.out, iterPos_of (keepIt (HB2.out.block (G + 1) hI1) hk1.out 3 (.int .i64 (numP s1).1))]; omega
            · go_wp2_with (first
                | (go_at_call 28; refine HF.out.mono ?_; rintro e w' ⟨rfl, rfl⟩)
                | (go_at_call 23; refine HN.out.mono ?_; rintro e w2 ⟨rfl, HB2⟩; have z0 : w2.cell? ⟨G, 3, none⟩ = some (.int .i64 cm.off) := (HB2.out.cell hG1).trans (hXG1.out.cell 3); have y0 : w2.frozen? ⟨G, 3, none⟩ = false := (hXG1.out.below HB2.out hG1).free 3)
                | fail)
              go_roundw
              case rel =>
                refine ⟨pos + 1, (numP s1).2, { cm with off := (numP s1).1 }, a, l, c, by omega, rfl, ?_, (hXG1.out.below HB2.out hG1).set 3 (.int .i64 (numP s1).1), ?_, ?_, ?_⟩
                · exact keepIt (HB2.out.block (G + 1) hI1) hk1.out 3 (.int .i64 (numP s1).1)
                · exact ⟨row_setG (hR1.out.1.below HB2.out) G 3 _ (fun x hx => by have := hR1.out.2 x hx; omega), hR1.out.2⟩
                · exact (hK1.out.under HB2.out).set hGw 3 (.int .i64 (numP s1).1)
                · exact hSt.out.step hgl hgs (by first | exact putL_102 cm s1 | exact hfn.out cm)
              case measure =>
                rw [hmu.out, iterPos_of (keepIt (HB2.out.block (G + 1) hI1) hk1.out 3 (.int .i64 (numP s1).1))]; omega
          · -- letter 99
            have HF : Hid (Calls Tryd.prog 28 #[.pointer (some ⟨G, 0, none⟩), .int .i32 99] W1 fun e w' => e = .returned (.tuple #[.pointer none, .pointer (some ⟨G, 4, none⟩), .pointer none]) ∧ w' = W1) := fieldW G 99 (by decide) W1
            have HN := Lib.hid (numberW s1 W1 HE1.out hs1)
            cases b
            · go_wp2_with (first
                | (go_at_call 28; refine HF.out.mono ?_; rintro e w' ⟨rfl, rfl⟩)
                | (go_at_call 23; refine HN.out.mono ?_; rintro e w2 ⟨rfl, HB2⟩; have z0 : w2.cell? ⟨G, 4, none⟩ = some (.int .i64 cm.count) := (HB2.out.cell hG1).trans (hXG1.out.cell 4); have y0 : w2.frozen? ⟨G, 4, none⟩ = false := (hXG1.out.below HB2.out hG1).free 4)
                | fail)
              go_roundw
              case rel =>
                refine ⟨pos + 1, false, { cm with count := (numP s1).1 }, a, l, c, by omega, rfl, ?_, (hXG1.out.below HB2.out hG1).set 4 (.int .i64 (numP s1).1), ?_, ?_, ?_⟩
                · exact keepIt (HB2.out.block (G + 1) hI1) hk1.out 4 (.int .i64 (numP s1).1)
                · exact ⟨row_setG (hR1.out.1.below HB2.out) G 4 _ (fun x hx => by have := hR1.out.2 x hx; omega), hR1.out.2⟩
                · exact (hK1.out.under HB2.out).set hGw 4 (.int .i64 (numP s1).1)
                · exact hSt.out.dead
              case measure =>
                rw [hmu.out, iterPos_of (keepIt (HB2.out.block (G + 1) hI1) hk1.out 4 (.int .i64 (numP s1).1))]; omega
            · go_wp2_with (first
                | (go_at_call 28; refine HF.out.mono ?_; rintro e w' ⟨rfl, rfl⟩)
                | (go_at_call 23; refine HN.out.mono ?_; rintro e w2 ⟨rfl, HB2⟩; have z0 : w2.cell? ⟨G, 4, none⟩ = some (.int .i64 cm.count) := (HB2.out.cell hG1).trans (hXG1.out.cell 4); have y0 : w2.frozen? ⟨G, 4, none⟩ = false := (hXG1.out.below HB2.out hG1).free 4)
                | fail)
              go_roundw
              case rel =>
                refine ⟨pos + 1, (numP s1).2, { cm with count := (numP s1).1 }, a, l, c, by omega, rfl, ?_, (hXG1.out.below HB2.out hG1).set 4 (.int .i64 (numP s1).1), ?_, ?_, ?_⟩
                · exact keepIt (HB2.out.block (G + 1) hI1) hk1.out 4 (.int .i64 (numP s1).1)
                · exact ⟨row_setG (hR1.out.1.below HB2.out) G 4 _ (fun x hx => by have := hR1.out.2 x hx; omega), hR1.out.2⟩
                · exact (hK1.out.under HB2.out).set hGw 4 (.int .i64 (numP s1).1)
                · exact hSt.out.step hgl hgs (by first | exact putL_99 cm s1 | exact hfn.out cm)
              case measure =>
                rw [hmu.out, iterPos_of (keepIt (HB2.out.block (G + 1) hI1) hk1.out 4 (.int .i64 (numP s1).1))]; omega
          · -- letter 100
            have HF : Hid (Calls Tryd.prog 28 #[.pointer (some ⟨G, 0, none⟩), .int .i32 100] W1 fun e w' => e = .returned (.tuple #[.pointer none, .pointer (some ⟨G, 5, none⟩), .pointer none]) ∧ w' = W1) := fieldW G 100 (by decide) W1
            have HN := Lib.hid (numberW s1 W1 HE1.out hs1)
            cases b
            · go_wp2_with (first
                | (go_at_call 28; refine HF.out.mono ?_; rintro e w' ⟨rfl, rfl⟩)
                | (go_at_call 23; refine HN.out.mono ?_; rintro e w2 ⟨rfl, HB2⟩; have z0 : w2.cell? ⟨G, 5, none⟩ = some (.int .i64 cm.drive) := (HB2.out.cell hG1).trans (hXG1.out.cell 5); have y0 : w2.frozen? ⟨G, 5, none⟩ = false := (hXG1.out.below HB2.out hG1).free 5)
                | fail)
              go_roundw
              case rel =>
                refine ⟨pos + 1, false, { cm with drive := (numP s1).1 }, a, l, c, by omega, rfl, ?_, (hXG1.out.below HB2.out hG1).set 5 (.int .i64 (numP s1).1), ?_, ?_, ?_⟩
                · exact keepIt (HB2.out.block (G + 1) hI1) hk1.out 5 (.int .i64 (numP s1).1)
                · exact ⟨row_setG (hR1.out.1.below HB2.out) G 5 _ (fun x hx => by have := hR1.out.2 x hx; omega), hR1.out.2⟩
                · exact (hK1.out.under HB2.out).set hGw 5 (.int .i64 (numP s1).1)
                · exact hSt.out.dead
              case measure =>
                rw [hmu.out, iterPos_of (keepIt (HB2.out.block (G + 1) hI1) hk1.out 5 (.int .i64 (numP s1).1))]; omega
            · go_wp2_with (first
                | (go_at_call 28; refine HF.out.mono ?_; rintro e w' ⟨rfl, rfl⟩)
                | (go_at_call 23; refine HN.out.mono ?_; rintro e w2 ⟨rfl, HB2⟩; have z0 : w2.cell? ⟨G, 5, none⟩ = some (.int .i64 cm.drive) := (HB2.out.cell hG1).trans (hXG1.out.cell 5); have y0 : w2.frozen? ⟨G, 5, none⟩ = false := (hXG1.out.below HB2.out hG1).free 5)
                | fail)
              go_roundw
              case rel =>
                refine ⟨pos + 1, (numP s1).2, { cm with drive := (numP s1).1 }, a, l, c, by omega, rfl, ?_, (hXG1.out.below HB2.out hG1).set 5 (.int .i64 (numP s1).1), ?_, ?_, ?_⟩
                · exact keepIt (HB2.out.block (G + 1) hI1) hk1.out 5 (.int .i64 (numP s1).1)
                · exact ⟨row_setG (hR1.out.1.below HB2.out) G 5 _ (fun x hx => by have := hR1.out.2 x hx; omega), hR1.out.2⟩
                · exact (hK1.out.under HB2.out).set hGw 5 (.int .i64 (numP s1).1)
                · exact hSt.out.step hgl hgs (by first | exact putL_100 cm s1 | exact hfn.out cm)
              case measure =>
                rw [hmu.out, iterPos_of (keepIt (HB2.out.block (G + 1) hI1) hk1.out 5 (.int .i64 (numP s1).1))]; omega
          · -- letter 107
            have HF : Hid (Calls Tryd.prog 28 #[.pointer (some ⟨G, 0, none⟩), .int .i32 107] W1 fun e w' => e = .returned (.tuple #[.pointer none, .pointer (some ⟨G, 6, none⟩), .pointer none]) ∧ w' = W1) := fieldW G 107 (by decide) W1
            have HN := Lib.hid (numberW s1 W1 HE1.out hs1)
            cases b
            · go_wp2_with (first
                | (go_at_call 28; refine HF.out.mono ?_; rintro e w' ⟨rfl, rfl⟩)
                | (go_at_call 23; refine HN.out.mono ?_; rintro e w2 ⟨rfl, HB2⟩; have z0 : w2.cell? ⟨G, 6, none⟩ = some (.int .i64 cm.keep) := (HB2.out.cell hG1).trans (hXG1.out.cell 6); have y0 : w2.frozen? ⟨G, 6, none⟩ = false := (hXG1.out.below HB2.out hG1).free 6)
                | fail)
              go_roundw
              case rel =>
                refine ⟨pos + 1, false, { cm with keep := (numP s1).1 }, a, l, c, by omega, rfl, ?_, (hXG1.out.below HB2.out hG1).set 6 (.int .i64 (numP s1).1), ?_, ?_, ?_⟩
                · exact keepIt (HB2.out.block (G + 1) hI1) hk1.out 6 (.int .i64 (numP s1).1)
                · exact ⟨row_setG (hR1.out.1.below HB2.out) G 6 _ (fun x hx => by have := hR1.out.2 x hx; omega), hR1.out.2⟩
                · exact (hK1.out.under HB2.out).set hGw 6 (.int .i64 (numP s1).1)
                · exact hSt.out.dead
              case measure =>
                rw [hmu.out, iterPos_of (keepIt (HB2.out.block (G + 1) hI1) hk1.out 6 (.int .i64 (numP s1).1))]; omega
            · go_wp2_with (first
                | (go_at_call 28; refine HF.out.mono ?_; rintro e w' ⟨rfl, rfl⟩)
                | (go_at_call 23; refine HN.out.mono ?_; rintro e w2 ⟨rfl, HB2⟩; have z0 : w2.cell? ⟨G, 6, none⟩ = some (.int .i64 cm.keep) := (HB2.out.cell hG1).trans (hXG1.out.cell 6); have y0 : w2.frozen? ⟨G, 6, none⟩ = false := (hXG1.out.below HB2.out hG1).free 6)
                | fail)
              go_roundw
              case rel =>
                refine ⟨pos + 1, (numP s1).2, { cm with keep := (numP s1).1 }, a, l, c, by omega, rfl, ?_, (hXG1.out.below HB2.out hG1).set 6 (.int .i64 (numP s1).1), ?_, ?_, ?_⟩
                · exact keepIt (HB2.out.block (G + 1) hI1) hk1.out 6 (.int .i64 (numP s1).1)
                · exact ⟨row_setG (hR1.out.1.below HB2.out) G 6 _ (fun x hx => by have := hR1.out.2 x hx; omega), hR1.out.2⟩
                · exact (hK1.out.under HB2.out).set hGw 6 (.int .i64 (numP s1).1)
                · exact hSt.out.step hgl hgs (by first | exact putL_107 cm s1 | exact hfn.out cm)
              case measure =>
                rw [hmu.out, iterPos_of (keepIt (HB2.out.block (G + 1) hI1) hk1.out 6 (.int .i64 (numP s1).1))]; omega
          · -- letter 120
            have HF : Hid (Calls Tryd.prog 28 #[.pointer (some ⟨G, 0, none⟩), .int .i32 120] W1 fun e w' => e = .returned (.tuple #[.pointer none, .pointer none, .pointer (some ⟨G, 7, none⟩)]) ∧ w' = W1) := fieldW G 120 (by decide) W1
            have HN := Lib.hid (unhexAny s1 W1 hs1)
            cases b
            · go_wp2_with (first
                | (go_at_call 28; refine HF.out.mono ?_; rintro e w' ⟨rfl, rfl⟩)
                | (go_at_call 24; refine HN.out.mono ?_; rintro e w2 ⟨a2, l2, c2, xs2, fine, rfl, hfn, HN2⟩; have HB2 := Lib.hid HN2.out.below; have z0 : w2.cell? ⟨G, 7, none⟩ = some (.slice a l c) := (HB2.out.cell hG1).trans (hXG1.out.cell 7); have y0 : w2.frozen? ⟨G, 7, none⟩ = false := (hXG1.out.below HB2.out hG1).free 7)
                | fail)
              go_roundw
              case rel =>
                refine ⟨pos + 1, false, { cm with data := xs2 }, a2, l2, c2, by omega, rfl, ?_, (hXG1.out.below HB2.out hG1).set 7 (.slice a2 l2 c2), ?_, ?_, ?_⟩
                · exact keepIt (HB2.out.block (G + 1) hI1) hk1.out 7 (.slice a2 l2 c2)
                · exact ⟨row_setG HN2.out.row G 7 _ (fun x hx => by have := (HN2.out.new x hx).1; omega), fun x hx => by have := (HN2.out.new x hx).1; omega⟩
                · exact (hK1.out.under HB2.out).set hGw 7 (.slice a2 l2 c2)
                · exact hSt.out.dead
              case measure =>
                rw [hmu.out, iterPos_of (keepIt (HB2.out.block (G + 1) hI1) hk1.out 7 (.slice a2 l2 c2))]; omega
            · go_wp2_with (first
                | (go_at_call 28; refine HF.out.mono ?_; rintro e w' ⟨rfl, rfl⟩)
                | (go_at_call 24; refine HN.out.mono ?_; rintro e w2 ⟨a2, l2, c2, xs2, fine, rfl, hfn, HN2⟩; have HB2 := Lib.hid HN2.out.below; have z0 : w2.cell? ⟨G, 7, none⟩ = some (.slice a l c) := (HB2.out.cell hG1).trans (hXG1.out.cell 7); have y0 : w2.frozen? ⟨G, 7, none⟩ = false := (hXG1.out.below HB2.out hG1).free 7)
                | fail)
              go_roundw
              case rel =>
                refine ⟨pos + 1, fine, { cm with data := xs2 }, a2, l2, c2, by omega, rfl, ?_, (hXG1.out.below HB2.out hG1).set 7 (.slice a2 l2 c2), ?_, ?_, ?_⟩
                · exact keepIt (HB2.out.block (G + 1) hI1) hk1.out 7 (.slice a2 l2 c2)
                · exact ⟨row_setG HN2.out.row G 7 _ (fun x hx => by have := (HN2.out.new x hx).1; omega), fun x hx => by have := (HN2.out.new x hx).1; omega⟩
                · exact (hK1.out.under HB2.out).set hGw 7 (.slice a2 l2 c2)
                · exact hSt.out.step hgl hgs (by first | exact putL_120 cm s1 | exact hfn.out cm)
              case measure =>
                rw [hmu.out, iterPos_of (keepIt (HB2.out.block (G + 1) hI1) hk1.out 7 (.slice a2 l2 c2))]; omega
          -- (/LETTERS)
        · obtain rfl : pos = ls.length := by omega
          have hnext : ∀ ty, (Instr.next (.pointer (some ⟨G + 1, 0, none⟩)) true ty).run Tryd.prog wr = .ok (.tuple #[.bool false]) wr := fun ty => Lib.run_next_end_at (P := Tryd.prog) wr (G + 1) ⟨ls.toArray⟩ ls.length ty hk0r.out (by rw [hsz]; omega)
          have hres : Hid (readP s = if b then some cm else none) := by
            show _ = _
            rw [hR0.out, if_pos hssl.out]; exact hSt.out.done
          have HX0 := Lib.hid hKr.out.x0
          have HBw := Lib.hid hKr.out.below
          have hGw : w.heap.size + 3 ≤ G := hG3.out
          clear hSt hR0
          cases b with
          | true =>
            go_wp2_with (first
              | (refine wpList_load_box rfl 39 (.tmp 6) rfl G rfl 39 _ hXGr.out _ Tryd.underlying39 rfl (by kernel_rfl) ?_)
              | (refine wpList_store_box rfl 39 (.tmp 2) (.tmp 89) rfl w.heap.size _ rfl rfl 39 _ HX0.out (by kernel_rfl) rfl (by rfl) ?_; intro w9 hb9 hg9; have HB9 := Lib.hid hb9; have HG9 := Lib.hid hg9; clear hb9 hg9)
              | fail)
            refine bodyPost_ret (results_box_tmp Tryd.results13 _ _ w.heap.size _ _ HB9.out _ rfl Tryd.underlying39 rfl (by kernel_rfl)) rfl ?_
            have hblk : ∀ b', b' ≠ w.heap.size → b' < wr.heap.size → w9.heap[b']? = wr.heap[b']? := fun b' h1 h2 => HG9.out.block b' h2 (fun e => h1 (by injection e))
            exact readed_some hres.out (VRow.toRow ((hRr.out.1.toV).keep (fun b' o e _ hlt' => hblk b' (by have := hRr.out.2 _ e; simp at this; omega) hlt')) hRr.out.1.hwf) (HBw.out.grown HG9.out HBw.out.size (fun k' hk' => by injection hk' with hk'; omega))
          | false =>
            go_wp2_with (first
              | (refine wpList_store_box rfl 39 (.tmp 2) (.tmp 88) rfl w.heap.size cmd0 rfl rfl 39 _ HX0.out (by kernel_rfl) rfl (by rfl) ?_; intro w9 hb9 hg9; have HB9 := Lib.hid hb9; have HG9 := Lib.hid hg9; clear hb9 hg9)
              | fail)
            refine bodyPost_ret (results_box_tmp Tryd.results13 _ _ w.heap.size _ _ HB9.out _ rfl Tryd.underlying39 rfl (by kernel_rfl)) rfl ?_
            exact readed_none hres.out (HBw.out.grown HG9.out HBw.out.size (fun k' hk' => by injection hk' with hk'; omega))
    · have hq : ((n : Int) != (ls.length : Int) + 1) = true := by simp; omega
      have hR : Hid (readP s = none) := by show _ = _; rw [hR0.out, if_neg (by have := hn.out; omega)]
      go_quiet (fail)
      go_wp2_with (first
        | (refine wpList_store_box rfl 39 (.tmp 2) (.tmp 33) rfl w.heap.size cmd0 rfl rfl 39 _ (hX3.out.drewN nq) (by kernel_rfl) rfl (by rfl) ?_; intro w4 hb4 hg4; have HB4 := Lib.hid hb4; have HG4 := Lib.hid hg4; clear hb4 hg4)
        | fail)
      refine bodyPost_ret (results_box_tmp Tryd.results13 _ _ w.heap.size _ _ HB4.out _ rfl Tryd.underlying39 rfl (by kernel_rfl)) rfl ?_
      exact readed_none hR.out ((below_drewN hB3.out nq).grown HG4.out hB3.out.size (fun k hk => by injection hk with hk; omega))
end Go.Proofs.YtdonmdiebibabaaDoor
