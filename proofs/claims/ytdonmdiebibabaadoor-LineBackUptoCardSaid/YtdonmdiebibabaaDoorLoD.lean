/- The walk of Show, at a command that has a line. -/
import Derived.Test.YtdonmdiebibabaaDoorLoC
import Derived.Test.YtdonmdiebibabaaDoorLnF
import Derived.Lib.OthersKept
namespace Go.Proofs.YtdonmdiebibabaaDoor
open Go.RowKit Go.Sort
set_option linter.unusedVariables false
set_option maxRecDepth 100000
set_option linter.unusedSimpArgs false

theorem SOwn.notIter {α : Type} {L : Lay α} {w : World} {base : Nat} {e : TypeId} {G : Nat → Prop} {a : Option Addr} {len cap : Nat} {xs : List α} (h : SOwn L w base e G a len cap xs) {k p : Nat} {s : ByteArray} (hk : w.heap[k]? = some (.stringIter s p)) : (Value.slice a len cap).ownBlock ≠ some k := by
  obtain ⟨hl, vss, F, ho, hp, hF⟩ := h
  rcases ho.2 with h0 | ⟨g, c, cur, hv, hbg, hg, r⟩
  · rw [show Value.slice a len cap = .slice none 0 0 from h0.1]; simp [Value.ownBlock]
  · intro e
    rw [hv] at e
    have : g = k := by simpa [Value.ownBlock] using e
    subst this
    rw [hg] at hk
    cases hk
theorem SOwn.iter {α : Type} {L : Lay α} {w : World} {base : Nat} {e : TypeId} {a : Option Addr} {len cap : Nat} {xs : List α} (h : SOwn L w base e (fun _ => False) a len cap xs) {k p : Nat} {s : ByteArray} (hk : w.heap[k]? = some (.stringIter s p)) (p' : Nat) : SOwn L (w.iterAt k s p') base e (fun _ => False) a len cap xs := by
  have hne := h.notIter hk
  obtain ⟨hl, vss, F, ho, hp, hF⟩ := h
  refine ⟨hl, vss, F, ⟨ho.1, ?_⟩, hp.keep (fun b hb => hb) (fun b hb _ => (hF b hb).1.elim), fun b hb => (hF b hb).1.elim⟩
  rcases ho.2 with h0 | ⟨g, c, cur, hv, hbg, hg, r⟩
  · exact .inl h0
  · refine .inr ⟨g, c, cur, hv, hbg, ?_, r⟩
    rw [Lib.iterAt_other w k g s p' (fun e => hne (by rw [hv, e]; rfl))]
    exact hg
theorem name_short {n : Nm} (h : nameOk n = true) : n.length ≤ 8 := by
  unfold nameOk at h
  simp only [Bool.and_eq_true, decide_eq_true_eq] at h
  exact h.2.2
theorem showL_cons {x : UInt8} {xs : Nm} {cm e : Cmd} {rest : List Nm} (h : showL (x :: xs) cm = some (rest, e)) : okL x cm = true ∧ ∃ r2, rest = getL x cm :: r2 ∧ showL xs (clrL x cm) = some (r2, e) := by
  simp only [showL] at h
  split at h
  · rename_i ho
    split at h
    · rename_i q hq
      obtain ⟨q1, q2⟩ := q
      obtain ⟨rfl, rfl⟩ := Prod.mk.inj (Option.some.inj h)
      exact ⟨ho, q1, rfl, hq⟩
    · cases h
  · cases h
theorem showL_at {x : UInt8} {ls : Nm} {pos : Nat} {cm e : Cmd} {rest : List Nm} (h : showL (ls.drop pos) cm = some (rest, e)) (hx : ls[pos]? = some x) : okL x cm = true ∧ ∃ r2, rest = getL x cm :: r2 ∧ showL (ls.drop (pos + 1)) (clrL x cm) = some (r2, e) := by
  obtain ⟨h1, h2⟩ := List.getElem?_eq_some_iff.1 hx
  rw [List.drop_eq_getElem_cons h1, h2] at h
  exact showL_cons h
theorem show_step110 {ls : Nm} {pos : Nat} {cm e : Cmd} {rest : List Nm} (h : showL (ls.drop pos) cm = some (rest, e)) (hx : ls[pos]? = some 110) : nameOk cm.name = true ∧ ∃ r2, rest = cm.name :: r2 ∧ showL (ls.drop (pos + 1)) { cm with name := [] } = some (r2, e) := showL_at h hx
theorem show_step111 {ls : Nm} {pos : Nat} {cm e : Cmd} {rest : List Nm} (h : showL (ls.drop pos) cm = some (rest, e)) (hx : ls[pos]? = some 111) : nameOk cm.other = true ∧ ∃ r2, rest = cm.other :: r2 ∧ showL (ls.drop (pos + 1)) { cm with other := [] } = some (r2, e) := showL_at h hx
theorem show_step102 {ls : Nm} {pos : Nat} {cm e : Cmd} {rest : List Nm} (h : showL (ls.drop pos) cm = some (rest, e)) (hx : ls[pos]? = some 102) : ∃ r2, rest = Lib.itoa cm.off :: r2 ∧ showL (ls.drop (pos + 1)) { cm with off := 0 } = some (r2, e) := (showL_at h hx).2
theorem show_step99 {ls : Nm} {pos : Nat} {cm e : Cmd} {rest : List Nm} (h : showL (ls.drop pos) cm = some (rest, e)) (hx : ls[pos]? = some 99) : ∃ r2, rest = Lib.itoa cm.count :: r2 ∧ showL (ls.drop (pos + 1)) { cm with count := 0 } = some (r2, e) := (showL_at h hx).2
theorem show_step100 {ls : Nm} {pos : Nat} {cm e : Cmd} {rest : List Nm} (h : showL (ls.drop pos) cm = some (rest, e)) (hx : ls[pos]? = some 100) : ∃ r2, rest = Lib.itoa cm.drive :: r2 ∧ showL (ls.drop (pos + 1)) { cm with drive := 0 } = some (r2, e) := (showL_at h hx).2
theorem show_step107 {ls : Nm} {pos : Nat} {cm e : Cmd} {rest : List Nm} (h : showL (ls.drop pos) cm = some (rest, e)) (hx : ls[pos]? = some 107) : ∃ r2, rest = Lib.itoa cm.keep :: r2 ∧ showL (ls.drop (pos + 1)) { cm with keep := 0 } = some (r2, e) := (showL_at h hx).2
theorem show_step120 {ls : Nm} {pos : Nat} {cm e : Cmd} {rest : List Nm} (h : showL (ls.drop pos) cm = some (rest, e)) (hx : ls[pos]? = some 120) : ∃ r2, rest = hexP cm.data :: r2 ∧ showL (ls.drop (pos + 1)) { cm with data := [] } = some (r2, e) := (showL_at h hx).2
theorem clr_wf110 {cm : Cmd} (h : cm.Wf) : Cmd.Wf { cm with name := [] } := clrL_wf 110 h
theorem clr_wf111 {cm : Cmd} (h : cm.Wf) : Cmd.Wf { cm with other := [] } := clrL_wf 111 h
theorem clr_wf102 {cm : Cmd} (h : cm.Wf) : Cmd.Wf { cm with off := 0 } := clrL_wf 102 h
theorem clr_wf99 {cm : Cmd} (h : cm.Wf) : Cmd.Wf { cm with count := 0 } := clrL_wf 99 h
theorem clr_wf100 {cm : Cmd} (h : cm.Wf) : Cmd.Wf { cm with drive := 0 } := clrL_wf 100 h
theorem clr_wf107 {cm : Cmd} (h : cm.Wf) : Cmd.Wf { cm with keep := 0 } := clrL_wf 107 h
theorem clr_wf120 {cm : Cmd} (h : cm.Wf) : Cmd.Wf { cm with data := [] } := clrL_wf 120 h
theorem showL_len {ls : Nm} {c e : Cmd} {ps : List Nm} {l0 : Nat} (hl : l0 ≤ 2000000) (hd : c.data.length = l0) (hw : c.Wf) (h : showL ls c = some (ps, e)) : ∀ x ∈ ps, x.length ≤ 5000000 := by
  induction ls generalizing c ps l0 with
  | nil => simp only [showL] at h; obtain ⟨rfl, rfl⟩ := Prod.mk.inj (Option.some.inj h); intro x hx; cases hx
  | cons y ys ih =>
    obtain ⟨ho, r2, rfl, h2⟩ := showL_cons h
    intro x hx
    rcases List.mem_cons.1 hx with rfl | hx
    · unfold getL
      unfold okL at ho
      repeat' split
      · rename_i e; rw [if_pos e] at ho; have := name_short ho; omega
      · rename_i e1 e2; rw [if_neg e1, if_pos e2] at ho; have := name_short ho; omega
      · have := itoa_len c.off hw.1.1 hw.1.2; omega
      · have := itoa_len c.count hw.2.1 hw.2.2; omega
      · have := itoa_len c.drive hw.3.1 hw.3.2; omega
      · have := itoa_len c.keep hw.4.1 hw.4.2; omega
      · unfold hexP
        split
        · simp
        · rw [pairs_length, hd]; omega
    · have hd2 : (clrL y c).data.length ≤ l0 := by
        show (if y = 120 then [] else c.data).length ≤ l0
        split
        · simp
        · omega
      exact ih (l0 := (clrL y c).data.length) (by omega) rfl (clrL_wf y hw) h2 x hx
set_option maxHeartbeats 8000000 in
theorem showW (c : Cmd) (a0 : Option Addr) (l0 k0 : Nat) (s : Nm) (w : World) (hE : EnvX w) (hs : Shows c s) (hwf : c.Wf) (hr : Row .u8 w a0 l0 k0 c.data) (hl : l0 ≤ 2000000) :
    Calls Tryd.prog 12 #[.agg (c.cells a0 l0 k0)] w fun e w' => e = .returned (.tuple #[encStr s, .int .i64 0]) ∧ Hid (Below w.heap.size w w') := by
  obtain ⟨ps, hk1, hk2, hsl, rfl⟩ := hs
  obtain ⟨k, hk⟩ : ∃ k, k = (c.kind - 1).toNat := ⟨_, rfl⟩
  rw [← hk] at hsl ⊢
  have hkk : c.kind = (k : Int) + 1 := by omega
  have hk19 : k < 19 := by omega
  obtain ⟨ls, hls⟩ : ∃ ls, Hid (lettersOf k = ls) := ⟨_, rfl⟩
  obtain ⟨wd, hwd⟩ : ∃ wd, Hid (wordOf k = wd) := ⟨_, rfl⟩
  rw [hls.out] at hsl
  rw [hwd.out]
  have hLL : Hid (∀ x ∈ ls, x ∈ lettersAll) := by rw [← hls.out]; exact (words_ok ⟨k, hk19⟩).1
  have hLlen : ls.length ≤ 4 := by
    rw [← hls.out]
    have h4 : ∀ k : Fin 19, (lettersOf k.val).length ≤ 4 := by decide
    exact h4 ⟨k, hk19⟩
  have hwdl : Hid (wd.length ≤ 9) := by
    show _ ≤ _
    rw [← hwd.out]
    have h4 : ∀ k : Fin 19, (wordOf k.val).length ≤ 9 := by decide
    exact h4 ⟨k, hk19⟩
  have hsl0 := Lib.hid hsl
  have HE := Lib.hid hE
  have HR := Lib.hid hr
  have HW := Lib.hid hwf
  have hq1 : ¬ ((k : Int) + 1 < 1) := by omega
  have hq2 : ¬ (19 < (k : Int) + 1) := by omega
  have hq3 : IntKind.i64.wrap ((k : Int) + 1 - 1) = (k : Int) := by rw [IntWalk.i64_in _ (by omega)]; omega
  have hq4 : (0 : Int) ≤ (k : Int) := by omega
  have hq5 : (k : Int) < 19 := by omega
  clear hsl hE hr hk hk1 hk2 hwf
  obtain ⟨W0, hW0⟩ : ∃ W0, W0 = w.alloc (.cells (c.cells a0 l0 k0) 39) := ⟨_, rfl⟩
  have hX0 : Hid (Box W0 w.heap.size (c.cells a0 l0 k0) 39) := by rw [hW0]; exact Box.new rfl
  have hB0 : Hid (Below w.heap.size w W0) := by rw [hW0]; exact Below_alloc1 _
  have hS0 : Hid (W0.heap.size = w.heap.size + 1) := by show _ = _; rw [hW0]; simp
  have c0 : W0.cell? ⟨w.heap.size, 0, none⟩ = some (.int .i64 ((k : Int) + 1)) := by rw [← hkk]; exact hX0.out.cell 0
  have d0 : W0.cell? ⟨0, k * 2, none⟩ = some (encStr wd) := by
    have := ((HE.out.below hB0.out).word hk19).1
    rw [hwd.out, Nat.mul_comm] at this; exact this
  have d1 : W0.cell? ⟨0, k * 2 + 1, none⟩ = some (encStr ls) := by
    have := ((HE.out.below hB0.out).word hk19).2
    rw [hls.out, Nat.mul_comm] at this; exact this
  go_enter Tryd.func12, Tryd.ntmps12
  go_upto_region 1 with fail
  rw [← hW0]
  clear hW0
  go_upto_region 4 with fail
  rw [hS0.out]
  obtain ⟨W1, hW1⟩ : ∃ W1, W1 = W0.alloc (.cells #[encStr wd, encStr ls] 58) := ⟨_, rfl⟩
  have hB1 : Hid (Below W0.heap.size W0 W1) := by rw [hW1]; exact Below_alloc1 _
  have hX1 : Hid (Box W1 w.heap.size (c.cells a0 l0 k0) 39) := hX0.out.below hB1.out hX0.out.lt
  have hY1 : Hid (Box W1 (w.heap.size + 1) #[encStr wd, encStr ls] 58) := by rw [hW1]; exact Box.new hS0.out.symm
  have hS1 : Hid (W1.heap.size = w.heap.size + 2) := by show _ = _; rw [hW1]; simp [hS0.out]
  have hBB1 : Hid (Below w.heap.size w W1) := hB0.out.trans (hB1.out.mono hB0.out.size)
  rw [← hW1]
  clear hW1 hB1 hX0 hB0 hS0 c0 d0 d1
  have e0 : W1.cell? ⟨w.heap.size + 1, 0, none⟩ = some (encStr wd) := hY1.out.cell 0
  have e1 : W1.cell? ⟨w.heap.size + 1, 1, none⟩ = some (encStr ls) := hY1.out.cell 1
  go_upto_region 5 with fail
  rw [hS1.out]
  obtain ⟨W2, hW2⟩ : ∃ W2, W2 = W1.alloc (.cells #[encStr wd] 9) := ⟨_, rfl⟩
  have hB2 : Hid (Below W1.heap.size W1 W2) := by rw [hW2]; exact Below_alloc1 _
  have hX2 : Hid (Box W2 w.heap.size (c.cells a0 l0 k0) 39) := hX1.out.below hB2.out hX1.out.lt
  have hY2 : Hid (Box W2 (w.heap.size + 1) #[encStr wd, encStr ls] 58) := hY1.out.below hB2.out hY1.out.lt
  have hO2 : Hid (SOwn strL W2 (w.heap.size + 2) 9 (fun _ => False) (some ⟨w.heap.size + 2, 0, none⟩) 1 1 [wd]) := litOwn [wd] (by rw [hW2]; exact Box.new hS1.out.symm) (by simp)
  have hS2 : Hid (W2.heap.size = w.heap.size + 3) := by show _ = _; rw [hW2]; simp [hS1.out]
  have hBB2 : Hid (Below w.heap.size w W2) := hBB1.out.trans (hB2.out.mono hBB1.out.size)
  rw [← hW2]
  clear hW2 hB2 hX1 hBB1 hS1 e0 e1 hY1
  have e1 : W2.cell? ⟨w.heap.size + 1, 1, none⟩ = some (encStr ls) := hY2.out.cell 1
  have hI3 : Hid ((W2.iter ⟨ls.toArray⟩ 0).heap[w.heap.size + 3]? = some (.stringIter ⟨ls.toArray⟩ 0)) := by
    have := World.iter_heap W2 ⟨ls.toArray⟩ 0
    rw [hS2.out] at this; exact this
  have hB3 : Hid (Below W2.heap.size W2 (W2.iter ⟨ls.toArray⟩ 0)) := Below_alloc1 _
  have hX3 : Hid (Box (W2.iter ⟨ls.toArray⟩ 0) w.heap.size (c.cells a0 l0 k0) 39) := hX2.out.below hB3.out hX2.out.lt
  have hO3 : Hid (SOwn strL (W2.iter ⟨ls.toArray⟩ 0) (w.heap.size + 2) 9 (fun _ => False) (some ⟨w.heap.size + 2, 0, none⟩) 1 1 [wd]) := hO2.out.below hB3.out
  have hBB3 : Hid (Below w.heap.size w (W2.iter ⟨ls.toArray⟩ 0)) := hBB2.out.trans (hB3.out.mono hBB2.out.size)
  clear hX2 hY2 hO2 hBB2 hB3
  go_wp2_with fail
  rw [hS2.out]
  obtain ⟨w7, hw7⟩ : ∃ w7, w7 = W2.iter ⟨ls.toArray⟩ 0 := ⟨_, rfl⟩
  have hw7' : W2.iter ⟨ls.toArray⟩ 0 = w7 := hw7.symm
  rw [hw7'] at hI3 hX3 hO3 hBB3
  try rw [hw7']
  clear hw7 hw7' hS2 e1
  go_loopw [5] (fun v5 wr => ∃ (pos : Nat) (done rest : List Nm) (cm : Cmd) (a : Option Addr) (l kk : Nat) (a5 : Option Addr) (l5 c5 : Nat), pos ≤ ls.length ∧ v5 = .slice a5 l5 c5 ∧ l5 ≤ pos + 1 ∧ l ≤ 2000000 ∧ Hid (wr.heap[w.heap.size + 3]? = some (.stringIter ⟨ls.toArray⟩ pos)) ∧ Hid (Box wr w.heap.size (cm.cells a l kk) 39) ∧ Hid (Row .u8 w a l kk cm.data ∧ True) ∧ Hid (SOwn strL wr (w.heap.size + 2) 9 (fun _ => False) a5 l5 c5 done) ∧ Hid (Below w.heap.size w wr) ∧ Hid (showL (ls.drop pos) cm = some (rest, .mt c.kind) ∧ done ++ rest = wd :: ps ∧ cm.Wf)) (fun _ wr => ls.length - wr.iterPos (w.heap.size + 3))
  case atStart => exact ⟨0, [wd], ps, c, a0, l0, k0, _, 1, 1, by omega, rfl, by omega, hl, hI3, hX3, ⟨HR.out, trivial⟩, hO3, hBB3, hsl0.out, rfl, HW.out⟩
  case round =>
    obtain ⟨pos, done, rest, cm, a, l, kk, a5, l5, c5, hp, rfl, hl5, hll, hk0r, hXGr, hR0, hOr, hBr, hsh⟩ := hrel
    clear hI3 hX3 hO3 hBB3
    have hsz : (⟨ls.toArray⟩ : ByteArray).size = ls.length := strLen ls
    by_cases hlt : pos < ls.length
    · obtain ⟨x, hx⟩ : ∃ x, ls[pos]? = some x := ⟨_, List.getElem?_eq_getElem hlt⟩
      have hxm := hLL.out x (List.mem_of_getElem? hx)
      have hgl := Lib.hid hx
      have h128 : x.toNat < 128 := by
        have h7 : ∀ x ∈ lettersAll, x.toNat < 128 := by decide
        exact h7 x hxm
      have hat : (⟨ls.toArray⟩ : ByteArray)[pos]'(by rw [hsz]; exact hlt) = x := by
        obtain ⟨h1, h2⟩ := List.getElem?_eq_some_iff.1 hx
        exact h2
      have hnext : ∀ ty, (Instr.next (.pointer (some ⟨w.heap.size + 3, 0, none⟩)) true ty).run Tryd.prog wr = .ok (.tuple #[.bool true, .int .i64 (pos : Int), .int .i32 (x.toNat : Int)]) (wr.iterAt (w.heap.size + 3) ⟨ls.toArray⟩ (pos + 1)) := fun ty => by
        have h1 := Lib.run_next_ascii_at (P := Tryd.prog) wr (w.heap.size + 3) ⟨ls.toArray⟩ pos ty hk0r.out (by rw [hsz]; exact hlt) (by rw [hat]; exact h128)
        rw [hat] at h1; exact h1
      have hmu : Hid (wr.iterPos (w.heap.size + 3) = pos) := iterPos_of hk0r.out
      have hk1 : Hid ((wr.iterAt (w.heap.size + 3) ⟨ls.toArray⟩ (pos + 1)).heap[w.heap.size + 3]? = some (.stringIter ⟨ls.toArray⟩ (pos + 1))) := Lib.iterAt_heap wr (w.heap.size + 3) _ pos (pos + 1) hk0r.out
      have hXG1 : Hid (Box (wr.iterAt (w.heap.size + 3) ⟨ls.toArray⟩ (pos + 1)) w.heap.size (cm.cells a l kk) 39) := (Lib.iterAt_other wr (w.heap.size + 3) w.heap.size _ _ (by omega)).trans hXGr.out
      have hO1 : Hid (SOwn strL (wr.iterAt (w.heap.size + 3) ⟨ls.toArray⟩ (pos + 1)) (w.heap.size + 2) 9 (fun _ => False) a5 l5 c5 done) := SOwn.iter hOr.out hk0r.out _
      have hB1 : Hid (Below w.heap.size w (wr.iterAt (w.heap.size + 3) ⟨ls.toArray⟩ (pos + 1))) := Lib.below_iterAt hBr.out (by omega) _ _
      obtain ⟨W1, hW1⟩ : ∃ W1, wr.iterAt (w.heap.size + 3) ⟨ls.toArray⟩ (pos + 1) = W1 := ⟨_, rfl⟩
      rw [hW1] at hk1 hXG1 hO1 hB1
      simp only [hW1] at hnext
      clear hW1 hk0r hXGr hOr hBr hx hat
      have hG1 : w.heap.size < W1.heap.size := hXG1.out.lt
      have hI1 : w.heap.size + 3 < W1.heap.size := (Array.getElem?_eq_some_iff.1 hk1.out).1
      have hs1 : w.heap.size + 2 ≤ W1.heap.size := by omega
      have HE1 : Hid (EnvX W1) := HE.out.below hB1.out
      have hR1 : Hid (Row .u8 W1 a l kk cm.data ∧ True) := ⟨hR0.out.1.below hB1.out, trivial⟩
      simp only [lettersAll, List.mem_cons, List.mem_nil_iff, or_false] at hxm
      rcases hxm with rfl | rfl | rfl | rfl | rfl | rfl | rfl
      -- (LETTERS)
      · -- letter 110
        have HF : Hid (Calls Tryd.prog 28 #[.pointer (some ⟨w.heap.size, 0, none⟩), .int .i32 110] W1 fun e w' => e = .returned (.tuple #[.pointer (some ⟨w.heap.size, 1, none⟩), .pointer none, .pointer none]) ∧ w' = W1) := fieldW w.heap.size 110 (by decide) W1
        have x0 : W1.cell? ⟨w.heap.size, 1, none⟩ = some (encStr cm.name) := hXG1.out.cell 1
        obtain ⟨hok, rest2, hrest, hsh2⟩ := show_step110 hsh.out.1 hgl.out
        have HN0 := nameW cm.name W1 (by have := name_short hok; omega)
        rw [hok] at HN0
        have HN := Lib.hid HN0
        clear HN0 hok
        have HSH2 := Lib.hid hsh2
        have HRE : Hid (done ++ [cm.name] ++ rest2 = wd :: ps) := by show _ = _; rw [← hsh.out.2.1, hrest]; simp
        have HWF : Hid (Cmd.Wf { cm with name := [] }) := clr_wf110 hsh.out.2.2
        clear hsh2 hrest
        have HYY : Hid (∀ wz, strL.at_ wz (fun _ => False) (cm.name) (#[encStr (cm.name)] : Array Value).toList) := fun wz => rfl
        go_wp2_with (first
          | (go_at_call 28; refine HF.out.mono ?_; rintro e w' ⟨rfl, hw⟩; have hw := hw.symm; subst hw)
          | (go_at_call 17; refine HN.out.mono ?_; rintro e w2 ⟨rfl, hb2⟩; have HB2 : Hid (Below W1.heap.size W1 w2) := hb2; have HX2 : Hid (Box w2 w.heap.size (cm.cells a l kk) 39) := hXG1.out.below HB2.out hG1; have z2 : w2.cell? ⟨w.heap.size, 1, none⟩ = some (encStr cm.name) := HX2.out.cell 1; have HO2 : Hid (SOwn strL w2 (w.heap.size + 2) 9 (fun _ => False) a5 l5 c5 done) := hO1.out.below HB2.out; have hs2 : w.heap.size + 2 ≤ w2.heap.size := Nat.le_trans hs1 HB2.out.size; have HI2 : Hid (w2.heap[w.heap.size + 3]? = some (.stringIter ⟨ls.toArray⟩ (pos + 1))) := (HB2.out.block _ hI1).trans hk1.out; clear hb2)
          | (at_builtin; refine wpList_append_one (L := strL) (wr := w2) rfl (.tmp 48) (.tmp 52) 26 rfl (w.heap.size + 2) 9 _ 16 Tryd.underlying26 info_strD rfl (fun _ => False) a5 l5 c5 done rfl HO2.out #[encStr (cm.name)] (cm.name) rfl _ (HYY.out w2) (fun b h => h.elim) (by unfold maxLen; omega) (by omega) hs2 ?_; intro a6 c6 w3 hown hgr; have HO3 := Lib.hid hown; have HB3 : Hid (Below w.heap.size w w3) := SOwn.grown HO2.out (hB1.out.trans (HB2.out.mono hB1.out.size)) (by omega) (by omega) hgr; have HX3 : Hid (Box w3 w.heap.size (cm.cells a l kk) 39) := (hgr.block w.heap.size (by omega) (fun e => by have := (SOwn.lt HO2.out _ e.symm).1; omega)).trans HX2.out; have HI3 : Hid (w3.heap[w.heap.size + 3]? = some (.stringIter ⟨ls.toArray⟩ (pos + 1))) := (hgr.block _ (Array.getElem?_eq_some_iff.1 HI2.out).1 (fun e => HO2.out.notIter HI2.out e.symm)).trans HI2.out; have z3 : w3.cell? ⟨w.heap.size, 1, none⟩ = some (encStr cm.name) := HX3.out.cell 1; have y3 : w3.frozen? ⟨w.heap.size, 1, none⟩ = false := HX3.out.free 1; clear hown hgr)
          | fail)
        go_roundw
        case rel =>
          refine ⟨pos + 1, done ++ [cm.name], rest2, { cm with name := [] }, a, l, kk, a6, l5 + 1, c6, by omega, rfl, by omega, by omega, ?_, HX3.out.set 1 (encStr []), ?_, ?_, ?_, HSH2.out, HRE.out, HWF.out⟩
          · exact (Below.heap_setCell _ _ _ _ (by show w.heap.size + 3 ≠ w.heap.size; omega)).trans HI3.out
          · exact ⟨hR0.out.1, hR0.out.2⟩
          · exact SOwn.keep HO3.out (by simp [World.setCell]) (fun b _ hb => Below.heap_setCell _ _ _ _ (by show b ≠ w.heap.size; rcases hb with hb | hb; exact hb.elim; omega))
          · exact below_setG HB3.out w.heap.size (Nat.le_refl _) 1 _
        case measure =>
          rw [hmu.out, iterPos_of ((Below.heap_setCell _ _ _ _ (by show w.heap.size + 3 ≠ w.heap.size; omega)).trans HI3.out)]; omega
      · -- letter 111
        have HF : Hid (Calls Tryd.prog 28 #[.pointer (some ⟨w.heap.size, 0, none⟩), .int .i32 111] W1 fun e w' => e = .returned (.tuple #[.pointer (some ⟨w.heap.size, 2, none⟩), .pointer none, .pointer none]) ∧ w' = W1) := fieldW w.heap.size 111 (by decide) W1
        have x0 : W1.cell? ⟨w.heap.size, 2, none⟩ = some (encStr cm.other) := hXG1.out.cell 2
        obtain ⟨hok, rest2, hrest, hsh2⟩ := show_step111 hsh.out.1 hgl.out
        have HN0 := nameW cm.other W1 (by have := name_short hok; omega)
        rw [hok] at HN0
        have HN := Lib.hid HN0
        clear HN0 hok
        have HSH2 := Lib.hid hsh2
        have HRE : Hid (done ++ [cm.other] ++ rest2 = wd :: ps) := by show _ = _; rw [← hsh.out.2.1, hrest]; simp
        have HWF : Hid (Cmd.Wf { cm with other := [] }) := clr_wf111 hsh.out.2.2
        clear hsh2 hrest
        have HYY : Hid (∀ wz, strL.at_ wz (fun _ => False) (cm.other) (#[encStr (cm.other)] : Array Value).toList) := fun wz => rfl
        go_wp2_with (first
          | (go_at_call 28; refine HF.out.mono ?_; rintro e w' ⟨rfl, hw⟩; have hw := hw.symm; subst hw)
          | (go_at_call 17; refine HN.out.mono ?_; rintro e w2 ⟨rfl, hb2⟩; have HB2 : Hid (Below W1.heap.size W1 w2) := hb2; have HX2 : Hid (Box w2 w.heap.size (cm.cells a l kk) 39) := hXG1.out.below HB2.out hG1; have z2 : w2.cell? ⟨w.heap.size, 2, none⟩ = some (encStr cm.other) := HX2.out.cell 2; have HO2 : Hid (SOwn strL w2 (w.heap.size + 2) 9 (fun _ => False) a5 l5 c5 done) := hO1.out.below HB2.out; have hs2 : w.heap.size + 2 ≤ w2.heap.size := Nat.le_trans hs1 HB2.out.size; have HI2 : Hid (w2.heap[w.heap.size + 3]? = some (.stringIter ⟨ls.toArray⟩ (pos + 1))) := (HB2.out.block _ hI1).trans hk1.out; clear hb2)
          | (at_builtin; refine wpList_append_one (L := strL) (wr := w2) rfl (.tmp 48) (.tmp 52) 26 rfl (w.heap.size + 2) 9 _ 16 Tryd.underlying26 info_strD rfl (fun _ => False) a5 l5 c5 done rfl HO2.out #[encStr (cm.other)] (cm.other) rfl _ (HYY.out w2) (fun b h => h.elim) (by unfold maxLen; omega) (by omega) hs2 ?_; intro a6 c6 w3 hown hgr; have HO3 := Lib.hid hown; have HB3 : Hid (Below w.heap.size w w3) := SOwn.grown HO2.out (hB1.out.trans (HB2.out.mono hB1.out.size)) (by omega) (by omega) hgr; have HX3 : Hid (Box w3 w.heap.size (cm.cells a l kk) 39) := (hgr.block w.heap.size (by omega) (fun e => by have := (SOwn.lt HO2.out _ e.symm).1; omega)).trans HX2.out; have HI3 : Hid (w3.heap[w.heap.size + 3]? = some (.stringIter ⟨ls.toArray⟩ (pos + 1))) := (hgr.block _ (Array.getElem?_eq_some_iff.1 HI2.out).1 (fun e => HO2.out.notIter HI2.out e.symm)).trans HI2.out; have z3 : w3.cell? ⟨w.heap.size, 2, none⟩ = some (encStr cm.other) := HX3.out.cell 2; have y3 : w3.frozen? ⟨w.heap.size, 2, none⟩ = false := HX3.out.free 2; clear hown hgr)
          | fail)
        go_roundw
        case rel =>
          refine ⟨pos + 1, done ++ [cm.other], rest2, { cm with other := [] }, a, l, kk, a6, l5 + 1, c6, by omega, rfl, by omega, by omega, ?_, HX3.out.set 2 (encStr []), ?_, ?_, ?_, HSH2.out, HRE.out, HWF.out⟩
          · exact (Below.heap_setCell _ _ _ _ (by show w.heap.size + 3 ≠ w.heap.size; omega)).trans HI3.out
          · exact ⟨hR0.out.1, hR0.out.2⟩
          · exact SOwn.keep HO3.out (by simp [World.setCell]) (fun b _ hb => Below.heap_setCell _ _ _ _ (by show b ≠ w.heap.size; rcases hb with hb | hb; exact hb.elim; omega))
          · exact below_setG HB3.out w.heap.size (Nat.le_refl _) 2 _
        case measure =>
          rw [hmu.out, iterPos_of ((Below.heap_setCell _ _ _ _ (by show w.heap.size + 3 ≠ w.heap.size; omega)).trans HI3.out)]; omega
      · -- letter 102
        have HF : Hid (Calls Tryd.prog 28 #[.pointer (some ⟨w.heap.size, 0, none⟩), .int .i32 102] W1 fun e w' => e = .returned (.tuple #[.pointer none, .pointer (some ⟨w.heap.size, 3, none⟩), .pointer none]) ∧ w' = W1) := fieldW w.heap.size 102 (by decide) W1
        have x0 : W1.cell? ⟨w.heap.size, 3, none⟩ = some (.int .i64 cm.off) := hXG1.out.cell 3
        obtain ⟨rest2, hrest, hsh2⟩ := show_step102 hsh.out.1 hgl.out
        have HN := Lib.hid (itoaW cm.off hsh.out.2.2.1.1 hsh.out.2.2.1.2 W1 HE1.out.env)
        have HSH2 := Lib.hid hsh2
        have HRE : Hid (done ++ [Lib.itoa cm.off] ++ rest2 = wd :: ps) := by show _ = _; rw [← hsh.out.2.1, hrest]; simp
        have HWF : Hid (Cmd.Wf { cm with off := 0 }) := clr_wf102 hsh.out.2.2
        clear hsh2 hrest
        have HYY : Hid (∀ wz, strL.at_ wz (fun _ => False) (Lib.itoa cm.off) (#[encStr (Lib.itoa cm.off)] : Array Value).toList) := fun wz => rfl
        go_wp2_with (first
          | (go_at_call 28; refine HF.out.mono ?_; rintro e w' ⟨rfl, hw⟩; have hw := hw.symm; subst hw)
          | (go_at_call 19; refine HN.out.mono ?_; rintro e w2 ⟨rfl, hb2⟩; have HB2 : Hid (Below W1.heap.size W1 w2) := hb2.out; have HX2 : Hid (Box w2 w.heap.size (cm.cells a l kk) 39) := hXG1.out.below HB2.out hG1; have z2 : w2.cell? ⟨w.heap.size, 3, none⟩ = some (.int .i64 cm.off) := HX2.out.cell 3; have HO2 : Hid (SOwn strL w2 (w.heap.size + 2) 9 (fun _ => False) a5 l5 c5 done) := hO1.out.below HB2.out; have hs2 : w.heap.size + 2 ≤ w2.heap.size := Nat.le_trans hs1 HB2.out.size; have HI2 : Hid (w2.heap[w.heap.size + 3]? = some (.stringIter ⟨ls.toArray⟩ (pos + 1))) := (HB2.out.block _ hI1).trans hk1.out; clear hb2)
          | (at_builtin; refine wpList_append_one (L := strL) (wr := w2) rfl (.tmp 59) (.tmp 64) 26 rfl (w.heap.size + 2) 9 _ 16 Tryd.underlying26 info_strD rfl (fun _ => False) a5 l5 c5 done rfl HO2.out #[encStr (Lib.itoa cm.off)] (Lib.itoa cm.off) rfl _ (HYY.out w2) (fun b h => h.elim) (by unfold maxLen; omega) (by omega) hs2 ?_; intro a6 c6 w3 hown hgr; have HO3 := Lib.hid hown; have HB3 : Hid (Below w.heap.size w w3) := SOwn.grown HO2.out (hB1.out.trans (HB2.out.mono hB1.out.size)) (by omega) (by omega) hgr; have HX3 : Hid (Box w3 w.heap.size (cm.cells a l kk) 39) := (hgr.block w.heap.size (by omega) (fun e => by have := (SOwn.lt HO2.out _ e.symm).1; omega)).trans HX2.out; have HI3 : Hid (w3.heap[w.heap.size + 3]? = some (.stringIter ⟨ls.toArray⟩ (pos + 1))) := (hgr.block _ (Array.getElem?_eq_some_iff.1 HI2.out).1 (fun e => HO2.out.notIter HI2.out e.symm)).trans HI2.out; have z3 : w3.cell? ⟨w.heap.size, 3, none⟩ = some (.int .i64 cm.off) := HX3.out.cell 3; have y3 : w3.frozen? ⟨w.heap.size, 3, none⟩ = false := HX3.out.free 3; clear hown hgr)
          | fail)
        go_roundw
        case rel =>
          refine ⟨pos + 1, done ++ [Lib.itoa cm.off], rest2, { cm with off := 0 }, a, l, kk, a6, l5 + 1, c6, by omega, rfl, by omega, by omega, ?_, HX3.out.set 3 (.int .i64 0), ?_, ?_, ?_, HSH2.out, HRE.out, HWF.out⟩
          · exact (Below.heap_setCell _ _ _ _ (by show w.heap.size + 3 ≠ w.heap.size; omega)).trans HI3.out
          · exact ⟨hR0.out.1, hR0.out.2⟩
          · exact SOwn.keep HO3.out (by simp [World.setCell]) (fun b _ hb => Below.heap_setCell _ _ _ _ (by show b ≠ w.heap.size; rcases hb with hb | hb; exact hb.elim; omega))
          · exact below_setG HB3.out w.heap.size (Nat.le_refl _) 3 _
        case measure =>
          rw [hmu.out, iterPos_of ((Below.heap_setCell _ _ _ _ (by show w.heap.size + 3 ≠ w.heap.size; omega)).trans HI3.out)]; omega
      · -- letter 99
        have HF : Hid (Calls Tryd.prog 28 #[.pointer (some ⟨w.heap.size, 0, none⟩), .int .i32 99] W1 fun e w' => e = .returned (.tuple #[.pointer none, .pointer (some ⟨w.heap.size, 4, none⟩), .pointer none]) ∧ w' = W1) := fieldW w.heap.size 99 (by decide) W1
        have x0 : W1.cell? ⟨w.heap.size, 4, none⟩ = some (.int .i64 cm.count) := hXG1.out.cell 4
        obtain ⟨rest2, hrest, hsh2⟩ := show_step99 hsh.out.1 hgl.out
        have HN := Lib.hid (itoaW cm.count hsh.out.2.2.2.1 hsh.out.2.2.2.2 W1 HE1.out.env)
        have HSH2 := Lib.hid hsh2
        have HRE : Hid (done ++ [Lib.itoa cm.count] ++ rest2 = wd :: ps) := by show _ = _; rw [← hsh.out.2.1, hrest]; simp
        have HWF : Hid (Cmd.Wf { cm with count := 0 }) := clr_wf99 hsh.out.2.2
        clear hsh2 hrest
        have HYY : Hid (∀ wz, strL.at_ wz (fun _ => False) (Lib.itoa cm.count) (#[encStr (Lib.itoa cm.count)] : Array Value).toList) := fun wz => rfl
        go_wp2_with (first
          | (go_at_call 28; refine HF.out.mono ?_; rintro e w' ⟨rfl, hw⟩; have hw := hw.symm; subst hw)
          | (go_at_call 19; refine HN.out.mono ?_; rintro e w2 ⟨rfl, hb2⟩; have HB2 : Hid (Below W1.heap.size W1 w2) := hb2.out; have HX2 : Hid (Box w2 w.heap.size (cm.cells a l kk) 39) := hXG1.out.below HB2.out hG1; have z2 : w2.cell? ⟨w.heap.size, 4, none⟩ = some (.int .i64 cm.count) := HX2.out.cell 4; have HO2 : Hid (SOwn strL w2 (w.heap.size + 2) 9 (fun _ => False) a5 l5 c5 done) := hO1.out.below HB2.out; have hs2 : w.heap.size + 2 ≤ w2.heap.size := Nat.le_trans hs1 HB2.out.size; have HI2 : Hid (w2.heap[w.heap.size + 3]? = some (.stringIter ⟨ls.toArray⟩ (pos + 1))) := (HB2.out.block _ hI1).trans hk1.out; clear hb2)
          | (at_builtin; refine wpList_append_one (L := strL) (wr := w2) rfl (.tmp 59) (.tmp 64) 26 rfl (w.heap.size + 2) 9 _ 16 Tryd.underlying26 info_strD rfl (fun _ => False) a5 l5 c5 done rfl HO2.out #[encStr (Lib.itoa cm.count)] (Lib.itoa cm.count) rfl _ (HYY.out w2) (fun b h => h.elim) (by unfold maxLen; omega) (by omega) hs2 ?_; intro a6 c6 w3 hown hgr; have HO3 := Lib.hid hown; have HB3 : Hid (Below w.heap.size w w3) := SOwn.grown HO2.out (hB1.out.trans (HB2.out.mono hB1.out.size)) (by omega) (by omega) hgr; have HX3 : Hid (Box w3 w.heap.size (cm.cells a l kk) 39) := (hgr.block w.heap.size (by omega) (fun e => by have := (SOwn.lt HO2.out _ e.symm).1; omega)).trans HX2.out; have HI3 : Hid (w3.heap[w.heap.size + 3]? = some (.stringIter ⟨ls.toArray⟩ (pos + 1))) := (hgr.block _ (Array.getElem?_eq_some_iff.1 HI2.out).1 (fun e => HO2.out.notIter HI2.out e.symm)).trans HI2.out; have z3 : w3.cell? ⟨w.heap.size, 4, none⟩ = some (.int .i64 cm.count) := HX3.out.cell 4; have y3 : w3.frozen? ⟨w.heap.size, 4, none⟩ = false := HX3.out.free 4; clear hown hgr)
          | fail)
        go_roundw
        case rel =>
          refine ⟨pos + 1, done ++ [Lib.itoa cm.count], rest2, { cm with count := 0 }, a, l, kk, a6, l5 + 1, c6, by omega, rfl, by omega, by omega, ?_, HX3.out.set 4 (.int .i64 0), ?_, ?_, ?_, HSH2.out, HRE.out, HWF.out⟩
          · exact (Below.heap_setCell _ _ _ _ (by show w.heap.size + 3 ≠ w.heap.size; omega)).trans HI3.out
          · exact ⟨hR0.out.1, hR0.out.2⟩
          · exact SOwn.keep HO3.out (by simp [World.setCell]) (fun b _ hb => Below.heap_setCell _ _ _ _ (by show b ≠ w.heap.size; rcases hb with hb | hb; exact hb.elim; omega))
          · exact below_setG HB3.out w.heap.size (Nat.le_refl _) 4 _
        case measure =>
          rw [hmu.out, iterPos_of ((Below.heap_setCell _ _ _ _ (by show w.heap.size + 3 ≠ w.heap.size; omega)).trans HI3.out)]; omega
      · -- letter 100
        have HF : Hid (Calls Tryd.prog 28 #[.pointer (some ⟨w.heap.size, 0, none⟩), .int .i32 100] W1 fun e w' => e = .returned (.tuple #[.pointer none, .pointer (some ⟨w.heap.size, 5, none⟩), .pointer none]) ∧ w' = W1) := fieldW w.heap.size 100 (by decide) W1
        have x0 : W1.cell? ⟨w.heap.size, 5, none⟩ = some (.int .i64 cm.drive) := hXG1.out.cell 5
        obtain ⟨rest2, hrest, hsh2⟩ := show_step100 hsh.out.1 hgl.out
        have HN := Lib.hid (itoaW cm.drive hsh.out.2.2.3.1 hsh.out.2.2.3.2 W1 HE1.out.env)
        have HSH2 := Lib.hid hsh2
        have HRE : Hid (done ++ [Lib.itoa cm.drive] ++ rest2 = wd :: ps) := by show _ = _; rw [← hsh.out.2.1, hrest]; simp
        have HWF : Hid (Cmd.Wf { cm with drive := 0 }) := clr_wf100 hsh.out.2.2
        clear hsh2 hrest
        have HYY : Hid (∀ wz, strL.at_ wz (fun _ => False) (Lib.itoa cm.drive) (#[encStr (Lib.itoa cm.drive)] : Array Value).toList) := fun wz => rfl
        go_wp2_with (first
          | (go_at_call 28; refine HF.out.mono ?_; rintro e w' ⟨rfl, hw⟩; have hw := hw.symm; subst hw)
          | (go_at_call 19; refine HN.out.mono ?_; rintro e w2 ⟨rfl, hb2⟩; have HB2 : Hid (Below W1.heap.size W1 w2) := hb2.out; have HX2 : Hid (Box w2 w.heap.size (cm.cells a l kk) 39) := hXG1.out.below HB2.out hG1; have z2 : w2.cell? ⟨w.heap.size, 5, none⟩ = some (.int .i64 cm.drive) := HX2.out.cell 5; have HO2 : Hid (SOwn strL w2 (w.heap.size + 2) 9 (fun _ => False) a5 l5 c5 done) := hO1.out.below HB2.out; have hs2 : w.heap.size + 2 ≤ w2.heap.size := Nat.le_trans hs1 HB2.out.size; have HI2 : Hid (w2.heap[w.heap.size + 3]? = some (.stringIter ⟨ls.toArray⟩ (pos + 1))) := (HB2.out.block _ hI1).trans hk1.out; clear hb2)
          | (at_builtin; refine wpList_append_one (L := strL) (wr := w2) rfl (.tmp 59) (.tmp 64) 26 rfl (w.heap.size + 2) 9 _ 16 Tryd.underlying26 info_strD rfl (fun _ => False) a5 l5 c5 done rfl HO2.out #[encStr (Lib.itoa cm.drive)] (Lib.itoa cm.drive) rfl _ (HYY.out w2) (fun b h => h.elim) (by unfold maxLen; omega) (by omega) hs2 ?_; intro a6 c6 w3 hown hgr; have HO3 := Lib.hid hown; have HB3 : Hid (Below w.heap.size w w3) := SOwn.grown HO2.out (hB1.out.trans (HB2.out.mono hB1.out.size)) (by omega) (by omega) hgr; have HX3 : Hid (Box w3 w.heap.size (cm.cells a l kk) 39) := (hgr.block w.heap.size (by omega) (fun e => by have := (SOwn.lt HO2.out _ e.symm).1; omega)).trans HX2.out; have HI3 : Hid (w3.heap[w.heap.size + 3]? = some (.stringIter ⟨ls.toArray⟩ (pos + 1))) := (hgr.block _ (Array.getElem?_eq_some_iff.1 HI2.out).1 (fun e => HO2.out.notIter HI2.out e.symm)).trans HI2.out; have z3 : w3.cell? ⟨w.heap.size, 5, none⟩ = some (.int .i64 cm.drive) := HX3.out.cell 5; have y3 : w3.frozen? ⟨w.heap.size, 5, none⟩ = false := HX3.out.free 5; clear hown hgr)
          | fail)
        go_roundw
        case rel =>
          refine ⟨pos + 1, done ++ [Lib.itoa cm.drive], rest2, { cm with drive := 0 }, a, l, kk, a6, l5 + 1, c6, by omega, rfl, by omega, by omega, ?_, HX3.out.set 5 (.int .i64 0), ?_, ?_, ?_, HSH2.out, HRE.out, HWF.out⟩
          · exact (Below.heap_setCell _ _ _ _ (by show w.heap.size + 3 ≠ w.heap.size; omega)).trans HI3.out
          · exact ⟨hR0.out.1, hR0.out.2⟩
          · exact SOwn.keep HO3.out (by simp [World.setCell]) (fun b _ hb => Below.heap_setCell _ _ _ _ (by show b ≠ w.heap.size; rcases hb with hb | hb; exact hb.elim; omega))
          · exact below_setG HB3.out w.heap.size (Nat.le_refl _) 5 _
        case measure =>
          rw [hmu.out, iterPos_of ((Below.heap_setCell _ _ _ _ (by show w.heap.size + 3 ≠ w.heap.size; omega)).trans HI3.out)]; omega
      · -- letter 107
        have HF : Hid (Calls Tryd.prog 28 #[.pointer (some ⟨w.heap.size, 0, none⟩), .int .i32 107] W1 fun e w' => e = .returned (.tuple #[.pointer none, .pointer (some ⟨w.heap.size, 6, none⟩), .pointer none]) ∧ w' = W1) := fieldW w.heap.size 107 (by decide) W1
        have x0 : W1.cell? ⟨w.heap.size, 6, none⟩ = some (.int .i64 cm.keep) := hXG1.out.cell 6
        obtain ⟨rest2, hrest, hsh2⟩ := show_step107 hsh.out.1 hgl.out
        have HN := Lib.hid (itoaW cm.keep hsh.out.2.2.4.1 hsh.out.2.2.4.2 W1 HE1.out.env)
        have HSH2 := Lib.hid hsh2
        have HRE : Hid (done ++ [Lib.itoa cm.keep] ++ rest2 = wd :: ps) := by show _ = _; rw [← hsh.out.2.1, hrest]; simp
        have HWF : Hid (Cmd.Wf { cm with keep := 0 }) := clr_wf107 hsh.out.2.2
        clear hsh2 hrest
        have HYY : Hid (∀ wz, strL.at_ wz (fun _ => False) (Lib.itoa cm.keep) (#[encStr (Lib.itoa cm.keep)] : Array Value).toList) := fun wz => rfl
        go_wp2_with (first
          | (go_at_call 28; refine HF.out.mono ?_; rintro e w' ⟨rfl, hw⟩; have hw := hw.symm; subst hw)
          | (go_at_call 19; refine HN.out.mono ?_; rintro e w2 ⟨rfl, hb2⟩; have HB2 : Hid (Below W1.heap.size W1 w2) := hb2.out; have HX2 : Hid (Box w2 w.heap.size (cm.cells a l kk) 39) := hXG1.out.below HB2.out hG1; have z2 : w2.cell? ⟨w.heap.size, 6, none⟩ = some (.int .i64 cm.keep) := HX2.out.cell 6; have HO2 : Hid (SOwn strL w2 (w.heap.size + 2) 9 (fun _ => False) a5 l5 c5 done) := hO1.out.below HB2.out; have hs2 : w.heap.size + 2 ≤ w2.heap.size := Nat.le_trans hs1 HB2.out.size; have HI2 : Hid (w2.heap[w.heap.size + 3]? = some (.stringIter ⟨ls.toArray⟩ (pos + 1))) := (HB2.out.block _ hI1).trans hk1.out; clear hb2)
          | (at_builtin; refine wpList_append_one (L := strL) (wr := w2) rfl (.tmp 59) (.tmp 64) 26 rfl (w.heap.size + 2) 9 _ 16 Tryd.underlying26 info_strD rfl (fun _ => False) a5 l5 c5 done rfl HO2.out #[encStr (Lib.itoa cm.keep)] (Lib.itoa cm.keep) rfl _ (HYY.out w2) (fun b h => h.elim) (by unfold maxLen; omega) (by omega) hs2 ?_; intro a6 c6 w3 hown hgr; have HO3 := Lib.hid hown; have HB3 : Hid (Below w.heap.size w w3) := SOwn.grown HO2.out (hB1.out.trans (HB2.out.mono hB1.out.size)) (by omega) (by omega) hgr; have HX3 : Hid (Box w3 w.heap.size (cm.cells a l kk) 39) := (hgr.block w.heap.size (by omega) (fun e => by have := (SOwn.lt HO2.out _ e.symm).1; omega)).trans HX2.out; have HI3 : Hid (w3.heap[w.heap.size + 3]? = some (.stringIter ⟨ls.toArray⟩ (pos + 1))) := (hgr.block _ (Array.getElem?_eq_some_iff.1 HI2.out).1 (fun e => HO2.out.notIter HI2.out e.symm)).trans HI2.out; have z3 : w3.cell? ⟨w.heap.size, 6, none⟩ = some (.int .i64 cm.keep) := HX3.out.cell 6; have y3 : w3.frozen? ⟨w.heap.size, 6, none⟩ = false := HX3.out.free 6; clear hown hgr)
          | fail)
        go_roundw
        case rel =>
          refine ⟨pos + 1, done ++ [Lib.itoa cm.keep], rest2, { cm with keep := 0 }, a, l, kk, a6, l5 + 1, c6, by omega, rfl, by omega, by omega, ?_, HX3.out.set 6 (.int .i64 0), ?_, ?_, ?_, HSH2.out, HRE.out, HWF.out⟩
          · exact (Below.heap_setCell _ _ _ _ (by show w.heap.size + 3 ≠ w.heap.size; omega)).trans HI3.out
          · exact ⟨hR0.out.1, hR0.out.2⟩
          · exact SOwn.keep HO3.out (by simp [World.setCell]) (fun b _ hb => Below.heap_setCell _ _ _ _ (by show b ≠ w.heap.size; rcases hb with hb | hb; exact hb.elim; omega))
          · exact below_setG HB3.out w.heap.size (Nat.le_refl _) 6 _
        case measure =>
          rw [hmu.out, iterPos_of ((Below.heap_setCell _ _ _ _ (by show w.heap.size + 3 ≠ w.heap.size; omega)).trans HI3.out)]; omega
      · -- letter 120
        have HF : Hid (Calls Tryd.prog 28 #[.pointer (some ⟨w.heap.size, 0, none⟩), .int .i32 120] W1 fun e w' => e = .returned (.tuple #[.pointer none, .pointer none, .pointer (some ⟨w.heap.size, 7, none⟩)]) ∧ w' = W1) := fieldW w.heap.size 120 (by decide) W1
        have x0 : W1.cell? ⟨w.heap.size, 7, none⟩ = some (.slice a l kk) := hXG1.out.cell 7
        obtain ⟨rest2, hrest, hsh2⟩ := show_step120 hsh.out.1 hgl.out
        have HN := Lib.hid (hexW a l kk cm.data W1 hR1.out.1 (by omega))
        have HSH2 := Lib.hid hsh2
        have HRE : Hid (done ++ [hexP cm.data] ++ rest2 = wd :: ps) := by show _ = _; rw [← hsh.out.2.1, hrest]; simp
        have HWF : Hid (Cmd.Wf { cm with data := [] }) := clr_wf120 hsh.out.2.2
        clear hsh2 hrest
        have HYY : Hid (∀ wz, strL.at_ wz (fun _ => False) (hexP cm.data) (#[encStr (hexP cm.data)] : Array Value).toList) := fun wz => rfl
        go_wp2_with (first
          | (go_at_call 28; refine HF.out.mono ?_; rintro e w' ⟨rfl, hw⟩; have hw := hw.symm; subst hw)
          | (go_at_call 20; refine HN.out.mono ?_; rintro e w2 ⟨rfl, hb2⟩; have HB2 : Hid (Below W1.heap.size W1 w2) := hb2.out; have HX2 : Hid (Box w2 w.heap.size (cm.cells a l kk) 39) := hXG1.out.below HB2.out hG1; have z2 : w2.cell? ⟨w.heap.size, 7, none⟩ = some (.slice a l kk) := HX2.out.cell 7; have HO2 : Hid (SOwn strL w2 (w.heap.size + 2) 9 (fun _ => False) a5 l5 c5 done) := hO1.out.below HB2.out; have hs2 : w.heap.size + 2 ≤ w2.heap.size := Nat.le_trans hs1 HB2.out.size; have HI2 : Hid (w2.heap[w.heap.size + 3]? = some (.stringIter ⟨ls.toArray⟩ (pos + 1))) := (HB2.out.block _ hI1).trans hk1.out; clear hb2)
          | (at_builtin; refine wpList_append_one (L := strL) (wr := w2) rfl (.tmp 71) (.tmp 76) 26 rfl (w.heap.size + 2) 9 _ 16 Tryd.underlying26 info_strD rfl (fun _ => False) a5 l5 c5 done rfl HO2.out #[encStr (hexP cm.data)] (hexP cm.data) rfl _ (HYY.out w2) (fun b h => h.elim) (by unfold maxLen; omega) (by omega) hs2 ?_; intro a6 c6 w3 hown hgr; have HO3 := Lib.hid hown; have HB3 : Hid (Below w.heap.size w w3) := SOwn.grown HO2.out (hB1.out.trans (HB2.out.mono hB1.out.size)) (by omega) (by omega) hgr; have HX3 : Hid (Box w3 w.heap.size (cm.cells a l kk) 39) := (hgr.block w.heap.size (by omega) (fun e => by have := (SOwn.lt HO2.out _ e.symm).1; omega)).trans HX2.out; have HI3 : Hid (w3.heap[w.heap.size + 3]? = some (.stringIter ⟨ls.toArray⟩ (pos + 1))) := (hgr.block _ (Array.getElem?_eq_some_iff.1 HI2.out).1 (fun e => HO2.out.notIter HI2.out e.symm)).trans HI2.out; have z3 : w3.cell? ⟨w.heap.size, 7, none⟩ = some (.slice a l kk) := HX3.out.cell 7; have y3 : w3.frozen? ⟨w.heap.size, 7, none⟩ = false := HX3.out.free 7; clear hown hgr)
          | fail)
        go_roundw
        case rel =>
          refine ⟨pos + 1, done ++ [hexP cm.data], rest2, { cm with data := [] }, none, 0, 0, a6, l5 + 1, c6, by omega, rfl, by omega, by omega, ?_, HX3.out.set 7 (.slice none 0 0), ?_, ?_, ?_, HSH2.out, HRE.out, HWF.out⟩
          · exact (Below.heap_setCell _ _ _ _ (by show w.heap.size + 3 ≠ w.heap.size; omega)).trans HI3.out
          · exact ⟨⟨rfl, Nat.le_refl _, Nat.zero_le _, fun _ => rfl, fun x hx => (List.not_mem_nil hx).elim, .inl rfl⟩, trivial⟩
          · exact SOwn.keep HO3.out (by simp [World.setCell]) (fun b _ hb => Below.heap_setCell _ _ _ _ (by show b ≠ w.heap.size; rcases hb with hb | hb; exact hb.elim; omega))
          · exact below_setG HB3.out w.heap.size (Nat.le_refl _) 7 _
        case measure =>
          rw [hmu.out, iterPos_of ((Below.heap_setCell _ _ _ _ (by show w.heap.size + 3 ≠ w.heap.size; omega)).trans HI3.out)]; omega
      -- (/LETTERS)
    · obtain rfl : pos = ls.length := by omega
      have hnext : ∀ ty, (Instr.next (.pointer (some ⟨w.heap.size + 3, 0, none⟩)) true ty).run Tryd.prog wr = .ok (.tuple #[.bool false]) wr := fun ty => Lib.run_next_end_at (P := Tryd.prog) wr (w.heap.size + 3) ⟨ls.toArray⟩ ls.length ty hk0r.out (by rw [hsz]; omega)
      have hend := hsh.out
      rw [List.drop_length] at hend
      obtain ⟨he1, he2, _⟩ := hend
      simp only [showL] at he1
      obtain ⟨rfl, rfl⟩ := Prod.mk.inj (Option.some.inj he1)
      rw [List.append_nil] at he2
      subst he2
      have hl0 : l = 0 := by
        have := hR0.out.1.hlen
        simpa [Cmd.mt] using this.symm
      subst hl0
      unfold Cmd.mt Cmd.cells at hXGr
      simp only at hXGr
      have hps := Lib.hid (show (wd :: ps).length = l5 from hOr.out.1)
      have x1 : wr.cell? ⟨w.heap.size, 1, none⟩ = some (.string ⟨#[]⟩) := hXGr.out.cell 1
      have x2 : wr.cell? ⟨w.heap.size, 2, none⟩ = some (.string ⟨#[]⟩) := hXGr.out.cell 2
      have x3 : wr.cell? ⟨w.heap.size, 3, none⟩ = some (.int .i64 0) := hXGr.out.cell 3
      have x4 : wr.cell? ⟨w.heap.size, 4, none⟩ = some (.int .i64 0) := hXGr.out.cell 4
      have x5 : wr.cell? ⟨w.heap.size, 5, none⟩ = some (.int .i64 0) := hXGr.out.cell 5
      have x6 : wr.cell? ⟨w.heap.size, 6, none⟩ = some (.int .i64 0) := hXGr.out.cell 6
      have x7 : wr.cell? ⟨w.heap.size, 7, none⟩ = some (.slice a 0 kk) := hXGr.out.cell 7
      have hor : bits BinOp.or IntKind.i64 0 0 = 0 := by decide
      have hcat : (({ data := #[] } : ByteArray) ++ ({ data := #[] } : ByteArray)).toList = [] := by decide +kernel
      have h50 : 0 < l5 := by have := hps.out; simp at this; omega
      have hJ := Lib.hid (joinW (fun _ => True) a5 l5 c5 (wd :: ps) wr (SOwn.sRow hOr.out) h50 (by omega) (fun x hx => by
        rcases List.mem_cons.1 hx with rfl | hx
        · have := hwdl.out; omega
        · exact showL_len hl HR.out.hlen HW.out hsl0.out x hx))
      clear he1 hsh
      go_wp2_with (first
        | (go_at_call 21; refine hJ.out.mono ?_; rintro e w2 ⟨rfl, hb2⟩)
        | fail)
      exact bodyPost_ret (results_tmp2 Tryd.results12 _ _ _) rfl ⟨rfl, hBr.out.trans (hb2.out.mono hBr.out.size)⟩
end Go.Proofs.YtdonmdiebibabaaDoor
