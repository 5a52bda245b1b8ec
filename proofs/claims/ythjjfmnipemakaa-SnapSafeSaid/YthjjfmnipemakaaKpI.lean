/- The walk of SnapBirths. -/
import Derived.Test.YthjjfmnipemakaaKpH
import Derived.Test.YthjjfmnipemakaaKpR
namespace Go.Proofs.Ythjjfmnipemakaa
open Go.RowKit
set_option linter.unusedVariables false
set_option maxRecDepth 100000

def boolL : Lay Bool := Lay.flat 1 (by decide) (fun b => [.bool b]) (fun _ => rfl) (fun x v hv => by obtain rfl := List.mem_singleton.1 hv; rfl)
theorem info_bool : (Try.prog.info? 4).map (fun i => (i.zero, i.size, i.bytes)) = some (some (.bool false), 1, 1) := by kernel_rfl
theorem boolAt {w : World} {B : Nat} {a : Option Addr} {n c : Nat} {bs : List Bool} (h : (thOwn boolL B 4 a n c bs).holds w) (j : Nat) (hj : j < n) : ∃ g, a = some ⟨g, 0, none⟩ ∧ g < w.heap.size ∧ w.cell? ⟨g, j, none⟩ = some (.bool (bs.getD j false)) := by
  obtain ⟨g, vs, ha, hB, hg, ⟨x, hx, hv⟩, hc⟩ := SOwn.get h j hj
  have e : vs = [.bool x] := hv
  subst e
  have := hc 0 (by decide)
  have e2 : j * boolL.size + 0 = j := by show j * 1 + 0 = j; omega
  rw [e2] at this
  exact ⟨g, ha, hg, by rw [this]; simp [List.getD, hx]⟩
theorem Turns.putB {w : World} {B : Nat} {g n c : Nat} {bs : List Bool} (h : (thOwn boolL B 4 (some ⟨g, 0, none⟩) n c bs).holds w) (j : Nat) (b : Bool) (hj : j < n) :
    Turns (thOwn boolL B 4 (some ⟨g, 0, none⟩) n c bs) (thOwn boolL B 4 (some ⟨g, 0, none⟩) n c (bs.set j b)) w (w.setCell ⟨g, j, none⟩ (.bool b)) := by
  have := Turns.put h j 0 b (.bool b) hj (by decide) rfl
  rw [show j * 1 + 0 = j by omega] at this
  exact this
theorem intsAt {w : World} {B : Nat} {a : Option Addr} {n c : Nat} {bs : List Int} (h : (thOwn (Lay.int .i64) B 3 a n c bs).holds w) (j : Nat) (hj : j < n) : ∃ g, a = some ⟨g, 0, none⟩ ∧ g < w.heap.size ∧ w.cell? ⟨g, j, none⟩ = some (.int .i64 (bs.getD j 0)) := by
  obtain ⟨g, b, ha, hg, hx, hc⟩ := deadAt h j hj
  exact ⟨g, ha, hg, by rw [hc]; simp [List.getD, hx]⟩
/-- The new things behind the world W: three empty rows. -/
theorem startB (W : World) : Apt [thSince W, thOwn (Lay.int .i64) W.heap.size 3 none 0 0 [], thOwn (Lay.int .i64) W.heap.size 3 none 0 0 [], thOwn boolL W.heap.size 4 none 0 0 []] W := by
  have f : ∀ {α : Type} (L : Lay α) (e : TypeId) (b : Nat), ¬ (thOwn L W.heap.size e none 0 0 []).foot b := fun L e b hb => by cases (show (none : Option Nat) = some b from hb)
  refine ((((Apt.nil W).cons (SOwn.nil ..) (fun s hs b hb => absurd hb (f _ _ b))).cons (SOwn.nil ..) (fun s hs b hb => absurd hb (f _ _ b))).cons (SOwn.nil ..) (fun s hs b hb => absurd hb (f _ _ b))).cons (Below.refl _ _) (fun s hs b hb hs' => ?_)
  rcases List.mem_cons.1 hs with rfl | hs
  · exact f _ _ b hs'
  · rcases List.mem_cons.1 hs with rfl | hs
    · exact f _ _ b hs'
    · obtain rfl := List.mem_singleton.1 hs; exact f _ _ b hs'
def fourM : List (Int × Nat) := [(1, 0), (3, 0), (2, 0), (4, 0)]
theorem four2 : (kp0.outs fourM)[2]? = some (0, []) := by rfl
theorem sort_one (x : Int) : sortI [x] = [x] := by simp [sortI]
theorem four3 : (kp0.outs fourM)[3]? = some (0, [0]) := by
  have h : (kp0.outs fourM)[3]? = some ((0 : Int), sortI [0]) := by rfl
  rw [h, sort_one]
theorem vrow_four (w w0 : World) (e : TypeId) (hw : w = w0.alloc (.cells #[.int .i64 1, .int .i64 0, .int .i64 3, .int .i64 0, .int .i64 2, .int .i64 0, .int .i64 4, .int .i64 0] e)) : VRow w 2 (some ⟨w0.heap.size, 0, none⟩) 4 4 (fourM.map (fun m => [Value.int .i64 m.1, Value.int .i64 (m.2 : Int)])).flatten := by
  refine ⟨rfl, Nat.le_refl _, by unfold maxLen; omega, (fun h => by cases h), .inr ⟨w0.heap.size, 0, rfl, fun i hi => ?_⟩⟩
  subst hw
  rw [Nat.zero_add, cell_of_row _ _ i _ e (0, 0) (heap_alloc_new w0 _)]
  simp [fourM]
set_option maxHeartbeats 8000000 in
theorem snapBirths (F : Nat → Prop) (a : Option Addr) (len cap : Nat) (xs : List (Int × Int)) (w : World) (ha : SRow turnL w F a len cap xs) :
    Calls Try.prog 9 #[.slice a len cap] w fun e w' => e = .returned (.bool true) ∧ Below w.heap.size w w' := by
  have hM := Lib.hid (movesOf F a len cap xs 150 w ha (by omega))
  obtain ⟨ms, hms⟩ : ∃ ms, Hid ((xs.take 150).map mvOf = ms) := ⟨_, rfl⟩
  have hok : Hid (∀ m ∈ ms, MoveOk m) := by
    show ∀ m ∈ ms, MoveOk m
    rw [← hms.out]; intro m hm
    obtain ⟨x, _, rfl⟩ := List.mem_map.1 hm
    exact mvOf_ok x
  have hml : ms.length ≤ 150 := by rw [← hms.out, List.length_map, List.length_take]; omega
  rw [hms.out] at hM
  clear ha hms
  go_enter Try.func9, Try.ntmps9
  go_wp2_with fail
  refine hM.out.mono ?_
  rintro e w1 ⟨ao, L, co, rfl, hT⟩
  have hmL : Hid (ms.length = L) := hT.out.now.1
  have hLb : L ≤ 150 := by have := hmL.out; omega
  have hS := Lib.hid (snappedW (fun _ => True) ao L co ms w1 (SOwn.sRow hT.out.now) hok.out (by omega))
  clear hM hml
  go_wp2_with fail
  refine hS.out.mono ?_
  rintro e w3 ⟨a3, c3, rfl, hr3, hb3⟩
  have hm3 := Lib.hid (SRow.below (SOwn.sRow hT.out.now : SRow moveL w1 (fun _ => True) ao L co ms) hb3)
  have hB3 := Lib.hid (hT.out.nilBelow.trans (hb3.mono hT.out.nilBelow.size))
  have S0 := Lib.hid (startB w3)
  clear hb3 hS hT
  go_wp2_with fail
  obtain ⟨B, hB⟩ : ∃ B, Hid (w3.heap.size = B) := ⟨_, rfl⟩
  rw [hB.out] at S0
  go_loopw [6, 7, 8, 9] (fun bv mv tv iv wx => ∃ (i : Nat) (a6 : Option Addr) (n6 c6 : Nat) (a7 : Option Addr) (n7 c7 : Nat) (a8 : Option Addr) (n8 c8 : Nat), i ≤ L ∧ iv = .int .i64 i ∧ bv = .slice a6 n6 c6 ∧ mv = .slice a7 n7 c7 ∧ tv = .slice a8 n8 c8 ∧ Hid (Apt [thSince w3, thOwn (Lay.int .i64) B 3 a6 n6 c6 (bB (kp0.fin (ms.take i))), thOwn (Lay.int .i64) B 3 a7 n7 c7 (bM ms i), thOwn boolL B 4 a8 n8 c8 (bT ms i)] wx)) (fun _ _ _ iv _ => L - (intOf iv).toNat)
  case atStart => exact ⟨0, none, 0, 0, none, 0, 0, none, 0, 0, by omega, rfl, rfl, rfl, rfl, S0.out⟩
  case round =>
    obtain ⟨i, a6, n6, c6, a7, n7, c7, a8, n8, c8, hi, rfl, rfl, rfl, rfl, hS⟩ := hrel
    have HBi : Hid (Below w3.heap.size w3 wr) := hS.out.head
    by_cases hlt : i < L
    · have il : (i : Int) < L := by omega
      obtain ⟨mb, mo, m, hao, hmb, hmi, c0, c1⟩ := moveAt (hm3.out.below HBi.out) i hlt
      subst hao
      have hx := outs_get ms kp0 i m hmi
      have hbi := births hok.out i (by have := hmL.out; omega)
      have hst := hbi.step (Kp.Inv.take hok.out i (by have := hmL.out; omega)) m (hok.out m (List.mem_of_getElem? hmi))
      have hmo := hok.out m (List.mem_of_getElem? hmi)
      have hinv := Kp.Inv.take hok.out i (by have := hmL.out; omega)
      have hbM : Hid (bM ms (i + 1) = if ((kp0.fin (ms.take i)).step m).2.1 = 0 then nextM (bM ms i) m.1 i else bM ms i) := by show _ = _; rw [bM, hmi]
      have hbT : Hid (bT ms (i + 1) = if ((kp0.fin (ms.take i)).step m).2.1 = 0 then nextT (bT ms i) m.1 m.2 else bT ms i) := by show _ = _; rw [bT, hmi]
      have hfs := fin_take_succ kp0 ms i m hmi
      have hbB := bB_step hinv m hmo
      have hba := bB_at (kp0.fin (ms.take i))
      have hblen : (bB (kp0.fin (ms.take i))).length = (kp0.fin (ms.take i)).blocks.length := by unfold bB; rw [List.length_map]
      rw [← hfs] at hbB
      obtain ⟨s, hs⟩ : ∃ s, kp0.fin (ms.take i) = s := ⟨_, rfl⟩
      rw [hs] at hx hbi hst hinv hbM hbT hbB hba hblen hS
      obtain ⟨x, hxx⟩ : ∃ x, (s.step m).2 = x := ⟨_, rfl⟩
      rw [hxx] at hx hst hbM hbT hbB
      obtain ⟨M, hMM⟩ : ∃ M, bM ms i = M := ⟨_, rfl⟩
      obtain ⟨th, htt⟩ : ∃ th, bT ms i = th := ⟨_, rfl⟩
      obtain ⟨bs, hbs⟩ : ∃ bs, bB s = bs := ⟨_, rfl⟩
      rw [hMM] at hbi hst hbM hS
      rw [htt] at hbi hst hbT hS
      rw [hbs] at hbB hba hblen hS
      have NB := Lib.hid hbB
      have l6 : bs.length = n6 := (hS.out.all 1 _ rfl : (thOwn (Lay.int .i64) B 3 a6 n6 c6 bs).holds wr).1
      have l7 : M.length = n7 := (hS.out.all 2 _ rfl : (thOwn (Lay.int .i64) B 3 a7 n7 c7 M).holds wr).1
      have l8 : th.length = n8 := (hS.out.all 3 _ rfl : (thOwn boolL B 4 a8 n8 c8 th).holds wr).1
      have hbl := hinv.bl
      have hkp := hinv.kept
      have hml := hbi.ml
      have htl := hbi.tl
      have n6b : n6 ≤ 1000 := by omega
      have n7b : n7 ≤ 1000 := by omega
      have n8b : n8 ≤ 1000 := by omega
      have h78 : Hid (n8 = n7) := by show _ = _; omega
      have L7 := Lib.hid l7
      have HST := Lib.hid hst
      have HBA := Lib.hid hba
      have HBL : Hid (s.blocks.length = n6) := by show _ = _; omega
      have HBI := Lib.hid hbi
      have L8 := Lib.hid l8
      have hBw : B ≤ wr.heap.size := by have := HBi.out.size; have := hB.out; omega
      obtain ⟨gb, go_, ag, ng, cg, hga, hgb, d0, d1, dr⟩ := goneAt (hr3.out.below HBi.out) i hlt x hx
      subst hga
      have DR := Lib.hid dr
      have hmk : m.1 = 1 ∨ m.1 = 2 ∨ m.1 = 3 ∨ m.1 = 4 := by have := hmo.1; have := hmo.2.1; omega
      obtain ⟨mk, mw⟩ := m
      have hmw : mw ≤ 1000 := hmo.2.2
      simp only at hmk c0 c1 HST NB hbM hbT
      clear hfs hbB hba hblen hbi hst hinv l6 l7 l8 hbl hkp hml htl hmi hx hmo dr hxx hs
      by_cases hc : x.1 = 0
      · rw [hc] at d0
        have HQ := Lib.hid (HST.out.2 hc)
        rw [if_pos hc] at hbM hbT
        rcases hmk with rfl | rfl | rfl | rfl
        · -- a birth
          have e1 : Hid (bB (kp0.fin (ms.take (i + 1))) = bs ++ [(i : Int)]) := by have := NB.out; rw [if_pos ⟨hc, rfl⟩] at this; exact this
          have e2 : Hid (bM ms (i + 1) = M) := by have := hbM.out; rw [nextM, if_neg (by decide)] at this; exact this
          have e3 : Hid (bT ms (i + 1) = th) := by have := hbT.out; rw [nextT, if_neg (by decide), if_neg (by decide)] at this; exact this
          have O := Lib.hid (hS.out.all 1 _ rfl : (thOwn (Lay.int .i64) B 3 a6 n6 c6 bs).holds wr)
          go_wp2_with (at_builtin; refine wpList_append_T1 (L := Lay.int .i64) rfl (.tmp 49) (.tmp 51) 40 rfl B 3 _ 8 Try.underlying40 info_int rfl a6 n6 c6 bs rfl O.out #[.int .i64 i] i rfl ⟨rfl, wf_nat i (by omega)⟩ (by unfold maxLen; omega) (by omega) hBw ?_; intro a5 c5 w5 T5; have S5 := Lib.hid (hS.out.set (i := 1) rfl T5); clear T5)
          go_roundw
          case rel => exact ⟨i + 1, a5, n6 + 1, c5, a7, n7, c7, a8, n8, c8, by omega, by go_num, rfl, rfl, rfl, by show Apt _ _; rw [e1.out, e2.out, e3.out]; exact S5.out⟩
          case measure => (simp [intOf]; try omega)
        · -- a block is killed
          have e1 : Hid (bB (kp0.fin (ms.take (i + 1))) = bs) := by have := NB.out; rw [if_neg (fun e => by simp at e)] at this; exact this
          have e2 : Hid (bM ms (i + 1) = M) := by have := hbM.out; rw [nextM, if_neg (by decide)] at this; exact this
          have e3 : Hid (bT ms (i + 1) = th) := by have := hbT.out; rw [nextT, if_neg (by decide), if_neg (by decide)] at this; exact this
          obtain ⟨hwl0, hcase⟩ := HQ.out.2.2 rfl
          have hwl : mw < n6 := by have := HBL.out; omega
          obtain ⟨g6, rfl, hg6, cb⟩ := intsAt (hS.out.all 1 _ rfl : (thOwn (Lay.int .i64) B 3 a6 n6 c6 bs).holds wr) mw hwl
          rw [HBA.out mw hwl0] at cb
          obtain ⟨bv, hbv⟩ : ∃ bv, s.born mw - 1 = bv := ⟨_, rfl⟩
          rw [hbv] at cb hcase
          have wi : (mw : Int) < n6 := by omega
          have OM := Lib.hid (hS.out.all 2 _ rfl : (thOwn (Lay.int .i64) B 3 a7 n7 c7 M).holds wr)
          have OT := Lib.hid (hS.out.all 3 _ rfl : (thOwn boolL B 4 a8 n8 c8 th).holds wr)
          have hlq := L7.out
          rw [hlq] at hcase
          have HCS := Lib.hid hcase
          clear hcase hbv hlq hwl0
          go_wp2_with fail
          go_loop [10, 11] (fun lv sv => ∃ j : Nat, j ≤ n7 ∧ sv = .int .i64 j ∧ lv = .int .i64 (lastN M th j)) (fun _ sv => n7 - (intOf sv).toNat)
          case atStart => exact ⟨0, by omega, rfl, rfl⟩
          case round =>
            obtain ⟨j, hj, rfl, rfl⟩ := hrel
            by_cases hlj : j < n7
            · obtain ⟨g8, rfl, hg8, cth⟩ := boolAt OT.out j (by have := h78.out; omega)
              obtain ⟨g7, rfl, hg7, cm⟩ := intsAt OM.out j hlj
              have hstep : Hid (lastN M th (j + 1) = if th.getD j false then M.getD j 0 else lastN M th j) := rfl
              obtain ⟨mv, hmv⟩ : ∃ mv, M.getD j 0 = mv := ⟨_, rfl⟩
              rw [hmv] at cm hstep
              obtain ⟨lj, hlj2⟩ : ∃ lj, Hid (lastN M th j = lj) := ⟨_, rfl⟩
              rw [hlj2.out] at hstep ⊢
              have ji7 : (j : Int) < n7 := by omega
              have ji8 : (j : Int) < n8 := by have := h78.out; omega
              cases hb : th.getD j false with
              | true =>
                rw [hb] at cth hstep
                have hs2 : Hid (lastN M th (j + 1) = mv) := hstep.out
                clear hb hmv hstep
                go_wp2_with fail
                go_round
                case rel => exact ⟨j + 1, by omega, by go_num, by rw [hs2.out]⟩
                case measure => (simp [intOf]; try omega)
              | false =>
                rw [hb] at cth hstep
                have hs2 : Hid (lastN M th (j + 1) = lj) := hstep.out
                clear hb hmv hstep
                go_wp2_with fail
                go_round
                case rel => exact ⟨j + 1, by omega, by go_num, by rw [hs2.out]⟩
                case measure => (simp [intOf]; try omega)
            · obtain rfl : j = n7 := by omega
              obtain ⟨lv, hlv⟩ : ∃ lv, Hid (lastN M th j = lv) := ⟨_, rfl⟩
              rw [hlv.out] at HCS ⊢
              rcases HCS.out with ⟨hx1, hlt2⟩ | ⟨hx1, hlt2⟩
              · have hn1 : ng = 1 := by have := DR.out.1; rw [hx1] at this; simpa using this.symm
                subst hn1
                obtain ⟨bb, bo, v, rfl, hbb, hxk, cv⟩ := intRow_at DR.out 0 (by omega)
                rw [hx1] at hxk
                obtain rfl : (mw : Int) = v := by simpa using hxk
                simp only [Nat.add_zero] at cv
                have q1 : decide (lv < bv) = true := by simpa using hlt2
                clear hxk hx1
                go_wp2_with fail
                go_quiet (fail)
                go_wp2_with fail
                go_roundw
                case rel => exact ⟨i + 1, some ⟨g6, 0, none⟩, n6, c6, a7, j, c7, a8, n8, c8, by omega, by go_num, rfl, rfl, rfl, by show Apt _ _; rw [e1.out, e2.out, e3.out]; exact (hS.out.still (below_drewN (Below.refl _ _) nq))⟩
                case measure => (simp [intOf]; try omega)
              · have hn1 : ng = 0 := by have := DR.out.1; rw [hx1] at this; simpa using this.symm
                subst hn1
                have q1 : decide (lv < bv) = false := by simpa using hlt2
                clear hx1
                go_wp2_with fail
                go_quiet (fail)
                go_wp2_with fail
                go_roundw
                case rel => exact ⟨i + 1, some ⟨g6, 0, none⟩, n6, c6, a7, j, c7, a8, n8, c8, by omega, by go_num, rfl, rfl, rfl, by show Apt _ _; rw [e1.out, e2.out, e3.out]; exact (hS.out.still (below_drewN (Below.refl _ _) nq))⟩
                case measure => (simp [intOf]; try omega)
        · -- a snapshot
          have e1 : Hid (bB (kp0.fin (ms.take (i + 1))) = bs) := by have := NB.out; rw [if_neg (fun e => by simp at e)] at this; exact this
          have e2 : Hid (bM ms (i + 1) = M ++ [(i : Int)]) := by have := hbM.out; rw [nextM, if_pos rfl] at this; exact this
          have e3 : Hid (bT ms (i + 1) = th ++ [true]) := by have := hbT.out; rw [nextT, if_pos rfl] at this; exact this
          have O := Lib.hid (hS.out.all 2 _ rfl : (thOwn (Lay.int .i64) B 3 a7 n7 c7 M).holds wr)
          go_wp2_with (first | (at_builtin; refine wpList_append_T1 (L := Lay.int .i64) rfl (.tmp 55) (.tmp 57) 40 rfl B 3 _ 8 Try.underlying40 info_int rfl a7 n7 c7 M rfl O.out #[.int .i64 i] i rfl ⟨rfl, wf_nat i (by omega)⟩ (by unfold maxLen; omega) (by omega) hBw ?_; intro a5 c5 w5 T5; have S5 := Lib.hid (hS.out.set (i := 2) rfl T5); have hB5 : B ≤ w5.heap.size := (Nat.le_trans hBw T5.mv.size); clear T5) | (at_builtin; refine wpList_append_T1 (L := boolL) rfl (.tmp 59) (.tmp 60) 55 rfl B 4 _ 1 Try.underlying55 info_bool rfl a8 n8 c8 th rfl (S5.out.all 3 _ rfl) #[.bool true] true rfl rfl (by unfold maxLen; omega) (by omega) hB5 ?_; intro a9 c9 w9 T9; have S9 := Lib.hid (S5.out.set (i := 3) rfl T9); clear T9))
          go_roundw
          case rel => exact ⟨i + 1, a6, n6, c6, a5, n7 + 1, c5, a9, n8 + 1, c9, by omega, by go_num, rfl, rfl, rfl, by show Apt _ _; rw [e1.out, e2.out, e3.out]; exact S9.out⟩
          case measure => (simp [intOf]; try omega)
        · -- a snapshot is dropped
          have e1 : Hid (bB (kp0.fin (ms.take (i + 1))) = bs) := by have := NB.out; rw [if_neg (fun e => by simp at e)] at this; exact this
          have e2 : Hid (bM ms (i + 1) = M) := by have := hbM.out; rw [nextM, if_neg (by decide)] at this; exact this
          have e3 : Hid (bT ms (i + 1) = th.set mw false) := by have := hbT.out; rw [nextT, if_neg (by decide), if_pos rfl] at this; exact this
          have hwl : mw < n8 := by have := HQ.out.2.1 rfl; have := L8.out; omega
          have O := Lib.hid (hS.out.all 3 _ rfl : (thOwn boolL B 4 a8 n8 c8 th).holds wr)
          obtain ⟨g8, rfl, hg8, cb⟩ := boolAt O.out mw hwl
          have cf : wr.frozen? ⟨g8, mw, none⟩ = false := frozen_own O.out _
          have S5 := Lib.hid (hS.out.set (i := 3) rfl (Turns.putB O.out mw false hwl))
          have wi : (mw : Int) < n8 := by omega
          go_wp2_with fail
          go_roundw
          case rel => exact ⟨i + 1, a6, n6, c6, a7, n7, c7, some ⟨g8, 0, none⟩, n8, c8, by omega, by go_num, rfl, rfl, rfl, by show Apt _ _; rw [e1.out, e2.out, e3.out]; exact S5.out⟩
          case measure => (simp [intOf]; try omega)
      · have hq : (x.1 == 0) = false := by simp [hc]
        have h0 : x.2 = [] := (HST.out.1 hc).1
        have hn0 : ng = 0 := by have := DR.out.1; rw [h0] at this; simpa using this.symm
        subst hn0
        have e1 : Hid (bB (kp0.fin (ms.take (i + 1))) = bs) := by have := NB.out; rw [if_neg (fun e => hc e.1)] at this; exact this
        have e2 : Hid (bM ms (i + 1) = M) := by have := hbM.out; rw [if_neg hc] at this; exact this
        have e3 : Hid (bT ms (i + 1) = th) := by have := hbT.out; rw [if_neg hc] at this; exact this
        go_wp2_with fail
        go_roundw
        case rel => exact ⟨i + 1, a6, n6, c6, a7, n7, c7, a8, n8, c8, by omega, by go_num, rfl, rfl, rfl, by show Apt _ _; rw [e1.out, e2.out, e3.out]; exact hS.out⟩
        case measure => (simp [intOf]; try omega)
    · obtain rfl : i = L := by omega
      have HBW := Lib.hid (hB3.out.trans (HBi.out.mono hB3.out.size))
      clear hS S0 hi
      have hR1 : Hid (SRow moveL (wr.alloc (.cells #[.int .i64 1, .int .i64 0, .int .i64 3, .int .i64 0, .int .i64 2, .int .i64 0, .int .i64 4, .int .i64 0] 60)) (fun _ => True) (some ⟨wr.heap.size, 0, none⟩) 4 4 fourM) :=
        ⟨rfl, fun _ _ _ => trivial, fourM.map (fun m : Int × Nat => [Value.int .i64 m.1, Value.int .i64 (m.2 : Int)]), vrow_four _ _ _ rfl, flatMk _ _ fourM⟩
      have hS1 := Lib.hid (snappedW (fun _ => True) (some ⟨wr.heap.size, 0, none⟩) 4 4 fourM _ hR1.out (fun m hm => by
        rcases List.mem_cons.1 hm with rfl | hm
        · exact ⟨by decide, by decide, by decide⟩
        rcases List.mem_cons.1 hm with rfl | hm
        · exact ⟨by decide, by decide, by decide⟩
        rcases List.mem_cons.1 hm with rfl | hm
        · exact ⟨by decide, by decide, by decide⟩
        obtain rfl := List.mem_singleton.1 hm
        exact ⟨by decide, by decide, by decide⟩) (by omega))
      have HBa := Lib.hid (HBW.out.trans ((Below_alloc1 (.cells #[.int .i64 1, .int .i64 0, .int .i64 3, .int .i64 0, .int .i64 2, .int .i64 0, .int .i64 4, .int .i64 0] 60)).mono HBW.out.size))
      go_wp2_with fail
      refine hS1.out.mono ?_
      rintro e w6 ⟨a6', c6', rfl, hr6, hb6'⟩
      obtain ⟨g6, o6, ag6, ng6, cg6, rfl, hg6, _, d6, dr6⟩ := goneAt hr6.out 2 (by omega) (0, []) four2
      obtain ⟨g7, o7, ag7, ng7, cg7, hgg, hg7, _, d7, dr7⟩ := goneAt hr6.out 3 (by omega) (0, [0]) four3
      obtain ⟨rfl, rfl⟩ : g6 = g7 ∧ o6 = o7 := by simpa using hgg
      obtain rfl : 0 = ng6 := dr6.1
      obtain rfl : 1 = ng7 := dr7.1
      have HB6 := Lib.hid (HBa.out.trans (hb6'.mono HBa.out.size))
      clear hb6' hgg
      go_wp2_with fail
      go_ret
      exact ⟨rfl, HB6.out⟩
end Go.Proofs.Ythjjfmnipemakaa
