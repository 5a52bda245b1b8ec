/- The walks of Do, New, Play. -/
import Derived.Test.YtkbfohbpndjcpaaPoE
namespace Go.Proofs.Ytkbfohbpndjcpaa
open Go.RowKit
set_option linter.unusedVariables false
set_option maxRecDepth 100000
set_option linter.unusedSimpArgs false

theorem doW (hs mo ms : Nat) (Fz : Nat → Prop) (po : PM Ob) (ps : PM (Nat × PM Ob)) (c : Cm) (ad : Option Addr) (ld cd : Nat) (w : World) (hS : StOk hs mo ms Fz po ps w) (hc : c.Ok) (hd : Row .u8 w ad ld cd c.data) (s : Pl) (hpo : erO po = s.objs) (hps : erS ps = s.snaps) (hok : s.Ok) :
    Calls Try.prog 21 #[.pointer (some ⟨hs, 0, none⟩), .agg (cmV c ad ld cd)] w (Done hs (thSt hs mo ms Fz po ps) (doP s c) w) := by
  have h1 := hc.lo
  have h2 := hc.hi
  have hk : c.kind = 1 ∨ c.kind = 2 ∨ c.kind = 3 ∨ c.kind = 4 ∨ c.kind = 5 ∨ c.kind = 6 ∨ c.kind = 7 ∨ c.kind = 8 ∨ c.kind = 9 ∨ c.kind = 10 ∨ c.kind = 11 ∨ c.kind = 12 := by omega
  rcases hk with hk | hk | hk | hk | hk | hk | hk | hk | hk | hk | hk | hk
  · exact do1 hs mo ms Fz po ps c ad ld cd w hS hc hd hk s hpo hps hok
  · exact doObj2 hs mo ms Fz po ps c ad ld cd w hS hc hd hk s hpo hps hok
  · exact doObj3 hs mo ms Fz po ps c ad ld cd w hS hc hd hk s hpo hps hok
  · exact doObj4 hs mo ms Fz po ps c ad ld cd w hS hc hd hk s hpo hps hok
  · exact doObj5 hs mo ms Fz po ps c ad ld cd w hS hc hd hk s hpo hps hok
  · exact do6 hs mo ms Fz po ps c ad ld cd w hS hc hd hk s hpo hps hok
  · exact doSnap7 hs mo ms Fz po ps c ad ld cd w hS hc hd hk s hpo hps hok
  · exact doSnap8 hs mo ms Fz po ps c ad ld cd w hS hc hd hk s hpo hps hok
  · exact doSnap9 hs mo ms Fz po ps c ad ld cd w hS hc hd hk s hpo hps hok
  · exact doSnap10 hs mo ms Fz po ps c ad ld cd w hS hc hd hk s hpo hps hok
  · exact do11 hs mo ms Fz po ps c ad ld cd w hS hc hd hk s hpo hps hok
  · exact do12 hs mo ms Fz po ps c ad ld cd w hS hc hd hk s hpo hps hok

/-! commands in memory -/
def cmH (c : Cm) : List Value := [.int .i64 (c.kind : Int), encStr c.name, encStr c.other, .int .i64 (c.off : Int), .int .i64 (c.count : Int), .int .i64 0, .int .i64 0]
def cmL : Lay Cm := Lay.map (Lay.pair (Lay.flat 7 (by decide) cmH (fun _ => rfl) (fun x v hv => by
  unfold cmH at hv
  simp only [List.mem_cons, List.mem_nil_iff, or_false] at hv
  rcases hv with rfl | rfl | rfl | rfl | rfl | rfl | rfl <;> rfl)) (Lay.int .u8).slice) (fun c => (c, c.data))
theorem cm_at {w : World} {F : Nat → Prop} {ad : Option Addr} {ld cd : Nat} (c : Cm) (h : SRow (Lay.int .u8) w F ad ld cd c.data) : cmL.at_ w F c (cmV c ad ld cd).toList :=
  ⟨cmH c, [.slice ad ld cd], rfl, rfl, ad, ld, cd, rfl, h⟩
theorem cmAt {w : World} {F : Nat → Prop} {a : Option Addr} {len cap : Nat} {cs : List Cm} (h : SRow cmL w F a len cap cs) (i : Nat) (hi : i < len) :
    ∃ b off c ad ld cd, a = some ⟨b, off, none⟩ ∧ b < w.heap.size ∧ cs[i]? = some c ∧ Row .u8 w ad ld cd c.data ∧ (∀ x, ad = some x → 0 < ld → F x.block) ∧ w.cell? ⟨b, off + i * 8, none⟩ = some (.int .i64 (c.kind : Int)) ∧ w.cell? ⟨b, off + i * 8 + 1, none⟩ = some (encStr c.name) ∧ w.cell? ⟨b, off + i * 8 + 2, none⟩ = some (encStr c.other) ∧
      w.cell? ⟨b, off + i * 8 + 3, none⟩ = some (.int .i64 (c.off : Int)) ∧ w.cell? ⟨b, off + i * 8 + 4, none⟩ = some (.int .i64 (c.count : Int)) ∧ w.cell? ⟨b, off + i * 8 + 5, none⟩ = some (.int .i64 0) ∧ w.cell? ⟨b, off + i * 8 + 6, none⟩ = some (.int .i64 0) ∧ w.cell? ⟨b, off + i * 8 + 7, none⟩ = some (.slice ad ld cd) := by
  obtain ⟨b, off, vs, ha, _, hb, hx, hc⟩ := h.get i hi
  have hm := List.getElem?_eq_getElem (show i < cs.length by rw [h.1]; exact hi)
  obtain ⟨us, ws, rfl, h1, ad, ld, cd, h2, h3⟩ := hx _ hm
  have e1 : us = cmH (cs[i]'(by rw [h.1]; exact hi)) := h1
  subst e1 h2
  exact ⟨b, off, _, ad, ld, cd, ha, hb, hm, h3.toRow, h3.2.1, hc 0 (by decide), hc 1 (by decide), hc 2 (by decide), hc 3 (by decide), hc 4 (by decide), hc 5 (by decide), hc 6 (by decide), hc 7 (by decide)⟩
theorem info_told : (Try.prog.info? 41).map (fun i => (i.zero, i.size, i.bytes)) = some (some (.agg #[.int .i64 0, .bool false, .int .i64 0, .slice none 0 0, .slice none 0 0]), 5, 72) := by kernel_rfl
theorem take_plays (s : Pl) (cs : List Cm) (i : Nat) (c : Cm) (h : cs[i]? = some c) : finP s (cs.take (i + 1)) = (doP (finP s (cs.take i)) c).2 ∧ outsP s (cs.take (i + 1)) = outsP s (cs.take i) ++ [(doP (finP s (cs.take i)) c).1] := by
  have h' := List.getElem?_eq_some_iff.1 h
  rw [List.take_succ_eq_append_getElem h'.1, h'.2, finP_append, outsP_append]
  exact ⟨rfl, rfl⟩

set_option maxHeartbeats 4000000 in
theorem newW (w : World) : Calls Try.prog 20 #[.slice none 0 0] w fun e w' => e = .returned (.pointer (some ⟨w.heap.size + 2, 0, none⟩)) ∧ Hid (StOk (w.heap.size + 2) w.heap.size (w.heap.size + 1) (fun _ => False) [] [] w') ∧ Hid (Below w.heap.size w w') := by
  have HM := @run_makeMap Try.prog
  obtain ⟨W, hW⟩ : ∃ W, W = ((w.alloc (.map #[] 0)).alloc (.map #[] 0)).alloc (.cells (stV w.heap.size (w.heap.size + 1)) 60) := ⟨_, rfl⟩
  have hB : Hid (Below w.heap.size w W) := by rw [hW]; exact ((Below_alloc2 _ _).alloc (by simp; omega) _)
  have hS : Hid (StOk (w.heap.size + 2) w.heap.size (w.heap.size + 1) (fun _ => False) [] [] W) := by
    have b1 : Below (w.alloc (.map #[] 0)).heap.size (w.alloc (.map #[] 0)) W := by rw [hW]; exact Below_alloc2 _ _
    have b2 : Below ((w.alloc (.map #[] 0)).alloc (.map #[] 0)).heap.size ((w.alloc (.map #[] 0)).alloc (.map #[] 0)) W := by rw [hW]; exact Below_alloc1 _
    have m1 : OM obV (w.alloc (.map #[] 0)) w.heap.size [] := World.ownsMap_made _ _ _ _
    have m2 : OM smV ((w.alloc (.map #[] 0)).alloc (.map #[] 0)) (w.alloc (.map #[] 0)).heap.size [] := World.ownsMap_made _ _ _ _
    have e1 : (w.alloc (.map #[] 0)).heap.size = w.heap.size + 1 := by simp
    rw [e1] at m2
    exact ⟨by rw [hW]; exact Box.new (by simp), m1.keep (b1.block _ (by simp)), m2.keep (b2.block _ (by simp)), fun b hb => hb.elim, fun b hb => hb.elim, ⟨by omega, by omega, by omega⟩, fun p hp => (List.not_mem_nil hp).elim, fun p hp => (List.not_mem_nil hp).elim⟩
  unfold stV at hW
  go_enter Try.func20, Try.ntmps20
  go_wp2_with fail
  rw [← hW]
  go_ret
  exact ⟨rfl, hS, hB⟩
set_option maxHeartbeats 8000000 in
theorem playP (F : Nat → Prop) (a : Option Addr) (len cap : Nat) (cs : List Cm) (w : World) (ha : SRow cmL w F a len cap cs) (hok : ∀ c ∈ cs, c.Ok) (hn : len ≤ 200) :
    Calls Try.prog 17 #[.slice a len cap] w fun e w' => ∃ a' c', e = .returned (.tuple #[.slice a' len c', .int .i64 0]) ∧ Hid (SRow tdL w' (fun _ => True) a' len c' (outsP pl0 cs)) ∧ Hid (Below w.heap.size w w') := by
  have HA := Lib.hid ha
  have hle := ha.hle
  have hmx := ha.hmax
  unfold maxLen at hmx
  have hll : Hid (cs.length = len) := ha.1
  have HOK := Lib.hid hok
  have q300 : decide (300 < (len : Int)) = false := by simp; omega
  have q301 : decide (300 < len) = false := by simp; omega
  clear ha hok
  go_enter Try.func17, Try.ntmps17
  go_wp2_with (go_at_call 20; refine (newW _).mono ?_; rintro e w1 ⟨rfl, HS1, HB1⟩)
  obtain ⟨B, hB⟩ : ∃ B, Hid (w.heap.size = B) := ⟨_, rfl⟩
  rw [hB.out] at HS1
  rw [hB.out]
  have T0 : Hid (Turns (thAll []) (thAll [thSt (B + 2) B (B + 1) (fun _ => False) [] [], thRow tdL B 41 (fun _ => False) none 0 0 []]) w w1) := by
    have er : ∀ b, ¬ (thRow tdL B 41 (fun _ => False) none 0 0 []).foot b := fun b hb => by
      rcases hb with h | h
      · exact h
      · cases (show (none : Option Nat) = some b from h)
    refine ⟨((Apt.nil w1).cons (t := thRow tdL B 41 (fun _ => False) none 0 0 []) ⟨SOwn.nil .., fun b hb => hb.elim⟩ (fun s hs => by cases hs)).cons (t := thSt (B + 2) B (B + 1) (fun _ => False) [] []) HS1.out (fun s hs b hb hs' => by obtain rfl := List.mem_singleton.1 hs; exact er b hs'), Mv.below HB1.out, ?_⟩
    rintro b ⟨s, hs, hb'⟩
    rcases List.mem_cons.1 hs with rfl | hs
    · right
      have := hB.out
      rcases hb' with rfl | rfl | rfl | h
      · omega
      · omega
      · omega
      · exact h.elim
    · obtain rfl := List.mem_singleton.1 hs
      exact absurd hb' (er b)
  clear HS1 HB1
  obtain ⟨H, hH⟩ : ∃ H, Hid (B + 2 = H) := ⟨_, rfl⟩
  rw [hH.out] at T0
  rw [hH.out]
  go_loopw [5, 14] (fun ov iv wr => ∃ (i : Nat) (ar : Option Addr) (cr : Nat) (G : Nat → Prop) (mo ms : Nat) (Fz : Nat → Prop) (po : PM Ob) (ps : PM (Nat × PM Ob)), i ≤ len ∧ iv = .int .i64 i ∧ ov = .slice ar i cr ∧ Hid (erO po = (finP pl0 (cs.take i)).objs ∧ erS ps = (finP pl0 (cs.take i)).snaps) ∧ Hid (Turns (thAll []) (thAll [thSt H mo ms Fz po ps, thRow tdL B 41 G ar i cr (outsP pl0 (cs.take i))]) w wr)) (fun _ iv _ => len - (intOf iv).toNat)
  case atStart => exact ⟨0, none, 0, _, _, _, _, [], [], by omega, rfl, rfl, ⟨rfl, rfl⟩, T0⟩
  case round =>
    obtain ⟨i, ar, cr, G, mo, ms, Fz, po, ps, hi, rfl, rfl, hE, hT⟩ := hrel
    by_cases hlt : i < len
    · have hBW := Lib.hid hT.out.nilBelowT
      obtain ⟨b, off, c, ad, ld, cd, rfl, hb, hci, hrow, _, c0, c1, c2, c3, c4, c5, c6, c7⟩ := cmAt (HA.out.below hBW.out) i hlt
      have hco : c.Ok := HOK.out c (List.mem_of_getElem? hci)
      have hsok : (finP pl0 (cs.take i)).Ok := finP_ok _ _ pl0_ok (fun x hx => HOK.out x (List.mem_of_mem_take hx))
      obtain ⟨hts, hos⟩ := take_plays pl0 cs i c hci
      have HTS := Lib.hid hts
      have HOS := Lib.hid hos
      have il : (i : Int) < len := by omega
      have T2 := hT.out.stays (Below_alloc1 (.cells (cmV c ad ld cd) 30))
      obtain ⟨W, hW⟩ : ∃ W, W = wr.alloc (.cells (cmV c ad ld cd) 30) := ⟨_, rfl⟩
      rw [← hW] at T2
      have hrW : Row .u8 W ad ld cd c.data := hrow.below (by rw [hW]; exact Below_alloc1 _)
      have hC := Lib.hid (doW H mo ms Fz po ps c ad ld cd W (T2.now.all 0 _ rfl) hco hrW (finP pl0 (cs.take i)) hE.out.1 hE.out.2 hsok)
      have T3 := Lib.hid T2
      unfold cmV at hW hC
      have hBw : Hid (B ≤ wr.heap.size) := by have := hB.out; have := hBW.out.size; show _ ≤ _; omega
      clear T2 hco hsok hts hos hrow hrW hci
      go_wp2_with fail
      rw [← hW]
      refine hC.out.mono ?_
      rintro e w2 ⟨ag, lg, cg, an, ln, cn, F2, mo2, ms2, FS2, po2, ps2, rfl, hT2, hE2⟩
      have T4 := Lib.hid (T3.out.trans (Turns.inside (i := 0) T3.out.now rfl hT2.out))
      have hat := Lib.hid ((show (thAt tdL F2 (doP (finP pl0 (cs.take i)) c).1 (tdV (doP (finP pl0 (cs.take i)) c).1.code (doP (finP pl0 (cs.take i)) c).1.size ag lg cg an ln cn).toList).holds w2 from hT2.out.now.all 1 _ rfl).1)
      have hBw2 : B ≤ w2.heap.size := by have := T4.out.mv.size; have := hB.out; omega
      unfold tdV at hat T4 ⊢
      go_wp2_with (at_builtin; refine wpList_append_RT (L := tdL) (wr := w2) rfl (.tmp 18) (.tmp 22) 34 rfl B 41 _ 72 Try.underlying34 info_told rfl G ar i cr _ rfl (thSt H mo2 ms2 FS2 po2 ps2) _ T4.out.now _ (doP (finP pl0 (cs.take i)) c).1 rfl hat.out (by unfold maxLen; omega) (by omega) hBw2 ?_; intro a5 c5 w5 G5 T5; have T6 := Lib.hid (T4.out.trans T5))
      go_roundw
      case rel => exact ⟨i + 1, a5, c5, G5, mo2, ms2, FS2, po2, ps2, by omega, by go_num, rfl, by show _ ∧ _; rw [HTS.out]; exact hE2.out, by show Turns _ _ _ _; rw [HOS.out]; exact T6.out⟩
      case measure => (simp [intOf]; try omega)
    · obtain rfl : i = len := by omega
      have e := List.take_of_length_le (l := cs) (i := i) (by have := hll.out; omega)
      rw [e] at hT
      have hR : Hid (SRow tdL wr (fun _ => True) ar i cr (outsP pl0 cs)) := SOwn.row (SOwn.mono (hT.out.now.all 1 _ rfl : (thRow tdL B 41 G ar i cr (outsP pl0 cs)).holds wr).1 (Nat.le_refl _) (fun _ _ => trivial)) (fun _ _ => trivial)
      have hB' : Hid (Below w.heap.size w wr) := hT.out.nilBelowT
      go_wp2_with fail
      exact bodyPost_ret (results_tmp2 Try.results17 _ _ _) rfl ⟨ar, cr, rfl, hR, hB'⟩
end Go.Proofs.Ytkbfohbpndjcpaa
