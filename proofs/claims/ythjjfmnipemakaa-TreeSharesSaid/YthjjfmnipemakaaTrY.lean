/- The walks of play and Play. -/
import Derived.Test.YthjjfmnipemakaaTrV
namespace Go.Proofs.Ythjjfmnipemakaa
open Go.RowKit
set_option linter.unusedVariables false
set_option maxRecDepth 100000

theorem startFo (w w1 : World) (hb : Below w.heap.size w w1)  (hown : (thOwn verL w.heap.size 78 (some ⟨w.heap.size, 0, none⟩) 1 1 [((none : Option PRt), 0)]).holds w1) :
    ∃ t, IsFo w w.heap.size w1.heap.size fo0 t ∧ Turns (thSince w) (thAll [t, thRow shnL w.heap.size 68 (fun _ => False) none 0 0 []]) w (w1.alloc (.cells (forV (some ⟨w.heap.size, 0, none⟩) 1 1 0) 74)) := by
  obtain ⟨W, hW⟩ : ∃ W, W = w1.alloc (.cells (forV (some ⟨w.heap.size, 0, none⟩) 1 1 0) 74) := ⟨_, rfl⟩
  rw [← hW]
  have hbox : Box W w1.heap.size (forV (some ⟨w.heap.size, 0, none⟩) 1 1 0) 74 := by rw [hW]; exact Box.new rfl
  have hb2 : Below w1.heap.size w1 W := by rw [hW]; exact Below_alloc1 _
  have hlt : w.heap.size < w1.heap.size := (thOwn verL w.heap.size 78 (some ⟨w.heap.size, 0, none⟩) 1 1 [((none : Option PRt), 0)]).lt hown w.heap.size rfl
  have hbW : Below w.heap.size w W := hb.trans (hb2.mono hb.size)
  have hv := Thing.below hown hb2
  have hfv : ∀ b, (thOwn verL w.heap.size 78 (some ⟨w.heap.size, 0, none⟩) 1 1 [((none : Option PRt), 0)]).foot b → b = w.heap.size := fun b hb => by
    have : some w.heap.size = some b := hb
    injection this with this; exact this.symm
  refine ⟨_, ⟨some ⟨w.heap.size, 0, none⟩, 1, [(none, 0)], w, fun _ => False, rfl, fun b hb => hb.elim, fun x hx => by obtain rfl := List.mem_singleton.1 hx; trivial, rfl⟩, ?_⟩
  have A3 : Apt [thSince w] W := (Apt.nil W).cons hbW (fun s hs => by cases hs)
  have A2 : Apt [thOld w (fun _ => False), thSince w] W := A3.cons (fun b hb => hb.elim) (fun s hs b hb => hb.elim)
  have A1 : Apt [thOwn verL w.heap.size 78 (some ⟨w.heap.size, 0, none⟩) 1 1 [((none : Option PRt), 0)], thOld w (fun _ => False), thSince w] W := A2.cons hv (fun s hs b hb hs' => by
    have e := hfv b hb
    rcases List.mem_cons.1 hs with rfl | hs
    · exact hs'
    · obtain rfl := List.mem_singleton.1 hs
      have : b < w.heap.size := hs'
      omega)
  have A0 : Apt [thBox w1.heap.size (forV (some ⟨w.heap.size, 0, none⟩) 1 1 0) 74, thOwn verL w.heap.size 78 (some ⟨w.heap.size, 0, none⟩) 1 1 [((none : Option PRt), 0)], thOld w (fun _ => False), thSince w] W := A1.cons hbox (fun s hs b hb hs' => by
    have e : b = w1.heap.size := hb
    rcases List.mem_cons.1 hs with rfl | hs
    · have := hfv b hs'; omega
    · rcases List.mem_cons.1 hs with rfl | hs
      · exact hs'
      · obtain rfl := List.mem_singleton.1 hs
        have : b < w.heap.size := hs'
        omega)
  have er : ∀ b, ¬ (thRow shnL w.heap.size 68 (fun _ => False) none 0 0 []).foot b := fun b hb => by
    rcases hb with h | h
    · exact h
    · cases (show (none : Option Nat) = some b from h)
  refine ⟨((Apt.nil W).cons (t := thRow shnL w.heap.size 68 (fun _ => False) none 0 0 []) ⟨SOwn.nil .., fun b hb => hb.elim⟩ (fun s hs => by cases hs)).cons (t := thAll _) A0 (fun s hs b hb hs' => by obtain rfl := List.mem_singleton.1 hs; exact er b hs'), Mv.below hbW, ?_⟩
  rintro b ⟨s, hs, hb'⟩
  rcases List.mem_cons.1 hs with rfl | hs
  · obtain ⟨x, hx, hbx⟩ := hb'
    rcases List.mem_cons.1 hx with rfl | hx
    · right; have : b = w1.heap.size := hbx; have := hb.size; omega
    · rcases List.mem_cons.1 hx with rfl | hx
      · right; have := hfv b hbx; omega
      · rcases List.mem_cons.1 hx with rfl | hx
        · exact hbx.elim
        · obtain rfl := List.mem_singleton.1 hx
          exact .inl hbx
  · obtain rfl := List.mem_singleton.1 hs
    exact absurd hb' (er b)
theorem ver_made (w w' : World) (base : Nat) (h : w'.ownsRow base 78 2 (.slice (some ⟨w.heap.size, 0, none⟩) 1 1) 1 (madeCells (Value.agg #[.pointer none, .int .i64 0]).cells (1 * 2)).toList) : (thOwn verL base 78 (some ⟨w.heap.size, 0, none⟩) 1 1 [((none : Option PRt), 0)]).holds w' :=
  ⟨rfl, [[.pointer none, .int .i64 0]], fun _ => False, (show (madeCells (Value.agg #[.pointer none, .int .i64 0]).cells (1 * 2)).toList = ([[.pointer none, .int .i64 0]] : List (List Value)).flatten from by kernel_rfl) ▸ h, ⟨rfl, fun i x vs hx hv => by
    match i, hx, hv with
    | 0, hx, hv =>
      obtain rfl := Option.some.inj hx
      obtain rfl := Option.some.inj hv
      rfl
    | i + 1, hx, hv => simp at hx⟩, fun b hb => hb.elim⟩
theorem isFo_box {W0 : World} {B k : Nat} {f : Fo} {t : Thing} {w : World} (h : IsFo W0 B k f t) (ht : t.holds w) : k < w.heap.size ∧ (thSince W0).holds w := by
  obtain ⟨av, cv, vs, W, G, _, _, _, rfl⟩ := h
  exact ⟨Box.lt (Apt.all ht 0 _ rfl), Apt.all ht 3 _ rfl⟩
set_option maxHeartbeats 8000000 in
theorem playW (F : Nat → Prop) (a : Option Addr) (len cap : Nat) (ss : List St) (w : World) (ha : SRow stL w F a len cap ss) (hok : fo0.Okays ss) (hn : len ≤ 200) :
    Calls Try.prog 22 #[.slice a len cap] w fun e w' => ∃ a' c' k t G, e = .returned (.tuple #[.slice a' len c', .pointer (some ⟨k, 0, none⟩), .int .i64 0]) ∧ Hid (IsFo w w.heap.size k (fo0.fin ss) t) ∧ Hid (Turns (thSince w) (thAll [t, thRow shnL w.heap.size 68 G a' len c' (fo0.outs ss)]) w w') := by
  have HA := Lib.hid ha
  have hle := ha.hle
  have hmx := ha.hmax
  unfold maxLen at hmx
  have hll : Hid (ss.length = len) := ha.1
  have HOK := Lib.hid hok
  have hst := fun w1 => Lib.hid (startFo w w1)
  have HST := Lib.hid hst
  have q300 : decide (300 < (len : Int)) = false := by simp; omega
  have q301 : decide (300 < len) = false := by simp; omega
  obtain ⟨iv, hiv0, hivz, hivs, hivb⟩ := info_parts info_version
  have HI0 := Lib.hid hiv0
  have HIZ := Lib.hid hivz
  have HIS := Lib.hid hivs
  have HIB : Hid (iv.bytes * 1 ≤ 281474976710656) := by show _ ≤ _; rw [hivb]; decide
  clear ha hok hst hiv0 hivz hivs hivb
  go_enter Try.func22, Try.ntmps22
  go_wp2_with (refine wpList_make_full _ rfl (.const (.int .i64 1)) (.const (.int .i64 1)) 72 rfl w.heap.size 78 iv _ 2 Try.underlying72 HI0.out HIZ.out HIS.out .i64 .i64 1 1 1 rfl rfl rfl rfl HIB.out (by unfold maxLen; omega) (Nat.le_refl _) ?_; intro w1 hown1 hg1; have HOW := Lib.hid (ver_made w w1 _ hown1); have HB1 : Hid (Below w.heap.size w w1) := (Below.refl _ _).grown hg1 (Nat.le_refl _) (fun k hk => by cases hk); clear hown1 hg1)
  obtain ⟨t0, hI0, hT0⟩ := (HST.out w1).out HB1.out HOW.out
  obtain ⟨k, hk⟩ : ∃ k, Hid (w1.heap.size = k) := ⟨_, rfl⟩
  obtain ⟨B, hB⟩ : ∃ B, Hid (w.heap.size = B) := ⟨_, rfl⟩
  rw [hk.out] at hI0
  rw [hB.out] at hI0 hT0
  rw [hk.out, hB.out]
  have HT0 := Lib.hid hT0
  have HI0' := Lib.hid hI0
  clear hT0 hI0
  go_loopw [6, 17] (fun ov iv wr => ∃ (i : Nat) (ar : Option Addr) (cr : Nat) (G : Nat → Prop) (t : Thing), i ≤ len ∧ iv = .int .i64 i ∧ ov = .slice ar i cr ∧ Hid (IsFo w B k (fo0.fin (ss.take i)) t) ∧ Hid (Turns (thSince w) (thAll [t, thRow shnL B 68 G ar i cr (fo0.outs (ss.take i))]) w wr)) (fun _ iv _ => len - (intOf iv).toNat)
  case atStart => exact ⟨0, none, 0, _, t0, by omega, rfl, rfl, HI0', HT0⟩
  case round =>
    obtain ⟨i, ar, cr, G, t, hi, rfl, rfl, hI, hT⟩ := hrel
    by_cases hlt : i < len
    · obtain ⟨hkl, hBW⟩ := isFo_box hI.out (hT.out.now.all 0 _ rfl)
      obtain ⟨b, off, s, ad, ld, cd, rfl, hb, hsi, hrow, c0, c1, c2, c3, c4⟩ := stAt (HA.out.below hBW) i hlt
      have hRow := Lib.hid (fun (w' : World) (h : (thSince w).holds w') => (by
        obtain ⟨b', off', s', ad', ld', cd', e1, _, e2, e3, _, _, _, _, e4⟩ := stAt HA.out i hlt
        obtain rfl : s' = s := by rw [e2] at hsi; exact Option.some.inj hsi
        obtain ⟨rfl, rfl⟩ : b = b' ∧ off = off' := by simpa using e1
        have h1 := hBW.cell (World.block_lt_of_cell? _ _ e4)
        rw [e4, c4] at h1
        obtain ⟨rfl, rfl, rfl⟩ : ad = ad' ∧ ld = ld' ∧ cd = cd' := by simpa using h1
        exact e3.below h : Row .u8 w' ad ld cd s.data))
      obtain ⟨hok1, hok2⟩ := Fo.okays_take fo0 ss HOK.out i s hsi
      have hgd := Fo.fin_good (ss.take i) fo0 fo0_good hok1
      have hlen : (ss.take i).length ≤ i := List.length_take_le _ _
      obtain ⟨hts, hos⟩ := Fo.take_succ fo0 ss i s hsi
      have HTS := Lib.hid hts
      have HOS := Lib.hid hos
      have il : (i : Int) < len := by omega
      have T2 := hT.out.stays (Below_alloc1 (.cells (s.toV ad ld cd) 29))
      obtain ⟨W, hW⟩ : ∃ W, W = wr.alloc (.cells (s.toV ad ld cd) 29) := ⟨_, rfl⟩
      rw [← hW] at T2
      have hBW2 : B ≤ W.heap.size := by have := T2.mv.size; have := hB.out; omega
      have m1 : (fo0.fin (ss.take i)).made ≤ 800000 := by have : fo0.made = 0 := rfl; omega
      have m2 : (fo0.fin (ss.take i)).vers.length ≤ 400 := by have : fo0.vers.length = 1 := rfl; omega
      have hC := Lib.hid (stepW w B k (fo0.fin (ss.take i)) t s ad ld cd W hI.out (T2.now.all 0 _ rfl) hgd.1 hok2 hRow.out m1 m2 hBW2)
      have T3 := Lib.hid T2
      unfold St.toV stepV at hW hC
      clear T2 hBW hgd hok1 hok2 hts hos hrow m1 m2 hsi hlen hkl
      go_wp2_with fail
      rw [← hW]
      refine hC.out.mono ?_
      rintro e w2 ⟨t', ag, ng, cg, rfl, hI2, hT2⟩
      have T4 := Lib.hid (T3.out.trans (Turns.inside (i := 0) T3.out.now rfl hT2.out))
      have O2 := Lib.hid (show (thOwn (Lay.int .u8) B 5 ag ng cg ((fo0.fin (ss.take i)).step s).2.data).holds w2 from hT2.out.now.all 1 _ rfl)
      have hBw2 : B ≤ w2.heap.size := by have := T4.out.mv.size; have := hB.out; omega
      simp only [shownC]
      go_wp2_with (at_builtin; refine wpList_append_RT (L := shnL) (wr := w2) rfl (.tmp 21) (.tmp 25) 64 rfl B 68 _ 48 Try.underlying64 info_shown rfl G ar i cr _ rfl t' _ T4.out.now (shownC ((fo0.fin (ss.take i)).step s).2.code ((fo0.fin (ss.take i)).step s).2.version ((fo0.fin (ss.take i)).step s).2.size ag ng cg) ((fo0.fin (ss.take i)).step s).2 rfl (shn_at _ O2.out) (by unfold maxLen; omega) (by omega) hBw2 ?_; intro a5 c5 w5 G5 T5; have T6 := Lib.hid (T4.out.trans T5))
      go_roundw
      case rel => exact ⟨i + 1, a5, c5, G5, t', by omega, by go_num, rfl, by show IsFo _ _ _ _ _; rw [HTS.out]; exact hI2.out, by show Turns _ _ _ _; rw [HOS.out]; exact T6.out⟩
      case measure => (simp [intOf]; try omega)
    · obtain rfl : i = len := by omega
      have e := List.take_of_length_le (l := ss) (i := i) (by have := hll.out; omega)
      rw [e] at hT hI
      go_wp2_with fail
      exact bodyPost_ret (results_tmp3 Try.results22 _ _ _) rfl ⟨ar, cr, k, t, G, rfl, by rw [hB.out]; exact hI, by rw [hB.out]; exact hT⟩
theorem playTop (F : Nat → Prop) (a : Option Addr) (len cap : Nat) (ss : List St) (w : World) (ha : SRow stL w F a len cap ss) (hok : fo0.Okays ss) (hn : len ≤ 200) :
    Calls Try.prog 21 #[.slice a len cap] w fun e w' => ∃ a' c', e = .returned (.tuple #[.slice a' len c', .int .i64 0]) ∧ Hid (SRow shnL w' (fun _ => True) a' len c' (fo0.outs ss)) ∧ Below w.heap.size w w' := by
  have hP := Lib.hid (playW F a len cap ss w ha hok hn)
  clear ha hok
  go_enter Try.func21, Try.ntmps21
  go_wp2_with fail
  refine hP.out.mono ?_
  rintro e w' ⟨a', c', k, t, G, rfl, hI, hT⟩
  have hS := Lib.hid (isFo_box hI.out (hT.out.now.all 0 _ rfl)).2
  go_wp2_with fail
  exact bodyPost_ret (results_tmp2 Try.results21 _ _ _) rfl ⟨a', c', rfl, SOwn.sRow (hT.out.now.all 1 _ rfl : (thRow shnL w.heap.size 68 G a' len c' (fo0.outs ss)).holds w').1, hS.out⟩
end Go.Proofs.Ythjjfmnipemakaa
