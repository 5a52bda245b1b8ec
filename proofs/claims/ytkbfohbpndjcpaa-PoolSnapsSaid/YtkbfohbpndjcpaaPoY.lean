/- The walks of OwnKinds, Commands, pooled, sameTexts, SameTold, begun. -/
import Derived.Test.YtkbfohbpndjcpaaPoX
import Derived.Test.YtkbfohbpndjcpaaSameB
namespace Go.Proofs.Ytkbfohbpndjcpaa
open Go.RowKit
set_option linter.unusedVariables false
set_option maxRecDepth 100000
set_option linter.unusedSimpArgs false

def ownK : List Nat := [1, 2, 3, 4, 5, 6, 7, 8, 9, 10, 11, 12, 1, 2, 2, 2, 3, 8, 4, 4, 2, 3]
theorem ownK_ok : ∀ k ∈ ownK, 1 ≤ k ∧ k ≤ 12 := by decide
def intsA (ks : List Nat) : Array Value := (ks.map fun n : Nat => Value.int .i64 (n : Int)).toArray
theorem int_wfP {x : Int} (h0 : -9223372036854775808 ≤ x) (h1 : x ≤ 9223372036854775807) : (Lit.int .i64 x).wf = true := by
  simp [Lit.wf, IntKind.min, IntKind.max, IntKind.signed, IntKind.bits]; omega
/-- A row of numbers known whole. -/
theorem kindsRow {w : World} {g : Nat} {t : TypeId} (ks : List Nat) (h : Box w g (intsA ks) t) (hl : ks.length ≤ 1000) (hs : ∀ k ∈ ks, k ≤ 1000) : Row .i64 w (some ⟨g, 0, none⟩) ks.length ks.length (ks.map (fun n : Nat => (n : Int))) := by
  refine ⟨by simp, Nat.le_refl _, by unfold maxLen; omega, (fun h => by cases h), fun x hx => ?_, .inr ⟨g, 0, rfl, fun i hi => ?_⟩⟩
  · obtain ⟨k, hk, rfl⟩ := List.mem_map.1 hx
    have := hs k hk
    exact int_wfP (by omega) (by omega)
  · rw [Nat.zero_add, h.cell i]
    unfold intsA
    simp [hi]
set_option maxHeartbeats 4000000 in
theorem ownKindsW (w : World) : Calls Try.prog 8 #[] w fun e w' => e = .returned (.slice (some ⟨w.heap.size, 0, none⟩) 22 22) ∧ Hid (Box w' w.heap.size (intsA ownK) 3) ∧ Hid (Below w.heap.size w w') := by
  go_enter Try.func8, Try.ntmps8
  go_wp2_with fail
  go_ret
  exact ⟨rfl, Box.new rfl, Below_alloc1 _⟩
theorem odAt {w : World} {F : Nat → Prop} {a : Option Addr} {len cap : Nat} {os : List Od} (h : SRow odL w F a len cap os) (i : Nat) (hi : i < len) :
    ∃ b off o ad ld cd, a = some ⟨b, off, none⟩ ∧ b < w.heap.size ∧ os[i]? = some o ∧ Row .u8 w ad ld cd o.data ∧ w.cell? ⟨b, off + i * 6, none⟩ = some (.int .i64 o.kind) ∧ w.cell? ⟨b, off + i * 6 + 1, none⟩ = some (.int .i64 o.name) ∧ w.cell? ⟨b, off + i * 6 + 2, none⟩ = some (.int .i64 o.other) ∧
      w.cell? ⟨b, off + i * 6 + 3, none⟩ = some (.int .i64 o.off) ∧ w.cell? ⟨b, off + i * 6 + 4, none⟩ = some (.int .i64 o.count) ∧ w.cell? ⟨b, off + i * 6 + 5, none⟩ = some (.slice ad ld cd) := by
  obtain ⟨b, off, vs, ha, _, hb, hx, hc⟩ := h.get i hi
  have hm := List.getElem?_eq_getElem (show i < os.length by rw [h.1]; exact hi)
  obtain ⟨us, ws, rfl, h1, ad, ld, cd, h2, h3⟩ := hx _ hm
  have e1 : us = odC (os[i]'(by rw [h.1]; exact hi)) := h1
  subst e1 h2
  exact ⟨b, off, _, ad, ld, cd, ha, hb, hm, h3.toRow, hc 0 (by decide), hc 1 (by decide), hc 2 (by decide), hc 3 (by decide), hc 4 (by decide), hc 5 (by decide)⟩
theorem info_cmd : (Try.prog.info? 30).map (fun i => (i.zero, i.size, i.bytes)) = some (some (.agg #[.int .i64 0, .string ⟨#[]⟩, .string ⟨#[]⟩, .int .i64 0, .int .i64 0, .int .i64 0, .int .i64 0, .slice none 0 0]), 8, 96) := by kernel_rfl
/-- A command of the call's own, as the next one of a row. -/
theorem cm_next {w w2 : World} {a : Option Addr} {l c : Nat} {base : Nat} {e : TypeId} {ar : Option Addr} {i cr : Nat} {cs : List Cm} (x : Cm) (h : NewB w w2 a l c x.data) (hO : SOwn cmL w base e (fun _ => True) ar i cr cs) :
    cmL.at_ w2 (fun b => w.heap.size ≤ b ∧ b < w2.heap.size) x (cmV x a l c).toList ∧ ∀ b, (w.heap.size ≤ b ∧ b < w2.heap.size) → True ∧ b < w2.heap.size ∧ (Value.slice ar i cr).ownBlock ≠ some b :=
  ⟨cm_at x (h.row.toS (fun p hp _ => h.new p hp)), fun b hb => ⟨trivial, hb.2, fun he => by
    have := (World.ownsRow.lt hO.2.choose_spec.choose_spec.1 b he).2
    omega⟩⟩
theorem cm_nextG {w w2 : World} {a : Option Addr} {l c : Nat} {base B : Nat} {e : TypeId} {ar : Option Addr} {i cr : Nat} {cs : List Cm} {G : Nat → Prop} (x : Cm) (h : NewB w w2 a l c x.data) (hO : SOwn cmL w base e G ar i cr cs) (hB : B ≤ w.heap.size) :
    cmL.at_ w2 (fun b => w.heap.size ≤ b ∧ b < w2.heap.size) x (cmV x a l c).toList ∧ ∀ b, (w.heap.size ≤ b ∧ b < w2.heap.size) → B ≤ b ∧ b < w2.heap.size ∧ (Value.slice ar i cr).ownBlock ≠ some b :=
  ⟨cm_at x (h.row.toS (fun p hp _ => h.new p hp)), fun b hb => ⟨by omega, hb.2, fun he => by
    have := (World.ownsRow.lt hO.2.choose_spec.choose_spec.1 b he).2
    omega⟩⟩
set_option maxHeartbeats 8000000 in
theorem commandsG (F : Nat → Prop) (a : Option Addr) (len cap : Nat) (os : List Od) (n : Nat) (bk ok lk ck : Nat) (ks : List Nat) (w : World) (ha : SRow odL w F a len cap os) (hk : Row .i64 w (some ⟨bk, ok, none⟩) lk ck (ks.map (fun n : Nat => (n : Int)))) (h0 : 0 < lk) (h1 : lk ≤ 100) (hn : n ≤ 1000) :
    Calls Try.prog 7 #[.slice a len cap, .int .i64 n, .slice (some ⟨bk, ok, none⟩) lk ck] w fun e w' => ∃ a' l' c', e = .returned (.slice a' l' c') ∧ Hid (SOwn cmL w' w.heap.size 30 (fun b => w.heap.size ≤ b) a' l' c' (commandsP os n ks)) ∧ Hid (Below w.heap.size w w') := by
  have HA := Lib.hid ha
  have HKR := Lib.hid hk
  have hle := ha.hle
  have hmx := ha.hmax
  unfold maxLen at hmx
  have hll : Hid (os.length = len) := ha.1
  clear ha hk
  obtain ⟨B, hB⟩ : ∃ B, Hid (w.heap.size = B) := ⟨_, rfl⟩
  have S0 : Hid (SOwn cmL w B 30 (fun b => B ≤ b) none 0 0 []) := SOwn.nil ..
  have B0 : Hid (Below B w w) := Below.refl _ _
  rw [hB.out]
  go_enter Try.func7, Try.ntmps7
  go_wp2_with fail
  go_loopw [7, 8] (fun ov iv wr => ∃ (i : Nat) (ao : Option Addr) (co : Nat), i ≤ n ∧ i ≤ len ∧ iv = .int .i64 i ∧ ov = .slice ao i co ∧ Hid (SOwn cmL wr B 30 (fun b => B ≤ b) ao i co (commandsP os i ks)) ∧ Hid (Below B w wr)) (fun _ iv _ => n - (intOf iv).toNat)
  case atStart => exact ⟨0, none, 0, by omega, by omega, rfl, rfl, S0, B0⟩
  case round =>
    obtain ⟨i, ao, co, hi, hi2, rfl, rfl, hO, hBW⟩ := hrel
    by_cases hlt : i < len
    · have il : (i : Int) < len := by omega
      by_cases hln : i < n
      · have iln : (i : Int) < n := by omega
        have hBw : Below w.heap.size w wr := by rw [hB.out]; exact hBW.out
        obtain ⟨b, off, o, ad, ld, cd, rfl, hb, hoi, hroww, c0w, c1w, c2w, c3w, c4w, c5w⟩ := odAt HA.out i hlt
        have c0 := (hBw.cell (World.block_lt_of_cell? _ _ c0w)).trans c0w
        have c1 := (hBw.cell (World.block_lt_of_cell? _ _ c1w)).trans c1w
        have c2 := (hBw.cell (World.block_lt_of_cell? _ _ c2w)).trans c2w
        have c3 := (hBw.cell (World.block_lt_of_cell? _ _ c3w)).trans c3w
        have c4 := (hBw.cell (World.block_lt_of_cell? _ _ c4w)).trans c4w
        have c5 := (hBw.cell (World.block_lt_of_cell? _ _ c5w)).trans c5w
        have hnext := Lib.hid (commandsP_succ os i ks o hoi)
        have HC := Lib.hid (commandOfW o ad ld cd bk ok lk ck ks wr (hroww.below hBw) (HKR.out.below hBw) h0 h1)
        have hBwr : B ≤ wr.heap.size := by have := hB.out; have := hBw.size; omega
        have wi : IntKind.i64.wrap ((i : Int) + 1) = (i : Int) + 1 := IntWalk.i64_in _ (by omega)
        obtain ⟨x, hx⟩ : ∃ x, Hid (commandP o ks = x) := ⟨_, rfl⟩
        have HC1 := HC.out
        rw [hx.out] at HC1 hnext
        obtain ⟨ek, en, eo, ef, ec, ed⟩ := o
        unfold odV at HC1
        simp only at c0 c1 c2 c3 c4 c5 HC1
        have HC2 := Lib.hid HC1
        clear c0w c1w c2w c3w c4w c5w hroww hoi hx HC HC1 hBw
        go_wp2_with fail
        refine HC2.out.mono ?_
        rintro e w2 ⟨ag, lg, cg, rfl, hN⟩
        have HO2 := Lib.hid (hO.out.below hN.out.below)
        have HB2 : Hid (Below B w w2) := hBW.out.trans (hN.out.below.mono hBwr)
        have HX := Lib.hid (cm_nextG x hN.out hO.out hBwr)
        have hB2 : B ≤ w2.heap.size := by have := hN.out.below.size; omega
        unfold cmV at HX ⊢
        go_wp2_with (at_builtin; refine wpList_append_one (L := cmL) (wr := w2) rfl (.tmp 20) (.tmp 27) 23 rfl B 30 _ 96 Try.underlying23 info_cmd rfl (fun b => B ≤ b) ao i co _ rfl HO2.out _ x rfl _ HX.out.1 HX.out.2 (by unfold maxLen; omega) (by omega) hB2 ?_; intro a5 c5 w5 hown5 hg5; have HO5 := Lib.hid hown5; have HB5 : Hid (Below B w w5) := SOwn.grown HO2.out HB2.out (Nat.le_refl _) hB2 hg5; clear hown5 hg5)
        go_roundw
        case rel => exact ⟨i + 1, a5, c5, by omega, by omega, by go_num, rfl, by show SOwn _ _ _ _ _ _ _ _ _; rw [hnext.out]; exact HO5.out, HB5⟩
        case measure => (simp [intOf]; try omega)
      · obtain rfl : i = n := by omega
        go_wp2_with fail
        go_ret
        exact ⟨ao, i, co, rfl, hO, hBW⟩
    · obtain rfl : i = len := by omega
      have e : commandsP os n ks = commandsP os i ks := by
        unfold commandsP
        rw [List.take_of_length_le (by have := hll.out; omega), List.take_of_length_le (by have := hll.out; omega)]
      have E := Lib.hid e
      clear e
      go_wp2_with fail
      go_ret
      exact ⟨ao, i, co, rfl, by show SOwn _ _ _ _ _ _ _ _ _; rw [E.out]; exact hO.out, hBW⟩
theorem commandsW (F : Nat → Prop) (a : Option Addr) (len cap : Nat) (os : List Od) (n : Nat) (bk ok lk ck : Nat) (ks : List Nat) (w : World) (ha : SRow odL w F a len cap os) (hk : Row .i64 w (some ⟨bk, ok, none⟩) lk ck (ks.map (fun n : Nat => (n : Int)))) (h0 : 0 < lk) (h1 : lk ≤ 100) (hn : n ≤ 1000) :
    Calls Try.prog 7 #[.slice a len cap, .int .i64 n, .slice (some ⟨bk, ok, none⟩) lk ck] w fun e w' => ∃ a' l' c', e = .returned (.slice a' l' c') ∧ Hid (SOwn cmL w' w.heap.size 30 (fun _ => True) a' l' c' (commandsP os n ks)) ∧ Hid (Below w.heap.size w w') := by
  refine (commandsG F a len cap os n bk ok lk ck ks w ha hk h0 h1 hn).mono ?_
  rintro e w' ⟨a', l', c', rfl, h, hb⟩
  exact ⟨a', l', c', rfl, SOwn.mono h.out (Nat.le_refl _) (fun _ _ => trivial), hb⟩
theorem SOwn.srowLtP {α : Type} {L : Lay α} {B : Nat} {e : TypeId} {G : Nat → Prop} {a : Option Addr} {len cap : Nat} {xs : List α} {w : World} (h : SOwn L w B e G a len cap xs) : SRow L w (fun b => b < w.heap.size) a len cap xs := by
  obtain ⟨hl, vss, F, ho, hp, hF⟩ := h
  exact ⟨hl, fun x hx _ => (World.ownsRow.lt ho x.block (by rw [hx]; rfl)).2, vss, ho.row, hp.keep (fun b hb => (hF b hb).2.1) (fun _ _ _ => rfl)⟩
set_option maxHeartbeats 8000000 in
theorem pooledW (a : Option Addr) (len cap : Nat) (cs : List Cm) (w : World) (ha : SRow cmL w (fun b => b < w.heap.size) a len cap cs) (hok : ∀ c ∈ cs, c.Ok) (hn : len ≤ 200) :
    Calls Try.prog 11 #[.slice a len cap] w fun e w' => ∃ a' c', e = .returned (.tuple #[.slice a' len c', .bool true]) ∧ Hid (SRow tdL w' (fun _ => True) a' len c' (outsP pl0 cs)) ∧ Hid (Below w.heap.size w w') := by
  have HOK := Lib.hid hok
  have hle := ha.hle
  have hmx := ha.hmax
  unfold maxLen at hmx
  obtain ⟨uss, hV0, hP0, hL0⟩ := ha.whole
  have HV0 := Lib.hid hV0
  have HP0 := Lib.hid hP0
  have HL0 := Lib.hid hL0
  have S0 : Hid (SOwn cmL w w.heap.size 30 (fun _ => True) none 0 0 []) := SOwn.nil ..
  have hF0 : Hid (∀ b, b < w.heap.size → True ∧ b < w.heap.size ∧ (Value.slice none 0 0).ownBlock ≠ some b) := fun b hb => ⟨trivial, hb, fun e => by cases (show (none : Option Nat) = some b from e)⟩
  clear ha hok hV0 hP0 hL0
  go_enter Try.func11, Try.ntmps11
  go_wp2_with (at_builtin; refine wpList_append_data (L := cmL) rfl (.const (.slice none 0 0)) (.tmp 7) 23 rfl w.heap.size 30 _ 96 Try.underlying23 info_cmd rfl (fun _ => True) none 0 0 [] rfl S0.out a len cap cs uss rfl HV0.out (fun b => b < w.heap.size) HP0.out HL0.out hF0.out (by unfold maxLen; omega) (by omega) (Nat.le_refl _) ?_; intro a2 c2 w2 hown2 hg2; rw [Nat.zero_add] at hown2 ⊢; have HO2 := Lib.hid (show SOwn cmL w2 w.heap.size 30 (fun _ => True) a2 len c2 cs from hown2); have HB2 : Hid (Below w.heap.size w w2) := (Below.refl _ _).grown hg2 (Nat.le_refl _) (fun k hk => by cases hk); clear hown2 hg2)
  refine (playP (fun _ => True) a2 len c2 cs w2 (SOwn.sRow HO2.out) HOK.out hn).mono ?_
  rintro e w3 ⟨a3, c3, rfl, hR, hB3⟩
  have HB3 : Hid (Below w.heap.size w w3) := HB2.out.trans (hB3.out.mono HB2.out.size)
  clear hB3
  go_wp2_with fail
  exact bodyPost_ret (results_tmp2 Try.results11 _ _ _) rfl ⟨a3, c3, rfl, hR, HB3⟩
theorem nmAt {w : World} {F : Nat → Prop} {a : Option Addr} {len cap : Nat} {xs : List Nm} (h : SRow strL w F a len cap xs) (i : Nat) (hi : i < len) :
    ∃ b off x, a = some ⟨b, off, none⟩ ∧ xs[i]? = some x ∧ w.cell? ⟨b, off + i, none⟩ = some (encStr x) := by
  obtain ⟨b, off, vs, ha, _, hb, hx, hc⟩ := h.get i hi
  have hm := List.getElem?_eq_getElem (show i < xs.length by rw [h.1]; exact hi)
  have hv : vs = [encStr (xs[i]'(by rw [h.1]; exact hi))] := hx _ hm
  refine ⟨b, off, _, ha, hm, ?_⟩
  have := hc 0 (by decide)
  rw [hv] at this
  have e : i * strL.size + 0 = i := by show i * 1 + 0 = i; omega
  rw [e] at this
  exact this
set_option maxHeartbeats 4000000 in
theorem sameTextsW (F : Nat → Prop) (a : Option Addr) (la ca : Nat) (xs : List Nm) (b : Option Addr) (lb cb : Nat) (G : Nat → Prop) (w : World) (ha : SRow strL w F a la ca xs) (hb : SRow strL w G b lb cb xs) :
    Calls Try.prog 19 #[.slice a la ca, .slice b lb cb] w fun e w' => e = .returned (.bool true) ∧ ∃ k, w' = w.drewN k := by
  obtain rfl : la = lb := by rw [← ha.1, ← hb.1]
  have h1 := ha.hle
  have h2 := ha.hmax
  have h3 := hb.hle
  have h4 := hb.hmax
  unfold maxLen at h2 h4
  have HA := Lib.hid ha
  have HB := Lib.hid hb
  clear ha hb
  go_enter Try.func19, Try.ntmps19
  go_wp2_with fail
  go_loopw [5] (fun i wr => ∃ k : Nat, k ≤ la ∧ i = .int .i64 k ∧ ∃ n, wr = w.drewN n) (fun i _ => la - (intOf i).toNat)
  case atStart => exact ⟨0, by omega, rfl, 0, rfl⟩
  case round =>
    obtain ⟨k, hk, rfl, n, rfl⟩ := hrel
    by_cases hlt : k < la
    · obtain ⟨b1, o1, x, rfl, hx1, e1⟩ := nmAt HA.out k hlt
      obtain ⟨b2, o2, y, rfl, hx2, e2⟩ := nmAt HB.out k hlt
      obtain rfl : x = y := by rw [hx1] at hx2; exact Option.some.inj hx2
      have hki : (k : Int) < (la : Int) := by omega
      clear hx1 hx2
      go_wp2
      go_quiet (fail)
      go_wp2
      go_roundw
      case rel => exact ⟨k + 1, by omega, by go_num, _, by first | rfl | exact World.drewN_drewN _ _ _⟩
      case measure => simp [intOf]; omega
    · obtain rfl : k = la := by omega
      go_wp2
      go_ret
      exact ⟨rfl, _, by first | rfl | exact World.drewN_drewN _ _ _⟩
theorem sameSelfP {a : Option Addr} {la ca : Nat} {xs : List Int} {b : Option Addr} {lb cb : Nat} {w : World} (ha : Row .u8 w a la ca xs) (hb : Row .u8 w b lb cb xs) : Calls Try.prog 18 #[.slice a la ca, .slice b lb cb] w fun e w' => e = .returned (.bool true) ∧ ∃ k, w' = w.drewN k := by
  refine (sameBytes a la ca xs b lb cb xs w ha hb).mono ?_
  rintro e w' ⟨rfl, h⟩
  exact ⟨by rw [decide_eq_true rfl], h⟩
set_option maxHeartbeats 4000000 in
theorem sameToldW (r : Td) (F G : Nat → Prop) (ad : Option Addr) (ld cd : Nat) (an : Option Addr) (ln cn : Nat) (bd : Option Addr) (md dd : Nat) (bn : Option Addr) (mn dn : Nat) (w : World)
    (hd1 : Row .u8 w ad ld cd r.data) (hn1 : SRow strL w F an ln cn r.names) (hd2 : Row .u8 w bd md dd r.data) (hn2 : SRow strL w G bn mn dn r.names) :
    Calls Try.prog 13 #[.agg (tdV r.code r.size ad ld cd an ln cn), .agg (tdV r.code r.size bd md dd bn mn dn)] w fun e w' => e = .returned (.bool true) ∧ Hid (Below w.heap.size w w') := by
  obtain ⟨W, hW⟩ : ∃ W, W = (w.alloc (.cells (tdV r.code r.size ad ld cd an ln cn) 41)).alloc (.cells (tdV r.code r.size bd md dd bn mn dn) 41) := ⟨_, rfl⟩
  have hB : Below w.heap.size w W := by rw [hW]; exact Below_alloc2 _ _
  have b1 : Box W w.heap.size (tdV r.code r.size ad ld cd an ln cn) 41 := by rw [hW]; exact Box.alloc (Box.new rfl) _
  have b2 : Box W (w.heap.size + 1) (tdV r.code r.size bd md dd bn mn dn) 41 := by rw [hW]; exact Box.new (by simp)
  have HB := Lib.hid hB
  have HSB := Lib.hid (sameSelfP (hd1.below hB) (hd2.below hB))
  have HST := Lib.hid (fun k => sameTextsW F an ln cn r.names bn mn dn G (W.drewN k) ((hn1.below hB).drewN k) ((hn2.below hB).drewN k))
  have x0 : W.cell? ⟨w.heap.size, 0, none⟩ = some (.int .i64 (r.code : Int)) := b1.cell 0
  have x1 : W.cell? ⟨w.heap.size, 1, none⟩ = some (.bool false) := b1.cell 1
  have x2 : W.cell? ⟨w.heap.size, 2, none⟩ = some (.int .i64 (r.size : Int)) := b1.cell 2
  have x3 : W.cell? ⟨w.heap.size, 3, none⟩ = some (.slice ad ld cd) := b1.cell 3
  have x4 : W.cell? ⟨w.heap.size, 4, none⟩ = some (.slice an ln cn) := b1.cell 4
  have y0 : W.cell? ⟨w.heap.size + 1, 0, none⟩ = some (.int .i64 (r.code : Int)) := b2.cell 0
  have y1 : W.cell? ⟨w.heap.size + 1, 1, none⟩ = some (.bool false) := b2.cell 1
  have y2 : W.cell? ⟨w.heap.size + 1, 2, none⟩ = some (.int .i64 (r.size : Int)) := b2.cell 2
  have y3 : W.cell? ⟨w.heap.size + 1, 3, none⟩ = some (.slice bd md dd) := b2.cell 3
  have y4 : W.cell? ⟨w.heap.size + 1, 4, none⟩ = some (.slice bn mn dn) := b2.cell 4
  clear hB b1 b2 hd1 hd2 hn1 hn2
  unfold tdV at hW ⊢
  go_enter Try.func13, Try.ntmps13
  go_wp2_with (first
    | (go_at_call 18; rw [← hW]; clear hW; refine HSB.out.mono ?_; rintro e w' ⟨rfl, k, rfl⟩)
    | (go_at_call 19; refine (HST.out _).mono ?_; rintro e w' ⟨rfl, k2, rfl⟩)
    | fail)
  go_ret
  exact ⟨rfl, below_drewN HB.out _⟩
theorem tdAt {w : World} {F : Nat → Prop} {a : Option Addr} {len cap : Nat} {rs : List Td} (h : SRow tdL w F a len cap rs) (i : Nat) (hi : i < len) :
    ∃ b off r ad ld cd an ln cn, a = some ⟨b, off, none⟩ ∧ b < w.heap.size ∧ rs[i]? = some r ∧ Row .u8 w ad ld cd r.data ∧ SRow strL w F an ln cn r.names ∧ w.cell? ⟨b, off + i * 5, none⟩ = some (.int .i64 (r.code : Int)) ∧ w.cell? ⟨b, off + i * 5 + 1, none⟩ = some (.bool false) ∧ w.cell? ⟨b, off + i * 5 + 2, none⟩ = some (.int .i64 (r.size : Int)) ∧
      w.cell? ⟨b, off + i * 5 + 3, none⟩ = some (.slice ad ld cd) ∧ w.cell? ⟨b, off + i * 5 + 4, none⟩ = some (.slice an ln cn) := by
  obtain ⟨b, off, vs, ha, _, hb, hx, hc⟩ := h.get i hi
  have hm := List.getElem?_eq_getElem (show i < rs.length by rw [h.1]; exact hi)
  obtain ⟨us, ws, rfl, h1, us2, ws2, h2, ⟨ad, ld, cd, h3, h4⟩, ⟨an, ln, cn, h5, h6⟩⟩ := hx _ hm
  have e1 : us = [.int .i64 ((rs[i]'(by rw [h.1]; exact hi)).code : Int), .bool false, .int .i64 ((rs[i]'(by rw [h.1]; exact hi)).size : Int)] := h1
  subst e1 h2 h3 h5
  exact ⟨b, off, _, ad, ld, cd, an, ln, cn, ha, hb, hm, h4.toRow, h6, hc 0 (by decide), hc 1 (by decide), hc 2 (by decide), hc 3 (by decide), hc 4 (by decide)⟩
theorem rowBox {α : Type} {L : Lay α} {w : World} {F : Nat → Prop} {g : Nat} {t : TypeId} (xs : List α) (vss : List (List Value)) (h : Box w g vss.flatten.toArray t) (hp : Pt L w F xs vss) (hl : xs.length ≤ 1000) (hF : F g) : SRow L w F (some ⟨g, 0, none⟩) xs.length xs.length xs := by
  refine ⟨rfl, fun x hx _ => by obtain rfl := Option.some.inj hx; exact hF, vss, ⟨?_, Nat.le_refl _, by unfold maxLen; omega, (fun h => by cases h), .inr ⟨g, 0, rfl, fun i hi => ?_⟩⟩, hp⟩
  · rw [flatten_length L.size vss hp.sizes, hp.1]
  · rw [Nat.zero_add, h.cell i]; simp
theorem cells1 (c : Cm) (h : c.data = []) {w : World} {F : Nat → Prop} : cmL.at_ w F c (cmV c none 0 0).toList := cm_at c (by rw [h]; exact SRow.nil ..)
def bc1 : Cm := ⟨1, [97], [], 0, 0, []⟩
def bc2 : Cm := ⟨2, [97], [], 0, 0, [5]⟩
def bc3 : Cm := ⟨3, [97], [], 0, 9, []⟩
theorem begun_outs : (outsP pl0 [bc1, bc2, bc3])[2]? = some ⟨0, 1, [5], []⟩ := by rfl
theorem begun_ok : ∀ c ∈ [bc1, bc2, bc3], c.Ok := by
  intro c hc
  simp only [List.mem_cons, List.mem_nil_iff, or_false] at hc
  rcases hc with rfl | rfl | rfl <;> exact ⟨by decide, by decide, by decide, by decide, by decide, by decide, by decide⟩
set_option maxHeartbeats 4000000 in
theorem begunW (w : World) : Calls Try.prog 12 #[] w fun e w' => e = .returned (.bool true) ∧ Hid (Below w.heap.size w w') := by
  obtain ⟨W, hW⟩ : ∃ W, W = (w.alloc (.cells #[.int .u8 5] 5)).alloc (.cells #[.int .i64 1, .string ⟨#[97]⟩, .string ⟨#[]⟩, .int .i64 0, .int .i64 0, .int .i64 0, .int .i64 0, .slice none 0 0, .int .i64 2, .string ⟨#[97]⟩, .string ⟨#[]⟩, .int .i64 0, .int .i64 0, .int .i64 0, .int .i64 0, .slice (some ⟨w.heap.size, 0, none⟩) 1 1, .int .i64 3, .string ⟨#[97]⟩, .string ⟨#[]⟩, .int .i64 0, .int .i64 9, .int .i64 0, .int .i64 0, .slice none 0 0] 30) := ⟨_, rfl⟩
  have hB : Hid (Below w.heap.size w W) := by rw [hW]; exact Below_alloc2 _ _
  have b1 : Box W w.heap.size #[.int .u8 5] 5 := by rw [hW]; exact Box.alloc (Box.new rfl) _
  have b2 : Box W (w.heap.size + 1) ([(cmV bc1 none 0 0).toList, (cmV bc2 (some ⟨w.heap.size, 0, none⟩) 1 1).toList, (cmV bc3 none 0 0).toList] : List (List Value)).flatten.toArray 30 := by rw [hW]; exact Box.new (by simp)
  have hz : W.heap.size = w.heap.size + 2 := by rw [hW]; simp
  have hr5 : Row .u8 W (some ⟨w.heap.size, 0, none⟩) 1 1 [5] := by
    refine ⟨rfl, Nat.le_refl _, by unfold maxLen; omega, (fun h => by cases h), fun x hx => by obtain rfl := List.mem_singleton.1 hx; rfl, .inr ⟨_, _, rfl, fun i hi => ?_⟩⟩
    obtain rfl : i = 0 := by omega
    exact b1.cell 0
  have hR : Hid (SRow cmL W (fun b => b < W.heap.size) (some ⟨w.heap.size + 1, 0, none⟩) 3 3 [bc1, bc2, bc3]) := by
    refine rowBox [bc1, bc2, bc3] _ b2 (((Pt.single (cells1 bc1 rfl)).append (Pt.single (cm_at bc2 (hr5.toS (fun x hx _ => ?_))))).append (Pt.single (cells1 bc3 rfl))) (by decide) (by omega)
    obtain rfl := Option.some.inj hx
    show w.heap.size < W.heap.size; omega
  have HP := Lib.hid (pooledW _ 3 3 _ W hR.out begun_ok (by decide))
  clear b1 b2 hz hr5
  go_enter Try.func12, Try.ntmps12
  go_wp2_with fail
  rw [← hW]
  clear hW
  refine HP.out.mono ?_
  rintro e w2 ⟨a2, c2, rfl, hR2, hB2⟩
  have HB2 : Hid (Below w.heap.size w w2) := hB.out.trans (hB2.out.mono hB.out.size)
  have hle2 := hR2.out.hle
  have hmx2 := hR2.out.hmax
  unfold maxLen at hmx2
  obtain ⟨b, off, r, ad, ld, cd, an, ln, cn, rfl, hb, hr, hd, _, _, _, d2, d3, _⟩ := tdAt hR2.out 2 (by decide)
  rw [begun_outs] at hr
  obtain rfl := Option.some.inj hr
  have hld : [5].length = ld := hd.hlen
  obtain rfl : ld = 1 := hld.symm
  rcases hd.hat with h0 | ⟨b3, o3, rfl, hc3⟩
  · omega
  have e0 : w2.cell? ⟨b3, o3, none⟩ = some (.int .u8 5) := hc3 0 (by decide)
  have e2 : w2.cell? ⟨b, off + 10 + 2, none⟩ = some (.int .i64 1) := d2
  have e3 : w2.cell? ⟨b, off + 10 + 3, none⟩ = some (.slice (some ⟨b3, o3, none⟩) 1 cd) := d3
  have e2' : w2.cell? ⟨b, off + 12, none⟩ = some (.int .i64 1) := d2
  have e3' : w2.cell? ⟨b, off + 13, none⟩ = some (.slice (some ⟨b3, o3, none⟩) 1 cd) := d3
  clear HP hB hR hR2 hB2 hd hc3 hr d2 d3 hld
  go_wp2_with fail
  go_ret
  exact ⟨rfl, HB2⟩
end Go.Proofs.Ytkbfohbpndjcpaa
