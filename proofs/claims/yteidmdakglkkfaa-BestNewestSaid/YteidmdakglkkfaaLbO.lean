/- The walk of LabelOf. -/
import Derived.Test.YteidmdakglkkfaaLbG
import Derived.Test.YteidmdakglkkfaaBoxOps
import Derived.Deep.RegionHeld3
import Derived.Deep.DeepCutAuto
namespace Go.Proofs.Yteidmdakglkkfaa
open Go.RowKit
set_option linter.unusedVariables false
set_option maxRecDepth 100000

theorem results_box {P : Program} {fn : Func} {p : Tmp} {ty : TypeId} (h : fn.results = #[.cell p ty]) (tmps : Array Value) (w : World) (g : Nat) (t : TypeId) (cs : Array Value) (hg : Box w g cs t) (d : TypeDesc)
    (hp : tmps.getD p undef = .pointer (some ⟨g, 0, none⟩))
    (hu : P.underlying ty = some d) (hd : (match d with | .struct _ | .array _ _ => true | _ => false) = true) (hi : (P.info? ty).map (·.size) = some cs.size) :
    (results fn tmps).run P w = .ok (.agg cs) w := by
  have hp' : tmps[p]?.getD undef = .pointer (some ⟨g, 0, none⟩) := by simpa using hp
  simp [results, h, hp', asAddr, run_loadVar_row w g t ty cs (0, 0) d hg hu hd hi]

theorem kept0 {W : World} {a : Addr} {u : Option Value} (h : W.cell? a = u) : W.drew.cell? a = u := h
theorem kept {W : World} {p a : Addr} {v : Value} {u : Option Value} (h : W.cell? a = u) (hp : p ≠ a) : (W.setCell p v).cell? a = u := by
  rw [World.cell?_setCell_other _ _ _ _ hp]; exact h
theorem Box.as {w : World} {g : Nat} {vs vs' : Array Value} {t : TypeId} (h : Box w g vs t) (e : vs = vs') : Box w g vs' t := e ▸ h
structure Tag where
  pool : Int
  drive : Int
  drives : Int
  parity : Int
  time : Int
  addr : Int
  count : Int
  bytes : Int
  a : Int
  b : Int
  c : Int
  d : Int
def Tag.cells (x : Tag) : Array Value := #[.int .i64 x.pool, .int .i64 x.drive, .int .i64 x.drives, .int .i64 x.parity, .int .i64 x.time, .int .i64 x.addr, .int .i64 x.count, .int .i64 x.bytes, .int .i64 x.a, .int .i64 x.b, .int .i64 x.c, .int .i64 x.d]
def LabelOfs (x : Tag) (w : World) (e : Ending) (w' : World) : Prop := ∃ y : Lab, e = .returned (.agg y.cells) ∧ y.may = true ∧ y.a = x.a ∧ y.b = x.b ∧ y.c = x.c ∧ y.d = x.d ∧ Below w.heap.size w w'

set_option maxHeartbeats 4000000 in
theorem labelOf (pool drive drives parity time addr count bytes a b c d : Int) (w : World) :
    Calls Try.prog 24 #[.agg #[.int .i64 pool, .int .i64 drive, .int .i64 drives, .int .i64 parity, .int .i64 time, .int .i64 addr, .int .i64 count, .int .i64 bytes, .int .i64 a, .int .i64 b, .int .i64 c, .int .i64 d]] w (LabelOfs ⟨pool, drive, drives, parity, time, addr, count, bytes, a, b, c, d⟩ w) := by
  go_enter Try.func24, Try.ntmps24
  go_wp2_with fail
  obtain ⟨V, hV⟩ : ∃ V, V = (w.alloc (.cells #[.int .i64 pool, .int .i64 drive, .int .i64 drives, .int .i64 parity, .int .i64 time, .int .i64 addr, .int .i64 count, .int .i64 bytes, .int .i64 a, .int .i64 b, .int .i64 c, .int .i64 d] 53)).alloc (.cells #[.int .i64 0, .int .i64 0, .int .i64 0, .int .i64 0, .int .i64 0, .int .i64 0, .int .i64 0, .int .i64 0, .int .i64 0, .int .i64 0, .int .i64 0, .int .i64 0, .int .i64 0] 57) := ⟨_, rfl⟩
  have BT : Box V w.heap.size #[.int .i64 pool, .int .i64 drive, .int .i64 drives, .int .i64 parity, .int .i64 time, .int .i64 addr, .int .i64 count, .int .i64 bytes, .int .i64 a, .int .i64 b, .int .i64 c, .int .i64 d] 53 := by rw [hV]; exact (Box.new rfl).alloc _
  have BR : Box V (w.heap.size + 1) #[.int .i64 0, .int .i64 0, .int .i64 0, .int .i64 0, .int .i64 0, .int .i64 0, .int .i64 0, .int .i64 0, .int .i64 0, .int .i64 0, .int .i64 0, .int .i64 0, .int .i64 0] 57 := by rw [hV]; exact Box.new (by simp)
  have LB : Hid (Below w.heap.size w V) := by rw [hV]; exact ((Below.refl _ _).alloc (Nat.le_refl _) _).alloc (by simp) _
  rw [← hV]
  clear hV
  obtain ⟨tb, hh⟩ : ∃ tb, Hid (w.heap.size = tb) := ⟨_, rfl⟩
  rw [hh.out] at BT BR ⊢
  have HT := Lib.hid BT
  have HR := Lib.hid BR
  have q0 : V.cell? ⟨tb, 0, none⟩ = some (.int .i64 pool) := BT.cell 0
  have q2 : V.cell? ⟨tb, 2, none⟩ = some (.int .i64 drives) := BT.cell 2
  have q4 : V.cell? ⟨tb, 4, none⟩ = some (.int .i64 time) := BT.cell 4
  clear BT BR
  go_cut [3] (fun v3 wx => ∃ (g : Nat) (pl ds r : Int), v3 = .pointer (some ⟨g, 0, none⟩) ∧ tb + 1 < g ∧ w.heap.size ≤ g ∧ 1 ≤ pl ∧ pl ≤ 1048576 ∧ 2 ≤ ds ∧ ds ≤ 8 ∧ 0 ≤ r ∧ r ≤ 1048576 ∧ Hid (Box wx g #[.int .i64 pl, .int .i64 0, .int .i64 ds, .int .i64 0, .int .i64 r, .int .i64 0, .int .i64 0, .int .i64 0, .int .i64 0, .int .i64 0, .int .i64 0, .int .i64 0, .int .i64 0] 57) ∧ Hid (Box wx tb #[.int .i64 pool, .int .i64 drive, .int .i64 drives, .int .i64 parity, .int .i64 time, .int .i64 addr, .int .i64 count, .int .i64 bytes, .int .i64 a, .int .i64 b, .int .i64 c, .int .i64 d] 53) ∧ Hid (Box wx (tb + 1) #[.int .i64 0, .int .i64 0, .int .i64 0, .int .i64 0, .int .i64 0, .int .i64 0, .int .i64 0, .int .i64 0, .int .i64 0, .int .i64 0, .int .i64 0, .int .i64 0, .int .i64 0] 57) ∧ Hid (Below w.heap.size w wx))
  case first =>
    go_region_held3 (fun w' => w'.cell? ⟨tb, 0, none⟩ = some (.int .i64 pool) ∧ w'.cell? ⟨tb, 2, none⟩ = some (.int .i64 drives) ∧ w'.cell? ⟨tb, 4, none⟩ = some (.int .i64 time)) ((go_keep; done)) (first | (go_at_call 15; refine (picked _ _ _ (by omega) (by omega)).mono ?_; rintro e w' ⟨r, hr, hr0, hr1, rfl, rfl⟩))
    all_goals
      rename_i p hp hp0 hp1 q hq hq0 hq1 held
      clear held hp hq hr
      have s1 : IntKind.i64.wrap (1 + p) = 1 + p := IntWalk.i64_in _ (by omega)
      have s2 : IntKind.i64.wrap (2 + q) = 2 + q := IntWalk.i64_in _ (by omega)
      rw [s1, s2]
      clear s1 s2
      go_wp2_with fail
      go_meet
      exact ⟨V.heap.size, 1 + p, 2 + q, r, rfl, by have := HR.out.lt; omega, LB.out.size, by omega, by omega, by omega, by omega, by omega, by omega, (Box.new rfl).drew, (HT.out.alloc _).drew, (HR.out.alloc _).drew, (LB.out.alloc LB.out.size _).drew⟩
  case rest =>
    obtain ⟨g, pl, ds, r, rfl, hgh, hwg, hpl0, hpl1, hds0, hds1, hr0, hr1, HX1, HT1, HR1, LB1⟩ := hcut
    clear HT HR LB q0 q2 q4
    have hng : tb ≠ g := by omega
    have hng1 : tb + 1 ≠ g := by omega
    have hwh : w.heap.size ≤ tb + 1 := by have := hh.out; omega
    obtain ⟨V1, hV1⟩ : ∃ W, W = wc := ⟨_, rfl⟩
    rw [← hV1] at HX1 HT1 HR1 LB1 ⊢
    clear hV1
    have q1 : V1.cell? ⟨tb, 1, none⟩ = some (.int .i64 drive) := HT1.out.cell 1
    have q3 : V1.cell? ⟨tb, 3, none⟩ = some (.int .i64 parity) := HT1.out.cell 3
    have x1 : V1.cell? ⟨g, 1, none⟩ = some (.int .i64 0) := HX1.out.cell 1
    have x2 : V1.cell? ⟨g, 2, none⟩ = some (.int .i64 ds) := HX1.out.cell 2
    have x3 : V1.cell? ⟨g, 3, none⟩ = some (.int .i64 0) := HX1.out.cell 3
    have fr : V1.frozen? ⟨g, 1, none⟩ = false := HX1.out.free 1
    have fr3 : V1.frozen? ⟨g, 3, none⟩ = false := HX1.out.free 3
    have s1 : IntKind.i64.wrap (ds - 1) = ds - 1 := IntWalk.i64_in _ (by omega)
    have s2 : wrap64 (ds - 1) = ds - 1 := by unfold wrap64; omega
    go_wp2_with (first | (go_at_call_of 15 drive; refine (picked drive _ _ (by omega) (by omega)).mono ?_; rintro e w' ⟨dr, hdr, hdr0, hdr1, rfl, rfl⟩) | (go_at_call_of 15 parity; refine (picked parity _ _ (by omega) (by omega)).mono ?_; rintro e w' ⟨pr, hpr, hpr0, hpr1, rfl, rfl⟩))
    all_goals
      have hpr : pr < 3 ∧ pr < ds - 1 := by split at hpr1 <;> omega
      clear hdr hpr1
      have s3 : IntKind.i64.wrap (1 + pr) = 1 + pr := IntWalk.i64_in _ (by omega)
      have s4 : wrap64 (1 + pr) = 1 + pr := by unfold wrap64; omega
      obtain ⟨V2, hV⟩ : ∃ W, W = (V1.setCell ⟨g, 1, none⟩ (.int .i64 dr)).setCell ⟨g, 3, none⟩ (.int .i64 (1 + pr)) := ⟨_, rfl⟩
      have HX2 : Hid (Box V2 g #[.int .i64 pl, .int .i64 dr, .int .i64 ds, .int .i64 (1 + pr), .int .i64 r, .int .i64 0, .int .i64 0, .int .i64 0, .int .i64 0, .int .i64 0, .int .i64 0, .int .i64 0, .int .i64 0] 57) := by rw [hV]; exact (HX1.out.set 1 _).set 3 _
      have HT2 : Hid (Box V2 tb #[.int .i64 pool, .int .i64 drive, .int .i64 drives, .int .i64 parity, .int .i64 time, .int .i64 addr, .int .i64 count, .int .i64 bytes, .int .i64 a, .int .i64 b, .int .i64 c, .int .i64 d] 53) := by rw [hV]; exact (HT1.out.other _ (Ne.symm hng) _).other _ (Ne.symm hng) _
      have HR2 : Hid (Box V2 (tb + 1) #[.int .i64 0, .int .i64 0, .int .i64 0, .int .i64 0, .int .i64 0, .int .i64 0, .int .i64 0, .int .i64 0, .int .i64 0, .int .i64 0, .int .i64 0, .int .i64 0, .int .i64 0] 57) := by rw [hV]; exact (HR1.out.other _ (Ne.symm hng1) _).other _ (Ne.symm hng1) _
      have LB2 : Hid (Below w.heap.size w V2) := by rw [hV]; exact (LB1.out.setCell (p := ⟨g, 1, none⟩) hwg _).setCell (p := ⟨g, 3, none⟩) hwg _
      change Code.wp _ _ _ _ ((V1.setCell ⟨g, 1, none⟩ (.int .i64 dr)).setCell ⟨g, 3, none⟩ (.int .i64 (1 + pr)))
      rw [← hV]
      clear hV HX1 HT1 HR1 LB1 q1 q3 x1 x2 x3 fr fr3
      obtain ⟨pa, hpa⟩ : ∃ x, x = 1 + pr := ⟨_, rfl⟩
      rw [← hpa] at HX2 ⊢
      have t5 : V2.cell? ⟨tb, 5, none⟩ = some (.int .i64 addr) := HT2.out.cell 5
      have t6 : V2.cell? ⟨tb, 6, none⟩ = some (.int .i64 count) := HT2.out.cell 6
      have t7 : V2.cell? ⟨tb, 7, none⟩ = some (.int .i64 bytes) := HT2.out.cell 7
      have t8 : V2.cell? ⟨tb, 8, none⟩ = some (.int .i64 a) := HT2.out.cell 8
      have t9 : V2.cell? ⟨tb, 9, none⟩ = some (.int .i64 b) := HT2.out.cell 9
      have t10 : V2.cell? ⟨tb, 10, none⟩ = some (.int .i64 c) := HT2.out.cell 10
      have t11 : V2.cell? ⟨tb, 11, none⟩ = some (.int .i64 d) := HT2.out.cell 11
      have t4 : V2.cell? ⟨g, 4, none⟩ = some (.int .i64 r) := HX2.out.cell 4
      have x5 : V2.cell? ⟨g, 5, none⟩ = some (.int .i64 0) := HX2.out.cell 5
      have f5 : V2.frozen? ⟨g, 5, none⟩ = false := HX2.out.free 5
      have x6 : V2.cell? ⟨g, 6, none⟩ = some (.int .i64 0) := HX2.out.cell 6
      have f6 : V2.frozen? ⟨g, 6, none⟩ = false := HX2.out.free 6
      have x7 : V2.cell? ⟨g, 7, none⟩ = some (.int .i64 0) := HX2.out.cell 7
      have f7 : V2.frozen? ⟨g, 7, none⟩ = false := HX2.out.free 7
      have x8 : V2.cell? ⟨g, 8, none⟩ = some (.int .i64 0) := HX2.out.cell 8
      have f8 : V2.frozen? ⟨g, 8, none⟩ = false := HX2.out.free 8
      have x9 : V2.cell? ⟨g, 9, none⟩ = some (.int .i64 0) := HX2.out.cell 9
      have f9 : V2.frozen? ⟨g, 9, none⟩ = false := HX2.out.free 9
      have x10 : V2.cell? ⟨g, 10, none⟩ = some (.int .i64 0) := HX2.out.cell 10
      have f10 : V2.frozen? ⟨g, 10, none⟩ = false := HX2.out.free 10
      have x11 : V2.cell? ⟨g, 11, none⟩ = some (.int .i64 0) := HX2.out.cell 11
      have f11 : V2.frozen? ⟨g, 11, none⟩ = false := HX2.out.free 11
      have x12 : V2.cell? ⟨g, 12, none⟩ = some (.int .i64 0) := HX2.out.cell 12
      have f12 : V2.frozen? ⟨g, 12, none⟩ = false := HX2.out.free 12
      have s5 : IntKind.i64.wrap (r + 1) = r + 1 := IntWalk.i64_in _ (by omega)
      go_region_held3 (fun w' => w'.cell? ⟨tb, 5, none⟩ = some (.int .i64 addr) ∧ w'.cell? ⟨tb, 6, none⟩ = some (.int .i64 count) ∧ w'.cell? ⟨tb, 7, none⟩ = some (.int .i64 bytes) ∧ w'.cell? ⟨tb, 8, none⟩ = some (.int .i64 a) ∧ w'.cell? ⟨tb, 9, none⟩ = some (.int .i64 b) ∧ w'.cell? ⟨tb, 10, none⟩ = some (.int .i64 c) ∧ w'.cell? ⟨tb, 11, none⟩ = some (.int .i64 d) ∧ w'.cell? ⟨g, 4, none⟩ = some (.int .i64 r)) ((first | (go_keep; done) | (refine ⟨?_, ?_, ?_, ?_, ?_, ?_, ?_, ?_⟩ <;> (refine kept0 (kept (kept (kept (kept (kept (kept (kept (kept ?_ ?_) ?_) ?_) ?_) ?_) ?_) ?_) ?_) <;> (first | assumption | (simp; done) | (simp; omega)))))) (first | (go_at_call_of 15 count; refine (picked count _ _ (by omega) (by omega)).mono ?_; rintro e w' ⟨ct, hct, hct0, hct1, rfl, rfl⟩) | (go_at_call_of 15 (65537 : Int); refine (picked addr _ _ (by omega) (by omega)).mono ?_; rintro e w' ⟨ad, had, had0, had1, rfl, rfl⟩) | (go_at_call_of 15 addr; (try rw [s5]); refine (picked addr _ _ (by omega) (by omega)).mono ?_; rintro e w' ⟨bt, hbt, hbt0, hbt1, rfl, rfl⟩))
      obtain ⟨V3, hV⟩ : ∃ W, W = ((((((((V2.setCell ⟨g, 5, none⟩ (.int .i64 ad)).setCell ⟨g, 6, none⟩ (.int .i64 ct)).setCell ⟨g, 7, none⟩ (.int .i64 0)).setCell ⟨g, 8, none⟩ (.int .i64 bt)).setCell ⟨g, 9, none⟩ (.int .i64 a)).setCell ⟨g, 10, none⟩ (.int .i64 b)).setCell ⟨g, 11, none⟩ (.int .i64 c)).setCell ⟨g, 12, none⟩ (.int .i64 d)).drew := ⟨_, rfl⟩
      have HX3 : Hid (Box V3 g #[.int .i64 pl, .int .i64 dr, .int .i64 ds, .int .i64 pa, .int .i64 r, .int .i64 ad, .int .i64 ct, .int .i64 0, .int .i64 bt, .int .i64 a, .int .i64 b, .int .i64 c, .int .i64 d] 57) := by rw [hV]; refine Box.as (((((((((HX2.out.set 5 _).set 6 _).set 7 _).set 8 _).set 9 _).set 10 _).set 11 _).set 12 _)).drew ?_; kernel_rfl
      have HT3 : Hid (Box V3 tb #[.int .i64 pool, .int .i64 drive, .int .i64 drives, .int .i64 parity, .int .i64 time, .int .i64 addr, .int .i64 count, .int .i64 bytes, .int .i64 a, .int .i64 b, .int .i64 c, .int .i64 d] 53) := by rw [hV]; exact @Box.drew _ _ _ _ (((((((((HT2.out.other _ (Ne.symm hng) _).other _ (Ne.symm hng) _).other _ (Ne.symm hng) _).other _ (Ne.symm hng) _).other _ (Ne.symm hng) _).other _ (Ne.symm hng) _).other _ (Ne.symm hng) _).other _ (Ne.symm hng) _))
      have HR3 : Hid (Box V3 (tb + 1) #[.int .i64 0, .int .i64 0, .int .i64 0, .int .i64 0, .int .i64 0, .int .i64 0, .int .i64 0, .int .i64 0, .int .i64 0, .int .i64 0, .int .i64 0, .int .i64 0, .int .i64 0] 57) := by rw [hV]; exact (((((((((HR2.out.other _ (Ne.symm hng1) _).other _ (Ne.symm hng1) _).other _ (Ne.symm hng1) _).other _ (Ne.symm hng1) _).other _ (Ne.symm hng1) _).other _ (Ne.symm hng1) _).other _ (Ne.symm hng1) _).other _ (Ne.symm hng1) _)).drew
      have LB3 : Hid (Below w.heap.size w V3) := by rw [hV]; exact (((((((((LB2.out.setCell (p := ⟨g, 5, none⟩) hwg _).setCell (p := ⟨g, 6, none⟩) hwg _).setCell (p := ⟨g, 7, none⟩) hwg _).setCell (p := ⟨g, 8, none⟩) hwg _).setCell (p := ⟨g, 9, none⟩) hwg _).setCell (p := ⟨g, 10, none⟩) hwg _).setCell (p := ⟨g, 11, none⟩) hwg _).setCell (p := ⟨g, 12, none⟩) hwg _)).drew
      rw [← hV]
      clear hV HX2 HT2 HR2 LB2 t4 t5 t6 t7 t8 t9 t10 t11 x5 x6 x7 x8 x9 x10 x11 x12 f5 f6 f7 f8 f9 f10 f11 f12
      have q7 : V3.cell? ⟨tb, 7, none⟩ = some (.int .i64 bytes) := HT3.out.cell 7
      have x6 : V3.cell? ⟨g, 6, none⟩ = some (.int .i64 ct) := HX3.out.cell 6
      have x7 : V3.cell? ⟨g, 7, none⟩ = some (.int .i64 0) := HX3.out.cell 7
      have f7 : V3.frozen? ⟨g, 7, none⟩ = false := HX3.out.free 7
      have s6 : IntKind.i64.wrap (ct * 128) = ct * 128 := IntWalk.i64_in _ (by omega)
      have s7 : IntKind.i64.wrap (ct * 128 + 1) = ct * 128 + 1 := IntWalk.i64_in _ (by omega)
      go_wp2_with (first | (go_at_call_of 15 bytes; (try rw [s6]); (try rw [s7]); refine (picked bytes _ _ (by omega) (by omega)).mono ?_; rintro e w' ⟨by', hby, hby0, hby1, rfl, rfl⟩) | (refine wpList_load_box rfl 57 (.tmp 3) rfl g rfl 57 #[.int .i64 pl, .int .i64 dr, .int .i64 ds, .int .i64 pa, .int .i64 r, .int .i64 ad, .int .i64 ct, .int .i64 (by'), .int .i64 bt, .int .i64 a, .int .i64 b, .int .i64 c, .int .i64 d] (Box.as (HX3.out.set 7 (.int .i64 by')) (by kernel_rfl)) _ Try.underlying57 rfl (by kernel_rfl) ?_) | (refine wpList_store_box rfl 57 _ _ rfl (tb + 1) _ rfl rfl 57 _ (HR3.out.other _ (Ne.symm hng1) _) (by kernel_rfl) rfl rfl ?_))
      intro Y hbY hgY
      have HBY := Lib.hid hbY
      have HLY := Lib.hid (stepG (LB3.out.setCell (p := ⟨g, 7, none⟩) hwg _) (Nat.le_refl _) hgY hwh)
      clear hbY hgY
      go_wp2_with (refine bodyPost_ret (results_box Try.results24 _ _ (tb + 1) _ _ HBY.out _ rfl Try.underlying57 rfl (by kernel_rfl)) rfl ?_)
      refine ⟨⟨pl, dr, ds, pa, r, ad, ct, by', bt, a, b, c, d⟩, by simp only [Lab.cells]; rw [hpa], ?_, rfl, rfl, rfl, rfl, HLY.out⟩
      simp only [Lab.may, inB, Bool.and_eq_true, decide_eq_true_eq]
      omega
end Go.Proofs.Yteidmdakglkkfaa
