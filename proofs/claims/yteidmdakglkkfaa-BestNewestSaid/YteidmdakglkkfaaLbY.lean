/- Tags that came in, and the walk of LabelBack. -/
import Derived.Test.YteidmdakglkkfaaLbO
import Derived.Test.YteidmdakglkkfaaLbX
import Derived.Test.YteidmdakglkkfaaLbD
import Derived.Test.YteidmdakglkkfaaOpen
import Derived.Laws.StructEq
namespace Go.Proofs.Yteidmdakglkkfaa
open Go.RowKit Go.ChangeShapes Go.WideShapes Go.Deep
set_option linter.unusedVariables false
set_option maxRecDepth 100000

def Tag.ok (x : Tag) : Prop := ∀ v ∈ [x.a, x.b, x.c, x.d], -9223372036854775808 ≤ v ∧ v ≤ 9223372036854775807
def tagL : Lay Tag where
  size := 12
  pos := by decide
  at_ := fun _ _ x vs => vs = x.cells.toList ∧ x.ok
  len := fun h => by rw [h.1]; rfl
  one := fun h v hv => by
    rw [h.1] at hv
    simp only [Tag.cells, List.mem_cons, List.not_mem_nil, or_false] at hv
    rcases hv with rfl | rfl | rfl | rfl | rfl | rfl | rfl | rfl | rfl | rfl | rfl | rfl <;> rfl
  keep := fun h _ _ => h
instance : Inhabited Tag := ⟨⟨0, 0, 0, 0, 0, 0, 0, 0, 0, 0, 0, 0⟩⟩
theorem wf_i64 {z : Int} (h : (Lit.int .i64 z).wf = true) : -9223372036854775808 ≤ z ∧ z ≤ 9223372036854775807 := by
  simp [Lit.wf, IntKind.min, IntKind.max, IntKind.signed, IntKind.bits] at h
  omega
theorem field_int {P : Program} {t : TypeId} {off : Nat} {H : Type} {enc : TypeId × Value → H} {w : World} {base : Nat} {spare : Nat → Bool} {held : Bool} {fuel : Nat} {cs : List Value} {xs : List (DataW H × List MemPlace)} (j : Nat) {n : Nat} (hx : xs.length = n)
    (h : DataW.trod enc P w base spare held fuel t ((cs.drop off).take (P.cellsOf t)) = xs[j]?) (hj : j < n) (ht : P.underlying t = some (.int .i64)) (hc : P.cellsOf t = 1) : ∃ z : Int, cs[off]? = some (.int .i64 z) ∧ (-9223372036854775808 ≤ z ∧ z ≤ 9223372036854775807) := by
  rw [List.getElem?_eq_getElem (by omega)] at h
  obtain ⟨z, hz, _, hw⟩ := DataW.trod_int ht h
  rw [hc] at hz
  refine ⟨z, ?_, wf_i64 hw⟩
  have : (List.take 1 (List.drop off cs))[0]? = some (.int .i64 z) := by rw [hz]; rfl
  simpa using this
theorem opens_tag : Opens Try.prog 53 tagL := by
  intro H enc w base spare held fuel cs x h
  obtain ⟨xs, n, _, _, hcl, hxl, hf⟩ := DataW.trod_struct Try.underlying53 h
  have hl : cs.length = 12 := hcl.trans (by kernel_rfl)
  have u3 : Try.prog.underlying 3 = some (.int .i64) := Try.underlying3
  have c3 : Try.prog.cellsOf 3 = 1 := by kernel_rfl
  obtain ⟨z0, h0, _⟩ := field_int (t := 3) (off := 0) 0 hxl (hf 0 _ rfl) (by decide) u3 c3
  obtain ⟨z1, h1, _⟩ := field_int (t := 3) (off := 1) 1 hxl (hf 1 _ rfl) (by decide) u3 c3
  obtain ⟨z2, h2, _⟩ := field_int (t := 3) (off := 2) 2 hxl (hf 2 _ rfl) (by decide) u3 c3
  obtain ⟨z3, h3, _⟩ := field_int (t := 3) (off := 3) 3 hxl (hf 3 _ rfl) (by decide) u3 c3
  obtain ⟨z4, h4, _⟩ := field_int (t := 3) (off := 4) 4 hxl (hf 4 _ rfl) (by decide) u3 c3
  obtain ⟨z5, h5, _⟩ := field_int (t := 3) (off := 5) 5 hxl (hf 5 _ rfl) (by decide) u3 c3
  obtain ⟨z6, h6, _⟩ := field_int (t := 3) (off := 6) 6 hxl (hf 6 _ rfl) (by decide) u3 c3
  obtain ⟨z7, h7, _⟩ := field_int (t := 3) (off := 7) 7 hxl (hf 7 _ rfl) (by decide) u3 c3
  have hs : DataW.trod enc Try.prog w base spare held n 51 ((cs.drop 8).take (Try.prog.cellsOf 51)) = xs[8]? := hf 8 _ rfl
  rw [List.getElem?_eq_getElem (by rw [hxl]; decide)] at hs
  obtain ⟨xs', n', _, _, hcl', hxl', hf'⟩ := DataW.trod_struct Try.underlying51 hs
  obtain ⟨y0, g0, r0⟩ := field_int (t := 3) (off := 0) 0 hxl' (hf' 0 _ rfl) (by decide) u3 c3
  obtain ⟨y1, g1, r1⟩ := field_int (t := 3) (off := 1) 1 hxl' (hf' 1 _ rfl) (by decide) u3 c3
  obtain ⟨y2, g2, r2⟩ := field_int (t := 3) (off := 2) 2 hxl' (hf' 2 _ rfl) (by decide) u3 c3
  obtain ⟨y3, g3, r3⟩ := field_int (t := 3) (off := 3) 3 hxl' (hf' 3 _ rfl) (by decide) u3 c3
  have c51 : Try.prog.cellsOf 51 = 4 := by kernel_rfl
  refine ⟨⟨z0, z1, z2, z3, z4, z5, z6, z7, y0, y1, y2, y3⟩, ?_, ?_⟩
  · match cs, hl with
    | [a0, a1, a2, a3, a4, a5, a6, a7, a8, a9, a10, a11], _ =>
      simp [c51] at h0 h1 h2 h3 h4 h5 h6 h7 g0 g1 g2 g3
      subst h0 h1 h2 h3 h4 h5 h6 h7 g0 g1 g2 g3
      rfl
  · intro v hv
    simp only [List.mem_cons, List.not_mem_nil, or_false] at hv
    rcases hv with rfl | rfl | rfl | rfl <;> assumption
theorem lab_ok {t : Tag} {y : Lab} (h : t.ok) (hm : y.may = true) (ha : y.a = t.a) (hb : y.b = t.b) (hc : y.c = t.c) (hd : y.d = t.d) : y.ok := by
  have h0 := h t.a (by simp)
  have h1 := h t.b (by simp)
  have h2 := h t.c (by simp)
  have h3 := h t.d (by simp)
  simp only [Lab.may, inB, Bool.and_eq_true, decide_eq_true_eq] at hm
  intro v hv
  simp only [List.mem_cons, List.not_mem_nil, or_false] at hv
  rcases hv with rfl | rfl | rfl | rfl | rfl | rfl | rfl | rfl | rfl | rfl | rfl | rfl | rfl <;> omega
theorem wpList_load_box_w {P : Program} {ops : Array Oper} {rest : List Oper} {o : Oper} {a : Act} {w : World} {Q : Exit → Act → World → Prop} (hw : Region.wanted o (yielded ops a.tmps) = true) (ty : TypeId) (x : Operand) (ho : o.op = .load ty x)
    (g : Nat) (hx : a.eval x = .pointer (some ⟨g, 0, none⟩)) (t : TypeId) (cs : Array Value) (hg : Box w g cs t)
    (d : TypeDesc) (hu : P.underlying ty = some d) (hd : (match d with | .struct _ | .array _ _ => true | _ => false) = true) (hi : (P.info? ty).map (·.size) = some cs.size)
    (h : wpList P ops Q rest (a.put o.dst (.agg cs)) w) : wpList P ops Q (o :: rest) a w :=
  wpList_step fun K hK => by simp only [hw, if_true]; exact wp_load_row ty x ho g hx t cs (0, 0) d hg hu hd hi (hK _ _ h)
theorem eq_int (d : Nat) (z : Int) (w : World) : (Op.equalIn (d + 1) 3 (.int .i64 z) (.int .i64 z)).run Try.prog w = .ok true w := by
  rw [run_equalIn_int w d _ _ _ _ _ Try.underlying3]; simp
theorem eq_sum (d : Nat) (a b c e : Int) (w : World) : (Op.equalIn (d + 2) 51 (.agg #[.int .i64 a, .int .i64 b, .int .i64 c, .int .i64 e]) (.agg #[.int .i64 a, .int .i64 b, .int .i64 c, .int .i64 e])).run Try.prog w = .ok true w := by
  rw [run_equalIn_struct w _ _ _ _ (by kernel_rfl) (by kernel_rfl)]
  unfold Program.fieldsOf
  rw [Try.underlying51]
  simp [Op.eqFields, part, eq_int]
theorem eq_pointer (d : Nat) (x y z u a b c e : Int) (w : World) : (Op.equalIn (d + 3) 55 (.agg #[.int .i64 x, .int .i64 y, .int .i64 z, .int .i64 u, .int .i64 a, .int .i64 b, .int .i64 c, .int .i64 e]) (.agg #[.int .i64 x, .int .i64 y, .int .i64 z, .int .i64 u, .int .i64 a, .int .i64 b, .int .i64 c, .int .i64 e])).run Try.prog w = .ok true w := by
  rw [run_equalIn_struct w _ _ _ _ (by kernel_rfl) (by kernel_rfl)]
  unfold Program.fieldsOf
  rw [Try.underlying55]
  simp [Op.eqFields, part, eq_int, eq_sum d]
theorem eql_lab (x : Lab) (w : World) : (binOp .eql 57 (.agg x.cells) (.agg x.cells)).run Try.prog w = .ok (.bool true) w := by
  rw [run_eql_struct, run_equalIn_struct w _ _ _ _ (by kernel_rfl) (by kernel_rfl)]
  unfold Program.fieldsOf
  rw [Try.underlying57]
  simp [Op.eqFields, part, eq_int, eq_pointer 9996, Lab.cells]
theorem may' (x : Lab) (h : x.may = true) (w : World) : Calls Try.prog 27 #[.agg x.cells] w fun e w' => e = .returned (.bool true) ∧ Below w.heap.size w w' := by
  have := may_ x.pool x.drive x.drives x.parity x.time x.addr x.count x.bytes x.birth x.a x.b x.c x.d w
  rw [show Lab.may ⟨x.pool, x.drive, x.drives, x.parity, x.time, x.addr, x.count, x.bytes, x.birth, x.a, x.b, x.c, x.d⟩ = true from h] at this
  exact this
set_option maxHeartbeats 4000000 in
theorem labelBack (t : Tag) (w : World) (hok : t.ok) :
    Calls Try.prog 7 #[.agg t.cells] w fun e w' => e = .returned (.bool true) ∧ Below w.heap.size w w' := by
  go_enter Try.func7, Try.ntmps7
  go_wp2_with (first | (refine wpList_load_box rfl 53 (.tmp 1) rfl w.heap.size rfl 53 t.cells (Box.new rfl) _ Try.underlying53 rfl (by kernel_rfl) ?_))
  obtain ⟨V, hV⟩ : ∃ V, V = w.alloc (.cells t.cells 53) := ⟨_, rfl⟩
  have LB0 : Hid (Below w.heap.size w V) := by rw [hV]; exact Below_alloc1 _
  rw [← hV]
  clear hV
  refine (labelOf t.pool t.drive t.drives t.parity t.time t.addr t.count t.bytes t.a t.b t.c t.d V).mono ?_
  rintro e w1 ⟨y, rfl, hm, ha, hb, hc, hd, hB⟩
  have hy := lab_ok hok hm ha hb hc hd
  have LB1 : Hid (Below w.heap.size w w1) := stepB LB0.out (Nat.le_refl _) hB
  have HM := Lib.hid hm
  clear ha hb hc hd hB LB0 hm
  go_wp2_with (refine wpList_store_box rfl 57 (.tmp 3) (.tmp 9) rfl w1.heap.size y.cells rfl rfl 57 _ (Box.new rfl) (by kernel_rfl) rfl rfl ?_)
  intro w2 hb2 hg2
  have hw1 := LB1.out.size
  have B2 := Lib.hid hb2
  have LB2 : Hid (Below w.heap.size w w2) := stepG (LB1.out.alloc hw1 _) (Nat.le_refl _) hg2 hw1
  obtain ⟨g, hg⟩ : ∃ g, w1.heap.size = g := ⟨_, rfl⟩
  rw [hg] at hw1 B2 ⊢
  clear hb2 hg2 LB1 hg
  go_wp2_with (refine wpList_load_box rfl 57 (.tmp 3) rfl g rfl 57 y.cells B2.out _ Try.underlying57 rfl (by kernel_rfl) ?_)
  refine (encode y w2 HM hy).mono ?_
  rintro e w3 ⟨ge, rfl, hge, hbe, hle⟩
  have B3 := Lib.hid (B2.out.below hle.out B2.out.lt)
  have LB3 := Lib.hid (stepB LB2.out (Nat.le_refl _) hle.out)
  have hrow := room_row hbe.out (by rw [encB_length]; omega) (encB_bytes y)
  rw [encB_length] at hrow
  have R3 := Lib.hid hrow
  clear hle hbe hrow B2 LB2 hge
  go_wp2_with fail
  refine (decode _ _ _ _ w3 R3.out rfl).mono ?_
  rw [dec_enc y HM.out hy]
  rintro e w4 ⟨rfl, hle⟩
  have B4 := Lib.hid (B3.out.below hle B3.out.lt)
  have LB4 := Lib.hid (stepB LB3.out (Nat.le_refl _) hle)
  have hw3 := LB4.out.size
  have hgw := B4.out.lt
  clear hle B3 LB3 R3
  go_wp2_with (refine wpList_store_box rfl 57 (.tmp 6) (.tmp 18) rfl w4.heap.size y.cells rfl rfl 57 _ (Box.new rfl) (by kernel_rfl) rfl rfl ?_)
  intro w5 hb5 hg5
  have B5 := Lib.hid ((B4.out.alloc _).grown hg5 (by intro h; injection h; omega))
  have C5 := Lib.hid hb5
  have LB5 : Hid (Below w.heap.size w w5) := stepG (LB4.out.alloc hw3 _) (Nat.le_refl _) hg5 hw3
  obtain ⟨g2, hg2⟩ : ∃ g, w4.heap.size = g := ⟨_, rfl⟩
  rw [hg2] at C5 ⊢
  clear hb5 hg5 B4 LB4 hw3 hgw hg2
  go_wp2_with (refine wpList_load_box rfl 57 (.tmp 3) rfl g rfl 57 y.cells B5.out _ Try.underlying57 rfl (by kernel_rfl) ?_)
  refine (may' y HM.out w5).mono ?_
  rintro e w6 ⟨rfl, hle⟩
  have B6 := Lib.hid (B5.out.below hle B5.out.lt)
  have C6 := Lib.hid (C5.out.below hle C5.out.lt)
  have LB6 := Lib.hid (stepB LB5.out (Nat.le_refl _) hle)
  clear hle B5 C5 LB5
  have qE := eql_lab y
  have qG : ∀ (w : World) (a b : Operand), (eqGuard .eql 57 a b (.agg y.cells) (.agg y.cells)).run Try.prog w = .ok () w := fun w a b => run_eqGuard_agg w _ _ _ _ _ _ (by kernel_rfl)
  go_wp2_with (first | (refine wpList_load_box_w (by first | rfl | simp [Region.wanted, yielded])  57 (.tmp 3) rfl g rfl 57 y.cells B6.out _ Try.underlying57 rfl (by kernel_rfl) ?_) | (refine wpList_load_box_w (by first | rfl | simp [Region.wanted, yielded]) 57 (.tmp 6) rfl g2 rfl 57 y.cells C6.out _ Try.underlying57 rfl (by kernel_rfl) ?_))
  exact bodyPost_ret (v := .bool true) (by simp [results, Try.results7, go_sem]) rfl ⟨rfl, LB6.out⟩
theorem tag_cells {w : World} {F : Nat → Prop} {x : Tag} {cs : Array Value} (h : tagL.at_ w F x cs.toList) : cs = x.cells ∧ x.ok := ⟨Array.toList_inj.1 h.1, h.2⟩
theorem labelBackSaid (cs : Array Value) (x : Tag) (w : World) {F : Nat → Prop} (h : tagL.at_ w F x cs.toList) :
    Calls Try.prog 7 #[.agg cs] w fun e w' => e = .returned (.bool true) ∧ Below w.heap.size w w' := by
  rw [(tag_cells h).1]
  exact labelBack x w (tag_cells h).2
end Go.Proofs.Yteidmdakglkkfaa
