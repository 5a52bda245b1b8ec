/- Decode of rows of any length, and the walk of LabelFixed. -/
import Derived.Test.YteidmdakglkkfaaLbY
import Derived.Test.YteidmdakglkkfaaOwnStep
import Derived.Test.YteidmdakglkkfaaSameB
import Derived.SizedLaws
namespace Go.Proofs.Yteidmdakglkkfaa
open Go.RowKit Go.ChangeShapes Go.WideShapes Go.Deep
set_option linter.unusedVariables false
set_option maxRecDepth 100000

theorem SRow.ints {k : IntKind} {w : World} {F : Nat → Prop} {a : Option Addr} {len cap : Nat} {xs : List Int} (h : SRow (Lay.int k) w F a len cap xs) : Row k w a len cap xs := by
  obtain ⟨hl, _, vss, hv, hp⟩ := h
  have e : vss.flatten = xs.map (.int k) ∧ ∀ x ∈ xs, (Lit.int k x).wf = true := by
    obtain ⟨h1, h2⟩ := hp
    clear hv hl
    induction xs generalizing vss with
    | nil => cases vss <;> simp_all
    | cons x xs ih =>
      cases vss with
      | nil => simp at h1
      | cons v vss =>
        have h0 := h2 0 x v rfl rfl
        obtain ⟨e1, e2⟩ := ih vss (by simpa using h1) (fun i y u hy hu => h2 (i + 1) y u (by simpa using hy) (by simpa using hu))
        refine ⟨by rw [List.flatten_cons, e1, h0.1]; rfl, fun y hy => ?_⟩
        rcases List.mem_cons.1 hy with rfl | hy
        · exact h0.2
        · exact e2 y hy
  rw [e.1] at hv
  exact hv.toRow e.2
theorem sized_len {P : Program} {H : Type} {enc : TypeId × Value → H} {ts : List TypeId} {ds : List (DataW H)} {w : World} {base : Nat} {spare : Nat → Bool} {held : Bool} {j : Nat} {t e : TypeId} {d : DataW H} {p : List MemPlace} {a : Option Addr} {len cap : Nat}
    (h : (DataW.weightsEach P ts ds).all (· ≤ reachBytes) = true) (ht : ts[j]? = some t) (hd : ds[j]? = some d) (hu : P.underlying t = some (.slice e)) (hk : DataW.Trod enc P w base spare held t (.slice a len cap) d p) : len * P.bytesOf e ≤ reachBytes := by
  obtain ⟨fuel, hf⟩ := hk
  rcases open_slice hu hf with ⟨h1, _⟩ | ⟨a, len', cap', m, n, D, Pl, h1, _, _, _, _, hx, _⟩
  · simp [Value.cells] at h1
    obtain ⟨_, rfl, _⟩ := h1
    simp
  · simp [Value.cells] at h1
    obtain ⟨_, rfl, _⟩ := h1
    simp only [Prod.mk.injEq] at hx
    rw [hx.1] at hd
    have := sized_slice h ht hd hu
    simp only [List.length_map, List.length_range] at this
    exact Nat.le_trans (Nat.mul_le_mul_right _ (Nat.le_add_right _ _)) this
theorem bytes_of {w : World} {a : Option Addr} {len cap : Nat} {xs : List Int} (h : Row .u8 w a len cap xs) : Bytes xs := fun x hx => byte_range (h.hwf x hx)
theorem wf_bytes {xs : List Int} (h : Bytes xs) : ∀ x ∈ xs, (Lit.int .u8 x).wf = true := fun x hx => u8_wf (h x hx)
theorem info_byte : (Try.prog.info? 5).map (fun i => (i.zero, i.size, i.bytes)) = some (some (.int .u8 0), 1, 1) := by kernel_rfl
theorem one_bytes (xs : List Int) : ∀ u ∈ xs.map (Value.int .u8), u.oneCell' = true := fun u hu => by obtain ⟨x, _, rfl⟩ := List.mem_map.1 hu; rfl
theorem dec_cases (xs : List Int) : (dec xs = (labOf xs, 0) ∧ (labOf xs).may = true ∧ encB (labOf xs) = xs ∧ xs.length = 128) ∨ ∃ k, k ≠ 0 ∧ dec xs = (Lab.none, k) := by
  by_cases h1 : xs.length = 128
  · by_cases h2 : sumOf (xs.take 96) = sealOf xs
    · by_cases h3 : (labOf xs).may = true ∧ encB (labOf xs) = xs
      · exact .inl ⟨dec_ok h1 h2 h3, h3.1, h3.2, h1⟩
      · exact .inr ⟨4, by decide, dec_form h1 h2 h3⟩
    · exact .inr ⟨11, by decide, dec_sum h1 h2⟩
  · exact .inr ⟨1, by decide, dec_len xs h1⟩
set_option maxHeartbeats 1000000 in
theorem decode_any (a : Option Addr) (len cap : Nat) (xs : List Int) (w : World) (h : Row .u8 w a len cap xs) :
    Calls Try.prog 26 #[.slice a len cap] w (Decoded (dec xs) w) := by
  by_cases h128 : len = 128
  · exact decode a len cap xs w h h128
  · rw [dec_len xs (by rw [h.hlen]; exact h128)]
    have hne : ((len : Int) != 128) = true := by simp; omega
    clear h
    go_enter Try.func26, Try.ntmps26
    go_wp2_with (refine wpList_store_box rfl 57 _ _ rfl w.heap.size _ rfl rfl 57 _ (Box.new rfl) (by kernel_rfl) rfl rfl ?_)
    intro Y hbY hgY
    go_wp2_with (refine bodyPost_ret (results_box_tmp Try.results26 _ _ w.heap.size _ _ hbY _ rfl Try.underlying57 rfl (by kernel_rfl)) rfl ?_)
    exact ⟨rfl, stepG (Below_alloc1 _) (Nat.le_refl _) hgY (Nat.le_refl _)⟩
set_option maxHeartbeats 4000000 in
theorem labelFixed (a : Option Addr) (len cap : Nat) (xs : List Int) (w : World) (h : Row .u8 w a len cap xs) (hz : len * Try.prog.bytesOf 5 ≤ reachBytes) :
    Calls Try.prog 8 #[.slice a len cap] w fun e w' => e = .returned (.bool true) ∧ Below w.heap.size w w' := by
  have R := Lib.hid h
  have hle := h.hle
  have hmx := h.hmax
  unfold maxLen at hmx
  rw [show Try.prog.bytesOf 5 = 1 from by kernel_rfl, reachBytes] at hz
  go_enter Try.func8, Try.ntmps8
  go_wp2_with (at_builtin; refine wpList_append_any rfl (.const (.slice none 0 0)) (.tmp 8) 59 rfl w.heap.size 5 _ 1 1 Try.underlying59 info_byte rfl (by decide) none 0 0 [] rfl (Own.nil _ _ _ _) a len cap (xs.map (.int .u8)) rfl R.out.toV (one_bytes xs) (by unfold maxLen; omega) (by omega) (Nat.le_refl _) ?_)
  intro a1 c1 w1 ho hg
  have LB1 : Hid (Below w.heap.size w w1) := Own.grown (Own.nil w w.heap.size 5 1) (Below.refl _ _) (Nat.le_refl _) (Nat.le_refl _) hg
  have ho' : Own w1 w.heap.size 5 1 a1 len c1 (xs.map (.int .u8)) := by simpa using ho
  have HO := Lib.hid (ho'.row.toRow h.hwf)
  clear ho ho' hg
  go_wp2_with fail
  refine (decode_any _ _ _ xs w1 HO.out).mono ?_
  rintro e w2 ⟨rfl, hle⟩
  have LB2 := Lib.hid (stepB LB1.out (Nat.le_refl _) hle)
  clear hle LB1 HO
  rcases dec_cases xs with ⟨hd, hm, he, h128⟩ | ⟨k, hk, hd⟩
  · rw [hd]
    go_wp2_with (refine wpList_store_box rfl 57 (.tmp 3) (.tmp 11) rfl w2.heap.size (labOf xs).cells rfl rfl 57 _ (Box.new rfl) (by kernel_rfl) rfl rfl ?_)
    intro w3 hb3 hg3
    have hw2 := LB2.out.size
    have B3 := Lib.hid hb3
    have LB3 : Hid (Below w.heap.size w w3) := stepG (LB2.out.alloc hw2 _) (Nat.le_refl _) hg3 hw2
    obtain ⟨g, hg⟩ : ∃ g, w2.heap.size = g := ⟨_, rfl⟩
    rw [hg] at hw2 B3 ⊢
    clear hb3 hg3 LB2 hg
    go_wp2_with fail
    refine (labelOf 0 0 0 0 0 0 0 0 0 0 0 0 w3).mono ?_
    rintro e w4 ⟨y, rfl, hym, _, _, _, _, hle⟩
    have B4 := Lib.hid (B3.out.below hle B3.out.lt)
    have LB4 := Lib.hid (stepB LB3.out (Nat.le_refl _) hle)
    clear hle B3 LB3
    go_wp2_with fail
    refine (may' y hym w4).mono ?_
    rintro e w5 ⟨rfl, hle⟩
    have B5 := Lib.hid (B4.out.below hle B4.out.lt)
    have LB5 := Lib.hid (stepB LB4.out (Nat.le_refl _) hle)
    clear hle B4 LB4 hym
    go_wp2_with (first | (refine wpList_load_box rfl 57 (.tmp 3) rfl g rfl 57 (labOf xs).cells B5.out _ Try.underlying57 rfl (by kernel_rfl) ?_))
    refine (encode (labOf xs) w5 (Lib.hid hm) (labOf_ok xs)).mono ?_
    rintro e w6 ⟨ge, rfl, hge, hbe, hle⟩
    have LB6 := Lib.hid (stepB LB5.out (Nat.le_refl _) hle.out)
    have hrow := room_row hbe.out (by rw [encB_length]; omega) (encB_bytes _)
    rw [encB_length, he] at hrow
    have R6 := Lib.hid hrow
    have RX := Lib.hid (R.out.below LB6.out)
    clear hle hbe hrow LB5 B5 R
    go_wp2_with fail
    refine (sameBytes _ _ _ xs _ _ _ xs w6 RX.out R6.out).mono ?_
    rintro e w7 ⟨rfl, kd, rfl⟩
    have LB7 := Lib.hid (below_drewN LB6.out kd)
    clear LB6 R6 RX
    have hq : decide (xs = xs) = true := decide_eq_true rfl
    rw [hq]
    go_wp2_with fail
    go_ret
    exact ⟨rfl, LB7.out⟩
  · rw [hd]
    go_wp2_with (refine wpList_store_box rfl 57 (.tmp 3) (.tmp 11) rfl w2.heap.size Lab.none.cells rfl rfl 57 _ (Box.new rfl) (by kernel_rfl) rfl rfl ?_)
    intro w3 hb3 hg3
    have hw2 := LB2.out.size
    have B3 := Lib.hid hb3
    have LB3 : Hid (Below w.heap.size w w3) := stepG (LB2.out.alloc hw2 _) (Nat.le_refl _) hg3 hw2
    obtain ⟨g, hg⟩ : ∃ g, w2.heap.size = g := ⟨_, rfl⟩
    rw [hg] at hw2 B3 ⊢
    clear hb3 hg3 LB2 hg
    go_wp2_with fail
    refine (labelOf 0 0 0 0 0 0 0 0 0 0 0 0 w3).mono ?_
    rintro e w4 ⟨y, rfl, hym, _, _, _, _, hle⟩
    have B4 := Lib.hid (B3.out.below hle B3.out.lt)
    have LB4 := Lib.hid (stepB LB3.out (Nat.le_refl _) hle)
    clear hle B3 LB3
    go_wp2_with fail
    refine (may' y hym w4).mono ?_
    rintro e w5 ⟨rfl, hle⟩
    have B5 := Lib.hid (B4.out.below hle B4.out.lt)
    have LB5 := Lib.hid (stepB LB4.out (Nat.le_refl _) hle)
    clear hle B4 LB4 hym
    have hk2 : (k != 0) = true := by simpa using hk
    have qE := eql_lab Lab.none
    have qG : ∀ (w : World) (a b : Operand), (eqGuard .eql 57 a b (.agg Lab.none.cells) (.agg Lab.none.cells)).run Try.prog w = .ok () w := fun w a b => run_eqGuard_agg w _ _ _ _ _ _ (by kernel_rfl)
    simp only [Lab.cells, Lab.none] at qE qG
    go_wp2_with (first | (refine wpList_load_box rfl 57 (.tmp 3) rfl g rfl 57 #[.int .i64 0, .int .i64 0, .int .i64 0, .int .i64 0, .int .i64 0, .int .i64 0, .int .i64 0, .int .i64 0, .int .i64 0, .int .i64 0, .int .i64 0, .int .i64 0, .int .i64 0] B5.out _ Try.underlying57 rfl (by kernel_rfl) ?_))
    go_ret
    exact ⟨rfl, LB5.out⟩
theorem opens_bytes : Opens Try.prog 59 (Lay.int .u8).slice := opens_slice Try.underlying59 (opens_int Try.underlying5) (by kernel_rfl)
end Go.Proofs.Yteidmdakglkkfaa
