/- Acts that came in; lists of numbers laid by a literal; kinds of jobs; DriveLast. -/
import Derived.Test.YteidmdakglkkfaaDrV
import Derived.Test.YteidmdakglkkfaaOpen
namespace Go.Proofs.Yteidmdakglkkfaa
open Go.RowKit Go.ChangeShapes Go.WideShapes Go.Deep
set_option linter.unusedVariables false
set_option maxRecDepth 100000

theorem opens_act : Opens Try.prog 122 actL := by
  intro H enc w base spare held fuel cs x h
  obtain ⟨hl, hc⟩ := struct_ints Try.underlying122 (by kernel_rfl) (by kernel_rfl) (by
    intro j f hf
    have hj : j < 4 := (Array.getElem?_eq_some_iff.1 hf).1
    have : j = 0 ∨ j = 1 ∨ j = 2 ∨ j = 3 := by omega
    rcases this with rfl | rfl | rfl | rfl <;> (obtain rfl := Option.some.inj hf; exact Try.underlying3)) h
  obtain ⟨z0, h0⟩ := hc 0 (by show 0 < 4; omega)
  obtain ⟨z1, h1⟩ := hc 1 (by show 1 < 4; omega)
  obtain ⟨z2, h2⟩ := hc 2 (by show 2 < 4; omega)
  obtain ⟨z3, h3⟩ := hc 3 (by show 3 < 4; omega)
  refine ⟨⟨z0, z1, z2, z3⟩, ?_⟩
  have hl4 : cs.length = 4 := hl
  match cs, hl4 with
  | [a, b, c, d], _ =>
    simp at h0 h1 h2 h3
    subst h0 h1 h2 h3
    rfl
theorem opens_acts : Opens Try.prog 74 actL.slice := opens_slice Try.underlying74 opens_act (by kernel_rfl)
theorem row_lit {k : IntKind} (w : World) (xs : List Int) (t : TypeId) (cs : Array Value) (hcs : cs.toList = xs.map (.int k)) (hwf : ∀ x ∈ xs, (Lit.int k x).wf = true) (hm : xs.length ≤ maxLen) :
    Row k (w.alloc (.cells cs t)) (some ⟨w.heap.size, 0, none⟩) xs.length xs.length xs := by
  refine VRow.toRow ⟨by simp, Nat.le_refl _, hm, (fun h => by cases h), .inr ⟨_, 0, rfl, fun i hi => ?_⟩⟩ hwf
  rw [Nat.zero_add, cell_of_row _ _ i cs t (0, 0) (heap_alloc_new w _), ← hcs]
  simp
theorem jobOf_kind {ks : List Int} (h : 0 < ks.length) (x : ActV) : (jobOf ks x).kind ∈ ks := by
  unfold jobOf
  have h1 := Int.emod_nonneg x.kind (b := (ks.length : Int)) (by omega)
  have h2 := Int.emod_lt_of_pos x.kind (b := (ks.length : Int)) (by omega)
  have h3 : (x.kind % (ks.length : Int)).toNat < ks.length := by omega
  simp only [List.getD, List.getElem?_eq_getElem h3]
  exact List.getElem_mem h3
theorem jobOf_ok {ks : List Int} (h : 0 < ks.length) (hk : ∀ k ∈ ks, 1 ≤ k ∧ k ≤ 8) (x : ActV) : (jobOf ks x).ok := by
  obtain ⟨h1, h2⟩ := hk _ (jobOf_kind h x)
  refine ⟨h1, h2, ?_, fun h16 => ?_⟩
  · have := Int.emod_nonneg x.at_ (b := 8) (by omega)
    have := Int.emod_lt_of_pos x.at_ (b := 8) (by omega)
    show (x.at_ % 8).toNat < 8
    omega
  · refine ⟨secB x.mark, ?_, secB_length _⟩
    unfold jobOf at h16 ⊢
    simp only at h16 ⊢
    rw [if_pos h16]
def jobsOf (ks : List Int) (xs : List ActV) (n : Nat) : List JobV := (xs.take n).map (jobOf ks)
theorem jobsOf_mem {ks : List Int} (h : 0 < ks.length) (hk : ∀ k ∈ ks, 1 ≤ k ∧ k ≤ 8) {xs : List ActV} {n : Nat} {j : JobV} (hj : j ∈ jobsOf ks xs n) : j.ok ∧ j.kind ∈ ks := by
  obtain ⟨x, _, rfl⟩ := List.mem_map.1 hj
  exact ⟨jobOf_ok h hk x, jobOf_kind h x⟩
theorem jobsOf_length (ks : List Int) (xs : List ActV) (n : Nat) : (jobsOf ks xs n).length ≤ n := by unfold jobsOf; rw [List.length_map, List.length_take]; omega
theorem viewN_getD (s : DS) (n i : Nat) (h : i < n) : (viewN s n).getD i [] = dataD s i := by unfold viewN; simp [List.getD, h]
set_option maxHeartbeats 4000000 in
theorem driveLast {F : Nat → Prop} (a : Option Addr) (len cap : Nat) (xs : List ActV) (at_ : Int) (w : World) (h : SRow actL w F a len cap xs) :
    Calls Try.prog 13 #[.slice a len cap, .int .i64 at_] w fun e w' => e = .returned (.bool true) ∧ Below w.heap.size w w' := by
  obtain ⟨js, hjs⟩ : ∃ js, Hid (jobsOf [1, 3, 2] xs 60 = js) := ⟨_, rfl⟩
  have hjk : Hid (∀ j ∈ js, j.ok ∧ (j.kind = 1 ∨ j.kind = 2 ∨ j.kind = 3)) := by
    intro j hj
    rw [← hjs.out] at hj
    obtain ⟨h1, h2⟩ := jobsOf_mem (by decide) (by decide) hj
    refine ⟨h1, ?_⟩
    simp only [List.mem_cons, List.not_mem_nil, or_false] at h2
    omega
  have hsound := Lib.hid (run_sound new_sound js (fun j hj => ⟨(hjk.out j hj).1, by have := (hjk.out j hj).2; omega⟩))
  have hlen : js.length ≤ 60 := by rw [← hjs.out]; exact jobsOf_length ..
  have HX := Lib.hid h
  clear h
  go_enter Try.func13, Try.ntmps13
  go_wp2_with fail
  have RK := row_lit (k := .i64) w [1, 3, 2] 3 #[.int .i64 1, .int .i64 3, .int .i64 2] rfl (by decide) (by unfold maxLen; decide)
  obtain ⟨V, hV⟩ : ∃ V, V = w.alloc (.cells #[.int .i64 1, .int .i64 3, .int .i64 2] 3) := ⟨_, rfl⟩
  have LA : Below w.heap.size w V := by rw [hV]; exact Below_alloc1 _
  rw [← hV] at RK ⊢
  refine (actsD a len cap xs 60 w.heap.size 0 3 3 [1, 3, 2] V (HX.out.below LA) RK (by decide) (by decide)).mono ?_
  rintro e w1 ⟨a1, l1, c1, rfl, hO, hb1⟩
  rw [show (xs.take 60).map (jobOf [1, 3, 2]) = js from hjs.out] at hO
  have hl1 := hO.1
  have hm1 := hO.hmax
  have hc1 := hO.hle
  unfold maxLen at hm1
  have L1 := Lib.hid (LA.trans (hb1.mono LA.size))
  have HO := Lib.hid hO
  clear hO hb1 LA RK hV
  go_wp2_with fail
  refine (getsD a1 l1 c1 js w1 HO.out.jrow (by omega) (fun j hj => (hjk.out j hj).1) hsound.out.cl).mono ?_
  rintro e w2 ⟨a2, c2, rfl, hV, hb2⟩
  have L2 := Lib.hid (L1.out.trans (hb2.mono L1.out.size))
  have O2 := Lib.hid (HO.out.keeps (Keeps.below [5, 78] hb2) (by simp) (by simp))
  have HV := Lib.hid hV.sRow
  clear hV hb2 HO L1
  go_wp2_with (first | (go_at_call 15; refine (picked at_ _ _ (by omega) (by omega)).mono ?_; rintro e w' ⟨r, hr, hr0, hr1, rfl, rfl⟩) | (refine wpList_make_zeros rfl _ _ 59 rfl 5 _ 1 Try.underlying59 info_byte0 rfl _ _ _ _ 128 rfl rfl rfl rfl (by omega) (by unfold maxLen; omega) ?_))
  intro w3 hO3 hB3
  obtain ⟨k, rfl⟩ := Int.eq_ofNat_of_zero_le hr0
  have hk8 : k < 8 := by omega
  have L3 := Lib.hid (L2.out.trans (hB3.mono L2.out.size))
  have O3 := Lib.hid (O2.out.keeps (Keeps.below [5, 78] hB3) (by simp) (by simp))
  have V3 := Lib.hid (HV.out.below hB3)
  have Z3 := Lib.hid (VRow.toRow (k := .u8) (xs := zero128) hO3.row (by decide))
  obtain ⟨gz, hgz⟩ : ∃ g, w2.heap.size = g := ⟨_, rfl⟩
  rw [hgz] at Z3 ⊢
  clear hO3 hB3 O2 HV L2 hgz
  go_wp2_with fail
  go_loopw [9, 10] (fun wv iv wr => ∃ (i : Nat) (aw : Option Addr) (cw : Nat), i ≤ l1 ∧ iv = .int .i64 i ∧ wv = .slice aw 128 cw ∧ Hid (Row .u8 w3 aw 128 cw (lastPut k zero128 (js.take i))) ∧ wr = w3) (fun _ iv _ => l1 - (intOf iv).toNat)
  case atStart => exact ⟨0, some ⟨gz, 0, none⟩, 128, by omega, rfl, rfl, Z3, rfl⟩
  case round =>
    obtain ⟨i, aw, cw, hi, rfl, rfl, hR, rfl⟩ := hrel
    by_cases hlt : i < l1
    · obtain ⟨g1, vs, rfl, _, hgl, ⟨j, hj, ax, lx, cx, rfl, hdat⟩, hc⟩ := O3.out.get i hlt
      have hjok := (hjk.out j (List.mem_of_getElem? hj)).1
      have hnext : lastPut k zero128 (js.take (i + 1)) = if j.kind = 1 ∧ j.at_ = k then j.data.getD [] else lastPut k zero128 (js.take i) := by
        rw [List.take_add_one, hj]; exact lastPut_snoc ..
      have il : (i : Int) < (l1 : Int) := by omega
      have e0 : wr.cell? ⟨g1, i * 4, none⟩ = some (.int .i64 j.kind) := hc 0 (by decide)
      have e1 : wr.cell? ⟨g1, i * 4 + 1, none⟩ = some (.int .i64 (j.at_ : Int)) := hc 1 (by decide)
      have e3 : wr.cell? ⟨g1, i * 4 + 3, none⟩ = some (.slice ax lx cx) := hc 3 (by decide)
      clear hc
      by_cases hp : j.kind = 1 ∧ j.at_ = k
      · obtain ⟨d, hd1, hd2⟩ := hjok.2.2.2 (.inl hp.1)
        obtain ⟨rfl, hrow⟩ : lx = 128 ∧ Row .u8 wr ax lx cx d := by
          rcases hdat with ⟨h, _⟩ | ⟨d', h, h1, h2, h3⟩
          · rw [hd1] at h; cases h
          · rw [hd1] at h; injection h with h; subst h; exact ⟨h1, h3.toRow⟩
        have b1 : (j.kind == 1) = true := by simp [hp.1]
        have b2 : ((j.at_ : Int) == (k : Int)) = true := by simp; omega
        have HN : Hid (Row .u8 wr ax 128 cx (lastPut k zero128 (js.take (i + 1)))) := by
          show Row _ _ _ _ _ _
          rw [hnext, if_pos hp, hd1]; exact hrow
        clear hdat hnext hrow hjok
        go_wp2_with fail
        go_roundw
        case rel => exact ⟨i + 1, ax, cx, by omega, by go_num, rfl, HN, (by first | rfl | trivial)⟩
        case measure => simp [intOf]; omega
      · have HN : Hid (Row .u8 wr aw 128 cw (lastPut k zero128 (js.take (i + 1)))) := by
          show Row _ _ _ _ _ _
          rw [hnext, if_neg hp]; exact hR.out
        clear hdat hnext hjok
        by_cases hk1 : j.kind = 1
        · have b1 : (j.kind == 1) = true := by simp [hk1]
          have b2 : ((j.at_ : Int) == (k : Int)) = false := by simp; exact fun h => hp ⟨hk1, by omega⟩
          clear hp
          go_wp2_with fail
          go_roundw
          case rel => exact ⟨i + 1, aw, cw, by omega, by go_num, rfl, HN, (by first | rfl | trivial)⟩
          case measure => simp [intOf]; omega
        · have b1 : (j.kind == 1) = false := by simp [hk1]
          clear hp hk1
          go_wp2_with fail
          go_roundw
          case rel => exact ⟨i + 1, aw, cw, by omega, by go_num, rfl, HN, (by first | rfl | trivial)⟩
          case measure => simp [intOf]; omega
    · obtain rfl : i = l1 := by omega
      have hfin : js.take i = js := List.take_of_length_le (by omega)
      obtain ⟨b1, o1, a3, l3, c3, rfl, e1, r1⟩ := elem0 V3.out k hk8
      have hv : lastPut k zero128 js = dataD (runS DS.new js) k := by
        rw [last_view new_sound k js hjk.out, dataD_new]
      rw [viewN_getD _ _ _ hk8] at r1
      have R9 := hR.out
      rw [hfin, hv] at R9
      have HR9 := Lib.hid R9
      have HR1 := Lib.hid r1
      have i8 : (k : Int) < 8 := by omega
      have hcv := V3.out.hle
      have hcm := V3.out.hmax
      unfold maxLen at hcm
      clear hv R9 r1 hR
      go_wp2_with fail
      refine (sameBytes _ _ _ _ _ _ _ _ wr HR1.out HR9.out).mono ?_
      rintro e w4 ⟨rfl, q, rfl⟩
      rw [decide_eq_true rfl]
      go_wp2_with fail
      go_ret
      exact ⟨rfl, below_drewN L3.out q⟩
end Go.Proofs.Yteidmdakglkkfaa
