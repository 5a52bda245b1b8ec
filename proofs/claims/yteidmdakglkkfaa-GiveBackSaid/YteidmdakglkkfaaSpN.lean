/- The walks of package span's May, Size, First over ranges that lie apart; sameRanges. -/
import Derived.Test.YteidmdakglkkfaaSpM
import Derived.Lib.QuietBelow
namespace Go.Proofs.Yteidmdakglkkfaa
open Go.RowKit Go.Sort
set_option linter.unusedVariables false

theorem ApartFrom.next : ∀ {rs : List (Nat × Nat)} {b : Nat}, ApartFrom b rs → ∀ k (h : k + 1 < rs.length), rs[k].2 < rs[k + 1].1
  | r :: q :: rs, b, h, 0, _ => h.2.2.1
  | r :: rs, b, h, k + 1, hk => h.2.2.next k (by simpa using hk)
set_option maxHeartbeats 1000000 in
theorem one_yes (f t : Int) (w : World) (hf : 0 ≤ f) (hft : f < t) (ht : t ≤ 1048576) : Calls Try.prog 41 #[.agg #[.int .i64 f, .int .i64 t]] w fun e w' => e = .returned (.bool true) ∧ Below w.heap.size w w' := by
  have t1 : decide (0 ≤ f) = true := by simp; omega
  have t2 : decide (f < t) = true := by simp; omega
  have t3 : decide (t ≤ 1048576) = true := by simp; omega
  go_enter Try.func41, Try.ntmps41
  go_wp2
  go_ret
  exact ⟨rfl, Below_alloc1 _⟩
set_option maxHeartbeats 4000000 in
theorem may (n : Nat) (F : Nat → Prop) (a : Option Addr) (len cap : Nat) (rs : List (Nat × Nat)) (w : World) (ha : SRow rangeL w F a len cap rs) (hap : ApartFrom 0 rs) (hin : RunsIn n rs) (hn : n ≤ 1048576) (hl : len ≤ 200) :
    Calls Try.prog 21 #[.slice a len cap] w fun e w' => e = .returned (.bool true) ∧ Below w.heap.size w w' := by
  have hle := ha.hle
  have hmx := ha.hmax
  unfold maxLen at hmx
  have hdl := Lib.hid ha.1
  have HAP := Lib.hid (fun k h => hap.next k h)
  have HIN := Lib.hid hin
  clear hap hin
  go_enter Try.func21, Try.ntmps21
  go_wp2_with fail
  go_loopw [7] (fun iv wr => ∃ k : Nat, k ≤ len ∧ iv = .int .i64 k ∧ Hid (Below w.heap.size w wr)) (fun iv _ => len - (intOf iv).toNat)
  case atStart => exact ⟨0, by omega, rfl, Below.refl _ _⟩
  case round =>
    obtain ⟨k, hk, rfl, hbl⟩ := hrel
    by_cases hlt : k < len
    · have hkd : k < rs.length := by have := hdl.out; omega
      obtain ⟨b, off, vs, rfl, _, hbw, hat, hcell⟩ := ha.get k hlt
      have hvs := hat rs[k] (List.getElem?_eq_getElem hkd)
      obtain ⟨h1, h2⟩ := HIN.out rs[k] (List.getElem_mem hkd)
      have hpv : 0 < k → ∃ t' : Nat, w.cell? ⟨b, off + (k - 1) * 2 + 1, none⟩ = some (.int .i64 t') ∧ t' < rs[k].1 := fun h0 => by
        obtain ⟨b', off', vs', hab', _, _, hat', hcell'⟩ := ha.get (k - 1) (by omega)
        have hv' := hat' rs[k - 1] (List.getElem?_eq_getElem (by omega))
        have hvv : vs' = [.int .i64 (rs[k - 1].1 : Int), .int .i64 (rs[k - 1].2 : Int)] := hv'
        obtain ⟨rfl, rfl⟩ : b = b' ∧ off = off' := by simpa using hab'
        refine ⟨rs[k - 1].2, ?_, ?_⟩
        · have := hcell' 1 (by decide)
          rw [hvv] at this; exact this
        · have := HAP.out (k - 1) (by omega)
          simpa [show k - 1 + 1 = k by omega] using this
      obtain ⟨⟨f, t⟩, hr⟩ : ∃ r : Nat × Nat, Hid (rs[k] = r) := ⟨rs[k], rfl⟩
      rw [hr.out] at hvs h1 h2 hpv
      have hvs' : vs = [.int .i64 (f : Int), .int .i64 (t : Int)] := hvs
      subst hvs'
      simp only at h1 h2 hpv
      have e0 : wr.cell? ⟨b, off + k * 2, none⟩ = some (.int .i64 f) := (hbl.out.cell (p := ⟨b, off + k * 2, none⟩) hbw).trans (hcell 0 (by decide))
      have e1 : wr.cell? ⟨b, off + k * 2 + 1, none⟩ = some (.int .i64 t) := (hbl.out.cell (p := ⟨b, off + k * 2 + 1, none⟩) hbw).trans (hcell 1 (by decide))
      have hws := hbl.out.size
      have HPV := Lib.hid hpv
      clear hcell hat hvs hpv
      go_wp2_with fail
      have R0 := Lib.hid (Box.new (w := wr) (vs := #[.int .i64 f, .int .i64 t]) (t := 95) rfl)
      have L0 := Lib.hid (hbl.out.alloc hws (.cells #[.int .i64 f, .int .i64 t] 95))
      obtain ⟨V, hV⟩ : ∃ V, V = wr.alloc (.cells #[.int .i64 f, .int .i64 t] 95) := ⟨_, rfl⟩
      rw [← hV] at R0 L0 ⊢
      obtain ⟨x, hx⟩ : ∃ x, Hid (wr.heap.size = x) := ⟨_, rfl⟩
      rw [hx.out] at R0 ⊢
      have q0 : V.cell? ⟨x, 0, none⟩ = some (.int .i64 f) := R0.out.cell 0
      have q1 : V.cell? ⟨x, 1, none⟩ = some (.int .i64 t) := R0.out.cell 1
      clear hV e0 e1
      have k0 := cell_regrown q0
      have k1 := cell_regrown q1
      have cO : ∀ d os, Calls Try.prog 41 #[.agg #[.int .i64 f, .int .i64 t]] (grow (redrawn V d) os) fun e w'' => e = .returned (.bool true) ∧ ∃ p : Regrown, w'' = grow (redrawn V p.d) p.os := fun d os => Calls.regrown_of (one_yes _ _ _ (by omega) (by omega) (by omega))
      have CO := Lib.hid cO
      clear cO
      cases k with
      | zero =>
        refine wp_region_quiet_below (by kernel_rfl) (by kernel_rfl) ?_
        repeat (go_big_quiet_step (exact CO.out _ _))
        refine wpQuiet_nil ?_
        intro _ hw'
        obtain ⟨⟨dq, osq⟩, hw''⟩ := hw'
        subst hw''
        have hbq := below_regrown V dq osq
        obtain ⟨W2, hW2⟩ : ∃ W, W = grow (redrawn V dq) osq := ⟨_, rfl⟩
        change Exit.then _ _ _ _ (grow (redrawn V dq) osq)
        rw [← hW2] at hbq ⊢
        have L2 := Lib.hid (L0.out.trans (hbq.mono L0.out.size))
        clear hW2 k0 k1 CO q0 q1 hbq
        go_wp2_with fail
        go_roundw
        case rel => exact ⟨0 + 1, by omega, by go_num, L2.out⟩
        case measure => (simp [intOf]; try omega)
      | succ m =>
        obtain ⟨t', hpv, htt⟩ := HPV.out (by omega)
        rw [show m + 1 - 1 = m by omega] at hpv
        have hpV : V.cell? ⟨b, off + m * 2 + 1, none⟩ = some (.int .i64 t') := (L0.out.cell (p := ⟨b, off + m * 2 + 1, none⟩) hbw).trans hpv
        have k2 := cell_regrown hpV
        have s1 : IntKind.i64.wrap (((m + 1 : Nat) : Int) - 1) = (m : Int) := by rw [IntWalk.i64_in _ (by omega)]; (try omega)
        have s2 : (0 : Int) ≤ (m : Int) := by omega
        have s3 : (m : Int) < (len : Int) := by omega
        have s4 : decide ((f : Int) ≤ (t' : Int)) = false := by simp; omega
        have s5 : decide ((0 : Int) < ((m + 1 : Nat) : Int)) = true := by (simp; try omega)
        clear hpv hpV
        refine wp_region_quiet_below (by kernel_rfl) (by kernel_rfl) ?_
        repeat (go_big_quiet_step (exact CO.out _ _))
        refine wpQuiet_nil ?_
        intro _ hw'
        obtain ⟨⟨dq, osq⟩, hw''⟩ := hw'
        subst hw''
        have hbq := below_regrown V dq osq
        obtain ⟨W2, hW2⟩ : ∃ W, W = grow (redrawn V dq) osq := ⟨_, rfl⟩
        change Exit.then _ _ _ _ (grow (redrawn V dq) osq)
        rw [← hW2] at hbq ⊢
        have L2 := Lib.hid (L0.out.trans (hbq.mono L0.out.size))
        clear hW2 k0 k1 CO q0 q1 hbq
        go_wp2_with fail
        go_roundw
        case rel => exact ⟨m + 1 + 1, by omega, by go_num, L2.out⟩
        case measure => (simp [intOf]; try omega)
    · obtain rfl : k = len := by omega
      have b1 : decide ((k : Int) ≤ 200) = true := by simp; omega
      go_wp2_with fail
      go_ret
      exact ⟨rfl, hbl.out⟩

theorem span_take (rs : List (Nat × Nat)) (k : Nat) (h : k < rs.length) : spanOf (rs.take (k + 1)) = spanOf (rs.take k) + ((rs[k].2 : Int) - rs[k].1) := by
  unfold spanOf
  rw [List.take_succ_eq_append_getElem h, List.map_append, List.sum_append]; simp
theorem span_bd {n : Nat} : ∀ (rs : List (Nat × Nat)), RunsIn n rs → 0 ≤ spanOf rs ∧ spanOf rs ≤ n * rs.length
  | [], _ => by simp [spanOf]
  | r :: rs, h => by
    have ih := span_bd rs (fun q hq => h q (List.mem_cons_of_mem _ hq))
    have h0 := h r (List.mem_cons_self ..)
    simp only [spanOf, List.map_cons, List.sum_cons, List.length_cons] at ih ⊢
    rw [show ((rs.length + 1 : Nat) : Int) = (rs.length : Int) + 1 by omega, Int.mul_add, Int.mul_one]
    omega
set_option maxHeartbeats 4000000 in
theorem size (n : Nat) (F : Nat → Prop) (a : Option Addr) (len cap : Nat) (rs : List (Nat × Nat)) (w : World) (ha : SRow rangeL w F a len cap rs) (hap : ApartFrom 0 rs) (hin : RunsIn n rs) (hn : n ≤ 1048576) (hl : len ≤ 200) :
    Calls Try.prog 22 #[.slice a len cap] w fun e w' => e = .returned (.int .i64 (spanOf rs)) ∧ Below w.heap.size w w' := by
  have hle := ha.hle
  have hmx := ha.hmax
  unfold maxLen at hmx
  have hdl := Lib.hid ha.1
  have HIN := Lib.hid hin
  have HBD := Lib.hid (fun k => span_bd (rs.take k) (fun q hq => hin q (List.mem_of_mem_take hq)))
  go_enter Try.func22, Try.ntmps22
  go_wp2_with fail
  refine (may n F a len cap rs _ ha hap hin hn hl).mono ?_
  rintro e w1 ⟨rfl, hb1⟩
  have HB1 := Lib.hid hb1
  clear hap hin hb1
  go_wp2_with fail
  go_loopw [3, 10] (fun sv iv wr => ∃ k : Nat, k ≤ len ∧ iv = .int .i64 k ∧ sv = .int .i64 (spanOf (rs.take k)) ∧ Hid (Below w.heap.size w wr)) (fun _ iv _ => len - (intOf iv).toNat)
  case atStart => exact ⟨0, by omega, rfl, rfl, HB1.out⟩
  case round =>
    obtain ⟨k, hk, rfl, rfl, hbl⟩ := hrel
    by_cases hlt : k < len
    · have hkd : k < rs.length := by have := hdl.out; omega
      obtain ⟨b, off, vs, rfl, _, hbw, hat, hcell⟩ := ha.get k hlt
      have hvs := hat rs[k] (List.getElem?_eq_getElem hkd)
      have hst := span_take rs k hkd
      obtain ⟨h1, h2⟩ := HIN.out rs[k] (List.getElem_mem hkd)
      obtain ⟨z1, z2⟩ := HBD.out k
      have z3 : (n : Int) * ((rs.take k).length : Int) ≤ 1048576 * 200 := by
        have hl2 : ((rs.take k).length : Int) ≤ 200 := by have := List.length_take_le k rs; omega
        calc (n : Int) * ((rs.take k).length : Int) ≤ 1048576 * ((rs.take k).length : Int) := Int.mul_le_mul_of_nonneg_right (by omega) (by omega)
          _ ≤ 1048576 * 200 := Int.mul_le_mul_of_nonneg_left hl2 (by omega)
      obtain ⟨⟨f, t⟩, hr⟩ : ∃ r : Nat × Nat, Hid (rs[k] = r) := ⟨rs[k], rfl⟩
      rw [hr.out] at hvs h1 h2 hst
      obtain ⟨sp, hsp⟩ : ∃ sp, Hid (spanOf (rs.take k) = sp) := ⟨_, rfl⟩
      rw [hsp.out] at z1 z2 hst ⊢
      have hvs' : vs = [.int .i64 (f : Int), .int .i64 (t : Int)] := hvs
      subst hvs'
      simp only at h1 h2 hst
      have e0 : wr.cell? ⟨b, off + k * 2, none⟩ = some (.int .i64 f) := (hbl.out.cell (p := ⟨b, off + k * 2, none⟩) hbw).trans (hcell 0 (by decide))
      have e1 : wr.cell? ⟨b, off + k * 2 + 1, none⟩ = some (.int .i64 t) := (hbl.out.cell (p := ⟨b, off + k * 2 + 1, none⟩) hbw).trans (hcell 1 (by decide))
      have hws := hbl.out.size
      have z4 : sp ≤ 209715200 := by omega
      have HST := Lib.hid hst
      clear hcell hat hvs hst z2 z3
      go_wp2_with fail
      go_roundw
      case rel => exact ⟨k + 1, by omega, by go_num, by rw [HST.out], hbl.out.alloc hws _⟩
      case measure => (simp [intOf]; try omega)
    · obtain rfl : k = len := by omega
      have hfin : Hid (spanOf rs = spanOf (rs.take k)) := by show _ = _; rw [List.take_of_length_le (by have := hdl.out; omega)]
      go_wp2_with fail
      go_ret
      exact ⟨ret_int hfin.out.symm, hbl.out⟩

/-- the first of the ranges with room for so many -/
def firstFit (k : Nat) : List (Nat × Nat) → Option Nat
  | [] => none
  | r :: rs => if k ≤ r.2 - r.1 then some r.1 else firstFit k rs
def Firsts (r : Option Nat) (w : World) (e : Ending) (w' : World) : Prop :=
  (match r with | some f => e = .returned (.tuple #[.int .i64 (f : Int), .int .i64 0]) | none => e = .returned (.tuple #[.int .i64 0, .int .i64 6])) ∧ Below w.heap.size w w'
set_option maxHeartbeats 4000000 in
theorem first (n : Nat) (F : Nat → Prop) (a : Option Addr) (len cap : Nat) (rs : List (Nat × Nat)) (kk : Nat) (w : World) (ha : SRow rangeL w F a len cap rs) (hap : ApartFrom 0 rs) (hin : RunsIn n rs) (hn : n ≤ 1048576) (hl : len ≤ 200) (hk1 : 1 ≤ kk) :
    Calls Try.prog 20 #[.slice a len cap, .int .i64 kk] w (Firsts (firstFit kk rs) w) := by
  have hle := ha.hle
  have hmx := ha.hmax
  unfold maxLen at hmx
  have hdl := Lib.hid ha.1
  have HIN := Lib.hid hin
  obtain ⟨FF, hFF⟩ : ∃ FF, Hid (firstFit kk rs = FF) := ⟨_, rfl⟩
  rw [hFF.out]
  have t0 : decide ((kk : Int) < 1) = false := by simp; omega
  go_enter Try.func20, Try.ntmps20
  go_wp2_with fail
  refine (may n F a len cap rs _ ha hap hin hn hl).mono ?_
  rintro e w1 ⟨rfl, hb1⟩
  have HB1 := Lib.hid hb1
  clear hap hin hb1
  go_wp2_with fail
  go_loopw [15] (fun iv wr => ∃ k : Nat, k ≤ len ∧ iv = .int .i64 k ∧ Hid (firstFit kk (rs.drop k) = FF) ∧ Hid (Below w.heap.size w wr)) (fun iv _ => len - (intOf iv).toNat)
  case atStart => exact ⟨0, by omega, rfl, hFF.out, HB1.out⟩
  case round =>
    obtain ⟨k, hk, rfl, hff, hbl⟩ := hrel
    by_cases hlt : k < len
    · have hkd : k < rs.length := by have := hdl.out; omega
      obtain ⟨b, off, vs, rfl, _, hbw, hat, hcell⟩ := ha.get k hlt
      have hvs := hat rs[k] (List.getElem?_eq_getElem hkd)
      obtain ⟨h1, h2⟩ := HIN.out rs[k] (List.getElem_mem hkd)
      have hf2 := hff.out
      rw [List.drop_eq_getElem_cons hkd, firstFit] at hf2
      obtain ⟨⟨f, t⟩, hr⟩ : ∃ r : Nat × Nat, Hid (rs[k] = r) := ⟨rs[k], rfl⟩
      rw [hr.out] at hvs h1 h2 hf2
      have hvs' : vs = [.int .i64 (f : Int), .int .i64 (t : Int)] := hvs
      subst hvs'
      simp only at h1 h2 hf2
      have e0 : wr.cell? ⟨b, off + k * 2, none⟩ = some (.int .i64 f) := (hbl.out.cell (p := ⟨b, off + k * 2, none⟩) hbw).trans (hcell 0 (by decide))
      have e1 : wr.cell? ⟨b, off + k * 2 + 1, none⟩ = some (.int .i64 t) := (hbl.out.cell (p := ⟨b, off + k * 2 + 1, none⟩) hbw).trans (hcell 1 (by decide))
      have hws := hbl.out.size
      have HF2 := Lib.hid hf2
      clear hcell hat hvs hf2 hff
      by_cases hc : kk ≤ t - f
      · have t1 : decide ((kk : Int) ≤ (t : Int) - (f : Int)) = true := by simp; omega
        have hfin : Hid (FF = some f) := by have := HF2.out; rw [if_pos hc] at this; exact this.symm
        clear hc
        go_wp2_with fail
        go_ret2
        rw [hfin.out]
        exact ⟨rfl, hbl.out.alloc hws _⟩
      · have t1 : decide ((kk : Int) ≤ (t : Int) - (f : Int)) = false := by simp; omega
        have hfin : Hid (firstFit kk (rs.drop (k + 1)) = FF) := by have := HF2.out; rw [if_neg hc] at this; exact this
        clear hc
        go_wp2_with fail
        go_roundw
        case rel => exact ⟨k + 1, by omega, by go_num, hfin, hbl.out.alloc hws _⟩
        case measure => (simp [intOf]; try omega)
    · obtain rfl : k = len := by omega
      have hfin : Hid (FF = none) := by
        have := hff.out
        rw [List.drop_of_length_le (by have := hdl.out; omega)] at this; exact this.symm
      go_wp2_with fail
      go_ret2
      rw [hfin.out]
      exact ⟨rfl, hbl.out⟩
end Go.Proofs.Yteidmdakglkkfaa
