/- The walks of package span's one, May, Size, First over ranges that lie apart. -/
import Derived.Test.YtddjkcogfpihpaaSnA
import Derived.Test.YtddjkcogfpihpaaLay
import Derived.Lib.QuietBelow
import Derived.Deep.QuietTactic
namespace Go.Proofs.Ytddjkcogfpihpaa
open Go.RowKit Go.Sort
set_option linter.unusedVariables false

def rgL : Lay Rg := Lay.flat 2 (by decide) (fun r => [.int .i64 r.1, .int .i64 r.2]) (fun _ => rfl) (by intro r v hv; simp at hv; rcases hv with rfl | rfl <;> rfl)
/-- Ranges as the program lets them be. -/
structure GoodR (l : List Rg) : Prop where
  canon : Canon l
  low : ∀ r ∈ l, 0 ≤ r.1 ∧ r.2 ≤ 1048576
  few : l.length ≤ 200
theorem GoodR.at_ {l : List Rg} (h : GoodR l) : ∀ r ∈ l, 0 ≤ r.1 ∧ r.1 < r.2 ∧ r.2 ≤ 1048576 := fun r hr => ⟨(h.low r hr).1, h.canon.1 r hr, (h.low r hr).2⟩
theorem Canon.next {rs : List Rg} (h : Canon rs) (k : Nat) (hk : k + 1 < rs.length) : rs[k].2 < rs[k + 1].1 := List.pairwise_iff_getElem.1 h.2 k (k + 1) (by omega) hk (by omega)
set_option maxHeartbeats 1000000 in
theorem one_yes (f t : Int) (w : World) (hf : 0 ≤ f) (hft : f < t) (ht : t ≤ 1048576) : Calls Try.prog 18 #[.agg #[.int .i64 f, .int .i64 t]] w fun e w' => e = .returned (.bool true) ∧ Below w.heap.size w w' := by
  have t1 : decide (0 ≤ f) = true := by simp; omega
  have t2 : decide (f < t) = true := by simp; omega
  have t3 : decide (t ≤ 1048576) = true := by simp; omega
  go_enter Try.func18, Try.ntmps18
  go_wp2
  go_ret
  exact ⟨rfl, Below_alloc1 _⟩
set_option maxHeartbeats 4000000 in
theorem mayI (F : Nat → Prop) (a : Option Addr) (len cap : Nat) (rs : List Rg) (w : World) (ha : SRow rgL w F a len cap rs) (hg : GoodR rs) :
    Calls Try.prog 15 #[.slice a len cap] w fun e w' => e = .returned (.bool true) ∧ Below w.heap.size w w' := by
  have hle := ha.hle
  have hmx := ha.hmax
  unfold maxLen at hmx
  have hdl := Lib.hid ha.1
  have hl : len ≤ 200 := by rw [← ha.1]; exact hg.few
  have HAP := Lib.hid (fun k h => hg.canon.next k h)
  have HIN := Lib.hid hg.at_
  clear hg
  go_enter Try.func15, Try.ntmps15
  go_wp2_with fail
  go_loopw [7] (fun iv wr => ∃ k : Nat, k ≤ len ∧ iv = .int .i64 k ∧ Hid (Below w.heap.size w wr)) (fun iv _ => len - (intOf iv).toNat)
  case atStart => exact ⟨0, by omega, rfl, Below.refl _ _⟩
  case round =>
    obtain ⟨k, hk, rfl, hbl⟩ := hrel
    by_cases hlt : k < len
    · have hkd : k < rs.length := by have := hdl.out; omega
      obtain ⟨b, off, vs, rfl, _, hbw, hat, hcell⟩ := ha.get k hlt
      have hvs := hat rs[k] (List.getElem?_eq_getElem hkd)
      obtain ⟨h1, h2, h3⟩ := HIN.out rs[k] (List.getElem_mem hkd)
      have hpv : 0 < k → ∃ t' : Int, w.cell? ⟨b, off + (k - 1) * 2 + 1, none⟩ = some (.int .i64 t') ∧ t' < rs[k].1 := fun h0 => by
        obtain ⟨b', off', vs', hab', _, _, hat', hcell'⟩ := ha.get (k - 1) (by omega)
        have hv' := hat' rs[k - 1] (List.getElem?_eq_getElem (by omega))
        have hvv : vs' = [.int .i64 rs[k - 1].1, .int .i64 rs[k - 1].2] := hv'
        obtain ⟨rfl, rfl⟩ : b = b' ∧ off = off' := by simpa using hab'
        refine ⟨rs[k - 1].2, ?_, ?_⟩
        · have := hcell' 1 (by decide)
          rw [hvv] at this; exact this
        · have := HAP.out (k - 1) (by omega)
          simpa [show k - 1 + 1 = k by omega] using this
      obtain ⟨⟨f, t⟩, hr⟩ : ∃ r : Rg, Hid (rs[k] = r) := ⟨rs[k], rfl⟩
      rw [hr.out] at hvs h1 h2 h3 hpv
      have hvs' : vs = [.int .i64 f, .int .i64 t] := hvs
      subst hvs'
      simp only at h1 h2 h3 hpv
      have e0 : wr.cell? ⟨b, off + k * 2, none⟩ = some (.int .i64 f) := (hbl.out.cell (p := ⟨b, off + k * 2, none⟩) hbw).trans (hcell 0 (by decide))
      have e1 : wr.cell? ⟨b, off + k * 2 + 1, none⟩ = some (.int .i64 t) := (hbl.out.cell (p := ⟨b, off + k * 2 + 1, none⟩) hbw).trans (hcell 1 (by decide))
      have hws := hbl.out.size
      have HPV := Lib.hid hpv
      clear hcell hat hvs hpv
      go_wp2_with fail
      have R0 := Lib.hid (Box.new (w := wr) (vs := #[.int .i64 f, .int .i64 t]) (t := 30) rfl)
      have L0 := Lib.hid (hbl.out.alloc hws (.cells #[.int .i64 f, .int .i64 t] 30))
      obtain ⟨V, hV⟩ : ∃ V, V = wr.alloc (.cells #[.int .i64 f, .int .i64 t] 30) := ⟨_, rfl⟩
      rw [← hV] at R0 L0 ⊢
      obtain ⟨x, hx⟩ : ∃ x, Hid (wr.heap.size = x) := ⟨_, rfl⟩
      rw [hx.out] at R0 ⊢
      have q0 : V.cell? ⟨x, 0, none⟩ = some (.int .i64 f) := R0.out.cell 0
      have q1 : V.cell? ⟨x, 1, none⟩ = some (.int .i64 t) := R0.out.cell 1
      clear hV e0 e1
      have k0 := cell_regrown q0
      have k1 := cell_regrown q1
      have cO : ∀ d os, Calls Try.prog 18 #[.agg #[.int .i64 f, .int .i64 t]] (grow (redrawn V d) os) fun e w'' => e = .returned (.bool true) ∧ ∃ p : Regrown, w'' = grow (redrawn V p.d) p.os := fun d os => Calls.regrown_of (one_yes _ _ _ (by omega) (by omega) (by omega))
      have CO := Lib.hid cO
      clear cO
      cases k with
      | zero =>
        refine wp_region_quiet_below (by kernel_rfl) (by kernel_rfl) ?_
        repeat (go_big_quiet_step (exact CO.out _ _))
        refine wpQuiet_nil ?_
        intro _ hw'
        obtain ⟨⟨dq, osq⟩, hw''⟩ := hw'
        subst hw''
        have hbq := below_regrown V dq osq
        obtain ⟨W2, hW2⟩ : ∃ W, W = grow (redrawn V dq) osq := ⟨_, rfl⟩
        change Exit.then _ _ _ _ (grow (redrawn V dq) osq)
        rw [← hW2] at hbq ⊢
        have L2 := Lib.hid (L0.out.trans (hbq.mono L0.out.size))
        clear hW2 k0 k1 CO q0 q1 hbq
        go_wp2_with fail
        go_roundw
        case rel => exact ⟨0 + 1, by omega, by go_num, L2.out⟩
        case measure => (simp [intOf]; try omega)
      | succ m =>
        obtain ⟨t', hpv, htt⟩ := HPV.out (by omega)
        rw [show m + 1 - 1 = m by omega] at hpv
        have hpV : V.cell? ⟨b, off + m * 2 + 1, none⟩ = some (.int .i64 t') := (L0.out.cell (p := ⟨b, off + m * 2 + 1, none⟩) hbw).trans hpv
        have k2 := cell_regrown hpV
        have s1 : IntKind.i64.wrap (((m + 1 : Nat) : Int) - 1) = (m : Int) := by rw [IntWalk.i64_in _ (by omega)]; (try omega)
        have s2 : (0 : Int) ≤ (m : Int) := by omega
        have s3 : (m : Int) < (len : Int) := by omega
        have s4 : decide (f ≤ t') = false := by simp; omega
        have s5 : decide ((0 : Int) < ((m + 1 : Nat) : Int)) = true := by (simp; try omega)
        clear hpv hpV
        refine wp_region_quiet_below (by kernel_rfl) (by kernel_rfl) ?_
        repeat (go_big_quiet_step (exact CO.out _ _))
        refine wpQuiet_nil ?_
        intro _ hw'
        obtain ⟨⟨dq, osq⟩, hw''⟩ := hw'
        subst hw''
        have hbq := below_regrown V dq osq
        obtain ⟨W2, hW2⟩ : ∃ W, W = grow (redrawn V dq) osq := ⟨_, rfl⟩
        change Exit.then _ _ _ _ (grow (redrawn V dq) osq)
        rw [← hW2] at hbq ⊢
        have L2 := Lib.hid (L0.out.trans (hbq.mono L0.out.size))
        clear hW2 k0 k1 CO q0 q1 hbq
        go_wp2_with fail
        go_roundw
        case rel => exact ⟨m + 1 + 1, by omega, by go_num, L2.out⟩
        case measure => (simp [intOf]; try omega)
    · obtain rfl : k = len := by omega
      have b1 : decide ((k : Int) ≤ 200) = true := by simp; omega
      go_wp2_with fail
      go_ret
      exact ⟨rfl, hbl.out⟩

def sizeR : List Rg → Int
  | [] => 0
  | r :: l => (r.2 - r.1) + sizeR l
theorem sizeR_snoc (l : List Rg) (r : Rg) : sizeR (l ++ [r]) = sizeR l + (r.2 - r.1) := by
  induction l with
  | nil => show _ + sizeR [] = sizeR [] + _; rw [show sizeR [] = 0 from rfl]; omega
  | cons a l ih => show _ + sizeR (l ++ [r]) = _ + sizeR l + _; rw [ih]; omega
theorem sizeR_take (rs : List Rg) (k : Nat) (h : k < rs.length) : sizeR (rs.take (k + 1)) = sizeR (rs.take k) + (rs[k].2 - rs[k].1) := by
  rw [List.take_succ_eq_append_getElem h, sizeR_snoc]
theorem sizeR_bd : ∀ (rs : List Rg), (∀ r ∈ rs, 0 ≤ r.1 ∧ r.1 < r.2 ∧ r.2 ≤ 1048576) → 0 ≤ sizeR rs ∧ sizeR rs ≤ 1048576 * rs.length
  | [], _ => by simp [sizeR]
  | r :: rs, h => by
    have ih := sizeR_bd rs (fun q hq => h q (List.mem_cons_of_mem _ hq))
    have h0 := h r (List.mem_cons_self ..)
    simp only [sizeR, List.length_cons] at ih ⊢
    omega
set_option maxHeartbeats 4000000 in
theorem sizeI (F : Nat → Prop) (a : Option Addr) (len cap : Nat) (rs : List Rg) (w : World) (ha : SRow rgL w F a len cap rs) (hg : GoodR rs) :
    Calls Try.prog 14 #[.slice a len cap] w fun e w' => e = .returned (.int .i64 (sizeR rs)) ∧ Below w.heap.size w w' := by
  have hle := ha.hle
  have hmx := ha.hmax
  unfold maxLen at hmx
  have hdl := Lib.hid ha.1
  have HIN := Lib.hid hg.at_
  have hl : len ≤ 200 := by rw [← ha.1]; exact hg.few
  have HBD := Lib.hid (fun k => sizeR_bd (rs.take k) (fun q hq => hg.at_ q (List.mem_of_mem_take hq)))
  go_enter Try.func14, Try.ntmps14
  go_wp2_with fail
  refine (mayI F a len cap rs _ ha hg).mono ?_
  rintro e w1 ⟨rfl, hb1⟩
  have HB1 := Lib.hid hb1
  clear hg hb1
  go_wp2_with fail
  go_loopw [3, 10] (fun sv iv wr => ∃ k : Nat, k ≤ len ∧ iv = .int .i64 k ∧ sv = .int .i64 (sizeR (rs.take k)) ∧ Hid (Below w.heap.size w wr)) (fun _ iv _ => len - (intOf iv).toNat)
  case atStart => exact ⟨0, by omega, rfl, rfl, HB1.out⟩
  case round =>
    obtain ⟨k, hk, rfl, rfl, hbl⟩ := hrel
    by_cases hlt : k < len
    · have hkd : k < rs.length := by have := hdl.out; omega
      obtain ⟨b, off, vs, rfl, _, hbw, hat, hcell⟩ := ha.get k hlt
      have hvs := hat rs[k] (List.getElem?_eq_getElem hkd)
      have hst := sizeR_take rs k hkd
      obtain ⟨h1, h2, h3⟩ := HIN.out rs[k] (List.getElem_mem hkd)
      obtain ⟨z1, z2⟩ := HBD.out k
      have z3 : ((rs.take k).length : Int) ≤ 200 := by have := List.length_take_le k rs; omega
      obtain ⟨⟨f, t⟩, hr⟩ : ∃ r : Rg, Hid (rs[k] = r) := ⟨rs[k], rfl⟩
      rw [hr.out] at hvs h1 h2 h3 hst
      obtain ⟨sp, hsp⟩ : ∃ sp, Hid (sizeR (rs.take k) = sp) := ⟨_, rfl⟩
      rw [hsp.out] at z1 z2 hst ⊢
      have hvs' : vs = [.int .i64 f, .int .i64 t] := hvs
      subst hvs'
      simp only at h1 h2 h3 hst
      have e0 : wr.cell? ⟨b, off + k * 2, none⟩ = some (.int .i64 f) := (hbl.out.cell (p := ⟨b, off + k * 2, none⟩) hbw).trans (hcell 0 (by decide))
      have e1 : wr.cell? ⟨b, off + k * 2 + 1, none⟩ = some (.int .i64 t) := (hbl.out.cell (p := ⟨b, off + k * 2 + 1, none⟩) hbw).trans (hcell 1 (by decide))
      have hws := hbl.out.size
      have z4 : sp ≤ 209715200 := by omega
      have HST := Lib.hid hst
      clear hcell hat hvs hst z2 z3
      go_wp2_with fail
      go_roundw
      case rel => exact ⟨k + 1, by omega, by go_num, by rw [HST.out], hbl.out.alloc hws _⟩
      case measure => (simp [intOf]; try omega)
    · obtain rfl : k = len := by omega
      have hfin : Hid (sizeR rs = sizeR (rs.take k)) := by show _ = _; rw [List.take_of_length_le (by have := hdl.out; omega)]
      go_wp2_with fail
      go_ret
      exact ⟨ret_int hfin.out.symm, hbl.out⟩

/-- the first of the ranges with room for so many -/
def firstFit (k : Nat) : List Rg → Option Int
  | [] => none
  | r :: rs => if (k : Int) ≤ r.2 - r.1 then some r.1 else firstFit k rs
def Firsts (r : Option Int) (w : World) (e : Ending) (w' : World) : Prop :=
  (match r with | some f => e = .returned (.tuple #[.int .i64 f, .int .i64 0]) | none => e = .returned (.tuple #[.int .i64 0, .int .i64 6])) ∧ Below w.heap.size w w'
set_option maxHeartbeats 4000000 in
theorem firstI (F : Nat → Prop) (a : Option Addr) (len cap : Nat) (rs : List Rg) (kk : Nat) (w : World) (ha : SRow rgL w F a len cap rs) (hg : GoodR rs) (hk1 : 1 ≤ kk) :
    Calls Try.prog 17 #[.slice a len cap, .int .i64 kk] w (Firsts (firstFit kk rs) w) := by
  have hle := ha.hle
  have hmx := ha.hmax
  unfold maxLen at hmx
  have hdl := Lib.hid ha.1
  have HIN := Lib.hid hg.at_
  obtain ⟨FF, hFF⟩ : ∃ FF, Hid (firstFit kk rs = FF) := ⟨_, rfl⟩
  rw [hFF.out]
  have t0 : decide ((kk : Int) < 1) = false := by simp; omega
  go_enter Try.func17, Try.ntmps17
  go_wp2_with fail
  refine (mayI F a len cap rs _ ha hg).mono ?_
  rintro e w1 ⟨rfl, hb1⟩
  have HB1 := Lib.hid hb1
  clear hg hb1
  go_wp2_with fail
  go_loopw [15] (fun iv wr => ∃ k : Nat, k ≤ len ∧ iv = .int .i64 k ∧ Hid (firstFit kk (rs.drop k) = FF) ∧ Hid (Below w.heap.size w wr)) (fun iv _ => len - (intOf iv).toNat)
  case atStart => exact ⟨0, by omega, rfl, hFF.out, HB1.out⟩
  case round =>
    obtain ⟨k, hk, rfl, hff, hbl⟩ := hrel
    by_cases hlt : k < len
    · have hkd : k < rs.length := by have := hdl.out; omega
      obtain ⟨b, off, vs, rfl, _, hbw, hat, hcell⟩ := ha.get k hlt
      have hvs := hat rs[k] (List.getElem?_eq_getElem hkd)
      obtain ⟨h1, h2, h3⟩ := HIN.out rs[k] (List.getElem_mem hkd)
      have hf2 := hff.out
      rw [List.drop_eq_getElem_cons hkd, firstFit] at hf2
      obtain ⟨⟨f, t⟩, hr⟩ : ∃ r : Rg, Hid (rs[k] = r) := ⟨rs[k], rfl⟩
      rw [hr.out] at hvs h1 h2 h3 hf2
      have hvs' : vs = [.int .i64 f, .int .i64 t] := hvs
      subst hvs'
      simp only at h1 h2 h3 hf2
      have e0 : wr.cell? ⟨b, off + k * 2, none⟩ = some (.int .i64 f) := (hbl.out.cell (p := ⟨b, off + k * 2, none⟩) hbw).trans (hcell 0 (by decide))
      have e1 : wr.cell? ⟨b, off + k * 2 + 1, none⟩ = some (.int .i64 t) := (hbl.out.cell (p := ⟨b, off + k * 2 + 1, none⟩) hbw).trans (hcell 1 (by decide))
      have hws := hbl.out.size
      have HF2 := Lib.hid hf2
      clear hcell hat hvs hf2 hff
      by_cases hc : (kk : Int) ≤ t - f
      · have t1 : decide ((kk : Int) ≤ t - f) = true := by simp; omega
        have hfin : Hid (FF = some f) := by have := HF2.out; rw [if_pos hc] at this; exact this.symm
        clear hc
        go_wp2_with fail
        go_ret2
        rw [hfin.out]
        exact ⟨rfl, hbl.out.alloc hws _⟩
      · have t1 : decide ((kk : Int) ≤ t - f) = false := by simp; omega
        have hfin : Hid (firstFit kk (rs.drop (k + 1)) = FF) := by have := HF2.out; rw [if_neg hc] at this; exact this
        clear hc
        go_wp2_with fail
        go_roundw
        case rel => exact ⟨k + 1, by omega, by go_num, hfin, hbl.out.alloc hws _⟩
        case measure => (simp [intOf]; try omega)
    · obtain rfl : k = len := by omega
      have hfin : Hid (FF = none) := by
        have := hff.out
        rw [List.drop_of_length_le (by have := hdl.out; omega)] at this; exact this.symm
      go_wp2_with fail
      go_ret2
      rw [hfin.out]
      exact ⟨rfl, hbl.out⟩
end Go.Proofs.Ytddjkcogfpihpaa
