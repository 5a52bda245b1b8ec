/- The walk of SpanFirstFits, and its plain law. -/
import Derived.Test.YtddjkcogfpihpaaSnF
namespace Go.Proofs.Ytddjkcogfpihpaa
open Go.RowKit Go.Sort
set_option linter.unusedVariables false
set_option maxRecDepth 100000

/-- How many in a row end ahead of a number. -/
def rowN (l : List Rg) : Nat → Nat
  | 0 => 0
  | i + 1 => if hasB l i then rowN l i + 1 else 0
theorem rowN_le (l : List Rg) : ∀ i, rowN l i ≤ i
  | 0 => Nat.le_refl _
  | i + 1 => by
    have := rowN_le l i
    unfold rowN
    split <;> omega
theorem in_one {l : List Rg} (h : Canon l) {r q : Rg} (hr : r ∈ l) (hq : q ∈ l) {x : Int} (h1 : r.1 ≤ x + 1 ∧ x < r.2) (h2 : q.1 ≤ x ∧ x < q.2) : q = r := by
  obtain ⟨i, hi, rfl⟩ := List.mem_iff_getElem.1 hr
  obtain ⟨j, hj, rfl⟩ := List.mem_iff_getElem.1 hq
  by_cases e : i = j
  · subst e; rfl
  · rcases Nat.lt_or_ge i j with hlt | hge
    · have := List.pairwise_iff_getElem.1 h.2 i j hi hj hlt; omega
    · have := List.pairwise_iff_getElem.1 h.2 j i hj hi (by omega); omega
theorem row_in {l : List Rg} (h : Canon l) (low : ∀ r ∈ l, 0 ≤ r.1) {r : Rg} (hr : r ∈ l) : ∀ i : Nat, r.1 ≤ (i : Int) → (i : Int) < r.2 → ((rowN l (i + 1) : Nat) : Int) = i - r.1 + 1
  | 0, h1, h2 => by
    have h0 := low r hr
    have hb : hasB l ((0 : Nat) : Int) = true := (hasB_iff l _).2 ⟨r, hr, h1, h2⟩
    unfold rowN
    rw [if_pos hb, show rowN l 0 = 0 from rfl]; omega
  | i + 1, h1, h2 => by
    have hb : hasB l ((i + 1 : Nat) : Int) = true := (hasB_iff l _).2 ⟨r, hr, h1, h2⟩
    unfold rowN
    rw [if_pos hb]
    by_cases e : r.1 ≤ (i : Int)
    · have ih := row_in h low hr i e (by omega)
      omega
    · have hn : hasB l (i : Int) = false := by
        cases hx : hasB l (i : Int) with
        | false => rfl
        | true =>
          obtain ⟨q, hq, h3, h4⟩ := (hasB_iff l _).1 hx
          have := in_one h hr hq (x := (i : Int)) ⟨by omega, by omega⟩ ⟨h3, h4⟩
          subst this; omega
      have : rowN l (i + 1) = 0 := by unfold rowN; rw [hn]; rfl
      omega
theorem firstFit_some {K : Nat} {f : Int} : ∀ {l : List Rg}, firstFit K l = some f → ∃ pre r post, l = pre ++ r :: post ∧ f = r.1 ∧ (K : Int) ≤ r.2 - r.1 ∧ ∀ q : Rg, q ∈ pre → q.2 - q.1 < (K : Int)
  | [], h => by cases h
  | r :: l, h => by
    unfold firstFit at h
    by_cases hc : (K : Int) ≤ r.2 - r.1
    · rw [if_pos hc] at h
      injection h with h
      exact ⟨[], r, l, rfl, h.symm, hc, fun q hq => by cases hq⟩
    · rw [if_neg hc] at h
      obtain ⟨pre, r', post, h1, h2, h3, h4⟩ := firstFit_some h
      refine ⟨r :: pre, r', post, by rw [h1]; rfl, h2, h3, fun q hq => ?_⟩
      rcases List.mem_cons.1 hq with rfl | hq
      · omega
      · exact h4 q hq
theorem firstFit_none {K : Nat} : ∀ {l : List Rg}, firstFit K l = none → ∀ q ∈ l, q.2 - q.1 < K
  | [], _ => fun q hq => by cases hq
  | r :: l, h => by
    unfold firstFit at h
    by_cases hc : (K : Int) ≤ r.2 - r.1
    · rw [if_pos hc] at h; cases h
    · rw [if_neg hc] at h
      intro q hq
      rcases List.mem_cons.1 hq with rfl | hq
      · omega
      · exact firstFit_none h q hq
/-- What First gives: a place, a code. -/
def fitAt (K : Nat) (l : List Rg) : Int := match firstFit K l with | some f => f | none => 0
def fitCode (K : Nat) (l : List Rg) : Int := match firstFit K l with | some _ => 0 | none => 6
theorem firsts_eq (K : Nat) (l : List Rg) (w : World) (e : Ending) (w' : World) (h : Firsts (firstFit K l) w e w') : e = .returned (.tuple #[.int .i64 (fitAt K l), .int .i64 (fitCode K l)]) ∧ Below w.heap.size w w' := by
  unfold Firsts at h
  unfold fitAt fitCode
  refine ⟨?_, h.2⟩
  have := h.1
  split at this
  · rename_i f hf; rw [hf]; exact this
  · rename_i hf; rw [hf]; exact this
theorem fit_found {l : List Rg} (h : Canon l) (low : ∀ r ∈ l, 0 ≤ r.1) {K : Nat} (hK : 1 ≤ K) (i : Nat) (hi : rowN l (i + 1) = K) (hn : ∀ j, j < i → rowN l (j + 1) ≠ K) : fitCode K l = 0 ∧ fitAt K l = i - K + 1 := by
  have hb : hasB l (i : Int) = true := by
    cases hx : hasB l (i : Int) with
    | true => rfl
    | false => unfold rowN at hi; rw [hx] at hi; simp at hi; omega
  obtain ⟨r, hr, h1, h2⟩ := (hasB_iff l _).1 hb
  have hrow := row_in h low hr i h1 h2
  rw [hi] at hrow
  unfold fitCode fitAt
  cases hf : firstFit K l with
  | none => have := firstFit_none hf r hr; omega
  | some f =>
    obtain ⟨pre, r0, post, e, e2, h3, h4⟩ := firstFit_some hf
    refine ⟨rfl, ?_⟩
    show f = _
    have hr0 : r0 ∈ l := by rw [e]; simp
    rw [e] at hr
    rcases List.mem_append.1 hr with hp | hp
    · have := h4 r hp; omega
    · rcases List.mem_cons.1 hp with rfl | hp
      · omega
      · -- a place ahead of it
        have hgap : r0.2 < r.1 := by
          have := h.2
          rw [e] at this
          exact (List.pairwise_cons.1 (List.pairwise_append.1 this).2.1).1 r hp
        have l0 := low r0 hr0
        obtain ⟨j, hj⟩ : ∃ j : Nat, (j : Int) = r0.1 + K - 1 := ⟨(r0.1 + K - 1).toNat, by omega⟩
        have := row_in h low hr0 j (by omega) (by omega)
        exact absurd (by omega) (hn j (by omega))
theorem fit_none {l : List Rg} (h : Canon l) (low : ∀ r ∈ l, 0 ≤ r.1 ∧ r.2 ≤ 400) {K : Nat} (hK : 1 ≤ K) (hn : ∀ j, j < 400 → rowN l (j + 1) ≠ K) : fitCode K l = 6 ∧ fitAt K l = 0 := by
  unfold fitCode fitAt
  cases hf : firstFit K l with
  | none => exact ⟨rfl, rfl⟩
  | some f =>
    obtain ⟨pre, r0, post, e, e2, h3, h4⟩ := firstFit_some hf
    have hr0 : r0 ∈ l := by rw [e]; simp
    have l0 := low r0 hr0
    obtain ⟨j, hj⟩ : ∃ j : Nat, (j : Int) = r0.1 + K - 1 := ⟨(r0.1 + K - 1).toNat, by omega⟩
    have := row_in h (fun r hr => (low r hr).1) hr0 j (by omega) (by omega)
    exact absurd (by omega) (hn j (by omega))
set_option maxHeartbeats 8000000 in
theorem spanFirstFits (al : Option Addr) (ll cl : Nat) (xl : List Int) (n : Int) (w : World) (hl : Row .i64 w al ll cl xl) :
    Calls Try.prog 6 #[.slice al ll cl, .int .i64 n] w fun e w' => e = .returned (.bool true) ∧ Below w.heap.size w w' := by
  have HL := Lib.hid hl
  clear hl
  go_enter Try.func6, Try.ntmps6
  go_wp2_with fail
  refine (setOf12 al ll cl xl w HL.out).mono ?_
  rintro e w1 ⟨aX, nX, cX, X, rfl, SX, b1, GX, TX, lX⟩
  have L1 := Lib.hid b1
  clear b1 HL
  go_wp2_with fail
  refine (picked n 80 _ (by omega) (by omega)).mono ?_
  rintro e w2 ⟨k, hk, hk0, hk1, rfl, rfl⟩
  obtain ⟨K, hK⟩ : ∃ K : Nat, 1 + k = (K : Int) := ⟨(1 + k).toNat, by omega⟩
  have hK1 : 1 ≤ K := by omega
  have hK2 : K ≤ 80 := by omega
  go_upto_region 3 with fail
  clear hK hk hk0 hk1
  go_wp2_with fail
  refine (firstI _ aX nX cX X K w1 SX.out GX.out hK1).mono fun e w2 hp => ?_
  obtain ⟨he, hb2⟩ := firsts_eq K X w1 e w2 hp
  subst he
  have SX2 := Lib.hid (SX.out.below hb2)
  have L2 := Lib.hid (L1.out.trans (hb2.mono L1.out.size))
  have F1 := Lib.hid (fun i hi hn => fit_found GX.out.canon (fun r hr => (GX.out.at_ r hr).1) hK1 i hi hn)
  have F2 := Lib.hid (fun hn => fit_none GX.out.canon (fun r hr => ⟨(GX.out.at_ r hr).1, TX r hr⟩) hK1 hn)
  obtain ⟨at_, hat⟩ : ∃ x, Hid (fitAt K X = x) := ⟨_, rfl⟩
  obtain ⟨code, hcode⟩ : ∃ x, Hid (fitCode K X = x) := ⟨_, rfl⟩
  rw [hat.out, hcode.out] at F1 F2 ⊢
  clear hp hb2 SX L1 TX
  go_wp2_with fail
  go_loopw [10, 11] (fun rv iv wr => ∃ i : Nat, i ≤ 400 ∧ iv = .int .i64 i ∧ rv = .int .i64 (rowN X i) ∧ Hid (Below w.heap.size w wr) ∧ Hid (SRow rgL wr (fun _ => True) aX nX cX X) ∧ Hid (∀ j, j < i → rowN X (j + 1) ≠ K)) (fun _ iv _ => 400 - (intOf iv).toNat)
  case atStart => exact ⟨0, by omega, rfl, rfl, L2, SX2, fun j hj => absurd hj (by omega)⟩
  case round =>
    obtain ⟨i, hi, rfl, rfl, hL, hS, hN⟩ := hrel
    by_cases hlt : i < 400
    · have i1 : (i : Int) < 400 := by omega
      have hrl := rowN_le X i
      have hst : Hid (rowN X (i + 1) = if hasB X i then rowN X i + 1 else 0) := rfl
      obtain ⟨ro, hro⟩ : ∃ ro, Hid (rowN X i = ro) := ⟨_, rfl⟩
      rw [hro.out] at hrl hst ⊢
      go_wp2_with fail
      refine (hasW _ aX nX cX X i wr hS.out GX.out).mono ?_
      rintro e w3 ⟨rfl, hb3⟩
      have S3 := Lib.hid (hS.out.below hb3)
      have L3 := Lib.hid (hL.out.trans (hb3.mono hL.out.size))
      clear hb3 hL hS
      obtain ⟨hb, hhb⟩ : ∃ b, Hid (hasB X i = b) := ⟨_, rfl⟩
      rw [hhb.out] at hst ⊢
      cases hb with
      | true =>
        have hst2 : Hid (rowN X (i + 1) = ro + 1) := hst.out
        by_cases hq : ro + 1 = K
        · obtain ⟨f1, f2⟩ := F1.out i (by rw [hst2.out, hq]) hN.out
          have qT : ((ro : Int) + 1 == (K : Int)) = true := by simp; omega
          have cT : (code == 0) = true := by simp; exact f1
          have aT : (at_ == (i : Int) - (K : Int) + 1) = true := by simp; exact f2
          clear f1 f2 hst hst2 hq
          go_wp2_with fail
          go_ret
          exact ⟨rfl, L3.out⟩
        · have qF : ((ro : Int) + 1 == (K : Int)) = false := by simp; omega
          have hN2 : Hid (∀ j, j < i + 1 → rowN X (j + 1) ≠ K) := fun j hj => by
            by_cases e : j = i
            · subst e; rw [hst2.out]; exact hq
            · exact hN.out j (by omega)
          clear hst hq
          go_wp2_with fail
          go_roundw
          case rel => exact ⟨i + 1, by omega, by go_num, by rw [hst2.out]; go_num, L3, S3, hN2⟩
          case measure => simp [intOf]; omega
      | false =>
        have hst2 : Hid (rowN X (i + 1) = 0) := hst.out
        have qF : ((0 : Int) == (K : Int)) = false := by simp; omega
        have hN2 : Hid (∀ j, j < i + 1 → rowN X (j + 1) ≠ K) := fun j hj => by
          by_cases e : j = i
          · subst e; rw [hst2.out]; omega
          · exact hN.out j (by omega)
        clear hst
        go_wp2_with fail
        go_roundw
        case rel => exact ⟨i + 1, by omega, by go_num, by rw [hst2.out]; rfl, L3, S3, hN2⟩
        case measure => simp [intOf]; omega
    · obtain rfl : i = 400 := by omega
      obtain ⟨f1, f2⟩ := F2.out hN.out
      have cT : (code == 6) = true := by simp; exact f1
      have aT : (at_ == 0) = true := by simp; exact f2
      clear f1 f2
      go_wp2_with fail
      go_ret
      exact ⟨rfl, hL.out⟩
end Go.Proofs.Ytddjkcogfpihpaa
