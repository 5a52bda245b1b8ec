/- Package mat: times, element, all, May. -/
import Derived.Test.YtkfjkdonbmjniaaGfX
import Derived.Test.YtkfjkdonbmjniaaLay2
import Derived.BigQuiet
namespace Go.Proofs.Ytkfjkdonbmjniaa
open Go.RowKit
set_option linter.unusedVariables false
set_option maxRecDepth 100000

/-- A matrix: rows of numbers below 256. -/
def El (l : List Int) : Prop := ∀ v ∈ l, 0 ≤ v ∧ v ≤ 255
theorem El.getD {l : List Int} (h : El l) (i : Nat) : 0 ≤ l.getD i 0 ∧ l.getD i 0 ≤ 255 := by
  by_cases hi : i < l.length
  · rw [show l.getD i 0 = l[i] by simp [List.getD, hi]]; exact h _ (List.getElem_mem hi)
  · rw [show l.getD i 0 = 0 by simp [List.getD, hi]]; omega
def Mat (M : List (List Int)) (r c : Nat) : Prop := M.length = r ∧ (1 ≤ r ∧ r ≤ 8) ∧ (1 ≤ c ∧ c ≤ 8) ∧ ∀ x ∈ M, x.length = c ∧ El x
theorem Mat.get {M : List (List Int)} {r c : Nat} (h : Mat M r c) (i : Nat) (hi : i < r) : (M.getD i []).length = c ∧ El (M.getD i []) := by
  have hl : i < M.length := by rw [h.1]; exact hi
  rw [show M.getD i [] = M[i] by simp [List.getD, hl]]; exact h.2.2.2 _ (List.getElem_mem hl)
theorem Mat.el {M : List (List Int)} {r c : Nat} (h : Mat M r c) (i : Nat) : El (M.getD i []) := by
  by_cases hi : i < r
  · exact (h.get i hi).2
  · have hl : ¬ i < M.length := by rw [h.1]; exact hi
    rw [show M.getD i [] = [] by simp [List.getD, hl]]; intro v hv; cases hv
theorem mget {w : World} {F : Nat → Prop} {a : Option Addr} {len cap : Nat} {L : List (List Int)} (h : SRow (Lay.int .i64).slice w F a len cap L) (i : Nat) (hi : i < len) :
    ∃ b off a' l' c', a = some ⟨b, off, none⟩ ∧ b < w.heap.size ∧ w.cell? ⟨b, off + i, none⟩ = some (.slice a' l' c') ∧ Row .i64 w a' l' c' (L.getD i []) := by
  obtain ⟨b, off, vs, rfl, _, hb, hx, hc⟩ := h.get i hi
  have hl : i < L.length := by rw [h.1]; exact hi
  obtain ⟨a', l', c', rfl, hr⟩ := hx _ (List.getElem?_eq_getElem hl)
  refine ⟨b, off, a', l', c', rfl, hb, ?_, ?_⟩
  · have := hc 0 (by decide)
    simpa [Lay.slice] using this
  · rw [show L.getD i [] = L[i] by simp [List.getD, hl]]
    exact hr.toRow
set_option maxHeartbeats 1000000 in
theorem timesM (a b : Int) (w : World) (ha : 0 ≤ a ∧ a ≤ 255) (hb : 0 ≤ b ∧ b ≤ 255) : Calls Try.prog 58 #[.int .i64 a, .int .i64 b] w (One (gmul a.toNat b.toNat) w) := by
  go_enter Try.func58, Try.ntmps58
  go_wp2_with fail
  refine (mulG a b w ha hb).mono ?_
  rintro e w2 ⟨v, hv, hv0, hv1, rfl, hle⟩
  go_wp2_with fail
  go_ret
  exact ⟨v, hv, hv0, hv1, rfl, hle⟩
theorem all1 (v : Int) (w : World) (h : 0 ≤ v ∧ v ≤ 255) : Calls Try.prog 60 #[.int .i64 v] w fun e w' => e = .returned (.bool false) ∧ w = w' := by
  obtain ⟨h1, h2⟩ := h
  go_enter Try.func60, Try.ntmps60
  have h3 : decide (v < 256) = true := decide_eq_true (by omega)
  go_wp2_with (go_at_call 61; go_in)
  go_ret
  first | exact ⟨rfl, rfl⟩ | exact ⟨by simp [h3], rfl⟩ | exact ⟨by simp [h3], trivial⟩
set_option maxHeartbeats 1000000 in
theorem index_all (a : Option Addr) (len cap : Nat) (xs : List Int) (w : World) (h : Row .i64 w a len cap xs) (he : El xs) :
    Calls Try.prog 70 #[.slice a len cap, .func (.func 60) #[] #[]] w fun e w' => e = .returned (.int .i64 (-1)) ∧ w = w' := by
  have hmx := h.hmax
  have hle := h.hle
  unfold maxLen at hmx
  have HR := Lib.hid h
  have HE := Lib.hid he
  clear h he
  go_enter Try.func70, Try.ntmps70
  go_wp2_with fail
  go_loopw [8] (fun i wr => ∃ n : Nat, n ≤ len ∧ i = .int .i64 n ∧ w = wr) (fun i _ => len - (intOf i).toNat)
  case atStart => exact ⟨0, by omega, rfl, rfl⟩
  case round =>
    obtain ⟨n, hn, rfl, rfl⟩ := hrel
    by_cases hlt : n < len
    · rcases HR.out.hat with h0 | ⟨b, o, rfl, hc⟩
      · omega
      have e1 := hc n hlt
      have hv := HE.out.getD n
      obtain ⟨v, hv2⟩ : ∃ v, xs.getD n 0 = v := ⟨_, rfl⟩
      rw [hv2] at e1 hv
      clear hc
      go_wp2_with fail
      refine (all1 v w hv).mono ?_
      rintro e w2 ⟨rfl, rfl⟩
      go_wp2_with fail
      go_roundw
      case rel => first | exact ⟨n + 1, by omega, by go_num, rfl⟩ | exact ⟨n + 1, by omega, by go_num, trivial⟩
      case measure => simp [intOf]; omega
    · go_wp2_with fail
      go_ret
      first | exact ⟨rfl, rfl⟩ | exact ⟨rfl, trivial⟩
set_option maxHeartbeats 1000000 in
theorem allM (a : Option Addr) (len cap : Nat) (xs : List Int) (w : World) (h : Row .i64 w a len cap xs) (he : El xs) :
    Calls Try.prog 46 #[.slice a len cap] w fun e w' => e = .returned (.bool true) ∧ w = w' := by
  go_enter Try.func46, Try.ntmps46
  go_wp2_with (go_at_call 59; go_in)
  refine (index_all a len cap xs w h he).mono ?_
  rintro e w2 ⟨rfl, rfl⟩
  go_wp2_with fail
  go_ret
  first | exact ⟨rfl, rfl⟩ | exact ⟨rfl, trivial⟩
set_option maxHeartbeats 1000000 in
theorem mayM (a : Option Addr) (len cap : Nat) (M : List (List Int)) (r c : Nat) (w : World) {F : Nat → Prop} (h : SRow (Lay.int .i64).slice w F a len cap M) (hm : Mat M r c) :
    Calls Try.prog 43 #[.slice a len cap] w fun e w' => e = .returned (.bool true) ∧ w = w' := by
  have hln : len = r := by rw [← h.1]; exact hm.1
  subst hln
  have hmx := h.hmax
  have hle := h.hle
  unfold maxLen at hmx
  have HS := Lib.hid h
  have HM := Lib.hid hm
  obtain ⟨_, ⟨h1, h2⟩, ⟨h3, h4⟩, _⟩ := hm
  obtain ⟨b, off, a0, l0, c0, rfl, hb, hcell, hr0⟩ := mget h 0 (by omega)
  have hl0 : c = l0 := by rw [← hr0.hlen]; exact (HM.out.get 0 (by omega)).1.symm
  subst hl0
  rw [Nat.add_zero] at hcell
  have hm0 := hr0.hmax
  have hn0 := hr0.hle
  unfold maxLen at hm0
  clear h hr0
  go_enter Try.func43, Try.ntmps43
  go_wp2_with fail
  go_loopw [15] (fun i wr => ∃ n : Nat, n ≤ len ∧ i = .int .i64 n ∧ w = wr) (fun i _ => len - (intOf i).toNat)
  case atStart => exact ⟨0, by omega, rfl, rfl⟩
  case round =>
    obtain ⟨n, hn, rfl, rfl⟩ := hrel
    by_cases hlt : n < len
    · obtain ⟨b', off', a1, l1, c1, heq, _, hcell1, hr1⟩ := mget HS.out n hlt
      injection heq with heq; injection heq with e1 e2
      subst e1 e2
      have hl1 : c = l1 := by rw [← hr1.hlen]; exact (HM.out.get n (by omega)).1.symm
      subst hl1
      have he := (HM.out.get n (by omega)).2
      have hm1 := hr1.hmax
      have hn1 := hr1.hle
      unfold maxLen at hm1
      have R1 := Lib.hid hr1
      have E1 := Lib.hid he
      clear hr1 he
      have hnz : ((c : Int) != (c : Int)) = false := by simp
      go_wp2_with fail
      refine (allM a1 c c1 _ w R1.out E1.out).mono ?_
      rintro e w2 ⟨rfl, rfl⟩
      go_wp2_with fail
      go_roundw
      case rel => first | exact ⟨n + 1, by omega, by go_num, rfl⟩ | exact ⟨n + 1, by omega, by go_num, trivial⟩
      case measure => simp [intOf]; omega
    · go_wp2_with fail
      go_ret
      first | exact ⟨rfl, rfl⟩ | exact ⟨rfl, trivial⟩
end Go.Proofs.Ytkfjkdonbmjniaa
