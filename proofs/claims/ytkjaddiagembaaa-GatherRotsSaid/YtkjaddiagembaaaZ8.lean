/- Texts that belong together: MtA, MtL, MtD, MtM, MtP, Same, SameI, MtO. -/
import Derived.BigQuiet
import Derived.Deep.RegionHeld3
import Derived.Deep.RegionLaw
import Derived.Deep.DeepCutAuto
import Derived.Deep.CutBlock
import Derived.StillTailTactics
import Derived.Test.YtkjaddiagembaaaZ2
import Derived.Test.YtkjaddiagembaaaZ3
import Derived.Test.YtkjaddiagembaaaZ1
/- Package mat: times, element, all, May. -/
namespace Go.Proofs.Ytkjaddiagembaaa
open Go.RowKit
set_option linter.unusedVariables false
set_option maxRecDepth 100000

/-- A matrix: rows of numbers below 256. -/
def El (l : List Int) : Prop := ∀ v ∈ l, 0 ≤ v ∧ v ≤ 255
theorem El.getD {l : List Int} (h : El l) (i : Nat) : 0 ≤ l.getD i 0 ∧ l.getD i 0 ≤ 255 := by
  by_cases hi : i < l.length
  · rw [show l.getD i 0 = l[i] by simp [List.getD, hi]]; exact h _ (List.getElem_mem hi)
  · rw [show l.getD i 0 = 0 by simp [List.getD, hi]]; omega
def Mat (M : List (List Int)) (r c : Nat) : Prop := M.length = r ∧ (1 ≤ r ∧ r ≤ 8) ∧ (1 ≤ c ∧ c ≤ 8) ∧ ∀ x ∈ M, x.length = c ∧ El x
theorem Mat.get {M : List (List Int)} {r c : Nat} (h : Mat M r c) (i : Nat) (hi : i < r) : (M.getD i []).length = c ∧ El (M.getD i []) := by
  have hl : i < M.length := by rw [h.1]; exact hi
  rw [show M.getD i [] = M[i] by simp [List.getD, hl]]; exact h.2.2.2 _ (List.getElem_mem hl)
theorem Mat.el {M : List (List Int)} {r c : Nat} (h : Mat M r c) (i : Nat) : El (M.getD i []) := by
  by_cases hi : i < r
  · exact (h.get i hi).2
  · have hl : ¬ i < M.length := by rw [h.1]; exact hi
    rw [show M.getD i [] = [] by simp [List.getD, hl]]; intro v hv; cases hv
theorem mget {w : World} {F : Nat → Prop} {a : Option Addr} {len cap : Nat} {L : List (List Int)} (h : SRow (Lay.int .i64).slice w F a len cap L) (i : Nat) (hi : i < len) :
    ∃ b off a' l' c', a = some ⟨b, off, none⟩ ∧ b < w.heap.size ∧ w.cell? ⟨b, off + i, none⟩ = some (.slice a' l' c') ∧ Row .i64 w a' l' c' (L.getD i []) := by
  obtain ⟨b, off, vs, rfl, _, hb, hx, hc⟩ := h.get i hi
  have hl : i < L.length := by rw [h.1]; exact hi
  obtain ⟨a', l', c', rfl, hr⟩ := hx _ (List.getElem?_eq_getElem hl)
  refine ⟨b, off, a', l', c', rfl, hb, ?_, ?_⟩
  · have := hc 0 (by decide)
    simpa [Lay.slice] using this
  · rw [show L.getD i [] = L[i] by simp [List.getD, hl]]
    exact hr.toRow
set_option maxHeartbeats 1000000 in
theorem timesM (a b : Int) (w : World) (ha : 0 ≤ a ∧ a ≤ 255) (hb : 0 ≤ b ∧ b ≤ 255) : Calls Try.prog 66 #[.int .i64 a, .int .i64 b] w (One (gmul a.toNat b.toNat) w) := by
  go_enter Try.func66, Try.ntmps66
  go_wp2_with fail
  refine (mulG a b w ha hb).mono ?_
  rintro e w2 ⟨v, hv, hv0, hv1, rfl, hle⟩
  go_wp2_with fail
  go_ret
  exact ⟨v, hv, hv0, hv1, rfl, hle⟩
theorem all1 (v : Int) (w : World) (h : 0 ≤ v ∧ v ≤ 255) : Calls Try.prog 68 #[.int .i64 v] w fun e w' => e = .returned (.bool false) ∧ w = w' := by
  obtain ⟨h1, h2⟩ := h
  go_enter Try.func68, Try.ntmps68
  have h3 : decide (v < 256) = true := decide_eq_true (by omega)
  go_wp2_with (go_at_call 69; go_in)
  go_ret
  first | exact ⟨rfl, rfl⟩ | exact ⟨by simp [h3], rfl⟩ | exact ⟨by simp [h3], trivial⟩
set_option maxHeartbeats 1000000 in
theorem index_all (a : Option Addr) (len cap : Nat) (xs : List Int) (w : World) (h : Row .i64 w a len cap xs) (he : El xs) :
    Calls Try.prog 71 #[.slice a len cap, .func (.func 68) #[] #[]] w fun e w' => e = .returned (.int .i64 (-1)) ∧ w = w' := by
  have hmx := h.hmax
  have hle := h.hle
  unfold maxLen at hmx
  have HR := Lib.hid h
  have HE := Lib.hid he
  clear h he
  go_enter Try.func71, Try.ntmps71
  go_wp2_with fail
  go_loopw [8] (fun i wr => ∃ n : Nat, n ≤ len ∧ i = .int .i64 n ∧ w = wr) (fun i _ => len - (intOf i).toNat)
  case atStart => exact ⟨0, by omega, rfl, rfl⟩
  case round =>
    obtain ⟨n, hn, rfl, rfl⟩ := hrel
    by_cases hlt : n < len
    · rcases HR.out.hat with h0 | ⟨b, o, rfl, hc⟩
      · omega
      have e1 := hc n hlt
      have hv := HE.out.getD n
      obtain ⟨v, hv2⟩ : ∃ v, xs.getD n 0 = v := ⟨_, rfl⟩
      rw [hv2] at e1 hv
      clear hc
      go_wp2_with fail
      refine (all1 v w hv).mono ?_
      rintro e w2 ⟨rfl, rfl⟩
      go_wp2_with fail
      go_roundw
      case rel => first | exact ⟨n + 1, by omega, by go_num, rfl⟩ | exact ⟨n + 1, by omega, by go_num, trivial⟩
      case measure => simp [intOf]; omega
    · go_wp2_with fail
      go_ret
      first | exact ⟨rfl, rfl⟩ | exact ⟨rfl, trivial⟩
set_option maxHeartbeats 1000000 in
theorem allM (a : Option Addr) (len cap : Nat) (xs : List Int) (w : World) (h : Row .i64 w a len cap xs) (he : El xs) :
    Calls Try.prog 62 #[.slice a len cap] w fun e w' => e = .returned (.bool true) ∧ w = w' := by
  go_enter Try.func62, Try.ntmps62
  go_wp2_with (go_at_call 67; go_in)
  refine (index_all a len cap xs w h he).mono ?_
  rintro e w2 ⟨rfl, rfl⟩
  go_wp2_with fail
  go_ret
  first | exact ⟨rfl, rfl⟩ | exact ⟨rfl, trivial⟩
set_option maxHeartbeats 1000000 in
theorem mayM (a : Option Addr) (len cap : Nat) (M : List (List Int)) (r c : Nat) (w : World) {F : Nat → Prop} (h : SRow (Lay.int .i64).slice w F a len cap M) (hm : Mat M r c) :
    Calls Try.prog 56 #[.slice a len cap] w fun e w' => e = .returned (.bool true) ∧ w = w' := by
  have hln : len = r := by rw [← h.1]; exact hm.1
  subst hln
  have hmx := h.hmax
  have hle := h.hle
  unfold maxLen at hmx
  have HS := Lib.hid h
  have HM := Lib.hid hm
  obtain ⟨_, ⟨h1, h2⟩, ⟨h3, h4⟩, _⟩ := hm
  obtain ⟨b, off, a0, l0, c0, rfl, hb, hcell, hr0⟩ := mget h 0 (by omega)
  have hl0 : c = l0 := by rw [← hr0.hlen]; exact (HM.out.get 0 (by omega)).1.symm
  subst hl0
  rw [Nat.add_zero] at hcell
  have hm0 := hr0.hmax
  have hn0 := hr0.hle
  unfold maxLen at hm0
  clear h hr0
  go_enter Try.func56, Try.ntmps56
  go_wp2_with fail
  go_loopw [15] (fun i wr => ∃ n : Nat, n ≤ len ∧ i = .int .i64 n ∧ w = wr) (fun i _ => len - (intOf i).toNat)
  case atStart => exact ⟨0, by omega, rfl, rfl⟩
  case round =>
    obtain ⟨n, hn, rfl, rfl⟩ := hrel
    by_cases hlt : n < len
    · obtain ⟨b', off', a1, l1, c1, heq, _, hcell1, hr1⟩ := mget HS.out n hlt
      injection heq with heq; injection heq with e1 e2
      subst e1 e2
      have hl1 : c = l1 := by rw [← hr1.hlen]; exact (HM.out.get n (by omega)).1.symm
      subst hl1
      have he := (HM.out.get n (by omega)).2
      have hm1 := hr1.hmax
      have hn1 := hr1.hle
      unfold maxLen at hm1
      have R1 := Lib.hid hr1
      have E1 := Lib.hid he
      clear hr1 he
      have hnz : ((c : Int) != (c : Int)) = false := by simp
      go_wp2_with fail
      refine (allM a1 c c1 _ w R1.out E1.out).mono ?_
      rintro e w2 ⟨rfl, rfl⟩
      go_wp2_with fail
      go_roundw
      case rel => first | exact ⟨n + 1, by omega, by go_num, rfl⟩ | exact ⟨n + 1, by omega, by go_num, trivial⟩
      case measure => simp [intOf]; omega
    · go_wp2_with fail
      go_ret
      first | exact ⟨rfl, rfl⟩ | exact ⟨rfl, trivial⟩
end Go.Proofs.Ytkjaddiagembaaa
/- Matrices over the field: the plain laws. -/
namespace Go.Proofs.Ytkjaddiagembaaa
open Go.RowKit
set_option linter.unusedVariables false

/-- The sum, in the field, of f 0 .. f (n - 1). -/
def xs_ (f : Nat → Nat) : Nat → Nat
  | 0 => 0
  | n + 1 => xs_ f n ^^^ f n
theorem xs_lt {f : Nat → Nat} (h : ∀ i, f i < 256) : ∀ n, xs_ f n < 256
  | 0 => by unfold xs_; omega
  | n + 1 => by unfold xs_; exact xor_lt (xs_lt h n) (h n)
theorem xs_congr {f g : Nat → Nat} : ∀ n, (∀ i, i < n → f i = g i) → xs_ f n = xs_ g n
  | 0, _ => rfl
  | n + 1, h => by unfold xs_; rw [xs_congr n (fun i hi => h i (by omega)), h n (by omega)]
theorem xs_zero : ∀ n, xs_ (fun _ => 0) n = 0
  | 0 => rfl
  | n + 1 => by unfold xs_; rw [xs_zero n]; rfl
theorem xs_xor (f g : Nat → Nat) : ∀ n, xs_ (fun i => f i ^^^ g i) n = xs_ f n ^^^ xs_ g n
  | 0 => by unfold xs_; rfl
  | n + 1 => by unfold xs_; rw [xs_xor f g n, xor4]
theorem xs_swap (f : Nat → Nat → Nat) (m : Nat) : ∀ n, xs_ (fun i => xs_ (fun j => f i j) m) n = xs_ (fun j => xs_ (fun i => f i j) n) m
  | 0 => by
    show (0 : Nat) = xs_ (fun j => 0) m
    exact (xs_zero m).symm
  | n + 1 => by
    show xs_ (fun i => xs_ (fun j => f i j) m) n ^^^ xs_ (fun j => f n j) m = xs_ (fun j => xs_ (fun i => f i j) n ^^^ f n j) m
    rw [xs_swap f m n, xs_xor]
theorem xs_mul_l {a : Nat} {f : Nat → Nat} (ha : a < 256) (h : ∀ i, f i < 256) : ∀ n, gmul a (xs_ f n) = xs_ (fun i => gmul a (f i)) n
  | 0 => by unfold xs_; exact gmul_zero_r a
  | n + 1 => by
    show gmul a (xs_ f n ^^^ f n) = xs_ (fun i => gmul a (f i)) n ^^^ gmul a (f n)
    rw [gmul_xor_r ha (xs_lt h n) (h n), xs_mul_l ha h n]
theorem xs_mul_r (b : Nat) {f : Nat → Nat} (h : ∀ i, f i < 256) : ∀ n, gmul (xs_ f n) b = xs_ (fun i => gmul (f i) b) n
  | 0 => by unfold xs_; exact gmul_zero_l b
  | n + 1 => by
    show gmul (xs_ f n ^^^ f n) b = xs_ (fun i => gmul (f i) b) n ^^^ gmul (f n) b
    rw [gmul_xor_l b (xs_lt h n) (h n), xs_mul_r b h n]
/-- An element of a matrix. -/
def at_ (M : List (List Int)) (i k : Nat) : Nat := ((M.getD i []).getD k 0).toNat
theorem at_lt {M : List (List Int)} {r c : Nat} (h : Mat M r c) (i k : Nat) : at_ M i k < 256 := by
  have := (h.el i).getD k
  unfold at_; omega
def dotN (u v : Nat → Nat) (n : Nat) : Nat := xs_ (fun i => gmul (u i) (v i)) n
/-- The product. -/
def mulM (A B : List (List Int)) (r n c : Nat) : List (List Int) := (List.range r).map fun i => (List.range c).map fun k => ((dotN (fun t => at_ A i t) (fun t => at_ B t k) n : Nat) : Int)
def mulRow (A B : List (List Int)) (n i c : Nat) : List Int := (List.range c).map fun k => ((dotN (fun t => at_ A i t) (fun t => at_ B t k) n : Nat) : Int)
theorem mulRow_succ (A B : List (List Int)) (n i c : Nat) : mulRow A B n i (c + 1) = mulRow A B n i c ++ [((dotN (fun t => at_ A i t) (fun t => at_ B t c) n : Nat) : Int)] := by simp [mulRow, List.range_succ]
theorem mulM_succ (A B : List (List Int)) (r n c : Nat) : mulM A B (r + 1) n c = mulM A B r n c ++ [mulRow A B n r c] := by simp [mulM, mulRow, List.range_succ]
theorem dot_lt {A B : List (List Int)} {r n c : Nat} (hA : Mat A r n) (i k m : Nat) : dotN (fun t => at_ A i t) (fun t => at_ B t k) m < 256 := xs_lt (fun t => gmul_lt (at_lt hA i t)) m
theorem mulM_mat {A B : List (List Int)} {r n c : Nat} (hA : Mat A r n) (hB : Mat B n c) : Mat (mulM A B r n c) r c := by
  refine ⟨by simp [mulM], hA.2.1, hB.2.2.1, fun x hx => ?_⟩
  simp only [mulM, List.mem_map, List.mem_range] at hx
  obtain ⟨i, _, rfl⟩ := hx
  refine ⟨by simp, fun v hv => ?_⟩
  simp only [List.mem_map, List.mem_range] at hv
  obtain ⟨k, _, rfl⟩ := hv
  have := dot_lt (B := B) (c := c) hA i k n
  omega
theorem mulM_at (A B : List (List Int)) (r n c i k : Nat) (hi : i < r) (hk : k < c) : at_ (mulM A B r n c) i k = dotN (fun t => at_ A i t) (fun t => at_ B t k) n := by
  unfold at_
  have e : (mulM A B r n c).getD i [] = mulRow A B n i c := by simp [mulM, mulRow, List.getD, hi]
  rw [e]
  unfold mulRow
  rw [show ((List.range c).map fun k => ((dotN (fun t => at_ A i t) (fun t => at_ B t k) n : Nat) : Int)).getD k 0 = ((dotN (fun t => at_ A i t) (fun t => at_ B t k) n : Nat) : Int) from by
    rw [List.getD, List.getElem?_map, List.getElem?_range hk]; rfl]
  exact Int.toNat_natCast _
/-- Multiplication is associative. -/
theorem mulM_assoc {A B C : List (List Int)} {a b c d : Nat} (hA : Mat A a b) (hB : Mat B b c) (hC : Mat C c d) : mulM (mulM A B a b c) C a c d = mulM A (mulM B C b c d) a b d := by
  unfold mulM
  apply List.map_congr_left
  intro i hi
  apply List.map_congr_left
  intro k hk
  have hi := List.mem_range.1 hi
  have hk := List.mem_range.1 hk
  congr 1
  show dotN (fun t => at_ (mulM A B a b c) i t) (fun t => at_ C t k) c = dotN (fun t => at_ A i t) (fun t => at_ (mulM B C b c d) t k) b
  unfold dotN
  rw [xs_congr (g := fun t => xs_ (fun s => gmul (gmul (at_ A i s) (at_ B s t)) (at_ C t k)) b) c (fun t ht => by
    show gmul (at_ (mulM A B a b c) i t) _ = _
    rw [mulM_at A B a b c i t hi ht]; exact xs_mul_r _ (fun s => gmul_lt (at_lt hA i s)) b)]
  rw [xs_congr (f := fun t => gmul (at_ A i t) (at_ (mulM B C b c d) t k)) (g := fun s => xs_ (fun t => gmul (gmul (at_ A i s) (at_ B s t)) (at_ C t k)) c) b (fun s hs => by
    show gmul _ (at_ (mulM B C b c d) s k) = _
    rw [mulM_at B C b c d s k hs hk]
    unfold dotN
    rw [xs_mul_l (at_lt hA i s) (fun t => gmul_lt (at_lt hB s t)) c]
    exact xs_congr c (fun t _ => (gmul_assoc _ (at_lt hA i s) (at_lt hB s t)).symm))]
  exact xs_swap (fun t s => gmul (gmul (at_ A i s) (at_ B s t)) (at_ C t k)) b c
/-- A matrix applied to a list. -/
def appM (M : List (List Int)) (v : List Int) (r n : Nat) : List Int := (List.range r).map fun i => ((dotN (fun t => at_ M i t) (fun t => (v.getD t 0).toNat) n : Nat) : Int)
theorem appM_succ (M : List (List Int)) (v : List Int) (r n : Nat) : appM M v (r + 1) n = appM M v r n ++ [((dotN (fun t => at_ M r t) (fun t => (v.getD t 0).toNat) n : Nat) : Int)] := by simp [appM, List.range_succ]
theorem appM_length (M : List (List Int)) (v : List Int) (r n : Nat) : (appM M v r n).length = r := by simp [appM]
theorem appM_el {M : List (List Int)} {r n : Nat} (h : Mat M r n) (v : List Int) (m : Nat) : El (appM M v m n) := by
  intro x hx
  simp only [appM, List.mem_map, List.mem_range] at hx
  obtain ⟨i, _, rfl⟩ := hx
  have : dotN (fun t => at_ M i t) (fun t => (v.getD t 0).toNat) n < 256 := xs_lt (fun t => gmul_lt (at_lt h i t)) n
  omega
theorem appM_at (M : List (List Int)) (v : List Int) (r n i : Nat) (hi : i < r) : ((appM M v r n).getD i 0).toNat = dotN (fun t => at_ M i t) (fun t => (v.getD t 0).toNat) n := by
  unfold appM
  rw [show ((List.range r).map fun i => ((dotN (fun t => at_ M i t) (fun t => (v.getD t 0).toNat) n : Nat) : Int)).getD i 0 = ((dotN (fun t => at_ M i t) (fun t => (v.getD t 0).toNat) n : Nat) : Int) from by
    rw [List.getD, List.getElem?_map, List.getElem?_range hi]; rfl]
  exact Int.toNat_natCast _
theorem appM_assoc {A B : List (List Int)} {a b c : Nat} (hA : Mat A a b) (hB : Mat B b c) (v : List Int) : appM A (appM B v b c) a b = appM (mulM A B a b c) v a c := by
  unfold appM
  apply List.map_congr_left
  intro i hi
  have hi := List.mem_range.1 hi
  congr 1
  show dotN (fun t => at_ A i t) (fun t => ((appM B v b c).getD t 0).toNat) b = dotN (fun t => at_ (mulM A B a b c) i t) (fun t => (v.getD t 0).toNat) c
  unfold dotN
  rw [xs_congr (f := fun t => gmul (at_ (mulM A B a b c) i t) ((v.getD t 0).toNat)) (g := fun t => xs_ (fun s => gmul (gmul (at_ A i s) (at_ B s t)) ((v.getD t 0).toNat)) b) c (fun t ht => by
    show gmul (at_ (mulM A B a b c) i t) _ = _
    rw [mulM_at A B a b c i t hi ht]; exact xs_mul_r _ (fun s => gmul_lt (at_lt hA i s)) b)]
  rw [xs_congr (g := fun s => xs_ (fun t => gmul (gmul (at_ A i s) (at_ B s t)) ((v.getD t 0).toNat)) c) b (fun s hs => by
    show gmul _ (((appM B v b c).getD s 0).toNat) = _
    rw [appM_at B v b c s hs]
    unfold dotN
    rw [xs_mul_l (at_lt hA i s) (fun t => gmul_lt (at_lt hB s t)) c]
    exact xs_congr c (fun t _ => (gmul_assoc _ (at_lt hA i s) (at_lt hB s t)).symm))]
  exact (xs_swap (fun t s => gmul (gmul (at_ A i s) (at_ B s t)) ((v.getD t 0).toNat)) b c).symm
end Go.Proofs.Ytkjaddiagembaaa
/- The walk of mat: dot over the two closures. -/
namespace Go.Proofs.Ytkjaddiagembaaa
open Go.RowKit
set_option linter.unusedVariables false
set_option maxRecDepth 100000

def Num (n : Nat) (w : World) (e : Ending) (w' : World) : Prop := e = .returned (.int .i64 (n : Int)) ∧ Below w.heap.size w w'
end Go.Proofs.Ytkjaddiagembaaa
/- The walk of mat.Mul. -/
namespace Go.Proofs.Ytkjaddiagembaaa
open Go.RowKit
set_option linter.unusedVariables false
set_option maxRecDepth 100000

theorem info_int8 : (Try.prog.info? 3).map (fun i => (i.zero, i.size, i.bytes)) = some (some (.int .i64 0), 1, 8) := by kernel_rfl
theorem info_ints : (Try.prog.info? 23).map (fun i => (i.zero, i.size, i.bytes)) = some (some (.slice none 0 0), 1, 24) := by kernel_rfl
theorem El.wf {l : List Int} (h : El l) : ∀ x ∈ l, (Lit.int .i64 x).wf = true := fun x hx => by have := h x hx; simp [Lit.wf, IntKind.min, IntKind.max, IntKind.signed, IntKind.bits]; omega
def rowN (A B : List (List Int)) (n i c k : Nat) : List Int := mulRow A B n i k ++ List.replicate (c - k) 0
theorem mulRow_length (A B : List (List Int)) (n i c : Nat) : (mulRow A B n i c).length = c := by simp [mulRow]
theorem rowN_set (A B : List (List Int)) (n i c k : Nat) (hk : k < c) : (rowN A B n i c k).set k ((dotN (fun t => at_ A i t) (fun t => at_ B t k) n : Nat) : Int) = rowN A B n i c (k + 1) := by
  unfold rowN
  rw [show c - k = (c - (k + 1)) + 1 by omega, List.replicate_succ, List.set_append_right _ _ (by rw [mulRow_length]; exact Nat.le_refl _), mulRow_length, Nat.sub_self, mulRow_succ, List.append_assoc]
  rfl
def MulPost (A B : List (List Int)) (r n c : Nat) (w : World) (e : Ending) (w' : World) : Prop :=
  ∃ a c', e = .returned (.tuple #[.slice a r c', .int .i64 0]) ∧ Hid (SOwn (Lay.int .i64).slice w' w.heap.size 23 (fun b => w.heap.size ≤ b) a r c' (mulM A B r n c)) ∧ Hid (Below w.heap.size w w')
end Go.Proofs.Ytkjaddiagembaaa
/- The walk of mat.Apply. -/
namespace Go.Proofs.Ytkjaddiagembaaa
open Go.RowKit
set_option linter.unusedVariables false
set_option maxRecDepth 100000

def AppPost (M : List (List Int)) (v : List Int) (r n : Nat) (w : World) (e : Ending) (w' : World) : Prop :=
  ∃ a c', e = .returned (.tuple #[.slice a r c', .int .i64 0]) ∧ Hid (SOwn (Lay.int .i64) w' w.heap.size 3 (fun _ => False) a r c' (appM M v r n)) ∧ Hid (Below w.heap.size w w')
end Go.Proofs.Ytkjaddiagembaaa
/- Two lists of numbers held against each other, in an open order. -/
namespace Go.Proofs.Ytkjaddiagembaaa
open Go.RowKit
set_option linter.unusedVariables false

def Same (xs ys : List Int) (w : World) (e : Ending) (w' : World) : Prop := e = .returned (.bool (decide (xs = ys))) ∧ ∃ k, w' = w.drewN k
theorem getD_ext {xs ys : List Int} (hl : xs.length = ys.length) (h : ∀ i, i < xs.length → xs.getD i 0 = ys.getD i 0) : xs = ys := by
  apply List.ext_getElem hl
  intro i h1 h2
  have := h i h1
  simpa [List.getD, h1, h2] using this
end Go.Proofs.Ytkjaddiagembaaa
/- The walk of sameInts. -/
namespace Go.Proofs.Ytkjaddiagembaaa
open Go.RowKit
set_option linter.unusedVariables false
end Go.Proofs.Ytkjaddiagembaaa
/- The walk of MatrixOf, side, sameMatrix. -/
namespace Go.Proofs.Ytkjaddiagembaaa
open Go.RowKit
set_option linter.unusedVariables false
set_option maxRecDepth 100000

def sideN (n : Int) : Nat := (1 + n % 8).toNat
theorem sideN_bd (n : Int) : 1 ≤ sideN n ∧ sideN n ≤ 8 := by unfold sideN; omega
def MatPost (r c : Nat) (w : World) (e : Ending) (w' : World) : Prop :=
  ∃ a c' M, e = .returned (.slice a r c') ∧ Mat M r c ∧ Hid (SOwn (Lay.int .i64).slice w' w.heap.size 23 (fun b => w.heap.size ≤ b) a r c' M) ∧ Hid (Below w.heap.size w w')
end Go.Proofs.Ytkjaddiagembaaa
