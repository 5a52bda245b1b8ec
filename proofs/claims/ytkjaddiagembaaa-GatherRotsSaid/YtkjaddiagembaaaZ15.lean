/- Texts that belong together: SameB, RbR. -/
import Derived.StillTailTactics
import Derived.Test.YtkjaddiagembaaaZ8
import Derived.Test.YtkjaddiagembaaaZ14
import Derived.Test.YtkjaddiagembaaaZ6
/- The walk of sameBytes. -/
namespace Go.Proofs.Ytkjaddiagembaaa
open Go.RowKit
set_option linter.unusedVariables false

set_option maxHeartbeats 1000000 in
theorem sameBytes (a : Option Addr) (la ca : Nat) (xs : List Int) (b : Option Addr) (lb cb : Nat) (ys : List Int) (w : World) (ha : Row .u8 w a la ca xs) (hb : Row .u8 w b lb cb ys) :
    Calls Try.prog 13 #[.slice a la ca, .slice b lb cb] w (Same xs ys w) := by
  have h1 := ha.hle
  have h2 := ha.hmax
  have h3 := hb.hle
  have h4 := hb.hmax
  have h5 := ha.hlen
  have h6 := hb.hlen
  unfold maxLen at h2 h4
  by_cases hne : la = lb
  · subst hne
    have H5 := Lib.hid h5
    have H6 := Lib.hid h6
    clear h5 h6
    go_enter Try.func13, Try.ntmps13
    go_wp2_with fail

    go_loopw [5] (fun i wr => ∃ k : Nat, k ≤ la ∧ i = .int .i64 k ∧ Hid (∀ j, j < k → xs.getD j 0 = ys.getD j 0) ∧ ∃ n, wr = w.drewN n) (fun i _ => la - (intOf i).toNat)
    case atStart => exact ⟨0, by omega, rfl, fun j hj => absurd hj (by omega), 0, rfl⟩
    case round =>
      obtain ⟨k, hk, rfl, hsame, n, rfl⟩ := hrel
      by_cases hlt : k < la
      · rcases ha.hat with h0 | ⟨b1, o1, rfl, hc1⟩
        · omega
        rcases hb.hat with h0 | ⟨b2, o2, rfl, hc2⟩
        · omega
        have e1 := hc1 k hlt
        have e2 := hc2 k hlt
        clear hc1 hc2
        obtain ⟨x, hx⟩ : ∃ x, Hid (xs.getD k 0 = x) := ⟨_, rfl⟩
        obtain ⟨y, hy⟩ : ∃ y, Hid (ys.getD k 0 = y) := ⟨_, rfl⟩
        rw [hx.out] at e1
        rw [hy.out] at e2
        have hki : (k : Int) < (la : Int) := by omega
        by_cases hxy : x = y
        · have hb1 : (x != y) = false := by simp [hxy]
          have hn : ∀ j, j < k + 1 → xs.getD j 0 = ys.getD j 0 := fun j hj => by
            by_cases h : j < k
            · exact hsame.out j h
            · obtain rfl : j = k := by omega
              rw [hx.out, hy.out, hxy]
          have HN := Lib.hid hn
          clear hn hxy
          go_wp2
          go_quiet (fail)
          go_wp2
          go_roundw
          case rel => exact ⟨k + 1, by omega, by go_num, HN.out, _, by first | rfl | exact World.drewN_drewN _ _ _⟩
          case measure => simp [intOf]; omega
        · have hb1 : (x != y) = true := by simp [hxy]
          have hn : ¬ xs = ys := fun h => hxy (by rw [← hx.out, ← hy.out, h])
          have HN := Lib.hid hn
          clear hn hxy
          go_wp2
          go_quiet (fail)
          go_wp2
          go_ret
          exact ⟨ret_bool (decide_eq_false HN.out).symm, _, by first | rfl | exact World.drewN_drewN _ _ _⟩
      · obtain rfl : k = la := by omega
        have hn : xs = ys := getD_ext (by rw [H5.out, H6.out]) (fun i hi => hsame.out i (by have := H5.out; omega))
        have HN := Lib.hid hn
        clear hn
        go_wp2
        go_ret
        exact ⟨ret_bool (decide_eq_true HN.out).symm, _, rfl⟩
  · have hb0 : ((la : Int) != (lb : Int)) = true := by simp; omega
    have hn : ¬ xs = ys := fun h => hne (by rw [← h5, ← h6, h])
    have HN := Lib.hid hn
    clear hn h5 h6
    go_enter Try.func13, Try.ntmps13
    go_wp2
    go_ret
    exact ⟨ret_bool (decide_eq_false HN.out).symm, 0, rfl⟩
end Go.Proofs.Ytkjaddiagembaaa
/- Package par: Rebuild where not too many were lost; sameLists of equal ones. -/
namespace Go.Proofs.Ytkjaddiagembaaa
open Go.RowKit
set_option linter.unusedVariables false
set_option maxRecDepth 100000

/-- Which were lost. -/
def goneOf (p : List Nat) (len : Nat) : List Bool := markB (List.replicate len false) p
theorem goneOf_len (p : List Nat) (len : Nat) : (goneOf p len).length = len := by unfold goneOf; rw [markB_length, List.length_replicate]
theorem goneOf_get {p : List Nat} {len : Nat} (h : ∀ x ∈ p, x < len) (i : Nat) : (goneOf p len).getD i false = decide (i ∈ p) := by
  unfold goneOf
  rw [markB_getD _ _ _ (fun x hx => by rw [List.length_replicate]; exact h x hx)]
  have : (List.replicate len false).getD i false = false := by rw [List.getD, List.getElem?_replicate]; split <;> rfl
  rw [this, Bool.false_or]
theorem goneOf_cnt {p : List Nat} {len : Nat} (h : ∀ x ∈ p, x < len) (hd : p.Nodup) : cntB (goneOf p len) len = p.length := by
  unfold goneOf
  rw [cnt_mark len p hd (fun x hx => ⟨by rw [List.length_replicate]; exact h x hx, h x hx⟩) (fun x _ => by rw [List.getD, List.getElem?_replicate]; split <;> rfl), replicate_cnt, Nat.zero_add]
/-- What Rebuild gives. -/
def backOf (T : List (List Int)) (gone : List Bool) (n p size K : Nat) : List (List Int) := endN gone n size (filled (startL T gone n size (n + p) (n + p)) n size K (holesN gone n n) (usedN gone n K p)) p
structure Lost (T : List (List Int)) (n parity size : Nat) (p : List Nat) : Prop where
  h1 : 1 ≤ parity ∧ parity ≤ 3
  hn : 1 ≤ n ∧ n ≤ 12
  lt : ∀ x ∈ p, x < n + parity
  nd : p.Nodup
  few : p.length ≤ parity
  hsz : size ≤ 4096
  rows : ∀ i, i < n + parity → i ∉ p → (T.getD i []).length = size
theorem Lost.counts {T : List (List Int)} {n parity size : Nat} {p : List Nat} (h : Lost T n parity size p) : ∃ K, (holesN (goneOf p (n + parity)) n n).length = K ∧ K ≤ 3 ∧ (usedN (goneOf p (n + parity)) n K parity).length = K ∧ (1 ≤ K → (redN (facM (holesN (goneOf p (n + parity)) n n) (usedN (goneOf p (n + parity)) n K parity)) K).2 = K) := by
  have hc := goneOf_cnt h.lt h.nd
  have hh := holesN_cnt (goneOf p (n + parity)) n n (Nat.le_refl _)
  obtain ⟨u1, u2⟩ := usedN_cnt (goneOf p (n + parity)) n (cntB (goneOf p (n + parity)) n) parity
  have hf := h.few
  have hp := h.h1
  have hle : cntB (goneOf p (n + parity)) n ≤ cntB (goneOf p (n + parity)) (n + parity) := by
    have : ∀ m, cntB (goneOf p (n + parity)) n ≤ cntB (goneOf p (n + parity)) (n + m) := fun m => by
      induction m with
      | zero => exact Nat.le_refl _
      | succ m ih => show _ ≤ cntB _ (n + m) + _; omega
    exact this parity
  refine ⟨cntB (goneOf p (n + parity)) n, hh, by omega, by rw [u1]; omega, fun hK => ?_⟩
  have hn := h.hn
  refine fac_full3 hh (by rw [u1]; omega) hK (by omega) (holesN_asc _ _ _) (usedN_asc _ _ _ _) (fun x hx => ?_) (fun x hx => ?_)
  · have := (holesN_mem _ _ _ x hx).1; omega
  · have := (usedN_mem _ _ _ _ x hx).1; omega
theorem evn_left {T : List (List Int)} {n parity size : Nat} {p : List Nat} (h : Lost T n parity size p) (hl : T.length = n + parity) : Evn (leftN T (goneOf p (n + parity)) (n + parity)) size := by
  obtain ⟨i, hi, hip⟩ := exists_not_mem (n := n + parity) (p := p) (by have := h.few; have := h.hn; omega) h.nd
  refine ⟨leftN_pos T _ _ i hi (by rw [goneOf_get h.lt]; simpa using hip), h.hsz, fun c hc => ?_⟩
  obtain ⟨k, hk, hg, rfl⟩ := leftN_not _ _ _ _ hc
  rw [goneOf_get h.lt] at hg
  exact h.rows k hk (by simpa using hg)
set_option maxHeartbeats 8000000 in
theorem rebuildW (a : Option Addr) (cap : Nat) (T : List (List Int)) (n parity size : Nat) (al : Option Addr) (ll cl : Nat) (p : List Nat) (w : World) {F : Nat → Prop} (h : SRow (Lay.int .u8).slice w F a (n + parity) cap T) (hp : Row .i64 w al ll cl (nats p)) (hL : Lost T n parity size p) :
    Calls Try.prog 31 #[.slice a (n + parity) cap, .int .i64 parity, .slice al ll cl] w fun e w' => ∃ K a' c', (holesN (goneOf p (n + parity)) n n).length = K ∧ K ≤ 3 ∧ (usedN (goneOf p (n + parity)) n K parity).length = K ∧ (1 ≤ K → (redN (facM (holesN (goneOf p (n + parity)) n n) (usedN (goneOf p (n + parity)) n K parity)) K).2 = K) ∧ e = .returned (.tuple #[.slice a' (n + parity) c', .int .i64 0]) ∧ Hid (SRow (Lay.int .u8).slice w' (fun _ => True) a' (n + parity) c' (backOf T (goneOf p (n + parity)) n parity size K)) ∧ Hid (Below w.heap.size w w') := by
  have hDl := h.1
  have hmx := h.hmax
  have hle := h.hle
  have hql := hp.hle
  have hqm := hp.hmax
  have hqn : p.length = ll := by have := hp.hlen; simpa [nats] using this
  unfold maxLen at hmx hqm
  obtain ⟨h1, h3⟩ := hL.h1
  obtain ⟨hnn1, hnn2⟩ := hL.hn
  have hll : ll ≤ parity := by rw [← hqn]; exact hL.few
  have HS := Lib.hid h
  have HP := Lib.hid hp
  have HL := Lib.hid hL
  have HPL := Lib.hid hL.lt
  have HND := Lib.hid hL.nd
  clear h hp hL
  obtain ⟨len, hlen⟩ : ∃ len, n + parity = len := ⟨_, rfl⟩
  rw [hlen] at hDl hle HS HPL ⊢
  go_enter Try.func31, Try.ntmps31
  have hnn : len = n + parity := hlen.symm
  go_upto_region 2 with fail
  clear hnn
  have n1 : (1 : Int) ≤ (n : Int) := by omega
  have n2 : (n : Int) ≤ 12 := by omega
  have n3 : decide ((n : Int) < 1) = false := by simp; omega
  have n4 : decide ((12 : Int) < (n : Int)) = false := by simp; omega
  go_wp2_with fail
  refine (someP parity w ⟨by omega, by omega⟩).mono ?_
  rintro e w2 ⟨rfl, rfl⟩
  go_wp2_with (refine wpList_make_zeros rfl _ _ 49 rfl 4 (.bool false) 1 Try.underlying49 info_bool2 rfl _ _ _ _ len rfl rfl rfl rfl (by omega) (by unfold maxLen; omega) ?_)
  intro w1 hoz hb1
  have B1 := Lib.hid (zeros_box hoz)
  obtain ⟨g, hg⟩ : ∃ g, Hid (w.heap.size = g) := ⟨_, rfl⟩
  rw [hg.out] at B1 ⊢
  have L1 := Lib.hid hb1
  clear hoz hb1
  go_wp2_with fail
  go_loopw [10, 37] (fun cv iv wr => ∃ k : Nat, k ≤ ll ∧ cv = .int .i64 0 ∧ iv = .int .i64 k ∧ Hid (Box wr g ((markB (List.replicate len false) (p.take k)).map Value.bool).toArray 4) ∧ Hid (Below w.heap.size w wr)) (fun _ iv _ => ll - (intOf iv).toNat)
  case atStart => exact ⟨0, by omega, rfl, rfl, B1, L1⟩
  case round =>
    obtain ⟨k, hk, rfl, rfl, hB, hL⟩ := hrel
    by_cases hlt : k < ll
    · have k1 : (k : Int) < (ll : Int) := by omega
      have hrow := HP.out.below hL.out
      obtain ⟨bl, ol, rfl, hcl⟩ : ∃ bl ol, al = some ⟨bl, ol, none⟩ ∧ ∀ t, t < ll → wr.cell? ⟨bl, ol + t, none⟩ = some (.int .i64 ((nats p).getD t 0)) := by
        rcases hrow.hat with h0 | h
        · omega
        · exact h
      have e0 := hcl k hlt
      rw [nats_getD] at e0
      have hnm := take_not_mem HND.out k (by omega)
      obtain ⟨x, hx⟩ : ∃ x, p.getD k 0 = x := ⟨_, rfl⟩
      rw [hx] at e0 hnm
      have hxl : x < len := by
        rw [← hx]
        refine HPL.out _ ?_
        rw [show p.getD k 0 = p[k]'(by omega) by simp [List.getD, hqn, hlt]]
        exact List.getElem_mem _
      have hnext : Hid (markB (List.replicate len false) (p.take (k + 1)) = (markB (List.replicate len false) (p.take k)).set x true) := by
        show _ = _
        rw [take_nats p k (by omega), markB_snoc, hx]
      have hml : (markB (List.replicate len false) (p.take k)).length = len := by rw [markB_length]; simp
      have hmx2 : (markB (List.replicate len false) (p.take k)).getD x false = false := by
        rw [markB_getD _ _ _ (fun y hy => by simp; exact HPL.out y (List.mem_of_mem_take hy))]
        simp [hnm, hxl]
      have x0 : decide ((x : Int) < 0) = false := by simp
      have x1 : (x : Int) < (len : Int) := by omega
      have x2 : decide ((len : Int) ≤ (x : Int)) = false := by simp; omega
      have e1 : wr.cell? ⟨g, x, none⟩ = some (.bool false) := by
        rw [hB.out.cell x]
        have e : (markB (List.replicate len false) (p.take k))[x]? = some false := by
          rw [List.getElem?_eq_getElem (by omega)]
          rw [List.getD, List.getElem?_eq_getElem (by omega)] at hmx2
          exact congrArg some hmx2
        rw [List.getElem?_toArray, List.getElem?_map, e]; rfl
      have f1 : wr.frozen? ⟨g, x, none⟩ = false := hB.out.free x
      have BN := hB.out.set x (.bool true)
      rw [mark_bools] at BN
      have HBN := Lib.hid BN
      have LN := Lib.hid (hL.out.setCell (p := ⟨g, x, none⟩) (by rw [hg.out]; exact Nat.le_refl _) (.bool true))
      clear hcl hrow hx hml BN hB hL hnm hmx2
      go_wp2_with fail
      go_roundw
      case rel => exact ⟨k + 1, by omega, rfl, by go_num, by rw [hnext.out]; exact HBN, LN⟩
      case measure => simp [intOf]; omega
    · obtain rfl : k = ll := by omega
      have kp2 : decide ((parity : Int) < (k : Int)) = false := by simp; omega
      rw [List.take_of_length_le (by omega)] at hB
      have hsl : (goneOf p len).length = len := goneOf_len p len
      go_wp2_with fail
      refine (leftW a len cap T g (goneOf p len) wr (HS.out.below hL.out) hB.out hsl (by omega)).mono ?_
      rintro e w3 ⟨a3, l3, c3, rfl, hX, hb3⟩
      have L3 := Lib.hid (hL.out.trans (hb3.out.mono hL.out.size))
      have HE : Hid (Evn (leftN T (goneOf p len) len) size) := by
        rw [← hlen]; exact evn_left HL.out (by rw [hDl, hlen])
      have B3 := Lib.hid (hB.out.below hb3.out hB.out.lt)
      clear hb3 hB hL
      go_wp2_with fail
      refine (even2 a3 l3 c3 _ size w3 hX.out HE.out).mono ?_
      rintro e w4 ⟨rfl, hb4⟩
      have L4 := Lib.hid (L3.out.trans (hb4.mono L3.out.size))
      have B4 := Lib.hid (B3.out.below hb4 B3.out.lt)
      clear hb4 B3 L3 hX
      obtain ⟨K, q1, q2, q3, q4⟩ := HL.out.counts
      have HK : Hid ((holesN (goneOf p (n + parity)) n n).length = K ∧ K ≤ 3 ∧ (usedN (goneOf p (n + parity)) n K parity).length = K ∧ (1 ≤ K → (redN (facM (holesN (goneOf p (n + parity)) n n) (usedN (goneOf p (n + parity)) n K parity)) K).2 = K)) := ⟨q1, q2, q3, q4⟩
      clear q1 q2 q3 q4
      go_wp2_with fail
      have hext : holesN (goneOf p len) n len = holesN (goneOf p len) n n := by rw [← hlen]; exact holesN_ext _ n parity
      have hsub : len - n = parity := by omega
      have HR := rebuiltW a len cap T n size g (goneOf p len) K w4 (HS.out.below L4.out) B4.out hsl ⟨hnn1, hnn2, by omega, by omega⟩ HL.out.hsz (fun i hi hg => HL.out.rows i (by omega) (by
          rw [goneOf_get HPL.out] at hg; simpa using hg)) (by
          obtain ⟨i, hi, hip⟩ := exists_not_mem (n := len) (p := p) (by omega) HND.out
          exact ⟨i, hi, by rw [goneOf_get HPL.out]; simpa using hip⟩) (by rw [hext, ← hlen]; exact HK.out.1) (by rw [hsub, ← hlen]; exact HK.out.2.2.1) HK.out.2.1 (by rw [hext, hsub, ← hlen]; exact HK.out.2.2.2)
      rw [hext, hsub, show ((n : Nat) : Int) = (len : Int) - (parity : Int) by omega] at HR
      refine HR.mono ?_
      clear HR
      rintro e w5 ⟨a5, c5, rfl, h5, hb5⟩
      have L5 := Lib.hid (L4.out.trans (hb5.out.mono L4.out.size))
      clear hb5 L4 B4
      go_wp2_with fail
      go_ret2
      refine ⟨K, a5, c5, ?_, HK.out.2.1, ?_, ?_, rfl, ?_, L5⟩
      · rw [← hlen]; exact HK.out.1
      · rw [← hlen]; exact HK.out.2.2.1
      · rw [← hlen]; exact HK.out.2.2.2
      · show SRow _ _ _ _ _ _ _
        unfold backOf
        rw [hlen]
        exact h5.out
end Go.Proofs.Ytkjaddiagembaaa
