/- Package par: Rebuild where not too many were lost; sameLists of equal ones. -/
import Derived.Test.YtkfjkdonbmjniaaRbQ
import Derived.Test.YtkfjkdonbmjniaaRbC
import Derived.Test.YtkfjkdonbmjniaaSameB
import Derived.StillTailTactics
namespace Go.Proofs.Ytkfjkdonbmjniaa
open Go.RowKit
set_option linter.unusedVariables false
set_option maxRecDepth 100000

/-- Which were lost. -/
def goneOf (p : List Nat) (len : Nat) : List Bool := markB (List.replicate len false) p
theorem goneOf_len (p : List Nat) (len : Nat) : (goneOf p len).length = len := by unfold goneOf; rw [markB_length, List.length_replicate]
theorem goneOf_get {p : List Nat} {len : Nat} (h : ∀ x ∈ p, x < len) (i : Nat) : (goneOf p len).getD i false = decide (i ∈ p) := by
  unfold goneOf
  rw [markB_getD _ _ _ (fun x hx => by rw [List.length_replicate]; exact h x hx)]
  have : (List.replicate len false).getD i false = false := by rw [List.getD, List.getElem?_replicate]; split <;> rfl
  rw [this, Bool.false_or]
theorem goneOf_cnt {p : List Nat} {len : Nat} (h : ∀ x ∈ p, x < len) (hd : p.Nodup) : cntB (goneOf p len) len = p.length := by
  unfold goneOf
  rw [cnt_mark len p hd (fun x hx => ⟨by rw [List.length_replicate]; exact h x hx, h x hx⟩) (fun x _ => by rw [List.getD, List.getElem?_replicate]; split <;> rfl), replicate_cnt, Nat.zero_add]
/-- What Rebuild gives. -/
def backOf (T : List (List Int)) (gone : List Bool) (n p size K : Nat) : List (List Int) := endN gone n size (filled (startL T gone n size (n + p) (n + p)) n size K (holesN gone n n) (usedN gone n K p)) p
structure Lost (T : List (List Int)) (n parity size : Nat) (p : List Nat) : Prop where
  h1 : 1 ≤ parity ∧ parity ≤ 3
  hn : 1 ≤ n ∧ n ≤ 12
  lt : ∀ x ∈ p, x < n + parity
  nd : p.Nodup
  few : p.length ≤ parity
  hsz : size ≤ 4096
  rows : ∀ i, i < n + parity → i ∉ p → (T.getD i []).length = size
theorem Lost.counts {T : List (List Int)} {n parity size : Nat} {p : List Nat} (h : Lost T n parity size p) : ∃ K, (holesN (goneOf p (n + parity)) n n).length = K ∧ K ≤ 3 ∧ (usedN (goneOf p (n + parity)) n K parity).length = K ∧ (1 ≤ K → (redN (facM (holesN (goneOf p (n + parity)) n n) (usedN (goneOf p (n + parity)) n K parity)) K).2 = K) := by
  have hc := goneOf_cnt h.lt h.nd
  have hh := holesN_cnt (goneOf p (n + parity)) n n (Nat.le_refl _)
  obtain ⟨u1, u2⟩ := usedN_cnt (goneOf p (n + parity)) n (cntB (goneOf p (n + parity)) n) parity
  have hf := h.few
  have hp := h.h1
  have hle : cntB (goneOf p (n + parity)) n ≤ cntB (goneOf p (n + parity)) (n + parity) := by
    have : ∀ m, cntB (goneOf p (n + parity)) n ≤ cntB (goneOf p (n + parity)) (n + m) := fun m => by
      induction m with
      | zero => exact Nat.le_refl _
      | succ m ih => show _ ≤ cntB _ (n + m) + _; omega
    exact this parity
  refine ⟨cntB (goneOf p (n + parity)) n, hh, by omega, by rw [u1]; omega, fun hK => ?_⟩
  have hn := h.hn
  refine fac_full3 hh (by rw [u1]; omega) hK (by omega) (holesN_asc _ _ _) (usedN_asc _ _ _ _) (fun x hx => ?_) (fun x hx => ?_)
  · have := (holesN_mem _ _ _ x hx).1; omega
  · have := (usedN_mem _ _ _ _ x hx).1; omega
theorem evn_left {T : List (List Int)} {n parity size : Nat} {p : List Nat} (h : Lost T n parity size p) (hl : T.length = n + parity) : Evn (leftN T (goneOf p (n + parity)) (n + parity)) size := by
  obtain ⟨i, hi, hip⟩ := exists_not_mem (n := n + parity) (p := p) (by have := h.few; have := h.hn; omega) h.nd
  refine ⟨leftN_pos T _ _ i hi (by rw [goneOf_get h.lt]; simpa using hip), h.hsz, fun c hc => ?_⟩
  obtain ⟨k, hk, hg, rfl⟩ := leftN_not _ _ _ _ hc
  rw [goneOf_get h.lt] at hg
  exact h.rows k hk (by simpa using hg)
set_option maxHeartbeats 8000000 in
theorem rebuildW (a : Option Addr) (cap : Nat) (T : List (List Int)) (n parity size : Nat) (al : Option Addr) (ll cl : Nat) (p : List Nat) (w : World) {F : Nat → Prop} (h : SRow (Lay.int .u8).slice w F a (n + parity) cap T) (hp : Row .i64 w al ll cl (nats p)) (hL : Lost T n parity size p) :
    Calls Try.prog 36 #[.slice a (n + parity) cap, .int .i64 parity, .slice al ll cl] w fun e w' => ∃ K a' c', (holesN (goneOf p (n + parity)) n n).length = K ∧ K ≤ 3 ∧ (usedN (goneOf p (n + parity)) n K parity).length = K ∧ (1 ≤ K → (redN (facM (holesN (goneOf p (n + parity)) n n) (usedN (goneOf p (n + parity)) n K parity)) K).2 = K) ∧ e = .returned (.tuple #[.slice a' (n + parity) c', .int .i64 0]) ∧ Hid (SRow (Lay.int .u8).slice w' (fun _ => True) a' (n + parity) c' (backOf T (goneOf p (n + parity)) n parity size K)) ∧ Hid (Below w.heap.size w w') := by
  have hDl := h.1
  have hmx := h.hmax
  have hle := h.hle
  have hql := hp.hle
  have hqm := hp.hmax
  have hqn : p.length = ll := by have := hp.hlen; simpa [nats] using this
  unfold maxLen at hmx hqm
  obtain ⟨h1, h3⟩ := hL.h1
  obtain ⟨hnn1, hnn2⟩ := hL.hn
  have hll : ll ≤ parity := by rw [← hqn]; exact hL.few
  have HS := Lib.hid h
  have HP := Lib.hid hp
  have HL := Lib.hid hL
  have HPL := Lib.hid hL.lt
  have HND := Lib.hid hL.nd
  clear h hp hL
  obtain ⟨len, hlen⟩ : ∃ len, n + parity = len := ⟨_, rfl⟩
  rw [hlen] at hDl hle HS HPL ⊢
  go_enter Try.func36, Try.ntmps36
  have hnn : len = n + parity := hlen.symm
  go_upto_region 2 with fail
  clear hnn
  have n1 : (1 : Int) ≤ (n : Int) := by omega
  have n2 : (n : Int) ≤ 12 := by omega
  have n3 : decide ((n : Int) < 1) = false := by simp; omega
  have n4 : decide ((12 : Int) < (n : Int)) = false := by simp; omega
  go_wp2_with fail
  refine (someP parity w ⟨by omega, by omega⟩).mono ?_
  rintro e w2 ⟨rfl, rfl⟩
  go_wp2_with (refine wpList_make_zeros rfl _ _ 68 rfl 4 (.bool false) 1 Try.underlying68 info_bool2 rfl _ _ _ _ len rfl rfl rfl rfl (by omega) (by unfold maxLen; omega) ?_)
  intro w1 hoz hb1
  have B1 := Lib.hid (zeros_box hoz)
  obtain ⟨g, hg⟩ : ∃ g, Hid (w.heap.size = g) := ⟨_, rfl⟩
  rw [hg.out] at B1 ⊢
  have L1 := Lib.hid hb1
  clear hoz hb1
  go_wp2_with fail
  go_loopw [10, 37] (fun cv iv wr => ∃ k : Nat, k ≤ ll ∧ cv = .int .i64 0 ∧ iv = .int .i64 k ∧ Hid (Box wr g ((markB (List.replicate len false) (p.take k)).map Value.bool).toArray 4) ∧ Hid (Below w.heap.size w wr)) (fun _ iv _ => ll - (intOf iv).toNat)
  case atStart => exact ⟨0, by omega, rfl, rfl, B1, L1⟩
  case round =>
    obtain ⟨k, hk, rfl, rfl, hB, hL⟩ := hrel
    by_cases hlt : k < ll
    · have k1 : (k : Int) < (ll : Int) := by omega
      have hrow := HP.out.below hL.out
      obtain ⟨bl, ol, rfl, hcl⟩ : ∃ bl ol, al = some ⟨bl, ol, none⟩ ∧ ∀ t, t < ll → wr.cell? ⟨bl, ol + t, none⟩ = some (.int .i64 ((nats p).getD t 0)) := by
        rcases hrow.hat with h0 | h
        · omega
        · exact h
      have e0 := hcl k hlt
      rw [nats_getD] at e0
      have hnm := take_not_mem HND.out k (by omega)
      obtain ⟨x, hx⟩ : ∃ x, p.getD k 0 = x := ⟨_, rfl⟩
      rw [hx] at e0 hnm
      have hxl : x < len := by
        rw [← hx]
        refine HPL.out _ ?_
        rw [show p.getD k 0 = p[k]'(by omega) by simp [List.getD, hqn, hlt]]
        exact List.getElem_mem _
      have hnext : Hid (markB (List.replicate len false) (p.take (k + 1)) = (markB (List.replicate len false) (p.take k)).set x true) := by
        show _ = _
        rw [take_nats p k (by omega), markB_snoc, hx]
      have hml : (markB (List.replicate len false) (p.take k)).length = len := by rw [markB_length]; simp
      have hmx2 : (markB (List.replicate len false) (p.take k)).getD x false = false := by
        rw [markB_getD _ _ _ (fun y hy => by simp; exact HPL.out y (List.mem_of_mem_take hy))]
        simp [hnm, hxl]
      have x0 : decide ((x : Int) < 0) = false := by simp
      have x1 : (x : Int) < (len : Int) := by omega
      have x2 : decide ((len : Int) ≤ (x : Int)) = false := by simp; omega
      have e1 : wr.cell? ⟨g, x, none⟩ = some (.bool false) := by
        rw [hB.out.cell x]
        have e : (markB (List.replicate len false) (p.take k))[x]? = some false := by
          rw [List.getElem?_eq_getElem (by omega)]
          rw [List.getD, List.getElem?_eq_getElem (by omega)] at hmx2
          exact congrArg some hmx2
        rw [List.getElem?_toArray, List.getElem?_map, e]; rfl
      have f1 : wr.frozen? ⟨g, x, none⟩ = false := hB.out.free x
      have BN := hB.out.set x (.bool true)
      rw [mark_bools] at BN
      have HBN := Lib.hid BN
      have LN := Lib.hid (hL.out.setCell (p := ⟨g, x, none⟩) (by rw [hg.out]; exact Nat.le_refl _) (.bool true))
      clear hcl hrow hx hml BN hB hL hnm hmx2
      go_wp2_with fail
      go_roundw
      case rel => exact ⟨k + 1, by omega, rfl, by go_num, by rw [hnext.out]; exact HBN, LN⟩
      case measure => simp [intOf]; omega
    · obtain rfl : k = ll := by omega
      have kp2 : decide ((parity : Int) < (k : Int)) = false := by simp; omega
      rw [List.take_of_length_le (by omega)] at hB
      have hsl : (goneOf p len).length = len := goneOf_len p len
      go_wp2_with fail
      refine (leftW a len cap T g (goneOf p len) wr (HS.out.below hL.out) hB.out hsl (by omega)).mono ?_
      rintro e w3 ⟨a3, l3, c3, rfl, hX, hb3⟩
      have L3 := Lib.hid (hL.out.trans (hb3.out.mono hL.out.size))
      have HE : Hid (Evn (leftN T (goneOf p len) len) size) := by
        rw [← hlen]; exact evn_left HL.out (by rw [hDl, hlen])
      have B3 := Lib.hid (hB.out.below hb3.out hB.out.lt)
      clear hb3 hB hL
      go_wp2_with fail
      refine (even2 a3 l3 c3 _ size w3 hX.out HE.out).mono ?_
      rintro e w4 ⟨rfl, hb4⟩
      have L4 := Lib.hid (L3.out.trans (hb4.mono L3.out.size))
      have B4 := Lib.hid (B3.out.below hb4 B3.out.lt)
      clear hb4 B3 L3 hX
      obtain ⟨K, q1, q2, q3, q4⟩ := HL.out.counts
      have HK : Hid ((holesN (goneOf p (n + parity)) n n).length = K ∧ K ≤ 3 ∧ (usedN (goneOf p (n + parity)) n K parity).length = K ∧ (1 ≤ K → (redN (facM (holesN (goneOf p (n + parity)) n n) (usedN (goneOf p (n + parity)) n K parity)) K).2 = K)) := ⟨q1, q2, q3, q4⟩
      clear q1 q2 q3 q4
      go_wp2_with fail
      have hext : holesN (goneOf p len) n len = holesN (goneOf p len) n n := by rw [← hlen]; exact holesN_ext _ n parity
      have hsub : len - n = parity := by omega
      have HR := rebuiltW a len cap T n size g (goneOf p len) K w4 (HS.out.below L4.out) B4.out hsl ⟨hnn1, hnn2, by omega, by omega⟩ HL.out.hsz (fun i hi hg => HL.out.rows i (by omega) (by
          rw [goneOf_get HPL.out] at hg; simpa using hg)) (by
          obtain ⟨i, hi, hip⟩ := exists_not_mem (n := len) (p := p) (by omega) HND.out
          exact ⟨i, hi, by rw [goneOf_get HPL.out]; simpa using hip⟩) (by rw [hext, ← hlen]; exact HK.out.1) (by rw [hsub, ← hlen]; exact HK.out.2.2.1) HK.out.2.1 (by rw [hext, hsub, ← hlen]; exact HK.out.2.2.2)
      rw [hext, hsub, show ((n : Nat) : Int) = (len : Int) - (parity : Int) by omega] at HR
      refine HR.mono ?_
      clear HR
      rintro e w5 ⟨a5, c5, rfl, h5, hb5⟩
      have L5 := Lib.hid (L4.out.trans (hb5.out.mono L4.out.size))
      clear hb5 L4 B4
      go_wp2_with fail
      go_ret2
      refine ⟨K, a5, c5, ?_, HK.out.2.1, ?_, ?_, rfl, ?_, L5⟩
      · rw [← hlen]; exact HK.out.1
      · rw [← hlen]; exact HK.out.2.2.1
      · rw [← hlen]; exact HK.out.2.2.2
      · show SRow _ _ _ _ _ _ _
        unfold backOf
        rw [hlen]
        exact h5.out
set_option maxHeartbeats 2000000 in
theorem sameListsW (a : Option Addr) (ca : Nat) (b : Option Addr) (cb : Nat) (M : List (List Int)) (r : Nat) (w : World) {F G : Nat → Prop} (ha : SRow (Lay.int .u8).slice w F a r ca M) (hb : SRow (Lay.int .u8).slice w G b r cb M) :
    Calls Try.prog 37 #[.slice a r ca, .slice b r cb] w fun e w' => e = .returned (.bool true) ∧ ∃ q, w' = w.drewN q := by
  have hma := ha.hmax
  have hmb := hb.hmax
  have hla := ha.hle
  have hlb := hb.hle
  unfold maxLen at hma hmb
  have HA := Lib.hid ha
  have HB := Lib.hid hb
  have hrr : ((r : Int) != (r : Int)) = false := by simp
  clear ha hb
  go_enter Try.func37, Try.ntmps37
  go_wp2_with fail
  go_loopw [5] (fun iv wr => ∃ (i q : Nat), i ≤ r ∧ iv = .int .i64 i ∧ wr = w.drewN q) (fun iv _ => r - (intOf iv).toNat)
  case atStart => exact ⟨0, 0, by omega, rfl, rfl⟩
  case round =>
    obtain ⟨i, q, hi, rfl, hq0⟩ := hrel
    have HQ : Hid (wr = w.drewN q) := hq0
    have HAr : Hid (SRow (Lay.int .u8).slice wr F a r ca M) := by rw [hq0]; exact HA.out.drewN q
    have HBr : Hid (SRow (Lay.int .u8).slice wr G b r cb M) := by rw [hq0]; exact HB.out.drewN q
    clear hq0
    by_cases hlt : i < r
    · obtain ⟨b1, o1, a1, l1, c1, rfl, _, e1, r1⟩ := nest_get HAr.out i hlt
      obtain ⟨b2, o2, a2, l2, c2, rfl, _, e2, r2⟩ := nest_get HBr.out i hlt
      have R1 := Lib.hid r1
      have R2 := Lib.hid r2
      clear r1 r2
      go_wp2_with fail
      go_still_tail 8, (by kernel_rfl)
      change wpList _ _ _ _ _ wr.drew
      obtain ⟨W, hW⟩ : ∃ W, W = wr.drew := ⟨_, rfl⟩
      rw [← hW]
      have HWQ : Hid (W = w.drewN (q + 1)) := by show _ = _; rw [hW, HQ.out]; rfl
      have R1W : Hid (Row .u8 W a1 l1 c1 (M.getD i [])) := by rw [hW]; exact R1.out.below (below_drewN (Below.refl _ _) 1)
      have R2W : Hid (Row .u8 W a2 l2 c2 (M.getD i [])) := by rw [hW]; exact R2.out.below (below_drewN (Below.refl _ _) 1)
      clear hW
      go_wp2_with fail
      refine (sameBytes a1 l1 c1 _ a2 l2 c2 _ W R1W.out R2W.out).mono ?_
      rintro e w2 ⟨rfl, kq, rfl⟩
      have hd : decide (M.getD i [] = M.getD i []) = true := decide_eq_true rfl
      rw [hd]
      go_wp2_with fail
      go_roundw
      case rel => exact ⟨i + 1, (q + 1) + kq, by omega, by go_num, by rw [HWQ.out]; exact World.drewN_drewN _ _ _⟩
      case measure => simp [intOf]; omega
    · obtain rfl : i = r := by omega
      go_wp2_with fail
      go_ret
      exact ⟨rfl, q, HQ.out⟩
end Go.Proofs.Ytkfjkdonbmjniaa
