/- The walk of MatrixOf, side, sameMatrix. -/
import Derived.Test.YtkfjkdonbmjniaaMtP
import Derived.Test.YtkfjkdonbmjniaaBase
import Derived.Test.YtkfjkdonbmjniaaSameI
import Derived.StillTailTactics
namespace Go.Proofs.Ytkfjkdonbmjniaa
open Go.RowKit
set_option linter.unusedVariables false
set_option maxRecDepth 100000

def sideN (n : Int) : Nat := (1 + n % 8).toNat
theorem sideN_bd (n : Int) : 1 ≤ sideN n ∧ sideN n ≤ 8 := by unfold sideN; omega
theorem side (n : Int) (w : World) : Calls Try.prog 24 #[.int .i64 n] w fun e w' => e = .returned (.int .i64 (sideN n : Nat)) ∧ w = w' := by
  go_enter Try.func24, Try.ntmps24
  go_wp2_with fail
  refine (picked _ _ _ (by omega) (by omega)).mono ?_
  rintro e w' ⟨r, hr, hr0, hr1, rfl, rfl⟩
  have hs : 1 + r = ((sideN n : Nat) : Int) := by rw [hr.out]; unfold sideN; omega
  go_wp2_with fail
  go_ret
  first | exact ⟨rfl, rfl⟩ | exact ⟨by rw [← hs]; rfl, rfl⟩ | exact ⟨by rw [← hs]; rfl, trivial⟩
def MatPost (r c : Nat) (w : World) (e : Ending) (w' : World) : Prop :=
  ∃ a c' M, e = .returned (.slice a r c') ∧ Mat M r c ∧ Hid (SOwn (Lay.int .i64).slice w' w.heap.size 29 (fun b => w.heap.size ≤ b) a r c' M) ∧ Hid (Below w.heap.size w w')
set_option maxHeartbeats 4000000 in
theorem matrixOf (a : Option Addr) (len cap : Nat) (xs : List Int) (r c : Nat) (w : World) (h : Row .i64 w a len cap xs) (hr : 1 ≤ r ∧ r ≤ 8) (hc : 1 ≤ c ∧ c ≤ 8) :
    Calls Try.prog 23 #[.slice a len cap, .int .i64 r, .int .i64 c] w (MatPost r c w) := by
  have hle := h.hle
  have hmx := h.hmax
  unfold maxLen at hmx
  have HR := Lib.hid h
  obtain ⟨r1, r2⟩ := hr
  obtain ⟨c1, c2⟩ := hc
  clear h
  obtain ⟨B, hB⟩ : ∃ B, Hid (w.heap.size = B) := ⟨_, rfl⟩
  go_enter Try.func23, Try.ntmps23
  go_wp2_with fail
  go_loopw [7, 8] (fun ov iv wr => ∃ (i : Nat) (ao : Option Addr) (co : Nat) (M : List (List Int)), i ≤ r ∧ iv = .int .i64 i ∧ ov = .slice ao i co ∧ Hid (∀ x ∈ M, x.length = c ∧ El x) ∧ Hid (SOwn (Lay.int .i64).slice wr B 29 (fun b => B ≤ b) ao i co M) ∧ Hid (Below B w wr)) (fun _ iv _ => r - (intOf iv).toNat)
  case atStart => exact ⟨0, none, 0, [], by omega, rfl, rfl, (fun x hx => by cases hx), SOwn.nil .., Below.refl _ _⟩
  case round =>
    obtain ⟨i, ao, co, M, hi, rfl, rfl, hM, hO, hL⟩ := hrel
    obtain ⟨wo, rfl⟩ : ∃ W, W = wr := ⟨wr, rfl⟩
    have hBo : B ≤ wo.heap.size := by have := hL.out.size; have := hB.out; omega
    by_cases hlt : i < r
    · go_wp2_with fail
      go_loopw [9, 10] (fun cv kv wr => ∃ (k : Nat) (ac : Option Addr) (cc : Nat) (L : List Int), k ≤ c ∧ kv = .int .i64 k ∧ cv = .slice ac k cc ∧ Hid (El L) ∧ Hid (SOwn (Lay.int .i64) wr wo.heap.size 3 (fun _ => False) ac k cc L) ∧ Hid (Below wo.heap.size wo wr)) (fun _ kv _ => c - (intOf kv).toNat)
      case atStart => exact ⟨0, none, 0, [], by omega, rfl, rfl, (fun x hx => by cases hx), SOwn.nil .., Below.refl _ _⟩
      case round =>
        obtain ⟨k, ac, cc, L, hk, rfl, rfl, hE, hC, hLk⟩ := hrel
        have hwo : wo.heap.size ≤ wr.heap.size := hLk.out.size
        by_cases hkc : k < c
        · have hm : i * c + k < 64 := by
            have : i * c ≤ 7 * 8 := Nat.mul_le_mul (by omega) c2
            omega
          obtain ⟨p, hp⟩ : ∃ p, i * c = p := ⟨_, rfl⟩
          have hip : (i : Int) * (c : Int) = (p : Int) := by rw [← Int.natCast_mul, hp]
          have hpk : p + k < 64 := by omega
          go_upto_if 24 with fail
          go_cut [11] (fun v wx => ∃ x : Int, v = .int .i64 x ∧ (0 ≤ x ∧ x ≤ 255) ∧ ∃ q, wx = wr.drewN q)
          case first =>
            by_cases hl0 : 0 < len
            · rcases HR.out.hat with h0 | ⟨b1, o1, rfl, hc1⟩
              · omega
              obtain ⟨mm, hmm⟩ : ∃ z, (p + k) % len = z := ⟨_, rfl⟩
              obtain ⟨qq, hqq⟩ : ∃ z, (p + k) / len = z := ⟨_, rfl⟩
              have hmod : mm < len := by rw [← hmm]; exact Nat.mod_lt _ hl0
              have hqb : qq < 64 := by rw [← hqq]; exact Nat.lt_of_le_of_lt (Nat.div_le_self _ _) hpk
              have e1 := hc1 mm hmod
              have hbw : b1 < w.heap.size := World.block_lt_of_cell? _ _ e1
              have hbB : b1 < B := by have := hB.out; omega
              obtain ⟨v, hv⟩ : ∃ v, xs.getD mm 0 = v := ⟨_, rfl⟩
              rw [hv] at e1
              have e2 : wr.cell? ⟨b1, o1 + mm, none⟩ = some (.int .i64 v) := (hLk.out.cell (p := ⟨b1, o1 + mm, none⟩) (by show b1 < _; omega)).trans ((hL.out.cell (p := ⟨b1, o1 + mm, none⟩) hbB).trans e1)
              have d1 : ((p : Int) + (k : Int)) % (len : Int) = (mm : Int) := by rw [← hmm]; push_cast; rfl
              have d2 : ((p : Int) + (k : Int)) / (len : Int) = (qq : Int) := by rw [← hqq]; push_cast; rfl
              have d3 : ((len : Int) == 0) = false := by simp; omega
              have d4 : ((1 : Int) + (qq : Int) == 0) = false := by simp; omega
              have d5 : (mm : Int) < (len : Int) := by omega
              have d0 : ¬ len = 0 := by omega
              have d6 : ((p : Int) + (k : Int)).tmod (len : Int) = (mm : Int) := by rw [Int.tmod_eq_emod_of_nonneg (by omega)]; exact d1
              have d7 : ((p : Int) + (k : Int)).tdiv (len : Int) = (qq : Int) := by rw [Int.tdiv_eq_ediv_of_nonneg (by omega)]; exact d2
              have d8 : ¬ (1 : Int) + (qq : Int) = 0 := by omega
              have k1 : IntKind.i64.wrap (p : Int) = (p : Int) := IntWalk.i64_in _ (by omega)
              have k2 : IntKind.i64.wrap ((p : Int) + (k : Int)) = (p : Int) + (k : Int) := IntWalk.i64_in _ (by omega)
              have k3 : IntKind.i64.wrap ((1 : Int) + (qq : Int)) = (1 : Int) + (qq : Int) := IntWalk.i64_in _ (by omega)
              have k4 : IntKind.i64.wrap (qq : Int) = (qq : Int) := IntWalk.i64_in _ (by omega)
              clear hc1 e1 hm hp
              go_upto_region 11 with fail
              go_still_tail 21, (by kernel_rfl)
              change wpList _ _ _ _ _ wr.drew
              go_wp2_with fail
              refine (picked _ _ _ (by omega) (by omega)).mono ?_
              rintro e w' ⟨z, hz, hz0, hz1, rfl, rfl⟩
              go_wp2_with fail
              go_meet
              exact ⟨z, rfl, by omega, 1, rfl⟩
            · go_wp2_with fail
              go_meet
              exact ⟨0, rfl, by omega, 0, rfl⟩
          case rest =>
            obtain ⟨x, rfl, ⟨hx0, hx1⟩, q, rfl⟩ := hcut
            have OC := Lib.hid (hC.out.below (below_drewN (Below.refl _ _) q))
            have LC : Hid (Below wo.heap.size wo (wr.drewN q)) := below_drewN hLk.out q
            have hwd : wo.heap.size ≤ (wr.drewN q).heap.size := hwo
            have hwf : (Lit.int .i64 x).wf = true := by simp [Lit.wf, IntKind.min, IntKind.max, IntKind.signed, IntKind.bits]; omega
            have HWF := Lib.hid hwf
            obtain ⟨wq, hwq⟩ : ∃ W, W = wr.drewN q := ⟨_, rfl⟩
            rw [← hwq] at OC LC hwd ⊢
            clear hC hLk hwf hwq
            go_wp2_with (at_builtin; refine wpList_append_one (L := Lay.int .i64) rfl (.tmp 47) (.tmp 49) 29 rfl wo.heap.size 3 _ 8 Try.underlying29 info_int8 rfl (fun _ => False) ac k cc _ rfl OC.out #[.int .i64 x] x rfl (fun _ => False) ⟨rfl, HWF.out⟩ (fun b h => h.elim) (by unfold maxLen; omega) (by omega) hwd ?_)
            intro a5 c5 w5 hown5 hg5
            have L5 : Hid (Below wo.heap.size wo w5) := OC.out.grown LC.out (Nat.le_refl _) hwd hg5
            have O5 := Lib.hid hown5
            have E5 : Hid (El (L ++ [x])) := by
              intro y hy
              rcases List.mem_append.1 hy with h | h
              · exact hE.out y h
              · rw [List.mem_singleton.1 h]; exact ⟨hx0, hx1⟩
            clear hown5 hg5 OC LC
            go_wp2_with fail
            go_roundw
            case rel => exact ⟨k + 1, a5, c5, L ++ [x], by omega, by go_num, rfl, E5, O5, L5⟩
            case measure => simp [intOf]; omega
        · obtain rfl : k = c := by omega
          have HRr := Lib.hid hC.out.ints
          have hll := hC.out.1
          have hlt5 : Hid (∀ z, (Value.slice ac k cc).ownBlock = some z → wo.heap.size ≤ z ∧ z < wr.heap.size) := fun z hz => hC.out.lt z hz
          have hno : Hid (∀ z, (Value.slice ao i co).ownBlock = some z → z < wo.heap.size) := fun z hz => (hO.out.lt z hz).2
          have OZ := Lib.hid (hO.out.below hLk.out)
          have hLw : Hid (Below B w wr) := hL.out.trans (hLk.out.mono hBo)
          have hBwr : B ≤ wr.heap.size := by omega
          clear hC hO hL hLk
          go_wp2_with (at_builtin; refine wpList_append_one (L := (Lay.int .i64).slice) rfl (.tmp 51) (.tmp 53) 30 rfl B 29 _ 24 Try.underlying30 info_ints rfl (fun b => B ≤ b) ao i co _ rfl OZ.out #[.slice ac k cc] L rfl (fun b => (Value.slice ac k cc).ownBlock = some b) ⟨_, _, _, rfl, Row.toS HRr.out (fun x hx _ => by rw [hx]; rfl)⟩ (fun b h => by have h3 := hlt5.out b h; exact ⟨by omega, h3.2, fun e => by have := hno.out _ e; omega⟩) (by unfold maxLen; omega) (by omega) hBwr ?_)
          intro a7 c7 w7 hown7 hg7
          have L7 : Hid (Below B w w7) := OZ.out.grown hLw.out (Nat.le_refl _) hBwr hg7
          have O7 := Lib.hid hown7
          have M7 : Hid (∀ x ∈ M ++ [L], x.length = k ∧ El x) := by
            intro y hy
            rcases List.mem_append.1 hy with h | h
            · exact hM.out y h
            · rw [List.mem_singleton.1 h]; exact ⟨hll, hE.out⟩
          clear hown7 hg7 OZ hLw HRr hlt5 hno
          go_wp2_with fail
          go_roundw
          case rel => exact ⟨i + 1, a7, c7, M ++ [L], by omega, by go_num, rfl, M7, O7, L7⟩
          case measure => simp [intOf]; omega
    · obtain rfl : i = r := by omega
      go_wp2_with fail
      go_ret
      exact ⟨ao, co, M, rfl, ⟨hO.out.1, ⟨r1, r2⟩, ⟨c1, c2⟩, hM.out⟩, by rw [hB.out]; exact hO, by rw [hB.out]; exact hL⟩
end Go.Proofs.Ytkfjkdonbmjniaa
