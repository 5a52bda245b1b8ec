/- The walk of whole. -/
import Derived.Test.YthjjfmnipemakaaTuG
namespace Go.Proofs.Ythjjfmnipemakaa
open Go.RowKit
set_option linter.unusedVariables false
set_option maxRecDepth 100000

def wholeP (root : Option Rt) : List Int := match root with
  | none => []
  | some r => (List.range (room r.1)).map fun p => T.get r.1 (some r.2) p
theorem whole_put (r : Rt) : putU (room r.1) r.1 (some r.2) 0 0 (List.replicate (room r.1) 0) = wholeP (some r) := by
  unfold putU
  rw [List.length_replicate]
  show _ = (List.range (room r.1)).map fun p => T.get r.1 (some r.2) p
  apply List.map_congr_left
  intro p hp
  have := List.mem_range.1 hp
  rw [if_pos ⟨by omega, by omega⟩]
  congr 1
  omega
theorem tree_of (r : Rt) : Tree (allT (some r)) r := ⟨rfl⟩
theorem rget_wf (r : Rt) (hok : ∀ p, (Lit.int .u8 (T.get r.1 (some r.2) p)).wf = true) : ∀ x ∈ wholeP (some r), (Lit.int .u8 x).wf = true := by
  intro x hx
  obtain ⟨p, _, rfl⟩ := List.mem_map.1 hx
  exact hok p
set_option maxHeartbeats 8000000 in
theorem wholeW (F : Nat → Prop) (al : Option Addr) (ll cl : Nat) (root : Option Rt) (b : Nat) (w : World) (h : SRow ndL w F al ll cl (nodesP root)) (hok : Rt.Ok root) (hbir : Rt.Bir b root) (hlv : ∀ r, root = some r → r.1 ≤ 3) :
    Calls Try.prog 15 #[.slice al ll cl] w fun e w' => ∃ a c, e = .returned (.tuple #[.slice a (wholeP root).length c, .bool true]) ∧ (∀ i, i < (wholeP root).length → ∃ g, a = some ⟨g, 0, none⟩ ∧ w'.cell? ⟨g, i, none⟩ = some (.int .u8 ((wholeP root).getD i 0)) ∧ g < w'.heap.size) ∧ Below w.heap.size w w' ∧ c = (wholeP root).length ∧ (a = none → c = 0) := by
  have hlen : (nodesP root).length = ll := h.1
  cases root with
  | none =>
    have hl0 : ll = 0 := hlen.symm
    subst hl0
    clear h hok hbir hlv hlen
    go_enter Try.func15, Try.ntmps15
    go_wp2_with fail
    exact bodyPost_ret (results_tmp2 Try.results15 _ _ _) rfl ⟨none, 0, rfl, fun i hi => absurd hi (Nat.not_lt_zero _), Below.refl _ _, rfl, fun _ => rfl⟩
  | some r =>
    obtain ⟨n, t⟩ := r
    have hn3 : n ≤ 3 := hlv _ rfl
    have htr := tree_of ⟨n, t⟩
    have hR85 := allT_length (some ⟨n, t⟩) hok hlv
    obtain ⟨R, hR⟩ : ∃ R, allT (some ⟨n, t⟩) = R := ⟨_, rfl⟩
    have hnp : nodesP (some ⟨n, t⟩) = nodesUpTo R R.length := by unfold nodesP; rw [hR]
    rw [hR] at htr hR85
    rw [hnp] at h hlen
    rw [nodesUpTo_length R R.length (Nat.le_refl _)] at hlen
    have hroot := htr.root
    have hg0 := nodesUpTo_get R R.length 0 _ htr.pos (Nat.le_refl _) hroot
    obtain ⟨b', off', _, _, _, _, _, _, rfl, hb', _, _, _, l2, _, _, _, _⟩ := ndRow h 0 _ hg0
    rw [ndAt_level, Nat.zero_mul, Nat.add_zero] at l2
    have hpos := htr.pos
    have hll : ll ≤ 85 := by omega
    have hl0 : ((ll : Int) == 0) = false := by simp; omega
    have q6 : decide (6 < (n : Int)) = false := by simp; omega
    have q6' : decide (6 < n) = false := by simp; omega
    have qz : decide ((n : Int) < 0) = false := by simp
    have hl0' : (0 : Int) < (ll : Int) := by omega
    obtain ⟨rm, hrm⟩ : ∃ rm, Hid (room n = rm) := ⟨_, rfl⟩
    have hrml : rm ≤ 4096 := by rw [← hrm.out]; exact room_mono (a := n) (b := 3) hn3
    have hRW := Lib.hid (keepRoomW n (by omega) w)
    rw [hrm.out] at hRW
    have H := Lib.hid h
    have HTR := Lib.hid htr
    have HOK := Lib.hid hok
    have HBIR := Lib.hid hbir
    have HROOT := Lib.hid hroot
    have HLEN := Lib.hid hlen
    have hwl : Hid ((wholeP (some ⟨n, t⟩)).length = rm) := by show _ = _; rw [← hrm.out]; simp [wholeP]
    obtain ⟨WP, hWP⟩ : ∃ WP, Hid (wholeP (some ⟨n, t⟩) = WP) := ⟨_, rfl⟩
    rw [hWP.out] at hwl ⊢
    rw [hwl.out]
    clear h hok hbir hlv hR hnp hlen hg0 htr hroot
    go_enter Try.func15, Try.ntmps15
    go_wp2_with fail
    refine hRW.out.mono ?_
    rintro e w' ⟨rfl, rfl⟩
    have hz : Hid (∀ u base, Zero0 u base 0 (List.replicate rm 0)) := fun u base p hp _ _ => by
      rw [List.getD_eq_getElem?_getD, List.getElem?_replicate]; split <;> rfl
    go_wp2_with (first
      | (refine wpList_make_zeros rfl (.tmp 26) (.tmp 26) 23 rfl 5 (.int .u8 0) 1 Try.underlying23 info_byte0 rfl .i64 .i64 _ _ rm rfl rfl rfl rfl (by omega) (by unfold maxLen; omega) ?_; intro w2 hown2 hb2; have HO2 := Lib.hid hown2; have HB2 := Lib.hid hb2; clear hown2 hb2)
      | (refine wpList_make_zeros rfl (.tmp 29) (.tmp 29) 40 rfl 3 (.int .i64 0) 8 Try.underlying40 info_int0 rfl .i64 .i64 _ _ ll rfl rfl rfl rfl (by omega) (by unfold maxLen; omega) ?_; intro w3 hown3 hb3; have HO3 := Lib.hid hown3; have HB3 := Lib.hid hb3; clear hown3 hb3))
    obtain ⟨o, ho⟩ : ∃ o, Hid (w.heap.size = o) := ⟨_, rfl⟩
    obtain ⟨sb, hsb⟩ : ∃ sb, Hid (w2.heap.size = sb) := ⟨_, rfl⟩
    have HO2b := HO2.out
    have HO3b := HO3.out
    rw [ho.out] at HO2b
    rw [hsb.out] at HO3b
    have hBO : Box w3 o (u8s (List.replicate rm 0)) 5 := by
      have := Box.below (Own.box HO2b) HB3.out (Own.box HO2b).lt
      rw [show (List.replicate rm (Value.int .u8 0)).toArray = u8s (List.replicate rm 0) by unfold u8s; rw [List.map_replicate]] at this
      exact this
    have hBS : Box w3 sb (i64s (List.replicate ll 0)) 3 := by
      have := Own.box HO3b
      rw [show (List.replicate ll (Value.int .i64 0)).toArray = i64s (List.replicate ll 0) by unfold i64s; rw [List.map_replicate]] at this
      exact this
    have hos : o < sb := by have h1 := (Own.box HO2b).lt; have := hsb.out; omega
    have hA3 : Apt [thBox o (u8s (List.replicate rm 0)) 5, thBox sb (i64s (List.replicate ll 0)) 3] w3 :=
      ((Apt.nil w3).cons (t := thBox sb (i64s (List.replicate ll 0)) 3) hBS (fun s hs => by cases hs)).cons (t := thBox o (u8s (List.replicate rm 0)) 5) hBO (fun s hs b hb hb2 => by
        obtain rfl := List.mem_singleton.1 hs
        have h1 : b = o := hb
        have h2 : b = sb := hb2
        omega)
    have hsw3 : Below w.heap.size w w3 := HB2.out.trans (HB3.out.mono HB2.out.size)
    have hz0 : ∀ k : Nat, (List.replicate ll (0 : Int)).getD k 0 = 0 := fun k => by
      rw [List.getD_eq_getElem?_getD, List.getElem?_replicate]; split <;> rfl
    have HC := spreadAt n (by omega) R ⟨n, t⟩ w F (some ⟨b', off', none⟩) ll cl 0 o sb rm 0 t b (List.replicate rm 0) (List.replicate ll 0) w3 HTR.out H.out HROOT.out HBIR.out HOK.out hsw3 (by have := ho.out; omega) (by have := ho.out; omega) hA3 (by simp) (by simp) (by have := hrm.out; omega) (by omega) (by omega) (hz.out _ _) (fun k _ _ => hz0 k)
    have hup : Hid (∀ k, 0 < k → k < ll → Up R 0 k) := fun k _ hk => HTR.out.all k k (Nat.le_refl _) (by rw [HLEN.out]; exact hk)
    have hput : Hid (putU (room n) n (some t) 0 0 (List.replicate rm 0) = WP) := by show _ = _; rw [← hrm.out, ← hWP.out]; exact whole_put ⟨n, t⟩
    rw [hput.out] at HC
    have HCC := Lib.hid HC
    have HSW3 := Lib.hid hsw3
    rw [ho.out, hsb.out]
    have HZ0 := Lib.hid hz0
    have hos2 : Hid (w.heap.size ≤ o ∧ o < sb) := ⟨by have := ho.out; omega, hos⟩
    clear HC hz0 hA3 hBS hBO HO2b HO3b hsw3 hos l2
    refine HCC.out.mono ?_
    rintro e w4 ⟨rfl, sn', hsn, hT⟩
    have BO := Lib.hid (show Box w4 o (u8s WP) 5 from hT.now.all 0 _ rfl)
    have BS := Lib.hid (show Box w4 sb (i64s sn') 3 from hT.now.all 1 _ rfl)
    have hB4 : Hid (Below w.heap.size w w4) := since_kept HSW3.out hT (fun b ⟨u, hu, hb⟩ => by
      have := hos2.out
      rcases List.mem_cons.1 hu with rfl | hu
      · have : b = o := hb; omega
      · obtain rfl := List.mem_singleton.1 hu
        have : b = sb := hb; omega)
    have hsl : sn'.length = ll := by rw [hsn.len]; simp
    have hone : Hid (∀ k, 0 < k → k < ll → w4.cell? ⟨sb, k, none⟩ = some (.int .i64 1)) := fun k h0 hk => by
      rw [BS.out.cell k, i64s_get _ _ (by omega), hsn.up k (by simp; exact hk) (hup.out k h0 hk) (by omega), HZ0.out k]; rfl
    have hsb4 : sb < w4.heap.size := BS.out.lt
    clear hT hsn hsl
    go_wp2_with fail
    go_loop [6] (fun iv => ∃ i : Nat, 1 ≤ i ∧ i ≤ max ll 1 ∧ iv = .int .i64 i) (fun iv => 200 - (intOf iv).toNat)
    case atStart => exact ⟨1, by omega, by omega, rfl⟩
    case round =>
      obtain ⟨i, hi1, hi2, rfl⟩ := hrel
      by_cases hlt : i < ll
      · have ii : (i : Int) < (ll : Int) := by omega
        have c1 := hone.out i (by omega) hlt
        go_wp2_with fail
        go_round
        case rel => exact ⟨i + 1, by omega, by omega, by go_num⟩
        case measure => (simp [intOf]; try omega)
      · have ii : ¬ ((i : Int) < (ll : Int)) := by omega
        go_wp2_with fail
        refine bodyPost_ret (results_tmp2 Try.results15 _ _ _) rfl ⟨some ⟨o, 0, none⟩, rm, rfl, fun j hj => ⟨o, rfl, ?_, BO.out.lt⟩, hB4.out, rfl, fun h => by cases h⟩
        rw [BO.out.cell j]
        unfold u8s
        have hj2 : j < WP.length := by rw [hwl.out]; exact hj
        rw [List.getElem?_toArray, List.getElem?_map, List.getElem?_eq_getElem hj2]
        simp
end Go.Proofs.Ythjjfmnipemakaa
