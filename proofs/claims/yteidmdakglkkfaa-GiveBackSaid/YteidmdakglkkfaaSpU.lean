/- The law ReplaySame, walked. -/
import Derived.Test.YteidmdakglkkfaaSpS
namespace Go.Proofs.Yteidmdakglkkfaa
open Go.RowKit Go.Sort
set_option linter.unusedVariables false

theorem takes_ok (n : Nat) : ∀ (rs : List (Nat × Nat)) (us : List Nat), us.length = n → RunsIn n rs → (∀ r ∈ rs, ∀ j, r.1 ≤ j → j < r.2 → us.getD j 0 = 0) → rs.Pairwise (fun a b => a.2 ≤ b.1) →
    RplOk n us (rs.map fun r => (false, r.1, r.2)) ∧ (rpl us (rs.map fun r => (false, r.1, r.2))).length = n ∧ ∀ j, (rpl us (rs.map fun r => (false, r.1, r.2))).getD j 0 = if ∃ r ∈ rs, r.1 ≤ j ∧ j < r.2 then 1 else us.getD j 0
  | [], us, hl, _, _, _ => ⟨trivial, hl, fun j => by simp [rpl]⟩
  | r :: rs, us, hl, hr, h1, hp => by
    have h0 := hr r (List.mem_cons_self ..)
    have hp' := List.pairwise_cons.1 hp
    have hl' : (setR us r.1 r.2 1).length = n := by rw [setR_length _ _ _ _ (by omega) (by omega)]; exact hl
    obtain ⟨i1, i2, i3⟩ := takes_ok n rs (setR us r.1 r.2 1) hl' (fun q hq => hr q (List.mem_cons_of_mem _ hq)) (fun q hq j hj1 hj2 => by
      have := hp'.1 q hq
      rw [setR_getD _ _ _ _ (by omega) (by omega), if_neg (by omega)]
      exact h1 q (List.mem_cons_of_mem _ hq) j hj1 hj2) hp'.2
    refine ⟨⟨h0.1, h0.2, fun j a b => h1 r (List.mem_cons_self ..) j a b, i1⟩, i2, fun j => ?_⟩
    show (rpl (setR us r.1 r.2 1) _).getD j 0 = _
    rw [i3 j, setR_getD _ _ _ _ (by omega) (by omega)]
    by_cases ha : ∃ q ∈ rs, q.1 ≤ j ∧ j < q.2
    · obtain ⟨q, hq, h2⟩ := ha
      rw [if_pos ⟨q, hq, h2⟩, if_pos ⟨q, List.mem_cons_of_mem _ hq, h2⟩]
    · rw [if_neg ha]
      by_cases hb : r.1 ≤ j ∧ j < r.2
      · rw [if_pos hb, if_pos ⟨r, List.mem_cons_self .., hb⟩]
      · rw [if_neg hb, if_neg]
        rintro ⟨q, hq, h2⟩
        rcases List.mem_cons.1 hq with rfl | hq
        · exact hb h2
        · exact ha ⟨q, hq, h2⟩
theorem condensed_ok (n : Nat) (us : List Nat) (hl : us.length = n) (h01 : ∀ j, us.getD j 0 ≤ 1) : RplOk n (noughts n) (condensed us) ∧ rpl (noughts n) (condensed us) = us := by
  have hz : ∀ j, (noughts n).getD j 0 = 0 := fun j => by simp [noughts, List.getD, List.getElem?_replicate]; split <;> rfl
  obtain ⟨i1, i2, i3⟩ := takes_ok n (runs (· == 1) us) (noughts n) (by simp [noughts]) (by rw [← hl]; exact runs_in _ _) (fun r hr j a b => hz j) (runs_apart _ _).pairwise
  refine ⟨i1, ?_⟩
  apply list_ext (by rw [show (rpl (noughts n) (condensed us)).length = n from i2, hl])
  intro j hj
  rw [show (rpl (noughts n) (condensed us)).length = n from i2] at hj
  rw [show (rpl (noughts n) (condensed us)).getD j 0 = _ from i3 j, hz j]
  by_cases h1 : us.getD j 0 = 1
  · rw [if_pos ((mem_runs _ _ _).2 ⟨by omega, by rw [h1]; rfl⟩), h1]
  · rw [if_neg (fun hh => h1 (by have := ((mem_runs _ _ _).1 hh).2; simpa using this))]
    have := h01 j
    omega
theorem cnt_tk (us : List Nat) : cnt (· == 0) (us.map tk) = cnt (· == 0) us := by
  unfold cnt
  rw [List.countP_map]
  congr 1
  funext u
  simp only [Function.comp, tk]
  by_cases h : u = 0
  · subst h; rfl
  · rw [if_neg h]; simp [h]
theorem tk_le (us : List Nat) (j : Nat) : (us.map tk).getD j 0 ≤ 1 := by rw [tk_getD]; unfold tk; split <;> omega
theorem last_left (n : Nat) (ds : List Deed) (k : Nat) (h : ds.length = k + 1) {x : Found} (hx : ((Sp.new n).play ds).2[k]? = some x) : x.left = ((Sp.new n).play ds).1.left := by
  have h1 := play_get (Sp.new n) ds k (by omega) hx
  have h2 := play_take1 (Sp.new n) ds k (by omega)
  rw [List.take_of_length_le (by omega)] at h2
  rw [h1, h2]; rfl
set_option maxRecDepth 100000 in
set_option maxHeartbeats 8000000 in
theorem replaySame (F : Nat → Prop) (a : Option Addr) (len cap : Nat) (ws : List Wish) (nn : Int) (w : World) (ha : SRow wishL w F a len cap ws) :
    Calls Try.prog 6 #[.slice a len cap, .int .i64 nn] w fun e w' => e = .returned (.bool true) ∧ Below w.heap.size w w' := by
  go_enter Try.func6, Try.ntmps6
  go_wp2_with fail
  refine (picked _ _ _ (by omega) (by omega)).mono ?_
  rintro e w' ⟨r, hr, hr0, hr1, rfl, rfl⟩
  clear hr
  obtain ⟨r, rfl⟩ := Int.eq_ofNat_of_zero_le hr0
  go_wp2_with fail
  obtain ⟨n, hn⟩ : ∃ n : Nat, Hid ((1 : Int) + (r : Int) = (n : Int)) := ⟨1 + r, by show _ = _; omega⟩
  have hn1 : 1 ≤ n := by have := hn.out; omega
  have hn2 : n ≤ 100 := by have := hn.out; omega
  rw [hn.out]
  clear hr0 hr1 hn
  refine (deeds n 60 F a len cap ws w ha hn1 hn2 (by omega)).mono ?_
  rintro e w1 ⟨ds, a0, l0, c0, a1, c1, a2, l2, c2, rfl, hl0, hds, hd1, hf1, hr1, hb1⟩
  have hdl : Hid (ds.length = l0) := hd1.out.1
  have hok := Sp.Ok.play ds (Sp.Ok.new n)
  have htd := told_play ds (told_new n) (Sp.Ok.new n)
  have hll : l2 ≤ 780 := by
    have h1 := new_few (n := n) ds hds.out
    have h2 : ((Sp.new n).play ds).1.log.length = l2 := hr1.out.1
    have := hdl.out
    omega
  have hlast := fun k h x hx => last_left n ds k h (x := x) hx
  obtain ⟨fs, hfs⟩ : ∃ fs, Hid (((Sp.new n).play ds).2 = fs) := ⟨_, rfl⟩
  have hnil : l0 = 0 → ((Sp.new n).play ds).1.left = n := fun h0 => by
    have : ds = [] := List.eq_nil_of_length_eq_zero (by rw [hdl.out, h0])
    subst this; rfl
  obtain ⟨s, hs⟩ : ∃ s, Hid (((Sp.new n).play ds).1 = s) := ⟨_, rfl⟩
  rw [hfs.out] at hf1 hlast
  rw [hs.out] at hr1 hok htd hlast hnil
  have HLA := Lib.hid hlast
  have HNI := Lib.hid hnil
  obtain ⟨us, hus⟩ : ∃ us, Hid (s.us.map tk = us) := ⟨_, rfl⟩
  have hrp : rpl (noughts n) s.log = us := by rw [htd.is, hus.out]
  have hul : us.length = n := by rw [← hus.out, List.length_map]; exact hok.len
  have hu01 : ∀ j, us.getD j 0 ≤ 1 := fun j => by rw [← hus.out]; exact tk_le _ _
  have hcond := condensed_ok n us hul hu01
  have hleft : ((cnt (· == 0) us : Nat) : Int) = s.left := by rw [← hus.out, cnt_tk, hok.left]
  have HRP := Lib.hid hrp
  have HOK := Lib.hid htd.ok
  have HCO := Lib.hid hcond.1
  have HCR := Lib.hid hcond.2
  have HLE := Lib.hid hleft
  have HUL := Lib.hid hul
  have hlb := hok.bound
  clear hrp hcond hleft hul hlast hnil htd hok hu01
  have FX := Lib.hid (Facts.add (Facts.add (Facts.add (Facts.none w1) (sSince w) hb1) (sOwn foundL w.heap.size 34 (fun _ => False) a1 l0 c1 fs) hf1.out) (sOwn recL w.heap.size 106 (fun _ => False) a2 l2 c2 s.log) hr1.out)
  have hc2 := hr1.out.hle
  have hm2 := hr1.out.hmax
  have hc1 := hf1.out.hle
  have hm1 := hf1.out.hmax
  unfold maxLen at hm2 hm1
  clear hd1 hf1 hr1 hb1
  obtain ⟨q2, _, hv2, hp2, hl2, _⟩ := (FX.out).1.whole
  have V2 := Lib.hid hv2
  have P2 := Lib.hid (show Pt recL w1 (fun _ => False) s.log q2 from hp2)
  have L2 := Lib.hid hl2
  clear hv2 hp2 hl2
  go_wp2_with (at_builtin; refine wpList_append_data (L := recL) rfl (.const (.slice none 0 0)) (.tmp 32) 26 rfl w1.heap.size 106 _ 24 Try.underlying26 info_rec rfl (fun _ => False) none 0 0 [] rfl (SOwn.nil ..) a2 l2 c2 s.log q2 rfl V2.out (fun _ => False) P2.out L2.out (fun b h => h.elim) (by unfold maxLen; omega) (by omega) (Nat.le_refl _) ?_)
  intro a3 c3 w2 hown2 hg2
  have hb2 : Below w1.heap.size w1 w2 := (SOwn.nil recL w1 w1.heap.size 106 (fun _ => False)).grown (Below.refl _ _) (Nat.le_refl _) (Nat.le_refl _) hg2
  have R2 : Hid (SRow recL w2 (fun _ => True) a3 l2 c3 s.log) := by
    have h := hown2.sRow
    exact h
  replace FX := Lib.hid (FX.out.below hb2)
  clear hown2 hg2 hb2 V2 P2 L2
  go_wp2_with fail
  refine (replay n (fun _ => True) a3 l2 c3 s.log w2 R2.out HOK.out hn1 hn2 (by omega)).mono ?_
  rintro e w3 ⟨a4, l4, c4, rfl, hrest, hb3⟩
  rw [HRP.out] at hrest
  replace FX := Lib.hid ((FX.out.below hb3).add (sOwn rangeL w2.heap.size 95 (fun _ => False) a4 l4 c4 (runs (· == 0) us)) hrest.out)
  clear hrest hb3 R2
  obtain ⟨q4, _, hv4, hp4, hl4, _⟩ := (FX.out).2.1.whole
  have V4 := Lib.hid hv4
  have P4 := Lib.hid (show Pt recL w3 (fun _ => False) s.log q4 from hp4)
  have L4 := Lib.hid hl4
  clear hv4 hp4 hl4
  go_wp2_with (at_builtin; refine wpList_append_data (L := recL) rfl (.const (.slice none 0 0)) (.tmp 39) 26 rfl w3.heap.size 106 _ 24 Try.underlying26 info_rec rfl (fun _ => False) none 0 0 [] rfl (SOwn.nil ..) a2 l2 c2 s.log q4 rfl V4.out (fun _ => False) P4.out L4.out (fun b h => h.elim) (by unfold maxLen; omega) (by omega) (Nat.le_refl _) ?_)
  intro a5 c5 w4 hown4 hg4
  have hb4 : Below w3.heap.size w3 w4 := (SOwn.nil recL w3 w3.heap.size 106 (fun _ => False)).grown (Below.refl _ _) (Nat.le_refl _) (Nat.le_refl _) hg4
  have R4 : Hid (SRow recL w4 (fun _ => True) a5 l2 c5 s.log) := by
    have h := hown4.sRow
    exact h
  replace FX := Lib.hid (FX.out.below hb4)
  clear hown4 hg4 hb4 V4 P4 L4
  go_wp2_with fail
  refine (condense n (fun _ => True) a5 l2 c5 s.log w4 R4.out HOK.out hn1 hn2 (by omega)).mono ?_
  rintro e w5 ⟨a6, l6, c6, rfl, hfew, hb5⟩
  rw [HRP.out] at hfew
  have hl6 : 2 * l6 ≤ n + 1 := by
    have h1 := hfew.out.1
    have h2 := runs_half (· == 1) us
    rw [condensed, List.length_map] at h1
    have := HUL.out
    omega
  have hc6 := hfew.out.hle
  have hm6 := hfew.out.hmax
  unfold maxLen at hm6
  replace FX := Lib.hid (FX.out.below hb5)
  have R5 := Lib.hid hfew.out.sRow
  clear hb5 R4
  go_wp2_with fail
  refine (replay n (fun _ => True) a6 l6 c6 (condensed us) w5 R5.out HCO.out hn1 hn2 (by omega)).mono ?_
  rintro e w6 ⟨a7, l7, c7, rfl, hag, hb6⟩
  rw [HCR.out] at hag
  replace FX := Lib.hid ((FX.out.below hb6).add (sOwn rangeL w5.heap.size 95 (fun _ => False) a7 l7 c7 (runs (· == 0) us)) hag.out)
  clear hag hb6 R5 hfew
  have hap := runs_apart (· == 0) us
  have hin : RunsIn n (runs (· == 0) us) := by rw [← HUL.out]; exact runs_in _ _
  have hl4 : l4 ≤ 101 := by
    have h1 := FX.out.2.1.1
    have h2 := runs_length (· == 0) us
    have := HUL.out
    omega
  have hspan := span_runs (· == 0) us
  rw [HLE.out] at hspan
  obtain ⟨rs0, hrs0⟩ : ∃ rs0, Hid (runs (· == 0) us = rs0) := ⟨_, rfl⟩
  rw [hrs0.out] at hap hin hspan FX
  have HAP := Lib.hid hap
  have HIN := Lib.hid hin
  have HSP := Lib.hid hspan
  have b6 : decide (2 * l6 ≤ n + 1) = true := by simp; omega
  have b6' : decide ((2 : Int) * (l6 : Int) ≤ (n : Int) + 1) = true := by simp; omega
  clear hap hin hspan
  obtain ⟨sl, hsl⟩ : ∃ sl, Hid (s.left = sl) := ⟨_, rfl⟩
  rw [hsl.out] at HSP HLA HNI hlb
  have fin : ∀ (W : World) (Q : Exit → Act → World → Prop) , True := fun _ _ => trivial
  clear fin
  by_cases h0 : l0 = 0
  · have hsn := HNI.out h0
    subst h0
    have hsn' : Hid (sl = (n : Int)) := hsn
    rw [hsn'.out] at HSP
    clear hsn
    go_wp2_with fail
    refine (may n (fun _ => True) a4 l4 c4 rs0 _ FX.out.2.1.sRow HAP.out HIN.out (by omega) (by omega)).mono ?_
    rintro e w7 ⟨rfl, hb7⟩
    replace FX := Lib.hid (FX.out.below hb7)
    go_wp2_with fail
    refine (size n (fun _ => True) a4 l4 c4 rs0 _ FX.out.2.1.sRow HAP.out HIN.out (by omega) (by omega)).mono ?_
    rintro e w8 ⟨rfl, hb8⟩
    rw [HSP.out]
    replace FX := Lib.hid (FX.out.below hb8)
    clear hb7 hb8
    go_wp2_with fail
    refine (sameRanges (fun _ => True) (fun _ => True) a4 l4 c4 a7 l7 c7 rs0 _ FX.out.2.1.sRow FX.out.1.sRow).mono ?_
    rintro e w9 ⟨rfl, hb9⟩
    replace FX := Lib.hid (FX.out.below hb9)
    clear hb9
    go_wp2_with fail
    go_ret
    exact ⟨rfl, FX.out.2.2.2.2.1⟩
  · obtain ⟨m, rfl⟩ : ∃ m, l0 = m + 1 := ⟨l0 - 1, by omega⟩
    obtain ⟨gf, vf, rfl, _, hgfl, ⟨⟨fc, ff, fl⟩, hxf, hatf⟩, hcf⟩ := FX.out.2.2.2.1.get m (by omega)
    have hvf : vf = [.int .i64 (fc : Int), .int .i64 (ff : Int), .int .i64 fl] := hatf
    subst hvf
    have hfl := HLA.out m hdl.out _ hxf
    have e2 : w6.cell? ⟨gf, m * 3 + 2, none⟩ = some (.int .i64 fl) := hcf 2 (by decide)
    simp only at hfl
    have HFL : Hid (fl = sl) := hfl
    rw [HFL.out] at e2
    have hmi : (m : Int) < (m : Int) + 1 := by omega
    clear hcf hatf hxf hfl h0
    go_wp2_with fail
    refine (may n (fun _ => True) a4 l4 c4 rs0 _ FX.out.2.1.sRow HAP.out HIN.out (by omega) (by omega)).mono ?_
    rintro e w7 ⟨rfl, hb7⟩
    replace FX := Lib.hid (FX.out.below hb7)
    go_wp2_with fail
    refine (size n (fun _ => True) a4 l4 c4 rs0 _ FX.out.2.1.sRow HAP.out HIN.out (by omega) (by omega)).mono ?_
    rintro e w8 ⟨rfl, hb8⟩
    rw [HSP.out]
    replace FX := Lib.hid (FX.out.below hb8)
    clear hb7 hb8
    go_wp2_with fail
    refine (sameRanges (fun _ => True) (fun _ => True) a4 l4 c4 a7 l7 c7 rs0 _ FX.out.2.1.sRow FX.out.1.sRow).mono ?_
    rintro e w9 ⟨rfl, hb9⟩
    replace FX := Lib.hid (FX.out.below hb9)
    clear hb9
    go_wp2_with fail
    go_ret
    exact ⟨rfl, FX.out.2.2.2.2.1⟩
end Go.Proofs.Yteidmdakglkkfaa
