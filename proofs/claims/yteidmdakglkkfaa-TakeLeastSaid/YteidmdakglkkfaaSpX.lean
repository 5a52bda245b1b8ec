/- The law TakeLeast, walked. -/
import Derived.Test.YteidmdakglkkfaaSpV
namespace Go.Proofs.Yteidmdakglkkfaa
open Go.RowKit Go.Sort
set_option linter.unusedVariables false

set_option maxRecDepth 100000 in
set_option maxHeartbeats 8000000 in
theorem takeLeast (F : Nat → Prop) (a : Option Addr) (len cap : Nat) (ws : List Wish) (nn kc : Int) (w : World) (ha : SRow wishL w F a len cap ws) :
    Calls Try.prog 5 #[.slice a len cap, .int .i64 nn, .int .i64 kc] w fun e w' => e = .returned (.bool true) ∧ Below w.heap.size w w' := by
  go_enter Try.func5, Try.ntmps5
  go_wp2_with fail
  refine (picked _ _ _ (by omega) (by omega)).mono ?_
  rintro e w' ⟨r, hr, hr0, hr1, rfl, rfl⟩
  clear hr
  obtain ⟨r, rfl⟩ := Int.eq_ofNat_of_zero_le hr0
  go_wp2_with fail
  obtain ⟨n, hn⟩ : ∃ n : Nat, Hid ((1 : Int) + (r : Int) = (n : Int)) := ⟨1 + r, by show _ = _; omega⟩
  have hn1 : 1 ≤ n := by have := hn.out; omega
  have hn2 : n ≤ 100 := by have := hn.out; omega
  rw [hn.out]
  clear hr0 hr1 hn
  refine (deeds n 40 F a len cap ws w ha hn1 hn2 (by omega)).mono ?_
  rintro e w1 ⟨ds, a0, l0, c0, a1, c1, a2, l2, c2, rfl, hl0, hds, hd1, hf1, hr1, hb1⟩
  have hdl : Hid (ds.length = l0) := hd1.out.1
  have hok := Sp.Ok.play ds (Sp.Ok.new n)
  have htd := told_play ds (told_new n) (Sp.Ok.new n)
  have hll : l2 ≤ 520 := by
    have h1 := new_few (n := n) ds hds.out
    have h2 : ((Sp.new n).play ds).1.log.length = l2 := hr1.out.1
    have := hdl.out
    omega
  have hlast := fun k h x hx => last_left n ds k h (x := x) hx
  obtain ⟨fs, hfs⟩ : ∃ fs, Hid (((Sp.new n).play ds).2 = fs) := ⟨_, rfl⟩
  have hnil : l0 = 0 → ((Sp.new n).play ds).1.left = n := fun h0 => by
    have : ds = [] := List.eq_nil_of_length_eq_zero (by rw [hdl.out, h0])
    subst this; rfl
  obtain ⟨s, hs⟩ : ∃ s, Hid (((Sp.new n).play ds).1 = s) := ⟨_, rfl⟩
  rw [hfs.out] at hf1 hlast
  rw [hs.out] at hr1 hok htd hlast hnil
  have HLA := Lib.hid hlast
  have HNI := Lib.hid hnil
  obtain ⟨us, hus⟩ : ∃ us, Hid (s.us.map tk = us) := ⟨_, rfl⟩
  have hrp : rpl (noughts n) s.log = us := by rw [htd.is, hus.out]
  have hul : us.length = n := by rw [← hus.out, List.length_map]; exact hok.len
  have hu01 : ∀ j, us.getD j 0 ≤ 1 := fun j => by rw [← hus.out]; exact tk_le _ _
  have hcond := condensed_ok n us hul hu01
  have hleft : ((cnt (· == 0) us : Nat) : Int) = s.left := by rw [← hus.out, cnt_tk, hok.left]
  have HRP := Lib.hid hrp
  have HOK := Lib.hid htd.ok
  have HCO := Lib.hid hcond.1
  have HCR := Lib.hid hcond.2
  have HLE := Lib.hid hleft
  have HUL := Lib.hid hul
  have hlb := hok.bound
  clear hrp hcond hleft hul hlast hnil htd hok hu01
  have hslen : s.us.length = n := by have := HUL.out; rw [← hus.out, List.length_map] at this; exact this
  have HSL := Lib.hid hslen
  clear hslen
  have FX := Lib.hid (Facts.add (Facts.add (Facts.add (Facts.none w1) (sSince w) hb1) (sOwn deedL w.heap.size 31 (fun _ => False) a0 l0 c0 ds) hd1.out) (sOwn recL w.heap.size 106 (fun _ => False) a2 l2 c2 s.log) hr1.out)
  have hc2 := hr1.out.hle
  have hm2 := hr1.out.hmax
  have hc0 := hd1.out.hle
  have hm0 := hd1.out.hmax
  unfold maxLen at hm2 hm0
  clear hd1 hf1 hr1 hb1 HLA HNI HLE HCO HCR hfs
  go_wp2_with fail
  refine (picked _ _ _ (by omega) (by omega)).mono ?_
  rintro e w' ⟨k, hk, hk0, hk1, rfl, rfl⟩
  clear hk
  obtain ⟨k, rfl⟩ := Int.eq_ofNat_of_zero_le hk0
  obtain ⟨K, hK1, hK2, hkk⟩ : ∃ K : Nat, 1 ≤ K ∧ K ≤ n ∧ Hid ((1 : Int) + (k : Int) = (K : Int)) := ⟨1 + k, by omega, by omega, by show _ = _; omega⟩
  have hkb : k ≤ 100 := by omega
  clear hk0 hk1
  obtain ⟨q2, _, hv2, hp2, hl2, _⟩ := (FX.out).1.whole
  have V2 := Lib.hid hv2
  have P2 := Lib.hid (show Pt recL w1 (fun _ => False) s.log q2 from hp2)
  have L2 := Lib.hid hl2
  clear hv2 hp2 hl2
  go_wp2_with (at_builtin; refine wpList_append_data (L := recL) rfl (.const (.slice none 0 0)) (.tmp 41) 26 rfl w1.heap.size 106 _ 24 Try.underlying26 info_rec rfl (fun _ => False) none 0 0 [] rfl (SOwn.nil ..) a2 l2 c2 s.log q2 rfl V2.out (fun _ => False) P2.out L2.out (fun b h => h.elim) (by unfold maxLen; omega) (by omega) (Nat.le_refl _) ?_)
  intro a3 c3 w2 hown2 hg2
  have hb2 : Below w1.heap.size w1 w2 := (SOwn.nil recL w1 w1.heap.size 106 (fun _ => False)).grown (Below.refl _ _) (Nat.le_refl _) (Nat.le_refl _) hg2
  have R2 : Hid (SRow recL w2 (fun _ => True) a3 l2 c3 s.log) := by
    have h := hown2.sRow
    exact h
  replace FX := Lib.hid (FX.out.below hb2)
  clear hown2 hg2 hb2 V2 P2 L2
  go_wp2_with fail
  refine (replay n (fun _ => True) a3 l2 c3 s.log w2 R2.out HOK.out hn1 hn2 (by omega)).mono ?_
  rintro e w3 ⟨a4, l4, c4, rfl, hrest, hb3⟩
  rw [HRP.out] at hrest
  replace FX := Lib.hid ((FX.out.below hb3).add (sOwn rangeL w2.heap.size 95 (fun _ => False) a4 l4 c4 (runs (· == 0) us)) hrest.out)
  clear hrest hb3 R2
  have hap := runs_apart (· == 0) us
  have hin : RunsIn n (runs (· == 0) us) := by rw [← HUL.out]; exact runs_in _ _
  have hl4 : l4 ≤ 101 := by
    have h1 := FX.out.1.1
    have h2 := runs_length (· == 0) us
    have := HUL.out
    omega
  have hfit := fit s.us K hK1
  rw [hus.out] at hfit
  obtain ⟨rs0, hrs0⟩ : ∃ rs0, Hid (runs (· == 0) us = rs0) := ⟨_, rfl⟩
  rw [hrs0.out] at hap hin hfit FX
  have htf := take_finds s K hK1 (by rw [HSL.out]; exact hK2)
  obtain ⟨FR, hFR⟩ : ∃ FR, Hid (findRow K 0 0 s.us = FR) := ⟨_, rfl⟩
  rw [hFR.out] at hfit htf
  have HAP := Lib.hid hap
  have HIN := Lib.hid hin
  have HFI := Lib.hid hfit
  have HTF := Lib.hid htf
  clear hap hin hfit htf
  go_wp2_with fail
  rw [hkk.out]
  refine (first n (fun _ => True) a4 l4 c4 rs0 K _ FX.out.1.sRow HAP.out HIN.out (by omega) (by omega) (by omega)).mono ?_
  rw [HFI.out]
  rintro e w5 ⟨hfe, hb5⟩
  replace FX := Lib.hid (FX.out.below hb5)
  have HFE := Lib.hid hfe
  clear hb5 hfe
  obtain ⟨fa, fe, he2, hfa⟩ : ∃ (fa fe : Nat), e = .returned (.tuple #[.int .i64 (fa : Int), .int .i64 (fe : Int)]) ∧ Hid ((FR = none ∧ fa = 0 ∧ fe = 6) ∨ (∃ f, FR = some f ∧ fa = f ∧ fe = 0)) := by
    have h := HFE.out
    revert h
    cases FR with
    | none => intro h; exact ⟨0, 6, h, .inl ⟨rfl, rfl, rfl⟩⟩
    | some f => intro h; exact ⟨f, 0, h, .inr ⟨f, rfl, rfl, rfl⟩⟩
  clear HFE
  subst he2
  obtain ⟨q6, _, hv6, hp6, hl6, _⟩ := FX.out.2.2.1.whole
  have V6 := Lib.hid hv6
  have P6 := Lib.hid (show Pt deedL w5 (fun _ => False) ds q6 from hp6)
  have L6 := Lib.hid hl6
  clear hv6 hp6 hl6
  go_wp2_with (at_builtin; refine wpList_append_data (L := deedL) rfl (.const (.slice none 0 0)) (.tmp 52) 24 rfl w5.heap.size 31 _ 24 Try.underlying24 info_deed rfl (fun _ => False) none 0 0 [] rfl (SOwn.nil ..) a0 l0 c0 ds q6 rfl V6.out (fun _ => False) P6.out L6.out (fun b h => h.elim) (by unfold maxLen; omega) (by omega) (Nat.le_refl _) ?_)
  intro a6 c6 w6 hown6 hg6
  have hb6 : Below w5.heap.size w5 w6 := (SOwn.nil deedL w5 w5.heap.size 31 (fun _ => False)).grown (Below.refl _ _) (Nat.le_refl _) (Nat.le_refl _) hg6
  have O6 : Hid (SOwn deedL w6 w5.heap.size 31 (fun _ => False) a6 l0 c6 ds) := by
    have h := hown6
    exact h
  have hs6 := hb6.size
  have hc6 := O6.out.hle
  have hm6 := O6.out.hmax
  unfold maxLen at hm6
  clear hown6 hg6 V6 P6 L6
  go_wp2_with (at_builtin; refine wpList_append_one (L := deedL) rfl (.tmp 53) (.tmp 56) 24 rfl w5.heap.size 31 _ 24 Try.underlying24 info_deed rfl (fun _ => False) a6 l0 c6 ds rfl O6.out #[.int .i64 1, .int .i64 0, .int .i64 K] ⟨1, 0, K⟩ rfl (fun _ => False) rfl (fun b h => h.elim) (by unfold maxLen; omega) (by omega) hs6 ?_)
  intro a7 c7 w7 hown7 hg7
  have hb7 := O6.out.grown hb6 (Nat.le_refl _) hs6 hg7
  replace FX := Lib.hid (FX.out.below hb7)
  have R7 := Lib.hid hown7.sRow
  have hds7 : Hid (∀ x ∈ ds ++ [⟨1, 0, (K : Int)⟩], DeedOk x) := fun x hx => by
    rcases List.mem_append.1 hx with h | h
    · exact (hds.out x h).ok
    · rw [List.mem_singleton] at h; rw [h]; unfold DeedOk; simp; omega
  clear hown7 hg7 hb6 hb7 O6
  go_wp2_with fail
  refine (sp_play n (fun _ => True) _ _ _ (ds ++ [⟨1, 0, (K : Int)⟩]) _ R7.out hds7.out hn1 (by omega) (by omega)).mono ?_
  rintro e w8 ⟨a8, c8, a9, l9, c9, rfl, hF8, _, hb8⟩
  replace FX := Lib.hid ((FX.out.below hb8).add (sOwn foundL w7.heap.size 34 (fun _ => False) a8 (l0 + 1) c8 _) hF8.out)
  have hc8 := hF8.out.hle
  have hm8 := hF8.out.hmax
  unfold maxLen at hm8
  clear hF8 hb8 R7
  go_wp2_with fail
  refine (may n (fun _ => True) a4 l4 c4 rs0 _ FX.out.2.1.sRow HAP.out HIN.out (by omega) (by omega)).mono ?_
  rintro e w10 ⟨rfl, hb10⟩
  replace FX := Lib.hid (FX.out.below hb10)
  clear hb10
  obtain ⟨g5, vs5, rfl, _, hg5l, ⟨x5, hx5, hat5⟩, hcell5⟩ := FX.out.1.get l0 (by omega)
  rw [← hdl.out] at hx5
  have hx5' := last_found _ _ _ hx5
  rw [hs.out] at hx5'
  obtain ⟨fc, ff, fl⟩ := x5
  have hvs5 : vs5 = [.int .i64 (fc : Int), .int .i64 (ff : Int), .int .i64 fl] := hat5
  subst hvs5
  have hfc : fc = (s.step ⟨1, 0, K⟩).2.code := by rw [← hx5']
  have hff : ff = (s.step ⟨1, 0, K⟩).2.from_ := by rw [← hx5']
  have u0 : w10.cell? ⟨g5, l0 * 3, none⟩ = some (.int .i64 fc) := hcell5 0 (by decide)
  have u1 : w10.cell? ⟨g5, l0 * 3 + 1, none⟩ = some (.int .i64 ff) := hcell5 1 (by decide)
  have u2 : w10.cell? ⟨g5, l0 * 3 + 2, none⟩ = some (.int .i64 fl) := hcell5 2 (by decide)
  have hli : (l0 : Int) < (l0 : Int) + 1 := by omega
  have HH : Hid ((fa = 0 ∧ fe = 6 ∧ fc = 8 ∧ ff = 0) ∨ (fe = 0 ∧ fc = 0 ∧ ff = fa)) := by
    have h1 := HTF.out
    rcases hfa.out with ⟨rfl, h2, h3⟩ | ⟨f, rfl, h2, h3⟩
    · exact .inl ⟨h2, h3, by rw [hfc]; exact h1.1, by rw [hff]; exact h1.2⟩
    · exact .inr ⟨h3, by rw [hfc]; exact h1.1, by rw [hff, h2]; exact h1.2⟩
  clear hcell5 hat5 hx5 hx5' hfc hff hfa HTF
  rcases HH.out with ⟨rfl, rfl, rfl, rfl⟩ | ⟨rfl, rfl, rfl⟩
  · go_wp2_with fail
    go_ret
    exact ⟨rfl, FX.out.2.2.2.2.1.alloc FX.out.2.2.2.2.1.size _⟩
  · go_wp2_with fail
    go_ret
    exact ⟨rfl, FX.out.2.2.2.2.1.alloc FX.out.2.2.2.2.1.size _⟩
end Go.Proofs.Yteidmdakglkkfaa
