/- The law GiveBack, walked. -/
import Derived.Test.YteidmdakglkkfaaSpB
namespace Go.Proofs.Yteidmdakglkkfaa
open Go.RowKit Go.Sort
set_option linter.unusedVariables false

theorem info_boolr : (Try.prog.info? 4).map (fun i => (i.zero, i.size, i.bytes)) = some (some (.bool false), 1, 1) := by kernel_rfl
/-- which units are taken, as the law notes them -/
def bv (us : List Nat) : Array Value := (us.map fun u => Value.bool (u == 1)).toArray
theorem bv_get (us : List Nat) (i : Nat) (h : i < us.length) : (bv us)[i]? = some (.bool (us.getD i 0 == 1)) := by simp [bv, List.getD, h]
theorem bv_set (us : List Nat) (i v : Nat) : (bv us).setIfInBounds i (.bool (v == 1)) = bv (us.set i v) := by simp [bv, List.map_set]
theorem bv_later (us : List Nat) : bv (us.map later) = bv us := by
  unfold bv
  rw [List.map_map]
  congr 2
  funext u
  show Value.bool (later u == 1) = Value.bool (u == 1)
  congr 1
  unfold later
  split
  · rename_i h; subst h; rfl
  · split
    · rename_i h; subst h; rfl
    · rfl
theorem vrow_two {w w0 : World} (e : TypeId) (a b c a' b' c' : Value) (hw : w = w0.alloc (.cells #[a, b, c, a', b', c'] e)) : VRow w 3 (some ⟨w0.heap.size, 0, none⟩) 2 2 ([[a, b, c], [a', b', c']] : List (List Value)).flatten := by
  refine ⟨rfl, Nat.le_refl _, by unfold maxLen; omega, (fun h => by cases h), .inr ⟨w0.heap.size, 0, rfl, fun i hi => ?_⟩⟩
  subst hw
  rw [Nat.zero_add, cell_of_row _ _ i #[a, b, c, a', b', c'] e (0, 0) (heap_alloc_new w0 _)]
  simp
theorem two_commits (w : World) : Pt deedL w (fun _ => False) [⟨3, 0, 0⟩, ⟨3, 0, 0⟩] [[.int .i64 3, .int .i64 0, .int .i64 0], [.int .i64 3, .int .i64 0, .int .i64 0]] :=
  ⟨rfl, fun i y us hy hu => by
    match i with
    | 0 => cases hy; cases hu; rfl
    | 1 => cases hy; cases hu; rfl
    | i + 2 => cases hy⟩
set_option maxRecDepth 100000 in
set_option maxHeartbeats 16000000 in
theorem giveBack (F : Nat → Prop) (a : Option Addr) (len cap : Nat) (ws : List Wish) (nn : Int) (w : World) (ha : SRow wishL w F a len cap ws) :
    Calls Try.prog 4 #[.slice a len cap, .int .i64 nn] w fun e w' => e = .returned (.bool true) ∧ Below w.heap.size w w' := by
  go_enter Try.func4, Try.ntmps4
  go_wp2_with fail
  refine (picked _ _ _ (by omega) (by omega)).mono ?_
  rintro e w' ⟨r, hr, hr0, hr1, rfl, rfl⟩
  clear hr
  obtain ⟨r, rfl⟩ := Int.eq_ofNat_of_zero_le hr0
  go_wp2_with fail
  obtain ⟨n, hn⟩ : ∃ n : Nat, Hid ((1 : Int) + (r : Int) = (n : Int)) := ⟨1 + r, by show _ = _; omega⟩
  have hn1 : 1 ≤ n := by have := hn.out; omega
  have hn2 : n ≤ 100 := by have := hn.out; omega
  rw [hn.out]
  clear hr0 hr1 hn
  refine (deeds n 40 F a len cap ws w ha hn1 hn2 (by omega)).mono ?_
  rintro e w1 ⟨ds, a0, l0, c0, a1, c1, a2, l2, c2, rfl, hl0, hds, hd1, hf1, _, hb1⟩
  go_wp2_with (at_make; refine wpList_make_zeros rfl (.tmp 34) (.tmp 34) 38 rfl 4 (.bool false) 1 Try.underlying38 info_boolr rfl .i64 .i64 (n : Int) (n : Int) n rfl rfl rfl rfl (by omega) (by unfold maxLen; omega) ?_)
  intro w2 hoz hb2
  have hs2 : Box w2 w1.heap.size (bv (Sp.new n).us) 4 := by
    have := hoz.box
    rwa [show (List.replicate n (Value.bool false)).toArray = bv (Sp.new n).us by simp [bv, Sp.new]] at this
  obtain ⟨gs, hgs⟩ : ∃ g, Hid (w1.heap.size = g) := ⟨_, rfl⟩
  rw [hgs.out] at hs2
  rw [hgs.out]
  have HS1 := Lib.hid hs2
  have HD1 := Lib.hid (hd1.out.below hb2)
  have HF1 := Lib.hid (hf1.out.below hb2)
  have HB1 := Lib.hid (Below_next hb1 hb2)
  have hgsw : Hid (w.heap.size ≤ gs) := by have := hb1.size; have := hgs.out; show _ ≤ _; omega
  have hdl : Hid (ds.length = l0) := hd1.out.1
  have hc0 := HD1.out.hle
  have hm0 := HD1.out.hmax
  have hc1 := HF1.out.hle
  have hm1 := HF1.out.hmax
  unfold maxLen at hm0 hm1
  clear hoz hs2 hd1 hf1 hb2 hb1
  obtain ⟨q2, _, hv2, hp2, hl2, _⟩ := HD1.out.whole
  have V2 := Lib.hid hv2
  have P2 := Lib.hid (show Pt deedL w2 (fun _ => False) ds q2 from hp2)
  have L2 := Lib.hid hl2
  clear hv2 hp2 hl2
  obtain ⟨BM, hBM⟩ : ∃ g, Hid (w2.heap.size = g) := ⟨_, rfl⟩
  have hgB : gs < BM := by have := HS1.out.lt; have := hBM.out; omega
  go_wp2_with (at_builtin; refine wpList_append_data (L := deedL) rfl (.const (.slice none 0 0)) (.tmp 36) 24 rfl w2.heap.size 31 _ 24 Try.underlying24 info_deed rfl (fun _ => False) none 0 0 [] rfl (SOwn.nil ..) a0 l0 c0 ds q2 rfl V2.out (fun _ => False) P2.out L2.out (fun b h => h.elim) (by unfold maxLen; omega) (by omega) (Nat.le_refl _) ?_)
  intro a3 c3 w3 hown3 hg3
  have hb3 : Below w2.heap.size w2 w3 := (SOwn.nil deedL w2 w2.heap.size 31 (fun _ => False)).grown (Below.refl _ _) (Nat.le_refl _) (Nat.le_refl _) hg3
  have HS2 := Lib.hid (HS1.out.below hb3 HS1.out.lt)
  have HD2 := Lib.hid (HD1.out.below hb3)
  have HF2 := Lib.hid (HF1.out.below hb3)
  have HB2 := Lib.hid (Below_next HB1.out hb3)
  have HM2 : Hid (SOwn deedL w3 BM 31 (fun _ => False) a3 l0 c3 ds) := by
    have h := hown3
    rw [hBM.out] at h
    exact h
  have hs3 : BM ≤ w3.heap.size := by have := hb3.size; have := hBM.out; omega
  clear hown3 hg3 hb3 V2 P2 L2 HS1 HD1 HF1 HB1 hBM
  have hc3 := HM2.out.hle
  have hm3 := HM2.out.hmax
  unfold maxLen at hm3
  obtain ⟨V, rfl⟩ : ∃ V : World, V = w3 := ⟨_, rfl⟩
  go_wp2_with fail
  go_loopw [12] (fun iv wr => ∃ i : Nat, i ≤ l0 ∧ iv = .int .i64 i ∧ Hid (Box wr gs (bv ((Sp.new n).play (ds.take i)).1.us) 4) ∧ Hid (V.grownBy wr (some gs))) (fun iv _ => l0 - (intOf iv).toNat)
  case atStart => exact ⟨0, by omega, rfl, HS2.out, World.grownBy.refl _ _⟩
  case round =>
    obtain ⟨i, hi, rfl, hbs, hgr⟩ := hrel
    have HDr := Lib.hid (HD2.out.only hgr.out HS2.out (by decide))
    have HFr := Lib.hid (HF2.out.only hgr.out HS2.out (by decide))
    by_cases hlt : i < l0
    · have hid : i < ds.length := by have := hdl.out; omega
      obtain ⟨gd, vs, rfl, _, hgdl, ⟨⟨dk, df, dc⟩, hxd, hatd⟩, hcd⟩ := HDr.out.get i hlt
      have hvd : vs = [.int .i64 dk, .int .i64 df, .int .i64 dc] := hatd
      subst hvd
      obtain ⟨gf, vf, rfl, _, hgfl, ⟨⟨fc, ff, fl⟩, hxf, hatf⟩, hcf⟩ := HFr.out.get i hlt
      have hvf : vf = [.int .i64 (fc : Int), .int .i64 (ff : Int), .int .i64 fl] := hatf
      subst hvf
      have d0 : wr.cell? ⟨gd, i * 3, none⟩ = some (.int .i64 dk) := hcd 0 (by decide)
      have d1 : wr.cell? ⟨gd, i * 3 + 1, none⟩ = some (.int .i64 df) := hcd 1 (by decide)
      have d2 : wr.cell? ⟨gd, i * 3 + 2, none⟩ = some (.int .i64 dc) := hcd 2 (by decide)
      have e0 : wr.cell? ⟨gf, i * 3, none⟩ = some (.int .i64 fc) := hcf 0 (by decide)
      have e1 : wr.cell? ⟨gf, i * 3 + 1, none⟩ = some (.int .i64 ff) := hcf 1 (by decide)
      have hpg := play_get (Sp.new n) ds i hid hxf
      have hpt := play_take1 (Sp.new n) ds i hid
      rw [List.getElem?_eq_getElem hid] at hxd
      injection hxd with hxd
      rw [hxd] at hpg hpt
      have hok : ((Sp.new n).play (ds.take i)).1.Ok n := Sp.Ok.play _ (Sp.Ok.new n)
      have hdi := hds.out _ (List.getElem_mem hid)
      rw [hxd] at hdi
      obtain ⟨s, hs⟩ : ∃ s, Hid (((Sp.new n).play (ds.take i)).1 = s) := ⟨_, rfl⟩
      rw [hs.out] at hpg hpt hok hbs
      have hsd := fun h => step_done hok hdi h
      have hsr := step_refused s ⟨dk, df, dc⟩
      have hfc : fc = (s.step ⟨dk, df, dc⟩).2.code := by
        have : (Found.mk fc ff fl).code = ((s.step ⟨dk, df, dc⟩).2).code := by rw [hpg]
        exact this
      have hff : ff = (s.step ⟨dk, df, dc⟩).2.from_ := by
        have : (Found.mk fc ff fl).from_ = ((s.step ⟨dk, df, dc⟩).2).from_ := by rw [hpg]
        exact this
      rw [← hfc, ← hff] at hsd
      rw [← hfc] at hsr
      obtain ⟨s', hs'⟩ : ∃ s', Hid ((s.step ⟨dk, df, dc⟩).1 = s') := ⟨_, rfl⟩
      rw [hs'.out] at hsd hsr hpt
      have hdc0 : dk = 3 → dc = 0 := by
        intro h
        rcases hdi with ⟨h1, _⟩ | ⟨h1, _⟩ | ⟨_, _, h1⟩
        · exact absurd (show dk = 1 from h1) (by omega)
        · exact absurd (show dk = 2 from h1) (by omega)
        · exact h1
      have HDC := Lib.hid hdc0
      have HSD := Lib.hid hsd
      have HSR := Lib.hid hsr
      have HPT := Lib.hid hpt
      have hlen := hok.len
      have HG0 := Lib.hid hgr.out
      have hngf : gf ≠ gs := fun e => HFr.out.apart hbs.out (by decide) (by rw [e]; rfl)
      have hngd : gd ≠ gs := fun e => HDr.out.apart hbs.out (by decide) (by rw [e]; rfl)
      have HS := Lib.hid hbs.out
      have HLN := Lib.hid hlen
      clear hdc0 hlen hsd hsr hpt hok hfc hff hpg hdi hs hs' hcd hcf hatd hatf hxd hxf hbs hgr HDr HFr
      by_cases hc : fc = 0
      · subst hc
        have hz : ((0 : Nat) : Int) = 0 := rfl
        rw [hz] at e0
        clear hz
        have hsd := HSD.out rfl
        clear HSD HSR
        obtain ⟨W1, hW1⟩ : ∃ W : World, W = wr := ⟨_, rfl⟩
        rw [← hW1] at d0 d1 d2 e0 e1 HG0 HS ⊢
        clear hW1
        rcases hsd with ⟨cn, rfl, rfl, hcn, hfn, hz, hus⟩ | ⟨fn, cn, rfl, rfl, rfl, hcn, hfn, hz, hus⟩ | ⟨rfl, hus⟩
        · have HUS := Lib.hid hus
          clear hus hz HDC
          go_wp2_with fail
          go_loopw [13] (fun kv wx => ∃ k : Nat, k ≤ cn ∧ kv = .int .i64 k ∧ Hid (Box wx gs (bv (setR s.us ff (ff + k) 1)) 4) ∧ Hid (W1.grownBy wx (some gs))) (fun kv _ => cn - (intOf kv).toNat)
          case atStart => exact ⟨0, by omega, rfl, by rw [Nat.add_zero, setR_nil]; exact HS.out, World.grownBy.refl _ _⟩
          case round =>
            obtain ⟨k, hk, rfl, hbx, hgx⟩ := hrel
            have u0 : wr.cell? ⟨gd, i * 3, none⟩ = some (.int .i64 1) := hgx.out.cell d0 (by intro e; exact hngd (by injection e))
            have u1 : wr.cell? ⟨gd, i * 3 + 1, none⟩ = some (.int .i64 df) := hgx.out.cell d1 (by intro e; exact hngd (by injection e))
            have u2 : wr.cell? ⟨gd, i * 3 + 2, none⟩ = some (.int .i64 cn) := hgx.out.cell d2 (by intro e; exact hngd (by injection e))
            have x0 : wr.cell? ⟨gf, i * 3, none⟩ = some (.int .i64 0) := hgx.out.cell e0 (by intro e; exact hngf (by injection e))
            have x1 : wr.cell? ⟨gf, i * 3 + 1, none⟩ = some (.int .i64 ff) := hgx.out.cell e1 (by intro e; exact hngf (by injection e))
            by_cases hkc : k < cn
            · have hlen := HLN.out
              have hfk : ff + k < s.us.length := by omega
              have u3 : wr.cell? ⟨gs, ff + k, none⟩ = some (.bool ((setR s.us ff (ff + k) 1).getD (ff + k) 0 == 1)) := by
                rw [hbx.out.cell (ff + k), bv_get _ _ (by rw [setR_length _ _ _ _ (by omega) (by omega)]; exact hfk)]
              have u4 : wr.frozen? ⟨gs, ff + k, none⟩ = false := hbx.out.free _
              have hnb : Hid (Box (wr.setCell ⟨gs, ff + k, none⟩ (.bool true)) gs (bv (setR s.us ff (ff + (k + 1)) 1)) 4) := by
                have := hbx.out.set (ff + k) (.bool ((1 : Nat) == 1))
                rw [bv_set, ← setR_step s.us ff (ff + k) 1 (by omega) hfk] at this
                exact this
              have hng := Lib.hid (only_setCell (p := ⟨gs, ff + k, none⟩) hgx.out (.inl rfl) (.bool true))
              have hfi : (ff : Int) + (k : Int) < (n : Int) := by omega
              have hf0 : decide ((ff : Int) + (k : Int) < 0) = false := by simp; omega
              have hf1 : decide ((n : Int) ≤ (ff : Int) + (k : Int)) = false := by simp; omega
              have hf2 : decide (n ≤ ff + k) = false := by simp; omega
              clear hbx hgx hlen
              go_wp2_with fail
              go_roundw
              case rel => exact ⟨k + 1, by omega, by go_num, hnb, hng.out⟩
              case measure => (simp [intOf]; try omega)
            · obtain rfl : k = cn := by omega
              have hng := Lib.hid (grown_trans HG0.out hgx.out)
              have hnb : Hid (Box wr gs (bv ((Sp.new n).play (ds.take (i + 1))).1.us) 4) := by rw [HPT.out, HUS.out]; exact hbx.out
              clear hbx hgx
              go_wp2_with fail
              go_roundw
              case rel => exact ⟨i + 1, by omega, by go_num, hnb, hng.out⟩
              case measure => (simp [intOf]; try omega)
        · have HUS := Lib.hid hus
          clear hus hz HDC
          go_wp2_with fail
          go_loopw [13] (fun kv wx => ∃ k : Nat, k ≤ cn ∧ kv = .int .i64 k ∧ Hid (Box wx gs (bv (setR s.us fn (fn + k) 2)) 4) ∧ Hid (W1.grownBy wx (some gs))) (fun kv _ => cn - (intOf kv).toNat)
          case atStart => exact ⟨0, by omega, rfl, by rw [Nat.add_zero, setR_nil]; exact HS.out, World.grownBy.refl _ _⟩
          case round =>
            obtain ⟨k, hk, rfl, hbx, hgx⟩ := hrel
            have u0 : wr.cell? ⟨gd, i * 3, none⟩ = some (.int .i64 2) := hgx.out.cell d0 (by intro e; exact hngd (by injection e))
            have u1 : wr.cell? ⟨gd, i * 3 + 1, none⟩ = some (.int .i64 fn) := hgx.out.cell d1 (by intro e; exact hngd (by injection e))
            have u2 : wr.cell? ⟨gd, i * 3 + 2, none⟩ = some (.int .i64 cn) := hgx.out.cell d2 (by intro e; exact hngd (by injection e))
            have x0 : wr.cell? ⟨gf, i * 3, none⟩ = some (.int .i64 0) := hgx.out.cell e0 (by intro e; exact hngf (by injection e))
            by_cases hkc : k < cn
            · have hlen := HLN.out
              have hfk : fn + k < s.us.length := by omega
              have u3 : wr.cell? ⟨gs, fn + k, none⟩ = some (.bool ((setR s.us fn (fn + k) 2).getD (fn + k) 0 == 1)) := by
                rw [hbx.out.cell (fn + k), bv_get _ _ (by rw [setR_length _ _ _ _ (by omega) (by omega)]; exact hfk)]
              have u4 : wr.frozen? ⟨gs, fn + k, none⟩ = false := hbx.out.free _
              have hnb : Hid (Box (wr.setCell ⟨gs, fn + k, none⟩ (.bool false)) gs (bv (setR s.us fn (fn + (k + 1)) 2)) 4) := by
                have := hbx.out.set (fn + k) (.bool ((2 : Nat) == 1))
                rw [bv_set, ← setR_step s.us fn (fn + k) 2 (by omega) hfk] at this
                exact this
              have hng := Lib.hid (only_setCell (p := ⟨gs, fn + k, none⟩) hgx.out (.inl rfl) (.bool false))
              have hfi : (fn : Int) + (k : Int) < (n : Int) := by omega
              have hf0 : decide ((fn : Int) + (k : Int) < 0) = false := by simp; omega
              have hf1 : decide ((n : Int) ≤ (fn : Int) + (k : Int)) = false := by simp; omega
              have hf2 : decide (n ≤ fn + k) = false := by simp; omega
              clear hbx hgx hlen
              go_wp2_with fail
              go_roundw
              case rel => exact ⟨k + 1, by omega, by go_num, hnb, hng.out⟩
              case measure => (simp [intOf]; try omega)
            · obtain rfl : k = cn := by omega
              have hng := Lib.hid (grown_trans HG0.out hgx.out)
              have hnb : Hid (Box wr gs (bv ((Sp.new n).play (ds.take (i + 1))).1.us) 4) := by rw [HPT.out, HUS.out]; exact hbx.out
              clear hbx hgx
              go_wp2_with fail
              go_roundw
              case rel => exact ⟨i + 1, by omega, by go_num, hnb, hng.out⟩
              case measure => (simp [intOf]; try omega)
        · obtain rfl := HDC.out rfl
          have hnb : Hid (Box W1 gs (bv ((Sp.new n).play (ds.take (i + 1))).1.us) 4) := by rw [HPT.out, hus, bv_later]; exact HS.out
          clear hus HDC
          go_wp2_with fail
          go_loop [13] (fun kv => kv = .int .i64 0) (fun _ => 0)
          case atStart => exact rfl
          case round =>
            subst hrel
            go_wp2_with fail
            go_roundw
            case rel => exact ⟨i + 1, by omega, by go_num, hnb, HG0.out⟩
            case measure => (simp [intOf]; try omega)
      · have b0 : ((fc : Int) == 0) = false := by simp [hc]
        have hss := HSR.out hc
        have hnb : Hid (Box wr gs (bv ((Sp.new n).play (ds.take (i + 1))).1.us) 4) := by rw [HPT.out, hss]; exact HS.out
        clear hc hss HSD HSR HPT HDC
        obtain ⟨W1, hW1⟩ : ∃ W : World, W = wr := ⟨_, rfl⟩
        rw [← hW1] at d0 d1 d2 e0 e1 HG0 HS hnb ⊢
        clear hW1
        go_wp2_with fail
        go_loop [13] (fun kv => kv = .int .i64 0) (fun _ => 0)
        case atStart => exact rfl
        case round =>
          subst hrel
          by_cases hdp : 0 < dc
          · go_wp2_with fail
            go_roundw
            case rel => exact ⟨i + 1, by omega, by go_num, hnb, HG0.out⟩
            case measure => (simp [intOf]; try omega)
          · have hdf : decide (0 < dc) = false := by simp; omega
            go_wp2_with fail
            go_roundw
            case rel => exact ⟨i + 1, by omega, by go_num, hnb, HG0.out⟩
            case measure => (simp [intOf]; try omega)
    · obtain rfl : i = l0 := by omega
      have hBl := Lib.hid (below_of_grown hgr.out hgsw.out (by have := HB2.out.size; exact this) HB2.out)
      have HMr := Lib.hid (HM2.out.only hgr.out HS2.out (by decide))
      have hXB : BM ≤ wr.heap.size := by have := hgr.out.size; omega
      have htk : ds.take i = ds := List.take_of_length_le (by have := hdl.out; omega)
      rw [htk] at hbs
      clear HDr HFr hgr htk HD2 HF2 HB2 HM2 HS2
      obtain ⟨X, hX⟩ : ∃ X : World, X = wr := ⟨_, rfl⟩
      rw [← hX] at hbs HMr hBl hXB ⊢
      clear hX
      have hok : ((Sp.new n).play ds).1.Ok n := Sp.Ok.play _ (Sp.Ok.new n)
      obtain ⟨s, hs⟩ : ∃ s, Hid (((Sp.new n).play ds).1 = s) := ⟨_, rfl⟩
      rw [hs.out] at hok hbs
      have HOK := Lib.hid hok
      clear hok
      have hwB : w.heap.size ≤ BM := by have := hgsw.out; omega
      go_wp2_with fail
      go_loopw [11, 15] (fun mv kv wr => ∃ (k : Nat) (aM : Option Addr) (lM cM : Nat), k ≤ n ∧ lM ≤ i + k ∧ kv = .int .i64 k ∧ mv = .slice aM lM cM ∧ Hid (SOwn deedL wr BM 31 (fun _ => False) aM lM cM (ds ++ gives s.us k)) ∧ Hid (Below BM X wr)) (fun _ kv _ => n - (intOf kv).toNat)
      case atStart => exact ⟨0, a3, i, c3, by omega, by omega, rfl, rfl, by rw [show gives s.us 0 = [] from rfl, List.append_nil]; exact HMr.out, Below.refl _ _⟩
      case round =>
        obtain ⟨k, aM, lM, cM, hk, hlM, rfl, rfl, hown, hbl⟩ := hrel
        have hsz : BM ≤ wr.heap.size := by have := hbl.out.size; omega
        have hcM := hown.out.hle
        have hmM := hown.out.hmax
        unfold maxLen at hmM
        by_cases hkn : k < n
        · have hks : k < s.us.length := by have := HOK.out.len; omega
          have u3 : wr.cell? ⟨gs, k, none⟩ = some (.bool (s.us.getD k 0 == 1)) := by rw [(hbs.out.below hbl.out hgB).cell k, bv_get _ _ hks]
          have hgsu := gives_succ s.us k
          have hki : (k : Int) < (n : Int) := by omega
          obtain ⟨b, hb⟩ : ∃ b, Hid ((s.us.getD k 0 == 1) = b) := ⟨_, rfl⟩
          rw [hb.out] at u3 hgsu
          clear hks
          cases b with
          | true =>
            rw [if_pos rfl] at hgsu
            have HGS := Lib.hid hgsu
            clear hgsu
            go_wp2_with (at_builtin; refine wpList_append_one (L := deedL) rfl (.tmp 106) (.tmp 109) 24 rfl BM 31 _ 24 Try.underlying24 info_deed rfl (fun _ => False) aM lM cM _ rfl hown.out #[.int .i64 2, .int .i64 k, .int .i64 1] ⟨2, k, 1⟩ rfl (fun _ => False) rfl (fun b h => h.elim) (by unfold maxLen; omega) (by omega) hsz ?_)
            intro a7 c7 w7 hown7 hg7
            have hb7 := Lib.hid (hown.out.grown hbl.out (Nat.le_refl _) hsz hg7)
            have hown8 : Hid (SOwn deedL w7 BM 31 (fun _ => False) a7 (lM + 1) c7 (ds ++ gives s.us (k + 1))) := by
              rw [HGS.out]; exact hown7
            clear hown7 hg7
            go_wp2_with fail
            go_roundw
            case rel => exact ⟨k + 1, a7, lM + 1, c7, by omega, by omega, by go_num, by go_num, hown8, hb7⟩
            case measure => (simp [intOf]; try omega)
          | false =>
            rw [if_neg (by decide), List.append_nil] at hgsu
            have hown8 : Hid (SOwn deedL wr BM 31 (fun _ => False) aM lM cM (ds ++ gives s.us (k + 1))) := by
              rw [hgsu]; exact hown.out
            clear hgsu
            go_wp2_with fail
            go_roundw
            case rel => exact ⟨k + 1, aM, lM, cM, by omega, by omega, by go_num, rfl, hown8, hbl⟩
            case measure => (simp [intOf]; try omega)
        · obtain rfl : k = n := by omega
          have HBX := Lib.hid (hBl.out.trans (hbl.out.mono hwB))
          have hwS : w.heap.size ≤ wr.heap.size := by omega
          clear hbl hBl hbs HMr
          go_wp2_with (at_builtin; refine wpList_append_data (L := deedL) rfl (.tmp 111) (.tmp 114) 24 rfl BM 31 _ 24 Try.underlying24 info_deed rfl (fun _ => False) aM lM cM _ rfl (hown.out.alloc _) (some ⟨wr.heap.size, 0, none⟩) 2 2 [⟨3, 0, 0⟩, ⟨3, 0, 0⟩] [[.int .i64 3, .int .i64 0, .int .i64 0], [.int .i64 3, .int .i64 0, .int .i64 0]] rfl (vrow_two 31 _ _ _ _ _ _ rfl) (fun _ => False) (two_commits _) rfl (fun b h => h.elim) (by unfold maxLen; omega) (by omega) (by simp; omega) ?_)
          intro a8 c8 w8 hown8 hg8
          have HB8 := Lib.hid ((hown.out.alloc _).grown (HBX.out.alloc hwS _) hwB (by simp; omega) hg8)
          obtain ⟨m, hm⟩ : ∃ m, Hid (lM + 2 = m + 1) := ⟨lM + 1, rfl⟩
          rw [hm.out] at hown8 ⊢
          obtain ⟨L, hL⟩ : ∃ L : List Deed, Hid (ds ++ (gives s.us k ++ [(⟨3, 0, 0⟩ : Deed), ⟨3, 0, 0⟩]) = L) := ⟨_, rfl⟩
          rw [hL.out] at hown8
          have hLis : ∀ d ∈ L, DeedIs d := by
            intro d hd
            rw [← hL.out] at hd
            rcases List.mem_append.1 hd with h | h
            · exact hds.out d h
            · rcases List.mem_append.1 h with h | h
              · exact gives_is _ _ hn2 d h
              have : d = ⟨3, 0, 0⟩ := by simpa using h
              subst this; exact .inr (.inr ⟨rfl, rfl, rfl⟩)
          have hLl : L.length = m + 1 := hown8.1
          have hT : ((Sp.new k).play L).1 = (s.play (gives s.us k ++ [⟨3, 0, 0⟩, ⟨3, 0, 0⟩])).1 := by
            rw [← hL.out, play_append, hs.out]
          have hzer := all_back HOK.out
          rw [← hT] at hzer
          have hokT : ((Sp.new k).play L).1.Ok k := Sp.Ok.play _ (Sp.Ok.new k)
          have hzl := zeros_left hokT hzer
          have htd := told_play L (told_new k) (Sp.Ok.new k)
          have hfew := new_few (n := k) L hLis
          have hlast := fun x hx => last_left k L m hLl (x := x) hx
          have HLI := Lib.hid (show ∀ d ∈ L, DeedOk d from fun d hd => (hLis d hd).ok)
          obtain ⟨fs, hfs⟩ : ∃ fs, Hid (((Sp.new k).play L).2 = fs) := ⟨_, rfl⟩
          obtain ⟨T, hTT⟩ : ∃ T, Hid (((Sp.new k).play L).1 = T) := ⟨_, rfl⟩
          rw [hTT.out] at hzl htd hfew hlast
          rw [hfs.out] at hlast
          rw [hzl.1] at hlast
          have HCN : Hid (condensed (rpl (noughts k) T.log) = []) := by show _ = _; rw [htd.is]; exact hzl.2
          have HOKT := Lib.hid htd.ok
          have HLA := Lib.hid hlast
          have hml : m ≤ 150 := by have := hm.out; omega
          have hfew' : T.log.length ≤ 2000 := by omega
          have HFW := Lib.hid hfew'
          have R8 := Lib.hid hown8.sRow
          have hc8 := hown8.hle
          have hm8 := hown8.hmax
          unfold maxLen at hm8
          clear hown8 hg8 hown HBX hL hLis hT hzer hokT hzl htd hfew hlast hfew'
          go_wp2_with fail
          refine (sp_play k (fun _ => True) _ _ _ L _ R8.out HLI.out hn1 (by omega) (by omega)).mono ?_
          rintro e w9 ⟨a9, c9, b9, l9, d9, rfl, hF9, hR9, hb9⟩
          rw [hfs.out] at hF9
          rw [hTT.out] at hR9
          have FX := Lib.hid (Facts.add (Facts.add (Facts.none w9) (sSince w) (HB8.out.trans (hb9.mono HB8.out.size))) (sOwn foundL w8.heap.size 34 (fun _ => False) a9 (m + 1) c9 fs) hF9.out)
          have hc9 := hF9.out.hle
          have hm9 := hF9.out.hmax
          unfold maxLen at hm9
          have hl9 : l9 ≤ 2000 := by have h1 : T.log.length = l9 := hR9.out.1; have := HFW.out; omega
          have R9 := Lib.hid hR9.out.sRow
          clear hF9 hb9 hR9 R8 HB8
          go_wp2_with fail
          refine (condense k (fun _ => True) b9 l9 d9 T.log w9 R9.out HOKT.out hn1 hn2 (by omega)).mono ?_
          rintro e w10 ⟨a6, l6, c6, rfl, hcn, hb10⟩
          rw [HCN.out] at hcn
          obtain rfl : 0 = l6 := hcn.out.1
          have hc6 := hcn.out.hle
          have hm6 := hcn.out.hmax
          unfold maxLen at hm6
          replace FX := Lib.hid (FX.out.below hb10)
          clear hcn hb10 R9
          obtain ⟨g5, vs5, rfl, _, hg5l, ⟨x5, hx5, hat5⟩, hcell5⟩ := FX.out.1.get m (by omega)
          have hx5' := HLA.out _ hx5
          obtain ⟨fc, ff, fl⟩ := x5
          have hvs5 : vs5 = [.int .i64 (fc : Int), .int .i64 (ff : Int), .int .i64 fl] := hat5
          subst hvs5
          obtain rfl : fl = (k : Int) := hx5'
          have u2 : w10.cell? ⟨g5, m * 3 + 2, none⟩ = some (.int .i64 k) := hcell5 2 (by decide)
          have hli : (m : Int) < (m : Int) + 1 := by omega
          clear hcell5 hat5 hx5
          go_wp2_with fail
          go_ret
          exact ⟨rfl, FX.out.2.1⟩
end Go.Proofs.Yteidmdakglkkfaa
