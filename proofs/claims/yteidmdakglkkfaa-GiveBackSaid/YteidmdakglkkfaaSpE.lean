/- The walk of Deeds. -/
import Derived.Test.YteidmdakglkkfaaSpY
import Derived.Test.YteidmdakglkkfaaLay2
import Derived.Deep.CutBlock
namespace Go.Proofs.Yteidmdakglkkfaa
open Go.RowKit
set_option linter.unusedVariables false

theorem SOwn.flat_own {α : Type} {n : Nat} {hn : 0 < n} {f : α → List Value} {hf : ∀ x, (f x).length = n} {h1 : ∀ x, ∀ v ∈ f x, v.oneCell' = true} {w w' : World}
    {base : Nat} {e : TypeId} {G : Nat → Prop} {a : Option Addr} {len cap : Nat} {xs : List α} (ho : SOwn (Lay.flat n hn f hf h1) w base e G a len cap xs) (hs : w.heap.size ≤ w'.heap.size)
    (hk : ∀ k : Nat, (Value.slice a len cap).ownBlock = some k → w'.heap[k]? = w.heap[k]?) : SOwn (Lay.flat n hn f hf h1) w' base e G a len cap xs := by
  obtain ⟨hl, vss, F, hown, hp, hF⟩ := ho
  refine ⟨hl, vss, F, ⟨hown.1, ?_⟩, hp, fun b hb => ⟨(hF b hb).1, Nat.lt_of_lt_of_le (hF b hb).2.1 hs, (hF b hb).2.2⟩⟩
  rcases hown.2 with h0 | ⟨g', c, cur, hv, hbg, hh, r⟩
  · exact .inl h0
  · exact .inr ⟨g', c, cur, hv, hbg, by rw [hk g' (by rw [hv]; rfl)]; exact hh, r⟩
theorem SOwn.flat_set {α : Type} {n : Nat} {hn : 0 < n} {f : α → List Value} {hf : ∀ x, (f x).length = n} {h1 : ∀ x, ∀ v ∈ f x, v.oneCell' = true} {w : World}
    {base : Nat} {e : TypeId} {G : Nat → Prop} {a : Option Addr} {len cap : Nat} {xs : List α} (ho : SOwn (Lay.flat n hn f hf h1) w base e G a len cap xs) {h : Nat} (hne : (Value.slice a len cap).ownBlock ≠ some h) (j : Nat) (v : Value) : SOwn (Lay.flat n hn f hf h1) (w.setCell ⟨h, j, none⟩ v) base e G a len cap xs :=
  ho.flat_own (by simp [World.setCell]) (fun k hk => Below.heap_setCell _ _ _ _ (by rintro rfl; exact hne hk))
theorem SOwn.flat_set3 {α : Type} {n : Nat} {hn : 0 < n} {f : α → List Value} {hf : ∀ x, (f x).length = n} {h1 : ∀ x, ∀ v ∈ f x, v.oneCell' = true} {w : World}
    {base : Nat} {e : TypeId} {G : Nat → Prop} {a : Option Addr} {len cap : Nat} {xs : List α} (ho : SOwn (Lay.flat n hn f hf h1) w base e G a len cap xs) {h : Nat} (hne : (Value.slice a len cap).ownBlock ≠ some h) (u v x : Value) :
    SOwn (Lay.flat n hn f hf h1) (((w.setCell ⟨h, 0, none⟩ u).setCell ⟨h, 1, none⟩ v).setCell ⟨h, 2, none⟩ x) base e G a len cap xs := ((ho.flat_set hne 0 u).flat_set hne 1 v).flat_set hne 2 x
theorem Below.set3 {B h : Nat} {a w : World} (hb : Below B a w) (hh : B ≤ h) (u v x : Value) : Below B a (((w.setCell ⟨h, 0, none⟩ u).setCell ⟨h, 1, none⟩ v).setCell ⟨h, 2, none⟩ x) :=
  ((hb.setCell (p := ⟨h, 0, none⟩) hh u).setCell (p := ⟨h, 1, none⟩) hh v).setCell (p := ⟨h, 2, none⟩) hh x
theorem Box.set3 {w : World} {h : Nat} {t : TypeId} {a b c : Value} (hb : Box w h #[a, b, c] t) (u v x : Value) : Box (((w.setCell ⟨h, 0, none⟩ u).setCell ⟨h, 1, none⟩ v).setCell ⟨h, 2, none⟩ x) h #[u, v, x] t := ((hb.set 0 u).set 1 v).set 2 x

theorem step_take {n : Nat} {s : Sp} {d : Deed} (hok : s.Ok n) (hk : d.kind = 1) (h0 : (s.step d).2.code = 0) : ∃ cn : Nat, d.count = cn ∧ 1 ≤ cn ∧ (s.step d).2.from_ + cn ≤ n := by
  have e : s.do_ d = s.take d.count := by unfold Sp.do_; rw [if_pos hk]
  have hc : (s.step d).2.code = (s.take d.count).2.1 := by show (s.do_ d).2.1 = _; rw [e]
  have hf : (s.step d).2.from_ = (s.take d.count).2.2 := by show (s.do_ d).2.2 = _; rw [e]
  rw [hc] at h0
  rw [hf]
  rcases take_cases s d.count with ⟨e, _⟩ | ⟨cn, _, _, _, e, _⟩ | ⟨cn, f, h1, h2, h3, _, _, e⟩
  · rw [e] at h0; cases h0
  · rw [e] at h0; cases h0
  · refine ⟨cn, h1, h2, ?_⟩
    rw [e]
    have := hok.len
    show f + cn ≤ n
    omega
theorem last_found (s : Sp) (ds : List Deed) (d : Deed) {x : Found} (h : (s.play (ds ++ [d])).2[ds.length]? = some x) : x = ((s.play ds).1.step d).2 := by
  rw [play_snoc] at h
  have hl : (s.play ds).2.length = ds.length := play_length ds s
  rw [List.getElem?_append_right (by omega), hl, Nat.sub_self] at h
  simpa using h.symm
structure Wish where
  kind : Int
  which : Int
  count : Int
def wishL : Lay Wish := Lay.flat 3 (by decide) (fun d => [.int .i64 d.kind, .int .i64 d.which, .int .i64 d.count]) (fun _ => rfl) (by intro r v hv; simp at hv; rcases hv with rfl | rfl | rfl <;> rfl)
/-- the deeds that are made -/
def DeedIs (d : Deed) : Prop := (d.kind = 1 ∧ d.from_ = 0 ∧ 1 ≤ d.count ∧ d.count ≤ 12) ∨ (d.kind = 2 ∧ 0 ≤ d.from_ ∧ d.from_ ≤ 100 ∧ 1 ≤ d.count ∧ d.count ≤ 100) ∨ (d.kind = 3 ∧ d.from_ = 0 ∧ d.count = 0)
theorem DeedIs.ok {d : Deed} (h : DeedIs d) : DeedOk d := by
  unfold DeedOk
  rcases h with ⟨_, h1, h2, h3⟩ | ⟨_, h1, h2, h3, h4⟩ | ⟨_, h1, h2⟩ <;> omega
theorem info_deed : (Try.prog.info? 31).map (fun i => (i.zero, i.size, i.bytes)) = some (some (.agg #[.int .i64 0, .int .i64 0, .int .i64 0]), 3, 24) := by kernel_rfl
def Dealt (n most : Nat) (w : World) (e : Ending) (w' : World) : Prop :=
  ∃ (ds : List Deed) (a0 : Option Addr) (l0 c0 : Nat) (a1 : Option Addr) (c1 : Nat) (a2 : Option Addr) (l2 c2 : Nat), e = .returned (.tuple #[.slice a0 l0 c0, .slice a1 l0 c1, .slice a2 l2 c2, .bool true]) ∧ l0 ≤ most ∧ Hid (∀ d ∈ ds, DeedIs d) ∧
    Hid (SOwn deedL w' w.heap.size 31 (fun _ => False) a0 l0 c0 ds) ∧ Hid (SOwn foundL w' w.heap.size 34 (fun _ => False) a1 l0 c1 ((Sp.new n).play ds).2) ∧ Hid (SOwn recL w' w.heap.size 106 (fun _ => False) a2 l2 c2 ((Sp.new n).play ds).1.log) ∧ Below w.heap.size w w'
set_option maxRecDepth 100000 in
set_option maxHeartbeats 8000000 in
theorem deeds (n most : Nat) (F : Nat → Prop) (a : Option Addr) (len cap : Nat) (ws : List Wish) (w : World) (ha : SRow wishL w F a len cap ws) (hn1 : 1 ≤ n) (hn : n ≤ 100) (hm : most ≤ 60) :
    Calls Try.prog 16 #[.slice a len cap, .int .i64 most, .int .i64 n] w (Dealt n most w) := by
  have hle := ha.hle
  have hmx := ha.hmax
  unfold maxLen at hmx
  obtain ⟨B, hBB⟩ : ∃ B, Hid (w.heap.size = B) := ⟨_, rfl⟩
  go_enter Try.func16, Try.ntmps16
  go_wp2_with fail
  go_loopw [10, 11, 12] (fun ov tv iv wr => ∃ (k : Nat) (ao : Option Addr) (co : Nat) (at_ : Option Addr) (m ct : Nat) (ds : List Deed) (xs : List (Nat × Nat)), k ≤ len ∧ k ≤ most ∧ m ≤ k ∧ iv = .int .i64 k ∧ ov = .slice ao k co ∧ tv = .slice at_ m ct ∧ Hid (∀ d ∈ ds, DeedIs d) ∧ Hid (RunsIn n xs) ∧
    Hid (SOwn deedL wr B 31 (fun _ => False) ao k co ds) ∧ Hid (SOwn rangeL wr B 95 (fun _ => False) at_ m ct xs) ∧ Hid (Below B w wr)) (fun _ _ iv _ => len - (intOf iv).toNat)
  case atStart => exact ⟨0, none, 0, none, 0, 0, [], [], by omega, by omega, by omega, rfl, rfl, rfl, fun d h => by simp at h, fun r h => by simp at h, SOwn.nil .., SOwn.nil .., Below.refl _ _⟩
  case round =>
    obtain ⟨k, ao, co, at_, m, ct, ds, xs, hk, hkm, hmk, rfl, rfl, rfl, hds, hxs, hout, htk, hbl⟩ := hrel
    have hco := hout.out.hle
    have hcm := hout.out.hmax
    have hct := htk.out.hle
    have hctm := htk.out.hmax
    unfold maxLen at hcm hctm
    by_cases hlt : k < len ∧ k < most
    · obtain ⟨hlt, hlt2⟩ := hlt
      obtain ⟨b, off, vs, rfl, _, hbw, hat, hcell⟩ := ha.get k hlt
      obtain ⟨⟨wk, ww, wc⟩, hx⟩ : ∃ x, ws[k]? = some x := ⟨_, List.getElem?_eq_getElem (by rw [ha.1]; exact hlt)⟩
      have hvs : vs = [.int .i64 wk, .int .i64 ww, .int .i64 wc] := hat _ hx
      subst hvs
      have hbB : b < B := by have := hBB.out; omega
      have e0 : wr.cell? ⟨b, off + k * 3, none⟩ = some (.int .i64 wk) := (hbl.out.cell (p := ⟨b, off + k * 3, none⟩) hbB).trans (hcell 0 (by decide))
      have e1 : wr.cell? ⟨b, off + k * 3 + 1, none⟩ = some (.int .i64 ww) := (hbl.out.cell (p := ⟨b, off + k * 3 + 1, none⟩) hbB).trans (hcell 1 (by decide))
      have e2 : wr.cell? ⟨b, off + k * 3 + 2, none⟩ = some (.int .i64 wc) := (hbl.out.cell (p := ⟨b, off + k * 3 + 2, none⟩) hbB).trans (hcell 2 (by decide))
      clear hcell hat hx
      go_wp2_with fail
      refine (picked _ _ _ (by omega) (by omega)).mono ?_
      rintro e w' ⟨c, hc, hc0, hc1, rfl, rfl⟩
      clear hc
      have hgl0 : b < wr.heap.size := by have := hbl.out.size; omega
      go_upto_block 2 with (go_at_call 15; refine (picked _ _ _ (by omega) (by omega)).mono ?_; rintro e w' ⟨kd, hkd, hkd0, hkd1, rfl, rfl⟩)
      clear hkd
      have hBwr : B ≤ wr.heap.size := by have := hbl.out.size; have := hBB.out; omega
      have O0 := Lib.hid (hout.out.alloc (.cells #[.int .i64 1, .int .i64 0, .int .i64 (1 + c)] 31))
      have T0 := Lib.hid (htk.out.alloc (.cells #[.int .i64 1, .int .i64 0, .int .i64 (1 + c)] 31))
      have L0 := Lib.hid (hbl.out.alloc hBwr (.cells #[.int .i64 1, .int .i64 0, .int .i64 (1 + c)] 31))
      have D0 := Box.new (w := wr) (vs := #[.int .i64 1, .int .i64 0, .int .i64 (1 + c)]) (t := 31) rfl
      obtain ⟨V, hV⟩ : ∃ V, V = wr.alloc (.cells #[.int .i64 1, .int .i64 0, .int .i64 (1 + c)] 31) := ⟨_, rfl⟩
      rw [← hV] at O0 T0 L0 D0 ⊢
      obtain ⟨h, hh⟩ : ∃ h, Hid (wr.heap.size = h) := ⟨_, rfl⟩
      rw [hh.out] at D0 ⊢
      have e1' : V.cell? ⟨b, off + k * 3 + 1, none⟩ = some (.int .i64 ww) := by rw [hV, World.cell?_alloc_lt _ _ _ hgl0]; exact e1
      have HD0 := Lib.hid D0
      have no : Hid ((Value.slice ao k co).ownBlock ≠ some h) := fun e => by have := (hout.out.lt h e).2; have := hh.out; omega
      have nt : Hid ((Value.slice at_ m ct).ownBlock ≠ some h) := fun e => by have := (htk.out.lt h e).2; have := hh.out; omega
      have hhB : B ≤ h := by have := hh.out; omega
      clear hV e0 e1 e2 hout htk hbl D0 hBwr
      go_cut [11] (fun tv wx => ∃ (d : Deed) (at_ : Option Addr) (m' ct : Nat) (xs : List (Nat × Nat)), m' ≤ m ∧ tv = .slice at_ m' ct ∧ Hid (DeedIs d) ∧ Hid (RunsIn n xs) ∧ Hid (Box wx h #[.int .i64 d.kind, .int .i64 d.from_, .int .i64 d.count] 31) ∧
        Hid (SOwn deedL wx B 31 (fun _ => False) ao k co ds) ∧ Hid (SOwn rangeL wx B 95 (fun _ => False) at_ m' ct xs) ∧ Hid (Below B w wx))
      case first =>
        have z0 : V.cell? ⟨h, 0, none⟩ = some (.int .i64 1) := HD0.out.cell 0
        have z1 : V.cell? ⟨h, 1, none⟩ = some (.int .i64 0) := HD0.out.cell 1
        have z2 : V.cell? ⟨h, 2, none⟩ = some (.int .i64 (1 + c)) := HD0.out.cell 2
        have f0 : V.frozen? ⟨h, 0, none⟩ = false := HD0.out.free 0
        have f1 : V.frozen? ⟨h, 1, none⟩ = false := HD0.out.free 1
        have f2 : V.frozen? ⟨h, 2, none⟩ = false := HD0.out.free 2
        by_cases k0 : kd = 0
        · have hfin : Hid (Box (((V.setCell ⟨h, 0, none⟩ (.int .i64 3)).setCell ⟨h, 1, none⟩ (.int .i64 0)).setCell ⟨h, 2, none⟩ (.int .i64 0)) h #[.int .i64 3, .int .i64 0, .int .i64 0] 31) := HD0.out.set3 _ _ _
          subst k0
          go_wp2_with fail
          go_meet
          exact ⟨⟨3, 0, 0⟩, at_, m, ct, xs, Nat.le_refl _, rfl, .inr (.inr ⟨rfl, rfl, rfl⟩), hxs, hfin, O0.out.flat_set3 no.out _ _ _, T0.out.flat_set3 nt.out _ _ _, Below.set3 L0.out hhB _ _ _⟩
        · have b0 : (kd == 0) = false := by simp [k0]
          by_cases k4 : kd < 4 ∧ 0 < m
          · obtain ⟨k4, hm0⟩ := k4
            have b4 : decide (kd < 4) = true := by simp; omega
            have bm : decide ((0 : Int) < (m : Int)) = true := by simp; omega
            have hm0i : (0 : Int) < (m : Int) := by omega
            clear k0
            go_wp2_with fail
            refine (picked _ _ _ (by omega) (by omega)).mono ?_
            rintro e w' ⟨j, hj, hj0, hj1, rfl, rfl⟩
            obtain ⟨j, rfl⟩ := Int.eq_ofNat_of_zero_le hj0
            have hjm : j < m := by omega
            clear hj hj0
            obtain ⟨g1, vs, rfl, hg1b, hg1l, ⟨⟨f, t⟩, hx, hat⟩, hcell⟩ := T0.out.get j hjm
            have hvs : vs = [.int .i64 (f : Int), .int .i64 (t : Int)] := hat
            subst hvs
            have t0 : V.cell? ⟨g1, j * 2, none⟩ = some (.int .i64 f) := hcell 0 (by decide)
            have t1 : V.cell? ⟨g1, j * 2 + 1, none⟩ = some (.int .i64 t) := hcell 1 (by decide)
            have hft := hxs.out _ (List.mem_of_getElem? hx)
            simp only at hft
            obtain ⟨hft1, hft2⟩ := hft
            clear hcell hat hx
            go_wp2_with fail
            go_still_tail 17, (by kernel_rfl)
            change wpList _ _ _ _ _ V.drew
            have B5 := Lib.hid ((HD0.out.drew).set3 (.int .i64 2) (.int .i64 f) (.int .i64 ((t : Int) - f)))
            have O5 := Lib.hid (SOwn.flat_set3 (O0.out.below ((Below.refl _ _).drew)) no.out (.int .i64 2) (.int .i64 f) (.int .i64 ((t : Int) - f)))
            have T5 := Lib.hid (SOwn.flat_set3 (T0.out.below ((Below.refl _ _).drew)) nt.out (.int .i64 2) (.int .i64 f) (.int .i64 ((t : Int) - f)))
            have L5 := Lib.hid (Below.set3 (L0.out.drew) hhB (.int .i64 2) (.int .i64 f) (.int .i64 ((t : Int) - f)))
            go_wp2_with fail
            obtain ⟨W5, hW5⟩ : ∃ W, W = ((V.drew.setCell ⟨h, 0, none⟩ (.int .i64 2)).setCell ⟨h, 1, none⟩ (.int .i64 f)).setCell ⟨h, 2, none⟩ (.int .i64 ((t : Int) - f)) := ⟨_, rfl⟩
            change Code.wp _ _ _ _ (((V.drew.setCell ⟨h, 0, none⟩ (.int .i64 2)).setCell ⟨h, 1, none⟩ (.int .i64 f)).setCell ⟨h, 2, none⟩ (.int .i64 ((t : Int) - f)))
            rw [← hW5] at B5 O5 T5 L5 ⊢
            clear hW5 t0 t1 z0 z1 z2 f0 f1 f2
            have hd5 : Below W5.drew.heap.size W5 W5.drew := (Below.refl _ _).drew
            obtain ⟨us1, F1, hv1, hp1, hl1, _⟩ := T5.out.piece 0 j (Nat.zero_le _) (by omega)
            obtain ⟨us2, F2, hv2, hp2, hl2, _⟩ := T5.out.piece (j + 1) m (by omega) (Nat.le_refl _)
            rw [if_neg (by omega)] at hv1
            have V1 : Hid (VRow W5 2 (some ⟨g1, 0, none⟩) j ct us1.flatten) := by
              have h := hv1
              change VRow W5 2 ((some ⟨g1, 0, none⟩ : Option Addr).map (·.add (0 * 2))) (j - 0) (ct - 0) us1.flatten at h
              simpa [Addr.add, Hid] using h
            have V2 : Hid (VRow W5 2 (if ct = j + 1 then some ⟨g1, 0, none⟩ else some ⟨g1, (j + 1) * 2, none⟩) (m - (j + 1)) (ct - (j + 1)) us2.flatten) := by
              have e : (⟨g1, 0, none⟩ : Addr).add ((j + 1) * 2) = ⟨g1, (j + 1) * 2, none⟩ := by unfold Addr.add; rw [if_neg (by omega)]; simp
              have h := hv2
              change VRow W5 2 (if ct = j + 1 then some ⟨g1, 0, none⟩ else some ((⟨g1, 0, none⟩ : Addr).add ((j + 1) * 2))) (m - (j + 1)) (ct - (j + 1)) us2.flatten at h
              rw [e] at h; exact h
            rw [Nat.sub_zero, List.drop_zero] at hp1 hl1
            have P1 := Lib.hid (show Pt rangeL W5.drew (fun _ => False) (xs.take j) us1 from hp1)
            have P2 := Lib.hid (show ∀ W, Pt rangeL W (fun _ => False) ((xs.drop (j + 1)).take (m - (j + 1))) us2 from fun _ => hp2)
            have HL1 := Lib.hid hl1
            have HL2 := Lib.hid hl2
            clear hv1 hv2 hp1 hp2 hl1 hl2
            have s1 : IntKind.i64.wrap ((j : Int) + 1) = (j : Int) + 1 := IntWalk.i64_in _ (by omega)
            have s2 : (0 : Int) ≤ (j : Int) + 1 := by omega
            have s3 : ((j : Int) + 1).toNat = j + 1 := by omega
            have s4 : (j : Int) + 1 ≤ (m : Int) := by omega
            have s5 : (j : Int) ≤ (ct : Int) := by omega
            have s6 : (m : Int) ≤ (ct : Int) := by omega
            have s7 : (j : Int) + 1 ≤ (ct : Int) := by omega
            go_region_law (first
              | (refine step_append_data (L := rangeL) rfl (.const (.slice none 0 0)) (.tmp 87) 41 rfl W5.drew.heap.size 95 _ 16 Try.underlying41 info_range rfl (fun _ => False) none 0 0 [] (by simp [Act.eval]) (SOwn.nil ..) (some ⟨g1, 0, none⟩) j ct (xs.take j) us1 (by simp [Act.eval, Act.put]) (V1.out.below hd5) (fun _ => False) P1.out HL1.out (fun b h => h.elim) (by unfold maxLen; omega) (by omega) (Nat.le_refl _) ?_; intro a3 c3 w3 hown3 hg3; have hb3 : Below W5.drew.heap.size W5 w3 := (SOwn.nil rangeL W5.drew W5.drew.heap.size 95 (fun _ => False)).grown hd5 (Nat.le_refl _) (Nat.le_refl _) hg3; have hs3 := hb3.size; have HO3 := Lib.hid hown3; clear hown3 hg3)
              | (refine step_append_data (L := rangeL) rfl (.tmp 88) (.tmp 92) 41 rfl W5.drew.heap.size 95 _ 16 Try.underlying41 info_range rfl (fun _ => False) a3 (0 + j) c3 _ (by simp [Act.eval]) HO3.out (if ct = j + 1 then some ⟨g1, 0, none⟩ else some ⟨g1, (j + 1) * 2, none⟩) (m - (j + 1)) (ct - (j + 1)) ((xs.drop (j + 1)).take (m - (j + 1))) us2 (by simp [Act.eval]) (V2.out.below hb3) (fun _ => False) (P2.out _) HL2.out (fun b h => h.elim) (by unfold maxLen; omega) (by omega) hs3 ?_; intro a4 c4 w4 hown4 hg4; have hb4 : Below W5.drew.heap.size W5 w4 := HO3.out.grown hb3 (Nat.le_refl _) hs3 hg4; have HO4 := Lib.hid hown4; clear hown4 hg4))
            all_goals go_wp2_with fail
            all_goals
              go_meet
              exact ⟨⟨2, f, (t : Int) - f⟩, a4, j + (m - (j + 1)), c4, xs.take j ++ (xs.drop (j + 1)).take (m - (j + 1)), by omega, rfl, .inr (.inl ⟨rfl, by simp, by simp; omega, by simp; omega, by simp; omega⟩), (fun r hr => by
                rcases List.mem_append.1 hr with h | h
                · exact hxs.out r (List.mem_of_mem_take h)
                · exact hxs.out r (List.mem_of_mem_drop (List.mem_of_mem_take h))), B5.out.below hb4 B5.out.lt, O5.out.below hb4, (by have h := HO4.out; rw [Nat.zero_add] at h; exact h.mono (by have := L5.out.size; have := hBB.out; show B ≤ W5.heap.size; omega) (fun _ h => h)), L5.out.trans (hb4.mono (by have := L5.out.size; have := hBB.out; show B ≤ W5.heap.size; omega))⟩
          · have hkm : Hid (kd < 4 → m = 0) := fun h4 => by omega
            by_cases h4 : kd < 4
            · have hm0 : m = 0 := hkm.out h4
              have b4 : decide (kd < 4) = true := by simp; omega
              have bm : decide (0 < m) = false := by simp; omega
              clear k4 k0 hm0
              go_wp2_with fail
              go_meet
              exact ⟨⟨1, 0, 1 + c⟩, at_, m, ct, xs, Nat.le_refl _, rfl, .inl ⟨rfl, rfl, by simp; omega, by simp; omega⟩, hxs, HD0.out, O0.out, T0.out, L0.out⟩
            · have b4 : decide (kd < 4) = false := by simp; omega
              clear k4 k0
              go_wp2_with fail
              go_meet
              exact ⟨⟨1, 0, 1 + c⟩, at_, m, ct, xs, Nat.le_refl _, rfl, .inl ⟨rfl, rfl, by simp; omega, by simp; omega⟩, hxs, HD0.out, O0.out, T0.out, L0.out⟩
      case rest =>
        obtain ⟨d, at2, m2, ct2, xs2, hm2, rfl, hdi, hxs2, hbd, hou2, htk2, hbl2⟩ := hcut
        obtain ⟨wo, rfl⟩ : ∃ wo : World, wo = wc := ⟨_, rfl⟩
        have b0 : wo.cell? ⟨h, 0, none⟩ = some (.int .i64 d.kind) := hbd.out.cell 0
        have b1 : wo.cell? ⟨h, 1, none⟩ = some (.int .i64 d.from_) := hbd.out.cell 1
        have b2 : wo.cell? ⟨h, 2, none⟩ = some (.int .i64 d.count) := hbd.out.cell 2
        have hhl : h < wo.heap.size := hbd.out.lt
        have hBo : B ≤ wo.heap.size := by omega
        clear e1' HD0 nt T0 O0 L0 hc0 hc1 hkd0 hkd1
        go_wp2_with (at_builtin; refine wpList_append_one (L := deedL) rfl (.tmp 94) (.tmp 96) 24 rfl B 31 _ 24 Try.underlying24 info_deed rfl (fun _ => False) ao k co ds rfl hou2.out #[.int .i64 d.kind, .int .i64 d.from_, .int .i64 d.count] d rfl (fun _ => False) rfl (fun b h => h.elim) (by unfold maxLen; omega) (by omega) hBo ?_)
        intro a3 c3 w3 hown3 hg3
        have hbd3 := Lib.hid (hbd.out.grown hg3 (fun e => no.out e.symm))
        have hL3 := Lib.hid (hou2.out.grown hbl2.out (Nat.le_refl _) hBo hg3)
        have hT3 := Lib.hid (htk2.out.flat_keep hg3.size (fun g' cur hh => (hg3.block g' (Array.getElem?_eq_some_iff.1 hh).1 (hou2.out.apart hh (by decide))).trans hh))
        have hO3 := Lib.hid hown3
        have hB3 : B ≤ w3.heap.size := by have := hg3.size; omega
        have hh3 : h < w3.heap.size := hbd3.out.lt
        have hds3 : Hid (∀ x ∈ ds ++ [d], DeedIs x) := fun x hx => by
          rcases List.mem_append.1 hx with h | h
          · exact hds.out x h
          · rw [List.mem_singleton] at h; rw [h]; exact hdi.out
        obtain ⟨us3, F3, hv3, hp3, hl3, _⟩ := hown3.whole
        have V3 := Lib.hid hv3
        have P3 := Lib.hid (show Pt deedL w3 (fun _ => False) (ds ++ [d]) us3 from hp3)
        have HL3 := Lib.hid hl3
        have hc3 := hO3.out.hle
        have hcm3 := hO3.out.hmax
        unfold maxLen at hcm3
        clear hown3 hg3 hbd hbl2 htk2 hou2 hv3 hp3 hl3 b0 b1 b2
        go_wp2_with (at_builtin; refine wpList_append_data (L := deedL) rfl (.const (.slice none 0 0)) (.tmp 100) 24 rfl w3.heap.size 31 _ 24 Try.underlying24 info_deed rfl (fun _ => False) none 0 0 [] rfl (SOwn.nil ..) a3 (k + 1) c3 (ds ++ [d]) us3 rfl V3.out (fun _ => False) P3.out HL3.out (fun b h => h.elim) (by unfold maxLen; omega) (by omega) (Nat.le_refl _) ?_)
        intro a4 c4 w4 hown4 hg4
        have hb4 : Below w3.heap.size w3 w4 := (SOwn.nil deedL w3 w3.heap.size 31 (fun _ => False)).grown (Below.refl _ _) (Nat.le_refl _) (Nat.le_refl _) hg4
        have R4 : Hid (SRow deedL w4 (fun _ => True) a4 (k + 1) c4 (ds ++ [d])) := by
          have h := hown4.sRow
          exact h
        have hbd4 := Lib.hid (hbd3.out.below hb4 hh3)
        have hT4 := Lib.hid (hT3.out.below hb4)
        have hO4 := Lib.hid (hO3.out.below hb4)
        have hL4 := Lib.hid (hL3.out.trans (hb4.mono hB3))
        have hB4 : B ≤ w4.heap.size := by have := hb4.size; omega
        clear hown4 hg4 hb4 hbd3 hT3 hO3 hL3
        go_wp2_with fail
        refine (sp_play n (fun _ => True) _ _ _ (ds ++ [d]) _ R4.out (fun x hx => (hds3.out x hx).ok) hn1 (by omega) (by omega)).mono ?_
        rintro e w5 ⟨a5, c5, a6, l6, c6, rfl, hF5, hR5, hb5⟩
        obtain ⟨g5, vs5, rfl, hg5b, hg5l, ⟨x5, hx5, hat5⟩, hcell5⟩ := hF5.out.get k (by omega)
        have hdl : ds.length = k := by have := hO4.out.1; rw [List.length_append] at this; simpa using this
        rw [← hdl] at hx5
        have hx5' := last_found _ _ _ hx5
        have hok : ((Sp.new n).play ds).1.Ok n := Sp.Ok.play ds (Sp.Ok.new n)
        obtain ⟨s, hs⟩ : ∃ s, Hid (((Sp.new n).play ds).1 = s) := ⟨_, rfl⟩
        rw [hs.out] at hx5' hok
        have hst : d.kind = 1 → x5.code = 0 → ∃ cn : Nat, d.count = cn ∧ 1 ≤ cn ∧ x5.from_ + cn ≤ n := fun h1 h2 => by
          rw [hx5'] at h2 ⊢; exact step_take hok h1 h2
        have HST := Lib.hid hst
        obtain ⟨fc, ff, fl⟩ := x5
        have hvs5 : vs5 = [.int .i64 (fc : Int), .int .i64 (ff : Int), .int .i64 fl] := hat5
        subst hvs5
        have u0 : w5.cell? ⟨g5, k * 3, none⟩ = some (.int .i64 fc) := hcell5 0 (by decide)
        have u1 : w5.cell? ⟨g5, k * 3 + 1, none⟩ = some (.int .i64 ff) := hcell5 1 (by decide)
        have u2 : w5.cell? ⟨g5, k * 3 + 2, none⟩ = some (.int .i64 fl) := hcell5 2 (by decide)
        have hbd5 := hbd4.out.below hb5 hbd4.out.lt
        have v0 : w5.cell? ⟨h, 0, none⟩ = some (.int .i64 d.kind) := hbd5.cell 0
        have v1 : w5.cell? ⟨h, 1, none⟩ = some (.int .i64 d.from_) := hbd5.cell 1
        have v2 : w5.cell? ⟨h, 2, none⟩ = some (.int .i64 d.count) := hbd5.cell 2
        have hh5 : h < w5.heap.size := hbd5.lt
        have hT5 := Lib.hid ((hT4.out.below hb5).alloc (.cells #[.int .i64 fc, .int .i64 ff, .int .i64 fl] 34))
        have hO5 := Lib.hid ((hO4.out.below hb5).alloc (.cells #[.int .i64 fc, .int .i64 ff, .int .i64 fl] 34))
        have hL5' := hL4.out.trans (hb5.mono hB4)
        have hB5 : B ≤ w5.heap.size := by have := hb5.size; omega
        have hL5 := Lib.hid (hL5'.alloc hB5 (.cells #[.int .i64 fc, .int .i64 ff, .int .i64 fl] 34))
        have hki : (k : Int) < (k : Int) + 1 := by omega
        clear hst hat5 hcell5 hx5 hx5' hok hs hbd5 hL5' hdl hF5 hR5 hbd4 hT4 hO4 hL4 R4 V3 P3 HL3
        by_cases hk1 : d.kind = 1 ∧ fc = 0
        · obtain ⟨hk1, hc0⟩ := hk1
          obtain ⟨cn, hcn, hcn1, hcn2⟩ := HST.out hk1 hc0
          rw [hk1] at v0
          rw [hcn] at v2
          subst hc0
          have hz : ((0 : Nat) : Int) = 0 := rfl
          rw [hz] at u0
          rw [hz] at hT5 hO5 hL5
          clear hz hk1 hcn
          simp only at hcn2
          go_wp2_with (at_builtin; refine wpList_append_one (L := rangeL) (wr := w5.alloc (.cells #[.int .i64 0, .int .i64 ff, .int .i64 fl] 34)) rfl (.tmp 141) (.tmp 150) 41 rfl B 95 _ 16 Try.underlying41 info_range rfl (fun _ => False) at2 m2 ct2 xs2 rfl hT5.out #[.int .i64 (ff : Int), .int .i64 ((ff : Int) + (cn : Int))] (ff, ff + cn) ?hx7 (fun _ => False) ?hy7 (fun b h => h.elim) ?hm7 ?hb7 ?hs7 ?_)
          case hx7 => simp [Act.eval]
          case hy7 => exact (by simp : [Value.int .i64 (ff : Int), .int .i64 ((ff : Int) + (cn : Int))] = [Value.int .i64 (ff : Int), .int .i64 ((ff + cn : Nat) : Int)])
          case hm7 => (unfold maxLen; omega)
          case hb7 => omega
          case hs7 => (simp; omega)
          intro a7 c7 w7 hown7 hg7
          have hO7 := Lib.hid (hO5.out.flat_keep hg7.size (fun g' cur hh => (hg7.block g' (Array.getElem?_eq_some_iff.1 hh).1 (hT5.out.apart hh (by decide))).trans hh))
          have hL7 := Lib.hid (hT5.out.grown hL5.out (Nat.le_refl _) (by simp; omega) hg7)
          have hT7 := Lib.hid hown7
          clear hown7 hg7 hT5 hO5 hL5
          go_wp2_with fail
          go_roundw
          case rel => exact ⟨k + 1, a3, c3, a7, m2 + 1, c7, ds ++ [d], xs2 ++ [(ff, ff + cn)], by omega, by omega, by omega, by go_num, rfl, rfl, hds3.out, (fun r hr => by
            rcases List.mem_append.1 hr with h | h
            · exact hxs2.out r h
            · rw [List.mem_singleton] at h; rw [h]; show ff < ff + cn ∧ ff + cn ≤ n; omega), hO7.out, hT7.out, hL7.out⟩
          case measure => (simp [intOf]; try omega)
        · by_cases hk2 : d.kind = 1
          · have hc1 : ((fc : Int) == 0) = false := by simp; omega
            rw [hk2] at v0
            clear hk1 hk2
            go_wp2_with fail
            go_roundw
            case rel => exact ⟨k + 1, a3, c3, at2, m2, ct2, ds ++ [d], xs2, by omega, by omega, by omega, by go_num, rfl, rfl, hds3.out, hxs2.out, hO5.out, hT5.out, hL5.out⟩
            case measure => (simp [intOf]; try omega)
          · have hc1 : (d.kind == 1) = false := by simp [hk2]
            clear hk1 hk2
            go_wp2_with fail
            go_roundw
            case rel => exact ⟨k + 1, a3, c3, at2, m2, ct2, ds ++ [d], xs2, by omega, by omega, by omega, by go_num, rfl, rfl, hds3.out, hxs2.out, hO5.out, hT5.out, hL5.out⟩
            case measure => (simp [intOf]; try omega)
    · obtain ⟨us3, F3, hv3, hp3, hl3, _⟩ := hout.out.whole
      have V3 := Lib.hid hv3
      have P3 := Lib.hid (show Pt deedL wr (fun _ => False) ds us3 from hp3)
      have HL3 := Lib.hid hl3
      have hBwr : B ≤ wr.heap.size := by have := hbl.out.size; have := hBB.out; omega
      clear hv3 hp3 hl3
      by_cases hkl : k < len
      all_goals try have hkm2 : decide (k < most) = false := by (simp; omega)
      all_goals
        clear hlt
        go_wp2_with (at_builtin; refine wpList_append_data (L := deedL) rfl (.const (.slice none 0 0)) (.tmp 154) 24 rfl wr.heap.size 31 _ 24 Try.underlying24 info_deed rfl (fun _ => False) none 0 0 [] rfl (SOwn.nil ..) ao k co ds us3 rfl V3.out (fun _ => False) P3.out HL3.out (fun b h => h.elim) (by unfold maxLen; omega) (by omega) (Nat.le_refl _) ?_)
        intro a4 c4 w4 hown4 hg4
        have hb4 : Below wr.heap.size wr w4 := (SOwn.nil deedL wr wr.heap.size 31 (fun _ => False)).grown (Below.refl _ _) (Nat.le_refl _) (Nat.le_refl _) hg4
        have R4 : Hid (SRow deedL w4 (fun _ => True) a4 k c4 ds) := by
          have h := hown4.sRow
          exact h
        have hO4 := Lib.hid (hout.out.below hb4)
        have hL4 := Lib.hid (hbl.out.trans (hb4.mono hBwr))
        have hB4 : B ≤ w4.heap.size := by have := hb4.size; omega
        clear hown4 hg4 hb4 hout hbl htk
        go_wp2_with fail
        refine (sp_play n (fun _ => True) _ _ _ ds _ R4.out (fun x hx => (hds.out x hx).ok) hn1 (by omega) (by omega)).mono ?_
        rintro e w5 ⟨a5, c5, a6, l6, c6, rfl, hF5, hR5, hb5⟩
        have hO5 : Hid (SOwn deedL w5 w.heap.size 31 (fun _ => False) ao k co ds) := by rw [hBB.out]; exact hO4.out.below hb5
        have hF6 : Hid (SOwn foundL w5 w.heap.size 34 (fun _ => False) a5 k c5 ((Sp.new n).play ds).2) := by rw [hBB.out]; exact hF5.out.mono hB4 (fun _ h => h)
        have hR6 : Hid (SOwn recL w5 w.heap.size 106 (fun _ => False) a6 l6 c6 ((Sp.new n).play ds).1.log) := by rw [hBB.out]; exact hR5.out.mono hB4 (fun _ h => h)
        have hL5 : Hid (Below w.heap.size w w5) := by rw [hBB.out]; exact hL4.out.trans (hb5.mono hB4)
        clear hb5 hF5 hR5 hO4 hL4 R4
        go_wp2_with fail
        refine bodyPost_ret (results_tmp4 rfl _ _ _) rfl ?_
        exact ⟨ds, ao, k, co, a5, c5, a6, l6, c6, rfl, hkm, hds.out, hO5.out, hF6.out, hR6.out, hL5.out⟩
end Go.Proofs.Yteidmdakglkkfaa
