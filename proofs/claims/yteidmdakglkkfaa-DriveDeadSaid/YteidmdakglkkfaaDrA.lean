/- The drive laws' own functions: Acts. -/
import Derived.Test.YteidmdakglkkfaaDrD
import Derived.Deep.CutBlock
namespace Go.Proofs.Yteidmdakglkkfaa
open Go.RowKit
set_option linter.unusedVariables false
set_option maxRecDepth 100000

structure ActV where
  kind : Int
  at_ : Int
  mark : Int
  keep : Int
instance : Inhabited ActV := ⟨⟨0, 0, 0, 0⟩⟩
def actL : Lay ActV := Lay.flat 4 (by decide) (fun x => [.int .i64 x.kind, .int .i64 x.at_, .int .i64 x.mark, .int .i64 x.keep]) (fun _ => rfl) (fun x v hv => by
  simp only [List.mem_cons, List.not_mem_nil, or_false] at hv
  rcases hv with rfl | rfl | rfl | rfl <;> rfl)
def jobOf (ks : List Int) (x : ActV) : JobV :=
  ⟨ks.getD (x.kind % ks.length).toNat 0, (x.at_ % 8).toNat, if ks.getD (x.kind % ks.length).toNat 0 = 4 then x.keep else 0, if ks.getD (x.kind % ks.length).toNat 0 = 1 ∨ ks.getD (x.kind % ks.length).toNat 0 = 6 then some (secB x.mark) else none⟩
theorem info_job : (Try.prog.info? 78).map (fun i => (i.zero, i.size, i.bytes)) = some (some (.agg #[.int .i64 0, .int .i64 0, .int .i64 0, .slice none 0 0]), 4, 48) := by kernel_rfl
theorem secB_length (n : Int) : (secB n).length = 128 := secN_length n 128
theorem SecPost.dat {n : Int} {w : World} {e : Ending} {w' : World} (h : SecPost n w e w') : ∃ g, e = .returned (.slice (some ⟨g, 0, none⟩) 128 128) ∧ DatAt w' (Kind w' 5) (some (secB n)) (some ⟨g, 0, none⟩) 128 128 ∧ Below w.heap.size w w' := by
  obtain ⟨g, rfl, ho, hb⟩ := h
  exact ⟨g, rfl, .inr ⟨_, rfl, rfl, secB_length n, own_srow ho.out (wf_bytes0 (secN_bytes n 128))⟩, hb.out⟩
def Acted (ks : List Int) (xs : List ActV) (n : Nat) (w : World) (e : Ending) (w' : World) : Prop := ∃ ao lo co, e = .returned (.slice ao lo co) ∧ SOwn jobL w' w.heap.size 78 (Kind w' 5) ao lo co ((xs.take n).map (jobOf ks)) ∧ Below w.heap.size w w'
set_option maxHeartbeats 4000000 in
theorem actsD {F : Nat → Prop} (a : Option Addr) (len cap : Nat) (xs : List ActV) (n : Nat) (gk ok lk ck : Nat) (ks : List Int) (w : World) (h : SRow actL w F a len cap xs) (hks : Row .i64 w (some ⟨gk, ok, none⟩) lk ck ks) (hlk : 0 < lk ∧ lk ≤ 100) (hn : n ≤ 300) :
    Calls Try.prog 30 #[.slice a len cap, .int .i64 n, .slice (some ⟨gk, ok, none⟩) lk ck] w (Acted ks xs n w) := by
  obtain ⟨B, hB⟩ : ∃ B, Hid (w.heap.size = B) := ⟨_, rfl⟩
  have hxl := h.1
  have hle := h.hle
  have hmx := h.hmax
  have hkl := hks.hlen
  have hkc := hks.hle
  have hkm := hks.hmax
  unfold maxLen at hmx hkm
  obtain ⟨hlk1, hlk2⟩ := hlk
  have HX := Lib.hid h
  have HK := Lib.hid hks
  clear h hks
  go_enter Try.func30, Try.ntmps30
  go_wp2_with fail
  go_loopw [7, 8] (fun ov iv wr => ∃ (i : Nat) (ao : Option Addr) (co : Nat), i ≤ len ∧ i ≤ n ∧ iv = .int .i64 i ∧ ov = .slice ao i co ∧ Hid (SOwn jobL wr B 78 (Kind wr 5) ao i co ((xs.take i).map (jobOf ks))) ∧ Hid (Below B w wr)) (fun _ iv _ => len - (intOf iv).toNat)
  case atStart => exact ⟨0, none, 0, by omega, by omega, rfl, rfl, SOwn.nil .., Below.refl _ _⟩
  case round =>
    obtain ⟨i, ao, co, hi, hin, rfl, rfl, hout, hL⟩ := hrel
    have hBr : B ≤ wr.heap.size := by have := hL.out.size; have := hB.out; omega
    by_cases hgo : i < len ∧ i < n
    · obtain ⟨hil, hin2⟩ := hgo
      have bl : decide ((i : Int) < (len : Int)) = true := decide_eq_true (by omega)
      have bn : decide ((i : Int) < (n : Int)) = true := decide_eq_true (by omega)
      have il : (i : Int) < (len : Int) := by omega
      have LW := Lib.hid (show Below w.heap.size w wr by rw [hB.out]; exact hL.out)
      have hXr := HX.out.below LW.out
      obtain ⟨b, off, vs, rfl, _, hbl, hat, hc⟩ := hXr.get i hil
      have hxi : xs[i]? = some (xs.getD i default) := by simp [List.getD, List.getElem?_eq_getElem (show i < xs.length by omega)]
      have hvs := hat _ hxi
      obtain ⟨x, hx⟩ : ∃ x, xs.getD i default = x := ⟨_, rfl⟩
      rw [hx] at hvs hxi
      obtain rfl : vs = [.int .i64 x.kind, .int .i64 x.at_, .int .i64 x.mark, .int .i64 x.keep] := hvs
      have hnext : Hid ((xs.take (i + 1)).map (jobOf ks) = (xs.take i).map (jobOf ks) ++ [jobOf ks x]) := by show _ = _; rw [List.take_add_one, hxi, List.map_append]; rfl
      have c0 : wr.cell? ⟨b, off + i * 4, none⟩ = some (.int .i64 x.kind) := hc 0 (by decide)
      have c1 : wr.cell? ⟨b, off + i * 4 + 1, none⟩ = some (.int .i64 x.at_) := hc 1 (by decide)
      have HC2 : Hid (wr.cell? ⟨b, off + i * 4 + 2, none⟩ = some (.int .i64 x.mark)) := hc 2 (by decide)
      have HC3 : Hid (wr.cell? ⟨b, off + i * 4 + 3, none⟩ = some (.int .i64 x.keep)) := hc 3 (by decide)
      have hKr := HK.out.below LW.out
      have HKC : Hid (∀ t, t < lk → gk < wr.heap.size ∧ wr.cell? ⟨gk, ok + t, none⟩ = some (.int .i64 (ks.getD t 0))) := by
        intro t ht
        rcases hKr.hat with h0 | ⟨b2, o2, he, h2⟩
        · omega
        · obtain ⟨rfl, rfl⟩ : gk = b2 ∧ ok = o2 := by simpa using he
          exact ⟨World.block_lt_of_cell? _ _ (h2 t ht), h2 t ht⟩
      have hgk := (HKC.out 0 hlk1).1
      obtain ⟨kd, hkd⟩ : ∃ kd, ks.getD (x.kind % ks.length).toNat 0 = kd := ⟨_, rfl⟩
      obtain ⟨ja, hja⟩ : ∃ ja, (x.at_ % 8).toNat = ja := ⟨_, rfl⟩
      have HJA := Lib.hid hja
      have HJOB : Hid (jobOf ks x = ⟨kd, ja, if kd = 4 then x.keep else 0, if kd = 1 ∨ kd = 6 then some (secB x.mark) else none⟩) := by show _ = _; unfold jobOf; rw [hkd, hja]
      have HKD := Lib.hid hkd
      clear hat hc hXr hKr hkd hja
      go_wp2_with fail
      go_cut [9] (fun v9 wx => v9 = .pointer (some ⟨wr.heap.size, 0, none⟩) ∧ Hid (Box wx wr.heap.size #[.int .i64 kd, .int .i64 (ja : Int), .int .i64 0, .slice none 0 0] 78) ∧ Hid (Below wr.heap.size wr wx))
      case first =>
        go_region_law (first | (go_simp; go_at_call_of 15 (8 : Int); refine (picked x.at_ _ _ (by omega) (by omega)).mono ?_; rintro e w' ⟨ra, hra, hra0, hra1, rfl, rfl⟩; have HRA := Lib.hid hra) | (go_simp; go_at_call_of 15 x.kind; refine (picked x.kind _ _ (by omega) (by omega)).mono ?_; rintro e w' ⟨rk, hrk, hrk0, hrk1, rfl, rfl⟩; obtain ⟨tk, rfl⟩ := Int.eq_ofNat_of_zero_le hrk0; have htk : tk < lk := (by omega); obtain ⟨kv, hkv⟩ : ∃ kv, Hid (ks.getD tk 0 = kv) := ⟨_, rfl⟩; have ck := (HKC.out tk htk).2; rw [hkv.out] at ck; have itk : (tk : Int) < (lk : Int) := hrk1; have HRK := Lib.hid hrk))
        all_goals
          have e1 : kv = kd := by
            rw [← hkv.out, ← HKD.out]
            have := HRK.out.out
            rw [show (ks.length : Int) = (lk : Int) by omega, ← this]; simp
          have e2 : ra = (ja : Int) := by have := HRA.out.out; have := HJA.out; omega
          have hBx : Box (wr.alloc (.cells #[.int .i64 kv, .int .i64 ra, .int .i64 0, .slice none 0 0] 78)).drew wr.heap.size #[.int .i64 kd, .int .i64 (ja : Int), .int .i64 0, .slice none 0 0] 78 := by
            rw [← e1, ← e2]; exact (Box.new rfl).drew
          have HBx := Lib.hid hBx
          clear hBx e1 e2 HKC ck
          go_wp2_with fail
          go_meet
          exact ⟨rfl, HBx, (Below_alloc1 _).drew⟩
      case rest =>
        obtain ⟨rfl, hbox, hbw⟩ := hcut
        obtain ⟨g, hg⟩ : ∃ g, wr.heap.size = g := ⟨_, rfl⟩
        rw [hg] at hbox ⊢
        have c2 : wc.cell? ⟨b, off + i * 4 + 2, none⟩ = some (.int .i64 x.mark) := (hbw.out.cell (p := ⟨b, off + i * 4 + 2, none⟩) hbl).trans HC2.out
        have c3 : wc.cell? ⟨b, off + i * 4 + 3, none⟩ = some (.int .i64 x.keep) := (hbw.out.cell (p := ⟨b, off + i * 4 + 3, none⟩) hbl).trans HC3.out
        have O1 := Lib.hid (hout.out.keeps (Keeps.below [5, 78] hbw.out) (by simp) (by simp))
        have L1 := Lib.hid (hL.out.trans (hbw.out.mono hBr))
        have hgx : g < wc.heap.size := hbox.out.lt
        have hgB : B ≤ g := by omega
        have no : ∀ k, (Value.slice ao i co).ownBlock = some k → k < g := fun k hk => by have := (hout.out.lt k hk).2; omega
        have b0 : wc.cell? ⟨g, 0, none⟩ = some (.int .i64 kd) := hbox.out.cell 0
        have b1 : wc.cell? ⟨g, 1, none⟩ = some (.int .i64 (ja : Int)) := hbox.out.cell 1
        have b2 : wc.cell? ⟨g, 2, none⟩ = some (.int .i64 0) := hbox.out.cell 2
        have b3 : wc.cell? ⟨g, 3, none⟩ = some (.slice none 0 0) := hbox.out.cell 3
        have g2 : wc.frozen? ⟨g, 2, none⟩ = false := hbox.out.free 2
        have g3 : wc.frozen? ⟨g, 3, none⟩ = false := hbox.out.free 3
        have NO := Lib.hid no
        clear HKC HC2 HC3 hbw hout hL c0 c1 no
        go_upto_block 2 with fail
        go_cut [] (fun wx => ∃ jp jd ax lx cx, Hid (jobOf ks x = ⟨kd, ja, jp, jd⟩) ∧ Hid (Box wx g #[.int .i64 kd, .int .i64 (ja : Int), .int .i64 jp, .slice ax lx cx] 78) ∧ Hid (DatAt wx (Kind wx 5) jd ax lx cx) ∧ Hid (SOwn jobL wx B 78 (Kind wx 5) ao i co ((xs.take i).map (jobOf ks))) ∧ Hid (Below B w wx))
        case first =>
          have hset : ∀ (W : World) (jq : Nat) (v : Value), Below wc.heap.size wc W → SOwn jobL W B 78 (Kind W 5) ao i co ((xs.take i).map (jobOf ks)) → Kind W 78 g →
              SOwn jobL (W.setCell ⟨g, jq, none⟩ v) B 78 (Kind (W.setCell ⟨g, jq, none⟩ v) 5) ao i co ((xs.take i).map (jobOf ks)) := by
            intro W jq v hb ho hkj
            have hK : Keeps [5] W (W.setCell ⟨g, jq, none⟩ v) := Keeps.set _ (fun t ht hk => by
              obtain rfl := List.mem_singleton.1 ht
              exact absurd (hk.ne hkj) (by decide))
            obtain ⟨hl, vss, F9, hown, hp, hF9⟩ := ho
            refine ⟨hl, vss, F9, ?_, hp.keep (fun _ hb => hb) (fun b hb _ => hK.2 _ (by simp) b (hF9 b hb).1), fun b hb => ⟨hK.kind (by simp) (hF9 b hb).1, by have := (hF9 b hb).2.1; simp [World.setCell]; exact this, (hF9 b hb).2.2⟩⟩
            refine ⟨hown.1, ?_⟩
            rcases hown.2 with h0 | ⟨g', c', cur, hv, hbg, hgg, r⟩
            · exact .inl h0
            · refine .inr ⟨g', c', cur, hv, hbg, ?_, r⟩
              rw [Below.heap_setCell W ⟨g, jq, none⟩ v g' (by
                have := NO.out g' (by rw [hv]; rfl)
                show g' ≠ g; omega)]
              exact hgg
          have HSET := Lib.hid hset
          clear hset
          by_cases k16 : kd = 1 ∨ kd = 6
          · have hjob : Hid (jobOf ks x = ⟨kd, ja, 0, some (secB x.mark)⟩) := by
              show _ = _
              rw [HJOB.out, if_neg (by omega), if_pos k16]
            have hk1 : (kd == 1) = decide (kd = 1) := by rfl
            rcases k16 with rfl | rfl
            all_goals
              go_wp2_with fail
              refine (sectorOf x.mark wc).mono ?_
              rintro e w2 hpost
              obtain ⟨gs, rfl, hdat, hb2⟩ := hpost.dat
              have hb2B := hbox.out.below hb2 hbox.out.lt
              have O2 := O1.out.keeps (Keeps.below [5, 78] hb2) (by simp) (by simp)
              have b4 : w2.cell? ⟨g, 3, none⟩ = some (.slice none 0 0) := hb2B.cell 3
              have b5 : w2.frozen? ⟨g, 3, none⟩ = false := hb2B.free 3
              have BX := Lib.hid (hb2B.set 3 (.slice (some ⟨gs, 0, none⟩) 128 128))
              have OX := Lib.hid (HSET.out w2 3 (.slice (some ⟨gs, 0, none⟩) 128 128) hb2 O2 hb2B.kind)
              have hK : Keeps [5] w2 (w2.setCell ⟨g, 3, none⟩ (.slice (some ⟨gs, 0, none⟩) 128 128)) := Keeps.set _ (fun t ht hk => by
                obtain rfl := List.mem_singleton.1 ht
                exact absurd (hk.ne hb2B.kind) (by decide))
              have DX := Lib.hid (hdat.keep (fun b hb => hK.kind (by simp) hb) (fun b hb _ => hK.2 _ (by simp) b hb))
              have LX := Lib.hid ((L1.out.trans (hb2.mono (by have := L1.out.size; have := hB.out; omega))).setCell (p := ⟨g, 3, none⟩) hgB (.slice (some ⟨gs, 0, none⟩) 128 128))
              clear hb2B O2 hK hdat hpost b0 b1 b2 b3 g2 g3 c2 c3
              go_wp2_with fail
              go_meet
              exact ⟨0, some (secB x.mark), _, _, _, hjob, BX, DX, OX, LX⟩
          · have q1 : (kd == 1) = false := by simp; omega
            have q6 : (kd == 6) = false := by simp; omega
            by_cases k4 : kd = 4
            · have hjob : Hid (jobOf ks x = ⟨kd, ja, x.keep, none⟩) := by
                show _ = _
                rw [HJOB.out, if_pos k4, if_neg k16]
              subst k4
              have BX := Lib.hid (hbox.out.set 2 (.int .i64 x.keep))
              have OX := Lib.hid (HSET.out wc 2 (.int .i64 x.keep) (Below.refl _ _) O1.out hbox.out.kind)
              have LX := Lib.hid (L1.out.setCell (p := ⟨g, 2, none⟩) hgB (.int .i64 x.keep))
              clear k16
              go_wp2_with fail
              go_meet
              exact ⟨x.keep, none, _, _, _, hjob, BX, .inl ⟨rfl, rfl, rfl, rfl⟩, OX, LX⟩
            · have hjob : Hid (jobOf ks x = ⟨kd, ja, 0, none⟩) := by
                show _ = _
                rw [HJOB.out, if_neg k4, if_neg k16]
              have q4 : (kd == 4) = false := by simp; omega
              clear k16 k4
              go_wp2_with fail
              go_meet
              exact ⟨0, none, _, _, _, hjob, hbox, .inl ⟨rfl, rfl, rfl, rfl⟩, O1, L1⟩
        case rest =>
          obtain ⟨jp, jd, ax, lx, cx, hjob, hbox2, hdat, hO, hL2⟩ := hcut
          clear hbox O1 L1 b0 b1 b2 b3 g2 g3 c2 c3
          have b0 : wc.cell? ⟨g, 0, none⟩ = some (.int .i64 kd) := hbox2.out.cell 0
          have b1 : wc.cell? ⟨g, 1, none⟩ = some (.int .i64 (ja : Int)) := hbox2.out.cell 1
          have b2 : wc.cell? ⟨g, 2, none⟩ = some (.int .i64 jp) := hbox2.out.cell 2
          have b3 : wc.cell? ⟨g, 3, none⟩ = some (.slice ax lx cx) := hbox2.out.cell 3
          have hBc : B ≤ wc.heap.size := by have := hL2.out.size; have := hB.out; omega
          go_wp2_with (at_builtin; refine wpList_append_one (L := jobL) (wr := wc) rfl (.tmp 59) (.tmp 61) 75 rfl B 78 _ 48 Try.underlying75 info_job rfl (Kind wc 5) ao i co _ rfl hO.out #[.int .i64 kd, .int .i64 (ja : Int), .int .i64 jp, .slice ax lx cx] ⟨kd, ja, jp, jd⟩ rfl (Kind wc 5) ⟨_, _, _, rfl, hdat.out⟩ (fun b hb => ⟨hb, hb.lt, fun e => absurd (hb.ne (hO.out.kind b e)) (by decide)⟩) (by unfold maxLen; omega) (by omega) hBc ?_)
          intro a5 c5 w5 hown5 hg5
          have K5 : ∀ ts : List TypeId, 78 ∉ ts → Keeps ts wc w5 := fun ts hts => Keeps.grown hg5 (fun k hk t ht hkk => hts (by rw [← hkk.ne (hO.out.kind k hk)]; exact ht))
          have L5 := Lib.hid (hO.out.grown hL2.out (Nat.le_refl _) hBc hg5)
          have O5 := Lib.hid (hown5.mono (Nat.le_refl _) (fun b hb => (K5 [5] (by decide)).kind (by simp) hb))
          clear K5 hown5 hg5 hO hL2 b0 b1 b2 b3 hdat hbox2
          go_wp2_with fail
          go_roundw
          case rel => exact ⟨i + 1, a5, c5, by omega, by omega, by go_num, rfl, by rw [hnext.out, hjob.out, List.map_take]; exact O5, L5⟩
          case measure => simp [intOf]; omega
    · have hfin : xs.take i = xs.take n := by
        by_cases h1 : i < len
        · obtain rfl : i = n := by omega
          rfl
        · rw [List.take_of_length_le (by omega), List.take_of_length_le (by omega)]
      rw [hfin] at hout
      have HF := hout
      clear hout hfin
      by_cases h1 : i < len
      · have b1 : decide ((i : Int) < (len : Int)) = true := decide_eq_true (by omega)
        have b2 : decide ((i : Int) < (n : Int)) = false := decide_eq_false (by omega)
        go_wp2_with fail
        go_ret
        exact ⟨_, _, _, rfl, by rw [hB.out]; exact HF.out, by rw [hB.out]; exact hL.out⟩
      · have b1 : decide ((i : Int) < (len : Int)) = false := decide_eq_false (by omega)
        go_wp2_with fail
        go_ret
        exact ⟨_, _, _, rfl, by rw [hB.out]; exact HF.out, by rw [hB.out]; exact hL.out⟩
end Go.Proofs.Yteidmdakglkkfaa
