/- The law TakeApart, walked. -/
import Derived.Test.YteidmdakglkkfaaSpE
namespace Go.Proofs.Yteidmdakglkkfaa
open Go.RowKit
set_option linter.unusedVariables false

/-- how the law counts: 0 free, -1 taken, else so many commits, and one more -/
def sinceOf (u : Nat) : Int := if u = 0 then 0 else if u = 1 then -1 else if u = 2 then 2 else 1
def sv (us : List Nat) : Array Value := (us.map fun u => Value.int .i64 (sinceOf u)).toArray
theorem sv_get (us : List Nat) (i : Nat) (h : i < us.length) : (sv us)[i]? = some (.int .i64 (sinceOf (us.getD i 0))) := by simp [sv, List.getD, h]
theorem sv_set (us : List Nat) (i v : Nat) : (sv us).setIfInBounds i (.int .i64 (sinceOf v)) = sv (us.set i v) := by simp [sv, List.map_set]
theorem grown_trans {a b c : World} {row : Option Nat} (h : a.grownBy b row) (k : b.grownBy c row) : a.grownBy c row := h.trans k
theorem grown_below {a w : World} (h : Below a.heap.size a w) (row : Option Nat) : a.grownBy w row := ⟨h.os, h.tape, h.output, h.size, fun i hi _ => h.block i hi⟩
theorem below_of_grown {a w : World} {g B : Nat} (h : a.grownBy w (some g)) (hg : B ≤ g) (hB : B ≤ a.heap.size) {w0 : World} (h0 : Below B w0 a) : Below B w0 w := h0.grown h hB (fun k hk => by injection hk with hk; omega)
/-- Rows of plain structs stay where another kind of block alone is written. -/
theorem SOwn.only {α : Type} {n : Nat} {hn : 0 < n} {f : α → List Value} {hf : ∀ x, (f x).length = n} {h1 : ∀ x, ∀ v ∈ f x, v.oneCell' = true} {w w' : World}
    {base : Nat} {e : TypeId} {G : Nat → Prop} {a : Option Addr} {len cap : Nat} {xs : List α} (ho : SOwn (Lay.flat n hn f hf h1) w base e G a len cap xs) {g : Nat} {vs : Array Value} {t : TypeId} (hg : w.grownBy w' (some g)) (hb : Box w g vs t) (ht : e ≠ t) : SOwn (Lay.flat n hn f hf h1) w' base e G a len cap xs :=
  ho.flat_keep hg.size (fun g' cur hh => (hg.block g' (Array.getElem?_eq_some_iff.1 hh).1 (by intro h; injection h with h; exact Box.ne hh hb ht h)).trans hh)
theorem play_get (s : Sp) (ds : List Deed) (i : Nat) (h : i < ds.length) {x : Found} (hx : (s.play ds).2[i]? = some x) : x = ((s.play (ds.take i)).1.step ds[i]).2 := by
  have e : ds = ds.take i ++ (ds[i] :: ds.drop (i + 1)) := by rw [← List.drop_eq_getElem_cons h, List.take_append_drop]
  have hl : (s.play (ds.take i)).2.length = i := by rw [play_length, List.length_take]; omega
  rw [e, play_append, List.getElem?_append_right (by omega), hl, Nat.sub_self] at hx
  have e2 : (s.play (ds.take i ++ ds[i] :: ds.drop (i + 1))).2 = _ := rfl
  simp only [Sp.play, List.getElem?_cons_zero, Option.some.injEq] at hx
  exact hx.symm
theorem play_take1 (s : Sp) (ds : List Deed) (k : Nat) (h : k < ds.length) : (s.play (ds.take (k + 1))).1 = ((s.play (ds.take k)).1.step ds[k]).1 := by rw [play_take s ds k h]
/-- a deed that is refused turns nothing -/
theorem step_refused (s : Sp) (d : Deed) (h : (s.step d).2.code ≠ 0) : (s.step d).1 = s := by
  show (s.do_ d).1 = s
  have hc : (s.do_ d).2.1 ≠ 0 := h
  revert hc
  unfold Sp.do_
  split
  · rcases take_cases s d.count with ⟨e, _⟩ | ⟨cn, _, _, _, e, _⟩ | ⟨cn, f, h1, h2, h3, _, _, e⟩ <;> rw [e] <;> intro hc <;> first | rfl | exact absurd rfl hc
  · split
    · rcases give_cases s d.from_ d.count with ⟨code, _, e⟩ | ⟨fn, cn, _, _, _, _, _, e⟩ <;> rw [e] <;> intro hc <;> first | rfl | exact absurd rfl hc
    · split
      · intro hc; exact absurd rfl hc
      · intro _; rfl
/-- what a deed that is done comes to, as the law looks at it -/
theorem step_done {n : Nat} {s : Sp} (hok : s.Ok n) {d : Deed} (hd : DeedIs d) (h : (s.step d).2.code = 0) :
    (∃ cn : Nat, d.kind = 1 ∧ d.count = cn ∧ 1 ≤ cn ∧ (s.step d).2.from_ + cn ≤ n ∧ (∀ j, (s.step d).2.from_ ≤ j → j < (s.step d).2.from_ + cn → s.us.getD j 0 = 0) ∧ (s.step d).1.us = setR s.us (s.step d).2.from_ ((s.step d).2.from_ + cn) 1) ∨
    (∃ fn cn : Nat, d.kind = 2 ∧ d.from_ = fn ∧ d.count = cn ∧ 1 ≤ cn ∧ fn + cn ≤ n ∧ (∀ j, fn ≤ j → j < fn + cn → s.us.getD j 0 = 1) ∧ (s.step d).1.us = setR s.us fn (fn + cn) 2) ∨
    (d.kind = 3 ∧ (s.step d).1.us = s.us.map later) := by
  have hlen := hok.len
  rcases hd with ⟨hk, _⟩ | ⟨hk, _⟩ | ⟨hk, _⟩
  · left
    have e : s.do_ d = s.take d.count := by unfold Sp.do_; rw [if_pos hk]
    have e1 : (s.step d).2.code = (s.take d.count).2.1 := by show (s.do_ d).2.1 = _; rw [e]
    have e2 : (s.step d).2.from_ = (s.take d.count).2.2 := by show (s.do_ d).2.2 = _; rw [e]
    have e3 : (s.step d).1 = (s.take d.count).1 := by show (s.do_ d).1 = _; rw [e]
    rw [e1] at h
    rw [e2, e3]
    rcases take_cases s d.count with ⟨e, _⟩ | ⟨cn, _, _, _, e, _⟩ | ⟨cn, f, h1, h2, h3, h4, _, e⟩
    · rw [e] at h; cases h
    · rw [e] at h; cases h
    · rw [e]; exact ⟨cn, hk, h1, h2, by show f + cn ≤ n; omega, h4, rfl⟩
  · right; left
    have e : s.do_ d = ((s.give d.from_ d.count).1, (s.give d.from_ d.count).2, 0) := by unfold Sp.do_; rw [if_neg (by omega), if_pos hk]
    have e1 : (s.step d).2.code = (s.give d.from_ d.count).2 := by show (s.do_ d).2.1 = _; rw [e]
    have e3 : (s.step d).1 = (s.give d.from_ d.count).1 := by show (s.do_ d).1 = _; rw [e]
    rw [e1] at h
    rw [e3]
    rcases give_cases s d.from_ d.count with ⟨code, hc, e⟩ | ⟨fn, cn, h1, h2, h3, h4, h5, e⟩
    · rw [e] at h; exact absurd h hc
    · rw [e]; exact ⟨fn, cn, hk, h1, h2, h3, by omega, h5, rfl⟩
  · right; right
    refine ⟨hk, ?_⟩
    show (s.do_ d).1.us = _
    unfold Sp.do_
    rw [if_neg (by omega), if_neg (by omega), if_pos hk, commit_is]
theorem info_int8 : (Try.prog.info? 3).map (fun i => (i.zero, i.size, i.bytes)) = some (some (.int .i64 0), 1, 8) := by kernel_rfl
theorem one_play : ((Sp.new 1).play [⟨1, 0, 1⟩]).2 = [⟨0, 0, 0⟩] := by rfl

theorem cnt_take_succ (p : Nat → Bool) (us : List Nat) (k : Nat) (h : k < us.length) : cnt p (us.take (k + 1)) = cnt p (us.take k) + if p (us.getD k 0) then 1 else 0 := by
  rw [List.take_succ_eq_append_getElem h, cnt, List.countP_append, List.countP_singleton, cnt]
  simp [List.getD, h]
theorem later_since : ∀ u : Fin 4, sinceOf (later u) = if 0 < sinceOf u then sinceOf u - 1 else sinceOf u := by decide
theorem since_zero : ∀ u : Fin 4, (sinceOf u == 0) = ((u : Nat) == 0) := by decide
theorem since_bd : ∀ u : Fin 4, -1 ≤ sinceOf u ∧ sinceOf u ≤ 2 := by decide
set_option maxRecDepth 100000 in
set_option maxHeartbeats 16000000 in
theorem takeApart (F : Nat → Prop) (a : Option Addr) (len cap : Nat) (ws : List Wish) (nn : Int) (w : World) (ha : SRow wishL w F a len cap ws) :
    Calls Try.prog 3 #[.slice a len cap, .int .i64 nn] w fun e w' => e = .returned (.bool true) ∧ Below w.heap.size w w' := by
  go_enter Try.func3, Try.ntmps3
  go_wp2_with fail
  refine (picked _ _ _ (by omega) (by omega)).mono ?_
  rintro e w' ⟨r, hr, hr0, hr1, rfl, rfl⟩
  clear hr
  obtain ⟨r, rfl⟩ := Int.eq_ofNat_of_zero_le hr0
  go_wp2_with fail
  obtain ⟨n, hn⟩ : ∃ n : Nat, Hid ((1 : Int) + (r : Int) = (n : Int)) := ⟨1 + r, by show _ = _; omega⟩
  have hn1 : 1 ≤ n := by have := hn.out; omega
  have hn2 : n ≤ 100 := by have := hn.out; omega
  rw [hn.out]
  clear hr0 hr1 hn
  refine (deeds n 60 F a len cap ws w ha hn1 hn2 (by omega)).mono ?_
  rintro e w1 ⟨ds, a0, l0, c0, a1, c1, a2, l2, c2, rfl, hl0, hds, hd1, hf1, _, hb1⟩
  go_wp2_with (at_make; refine wpList_make_zeros rfl (.tmp 34) (.tmp 34) 29 rfl 3 (.int .i64 0) 8 Try.underlying29 info_int8 rfl .i64 .i64 (n : Int) (n : Int) n rfl rfl rfl rfl (by omega) (by unfold maxLen; omega) ?_)
  intro w2 hoz hb2
  have hs2 : Box w2 w1.heap.size (sv (Sp.new n).us) 3 := by
    have := hoz.box
    rwa [show (List.replicate n (Value.int .i64 0)).toArray = sv (Sp.new n).us by simp [sv, Sp.new, sinceOf]] at this
  obtain ⟨gs, hgs⟩ : ∃ g, Hid (w1.heap.size = g) := ⟨_, rfl⟩
  rw [hgs.out] at hs2
  rw [hgs.out]
  have HS2 := Lib.hid hs2
  have HD2 := Lib.hid (hd1.out.below hb2)
  have HF2 := Lib.hid (hf1.out.below hb2)
  have HB2 := Lib.hid (Below_next hb1 hb2)
  have hgsw : Hid (w.heap.size ≤ gs) := by have := hb1.size; have := hgs.out; show _ ≤ _; omega
  have hdl : Hid (ds.length = l0) := hd1.out.1
  have hc0 := HD2.out.hle
  have hm0 := HD2.out.hmax
  have hc1 := HF2.out.hle
  have hm1 := HF2.out.hmax
  unfold maxLen at hm0 hm1
  clear hoz hs2 hd1 hf1 hb2 hb1
  obtain ⟨V, rfl⟩ : ∃ V : World, V = w2 := ⟨_, rfl⟩
  go_wp2_with fail
  go_loopw [11] (fun iv wr => ∃ i : Nat, i ≤ l0 ∧ iv = .int .i64 i ∧ Hid (Box wr gs (sv ((Sp.new n).play (ds.take i)).1.us) 3) ∧ Hid (V.grownBy wr (some gs))) (fun iv _ => l0 - (intOf iv).toNat)
  case atStart => exact ⟨0, by omega, rfl, HS2.out, World.grownBy.refl _ _⟩
  case round =>
    obtain ⟨i, hi, rfl, hbs, hgr⟩ := hrel
    have HDr := Lib.hid (HD2.out.only hgr.out HS2.out (by decide))
    have HFr := Lib.hid (HF2.out.only hgr.out HS2.out (by decide))
    by_cases hlt : i < l0
    · have hid : i < ds.length := by have := hdl.out; omega
      obtain ⟨gd, vs, rfl, _, hgdl, ⟨⟨dk, df, dc⟩, hxd, hatd⟩, hcd⟩ := HDr.out.get i hlt
      have hvd : vs = [.int .i64 dk, .int .i64 df, .int .i64 dc] := hatd
      subst hvd
      obtain ⟨gf, vf, rfl, _, hgfl, ⟨⟨fc, ff, fl⟩, hxf, hatf⟩, hcf⟩ := HFr.out.get i hlt
      have hvf : vf = [.int .i64 (fc : Int), .int .i64 (ff : Int), .int .i64 fl] := hatf
      subst hvf
      have d0 : wr.cell? ⟨gd, i * 3, none⟩ = some (.int .i64 dk) := hcd 0 (by decide)
      have d1 : wr.cell? ⟨gd, i * 3 + 1, none⟩ = some (.int .i64 df) := hcd 1 (by decide)
      have d2 : wr.cell? ⟨gd, i * 3 + 2, none⟩ = some (.int .i64 dc) := hcd 2 (by decide)
      have e0 : wr.cell? ⟨gf, i * 3, none⟩ = some (.int .i64 fc) := hcf 0 (by decide)
      have e1 : wr.cell? ⟨gf, i * 3 + 1, none⟩ = some (.int .i64 ff) := hcf 1 (by decide)
      have e2 : wr.cell? ⟨gf, i * 3 + 2, none⟩ = some (.int .i64 fl) := hcf 2 (by decide)
      have hpg := play_get (Sp.new n) ds i hid hxf
      have hpt := play_take1 (Sp.new n) ds i hid
      rw [List.getElem?_eq_getElem hid] at hxd
      injection hxd with hxd
      rw [hxd] at hpg hpt
      have hok : ((Sp.new n).play (ds.take i)).1.Ok n := Sp.Ok.play _ (Sp.Ok.new n)
      have hdi := hds.out _ (List.getElem_mem hid)
      rw [hxd] at hdi
      obtain ⟨s, hs⟩ : ∃ s, Hid (((Sp.new n).play (ds.take i)).1 = s) := ⟨_, rfl⟩
      rw [hs.out] at hpg hpt hok hbs
      have hok' := hok.step ⟨dk, df, dc⟩
      have hsd := fun h => step_done hok hdi h
      have hsr := step_refused s ⟨dk, df, dc⟩
      have hfl : fl = (s.step ⟨dk, df, dc⟩).1.left := by
        have : (Found.mk fc ff fl).left = ((s.step ⟨dk, df, dc⟩).2).left := by rw [hpg]
        exact this
      have hfc : fc = (s.step ⟨dk, df, dc⟩).2.code := by
        have : (Found.mk fc ff fl).code = ((s.step ⟨dk, df, dc⟩).2).code := by rw [hpg]
        exact this
      have hff : ff = (s.step ⟨dk, df, dc⟩).2.from_ := by
        have : (Found.mk fc ff fl).from_ = ((s.step ⟨dk, df, dc⟩).2).from_ := by rw [hpg]
        exact this
      rw [← hfc, ← hff] at hsd
      rw [← hfc] at hsr
      obtain ⟨s', hs'⟩ : ∃ s', Hid ((s.step ⟨dk, df, dc⟩).1 = s') := ⟨_, rfl⟩
      rw [hs'.out] at hsd hsr hpt hok' hfl
      have HSD := Lib.hid hsd
      have HSR := Lib.hid hsr
      have HPT := Lib.hid hpt
      have HOK := Lib.hid hok
      have HOK' := Lib.hid hok'
      have HFL := Lib.hid hfl
      have hgsl : gs < wr.heap.size := hbs.out.lt
      clear hsd hsr hpt hok hok' hfl hfc hff hpg hdi hs hs' hcd hcf hatd hatf hxd hxf
      by_cases hc : fc = 0
      · subst hc
        have hz : ((0 : Nat) : Int) = 0 := rfl
        rw [hz] at e0
        clear hz
        have hsd := HSD.out rfl
        clear HSD HSR
        go_upto_block 2 with fail
        have hngf : gf ≠ gs := fun e => HFr.out.apart hbs.out (by decide) (by rw [e]; rfl)
        have hngd : gd ≠ gs := fun e => HDr.out.apart hbs.out (by decide) (by rw [e]; rfl)
        have x1 : (wr.alloc (.cells #[.int .i64 dk, .int .i64 df, .int .i64 dc] 31)).cell? ⟨gf, i * 3 + 1, none⟩ = some (.int .i64 ff) := (World.cell?_alloc_lt _ _ _ hgfl).trans e1
        have x2 : (wr.alloc (.cells #[.int .i64 dk, .int .i64 df, .int .i64 dc] 31)).cell? ⟨gf, i * 3 + 2, none⟩ = some (.int .i64 fl) := (World.cell?_alloc_lt _ _ _ hgfl).trans e2
        have S1 := hbs.out.alloc (.cells #[.int .i64 dk, .int .i64 df, .int .i64 dc] 31)
        have D1 := Box.new (w := wr) (vs := #[.int .i64 dk, .int .i64 df, .int .i64 dc]) (t := 31) rfl
        have G1 := grown_trans hgr.out (World.grownBy_alloc wr (.cells #[.int .i64 dk, .int .i64 df, .int .i64 dc] 31) (some gs))
        obtain ⟨W1, hW1⟩ : ∃ W, W = wr.alloc (.cells #[.int .i64 dk, .int .i64 df, .int .i64 dc] 31) := ⟨_, rfl⟩
        rw [← hW1] at x1 x2 S1 D1 G1 ⊢
        obtain ⟨h, hh⟩ : ∃ h, Hid (wr.heap.size = h) := ⟨_, rfl⟩
        rw [hh.out] at D1 ⊢
        have hhs : h ≠ gs := by have := hh.out; omega
        have HS1 := Lib.hid S1
        have HD1 := Lib.hid D1
        have HG1 := Lib.hid G1
        have hgfW : gf < W1.heap.size := World.block_lt_of_cell? _ _ x1
        have hhW : h < W1.heap.size := D1.lt
        have hgsW : gs < W1.heap.size := S1.lt
        clear hW1 S1 D1 G1 hbs hgr HDr HFr d0 d1 d2 e0 e1 e2 hgdl hgfl hgsl hngd
        go_cut [] (fun wx => Hid (Box wx gs (sv s'.us) 3) ∧ Hid (W1.grownBy wx (some gs)))
        case first =>
          rcases hsd with ⟨cn, rfl, rfl, hcn, hfn, hz, hus⟩ | ⟨fn, cn, rfl, rfl, rfl, hcn, hfn, hz, hus⟩ | ⟨rfl, hus⟩
          · have HUS := Lib.hid hus
            have HZ := Lib.hid hz
            have y0 : W1.cell? ⟨h, 0, none⟩ = some (.int .i64 1) := HD1.out.cell 0
            have y2 : W1.cell? ⟨h, 2, none⟩ = some (.int .i64 cn) := HD1.out.cell 2
            have t1 : decide ((ff : Int) < 0) = false := by simp
            have t2 : decide (n < cn) = false := by simp; omega
            have t3 : decide ((n : Int) - (cn : Int) < (ff : Int)) = false := by simp; omega
            clear hus hz
            go_wp2_with fail
            go_quiet (fail)
            go_wp2_with fail
            obtain ⟨W2, hW2⟩ : ∃ W, W = W1.drewN nq := ⟨_, rfl⟩
            have HG2 : Hid (W1.grownBy W2 (some gs)) := by rw [hW2]; exact grown_below (below_drewN (Below.refl _ _) _) _
            have HS2' : Hid (Box W2 gs (sv s.us) 3) := by rw [hW2]; exact HS1.out.drewN _
            rw [← hW2]
            clear hW2
            go_loopw [13] (fun kv wx => ∃ k : Nat, k ≤ cn ∧ kv = .int .i64 k ∧ Hid (Box wx gs (sv (setR s.us ff (ff + k) 1)) 3) ∧ Hid (W1.grownBy wx (some gs))) (fun kv _ => cn - (intOf kv).toNat)
            case atStart => exact ⟨0, by omega, rfl, by rw [Nat.add_zero, setR_nil]; exact HS2'.out, HG2.out⟩
            case round =>
              obtain ⟨k, hk, rfl, hbx, hgx⟩ := hrel
              have u2 : wr.cell? ⟨h, 2, none⟩ = some (.int .i64 cn) := hgx.out.cell y2 (by intro e; exact hhs (by injection e))
              have u1 : wr.cell? ⟨gf, i * 3 + 1, none⟩ = some (.int .i64 ff) := hgx.out.cell x1 (by intro e; exact hngf (by injection e))
              by_cases hkc : k < cn
              · have hlen := HOK.out.len
                have hfk : ff + k < s.us.length := by omega
                have u3 : wr.cell? ⟨gs, ff + k, none⟩ = some (.int .i64 0) := by
                  rw [hbx.out.cell (ff + k), sv_get _ _ (by rw [setR_length _ _ _ _ (by omega) (by omega)]; exact hfk), setR_getD _ _ _ _ (by omega) (by omega), if_neg (by omega), HZ.out (ff + k) (by omega) (by omega)]; rfl
                have u4 : wr.frozen? ⟨gs, ff + k, none⟩ = false := hbx.out.free _
                have hnb : Hid (Box (wr.setCell ⟨gs, ff + k, none⟩ (.int .i64 (-1))) gs (sv (setR s.us ff (ff + (k + 1)) 1)) 3) := by
                  have := hbx.out.set (ff + k) (.int .i64 (sinceOf 1))
                  rw [sv_set, ← setR_step s.us ff (ff + k) 1 (by omega) hfk] at this
                  exact this
                have hng := Lib.hid (only_setCell (p := ⟨gs, ff + k, none⟩) hgx.out (.inl rfl) (.int .i64 (-1)))
                have hfi : (ff : Int) + (k : Int) < (n : Int) := by omega
                clear hbx hgx hlen
                go_wp2_with fail
                go_roundw
                case rel => exact ⟨k + 1, by omega, by go_num, hnb, hng.out⟩
                case measure => (simp [intOf]; try omega)
              · obtain rfl : k = cn := by omega
                go_wp2_with fail
                go_meet
                exact ⟨by rw [HUS.out]; exact hbx.out, hgx.out⟩
          · have HUS := Lib.hid hus
            have y0 : W1.cell? ⟨h, 0, none⟩ = some (.int .i64 2) := HD1.out.cell 0
            have y1 : W1.cell? ⟨h, 1, none⟩ = some (.int .i64 fn) := HD1.out.cell 1
            have y2 : W1.cell? ⟨h, 2, none⟩ = some (.int .i64 cn) := HD1.out.cell 2
            clear hus hz
            go_wp2_with fail
            go_loopw [14] (fun kv wx => ∃ k : Nat, k ≤ cn ∧ kv = .int .i64 k ∧ Hid (Box wx gs (sv (setR s.us fn (fn + k) 2)) 3) ∧ Hid (W1.grownBy wx (some gs))) (fun kv _ => cn - (intOf kv).toNat)
            case atStart => exact ⟨0, by omega, rfl, by rw [Nat.add_zero, setR_nil]; exact HS1.out, World.grownBy.refl _ _⟩
            case round =>
              obtain ⟨k, hk, rfl, hbx, hgx⟩ := hrel
              have u2 : wr.cell? ⟨h, 2, none⟩ = some (.int .i64 cn) := hgx.out.cell y2 (by intro e; exact hhs (by injection e))
              have u1 : wr.cell? ⟨h, 1, none⟩ = some (.int .i64 fn) := hgx.out.cell y1 (by intro e; exact hhs (by injection e))
              by_cases hkc : k < cn
              · have hlen := HOK.out.len
                have hfk : fn + k < s.us.length := by omega
                have u3 : wr.cell? ⟨gs, fn + k, none⟩ = some (.int .i64 (sinceOf ((setR s.us fn (fn + k) 2).getD (fn + k) 0))) := by
                  rw [hbx.out.cell (fn + k), sv_get _ _ (by rw [setR_length _ _ _ _ (by omega) (by omega)]; exact hfk)]
                have u4 : wr.frozen? ⟨gs, fn + k, none⟩ = false := hbx.out.free _
                have hnb : Hid (Box (wr.setCell ⟨gs, fn + k, none⟩ (.int .i64 2)) gs (sv (setR s.us fn (fn + (k + 1)) 2)) 3) := by
                  have := hbx.out.set (fn + k) (.int .i64 (sinceOf 2))
                  rw [sv_set, ← setR_step s.us fn (fn + k) 2 (by omega) hfk] at this
                  exact this
                have hng := Lib.hid (only_setCell (p := ⟨gs, fn + k, none⟩) hgx.out (.inl rfl) (.int .i64 2))
                have hfi : (fn : Int) + (k : Int) < (n : Int) := by omega
                clear hbx hgx hlen
                go_wp2_with fail
                go_roundw
                case rel => exact ⟨k + 1, by omega, by go_num, hnb, hng.out⟩
                case measure => (simp [intOf]; try omega)
              · obtain rfl : k = cn := by omega
                go_wp2_with fail
                go_meet
                exact ⟨by rw [HUS.out]; exact hbx.out, hgx.out⟩
          · have HUS := Lib.hid hus
            have y0 : W1.cell? ⟨h, 0, none⟩ = some (.int .i64 3) := HD1.out.cell 0
            clear hus
            go_wp2_with fail
            go_loopw [15] (fun kv wx => ∃ k : Nat, k ≤ n ∧ kv = .int .i64 k ∧ Hid (Box wx gs (sv (mapTo later s.us k)) 3) ∧ Hid (W1.grownBy wx (some gs))) (fun kv _ => n - (intOf kv).toNat)
            case atStart => exact ⟨0, by omega, rfl, by rw [mapTo_zero]; exact HS1.out, World.grownBy.refl _ _⟩
            case round =>
              obtain ⟨k, hk, rfl, hbx, hgx⟩ := hrel
              have hlen := HOK.out.len
              by_cases hkc : k < n
              · have hks : k < s.us.length := by omega
                have hu3 : s.us.getD k 0 < 4 := by have := HOK.out.low k; omega
                have u3 : wr.cell? ⟨gs, k, none⟩ = some (.int .i64 (sinceOf (s.us.getD k 0))) := by
                  rw [hbx.out.cell k, sv_get _ _ (by rw [mapTo_length]; exact hks), mapTo_getD _ _ _ _ hks, if_neg (by omega)]
                have u4 : wr.frozen? ⟨gs, k, none⟩ = false := hbx.out.free _
                have hst := mapTo_step later s.us k hks
                have hkp := mapTo_keep later s.us k hks
                have hls := later_since ⟨s.us.getD k 0, hu3⟩
                have hbd := since_bd ⟨s.us.getD k 0, hu3⟩
                simp only at hls hbd
                obtain ⟨u, hu⟩ : ∃ u, Hid (s.us.getD k 0 = u) := ⟨_, rfl⟩
                rw [hu.out] at hst hkp hls hbd u3
                obtain ⟨sn, hsn⟩ : ∃ sn, Hid (sinceOf u = sn) := ⟨_, rfl⟩
                rw [hsn.out] at u3 hls hbd
                obtain ⟨hbd1, hbd2⟩ := hbd
                have HST := Lib.hid hst
                have HLS := Lib.hid hls
                have HKP := Lib.hid hkp
                have hki : (k : Int) < (n : Int) := by omega
                clear hst hls hkp hlen hks hu3
                by_cases hpos : 0 < sn
                · have hnb : Hid (Box (wr.setCell ⟨gs, k, none⟩ (.int .i64 (sn - 1))) gs (sv (mapTo later s.us (k + 1))) 3) := by
                    have := hbx.out.set k (.int .i64 (sinceOf (later u)))
                    rw [sv_set, ← HST.out, HLS.out, if_pos hpos] at this
                    exact this
                  have hng := Lib.hid (only_setCell (p := ⟨gs, k, none⟩) hgx.out (.inl rfl) (.int .i64 (sn - 1)))
                  clear hbx hgx
                  go_wp2_with fail
                  go_roundw
                  case rel => exact ⟨k + 1, by omega, by go_num, hnb, hng.out⟩
                  case measure => (simp [intOf]; try omega)
                · have hpf : decide (0 < sn) = false := by simp; omega
                  have hnb : Hid (Box wr gs (sv (mapTo later s.us (k + 1))) 3) := by
                    have h1 := HLS.out
                    rw [if_neg hpos, ← hsn.out] at h1
                    have h2 := HST.out
                    have h3 : sv (mapTo later s.us (k + 1)) = sv (mapTo later s.us k) := by
                      have h4 : (sv (mapTo later s.us k)).setIfInBounds k (.int .i64 (sinceOf (later u))) = sv (mapTo later s.us (k + 1)) := by rw [sv_set, h2]
                      rw [← h4, h1]
                      have hks : k < s.us.length := by have := HOK.out.len; omega
                      have h5 := sv_get (mapTo later s.us k) k (by rw [mapTo_length]; exact hks)
                      rw [mapTo_getD _ _ _ _ hks, if_neg (by omega), hu.out] at h5
                      apply Array.ext
                      · simp
                      · intro j hj hj'
                        rw [Array.getElem_setIfInBounds (by simpa using hj')]
                        split
                        · rename_i hjk
                          subst hjk
                          rw [Array.getElem?_eq_getElem hj'] at h5
                          exact (by injection h5 with h5; exact h5.symm)
                        · rfl
                    rw [h3]; exact hbx.out
                  clear hbx
                  go_wp2_with fail
                  go_roundw
                  case rel => exact ⟨k + 1, by omega, by go_num, hnb, hgx.out⟩
                  case measure => (simp [intOf]; try omega)
              · obtain rfl : k = n := by omega
                have hfin := hbx.out
                rw [mapTo_all _ _ _ (by omega)] at hfin
                have HFI := Lib.hid hfin
                clear hlen hfin hbx
                go_wp2_with fail
                go_meet
                exact ⟨by rw [HUS.out]; exact HFI.out, hgx.out⟩
        case rest =>
          obtain ⟨hbc, hgc⟩ := hcut
          obtain ⟨W9, rfl⟩ : ∃ W9 : World, W9 = wc := ⟨_, rfl⟩
          have x9 : W9.cell? ⟨gf, i * 3 + 2, none⟩ = some (.int .i64 fl) := hgc.out.cell x2 (by intro e; exact hngf (by injection e))
          clear hsd x1 x2
          go_wp2_with fail
          go_loop [16, 17] (fun cv kv => ∃ (k c : Nat), k ≤ n ∧ c ≤ k ∧ kv = .int .i64 k ∧ cv = .int .i64 c ∧ Hid (c = cnt (· == 0) (s'.us.take k))) (fun _ kv => n - (intOf kv).toNat)
          case atStart => exact ⟨0, 0, by omega, by omega, rfl, rfl, rfl⟩
          case round =>
            obtain ⟨k, c, hk, hck, rfl, rfl, hcc⟩ := hrel
            have hlen := HOK'.out.len
            by_cases hkn : k < n
            · have hks : k < s'.us.length := by omega
              have u3 : W9.cell? ⟨gs, k, none⟩ = some (.int .i64 (sinceOf (s'.us.getD k 0))) := by rw [hbc.out.cell k, sv_get _ _ hks]
              have hu3 : s'.us.getD k 0 < 4 := by have := HOK'.out.low k; omega
              have hsz := since_zero ⟨s'.us.getD k 0, hu3⟩
              have hct := cnt_take_succ (· == 0) s'.us k hks
              simp only at hsz
              obtain ⟨u, hu⟩ : ∃ u, Hid (s'.us.getD k 0 = u) := ⟨_, rfl⟩
              rw [hu.out] at u3 hsz hct
              rw [← hsz, ← hcc.out] at hct
              obtain ⟨sn, hsn⟩ : ∃ sn, Hid (sinceOf u = sn) := ⟨_, rfl⟩
              rw [hsn.out] at u3 hct
              have HCT := Lib.hid hct
              have hki : (k : Int) < (n : Int) := by omega
              clear hsz hct hlen hks hu3
              by_cases hz : sn = 0
              · subst hz
                have hn' : Hid (c + 1 = cnt (· == 0) (s'.us.take (k + 1))) := by show _ = _; rw [HCT.out]; rfl
                go_wp2_with fail
                go_round
                case rel => exact ⟨k + 1, c + 1, by omega, by omega, by go_num, by go_num, hn'⟩
                case measure => (simp [intOf]; try omega)
              · have hzb : (sn == 0) = false := by simp [hz]
                have hn' : Hid (c = cnt (· == 0) (s'.us.take (k + 1))) := by show _ = _; rw [HCT.out, if_neg (by rw [hzb]; decide)]; rfl
                clear hz
                go_wp2_with fail
                go_round
                case rel => exact ⟨k + 1, c, by omega, by omega, by go_num, rfl, hn'⟩
                case measure => (simp [intOf]; try omega)
            · obtain rfl : k = n := by omega
              have hfc : fl = (c : Int) := by
                rw [HFL.out, HOK'.out.left, hcc.out, List.take_of_length_le (by omega)]
              have b9 : (fl != (c : Int)) = false := by simp [hfc]
              have hng := Lib.hid (grown_trans HG1.out hgc.out)
              clear hfc hlen
              go_wp2_with fail
              go_roundw
              case rel => exact ⟨i + 1, by omega, by go_num, by rw [HPT.out]; exact hbc.out, hng.out⟩
              case measure => (simp [intOf]; try omega)
      · have b0 : ((fc : Int) != 0) = true := by simp [hc]
        have hss := HSR.out hc
        have hnx : Hid (((Sp.new n).play (ds.take (i + 1))).1 = s) := by show _ = _; rw [HPT.out, hss]
        clear hc hss HSD HSR HPT
        go_wp2_with fail
        go_roundw
        case rel => exact ⟨i + 1, by omega, by go_num, by rw [hnx.out]; exact hbs.out.alloc _, grown_trans hgr.out (World.grownBy_alloc _ _ _)⟩
        case measure => (simp [intOf]; try omega)
    · obtain rfl : i = l0 := by omega
      have hBl := Lib.hid (below_of_grown hgr.out hgsw.out (by have := HB2.out.size; exact this) HB2.out)
      have R0 : Hid (SRow deedL (wr.alloc (.cells #[.int .i64 1, .int .i64 0, .int .i64 1] 31)) (fun _ => True) (some ⟨wr.heap.size, 0, none⟩) 1 1 [⟨1, 0, 1⟩]) :=
        ⟨rfl, fun _ _ _ => trivial, [[.int .i64 1, .int .i64 0, .int .i64 1]], VRow.single (L := deedL) (w0 := wr) (F := fun _ => True) (x := ⟨1, 0, 1⟩) rfl 31 #[.int .i64 1, .int .i64 0, .int .i64 1] rfl rfl, Pt.single rfl⟩
      have hBl2 := Lib.hid (hBl.out.alloc (by have := hBl.out.size; exact this) (.cells #[.int .i64 1, .int .i64 0, .int .i64 1] 31))
      clear HDr HFr hbs hgr
      go_wp2_with fail
      refine (sp_play 1 (fun _ => True) _ _ _ [⟨1, 0, 1⟩] _ R0.out (fun d hd => by rw [List.mem_singleton] at hd; subst hd; unfold DeedOk; simp) (by omega) (by omega) (by omega)).mono ?_
      rintro e w5 ⟨a5, c5, a6, l6, c6, rfl, hF5, _, hb5⟩
      obtain ⟨g5, vs5, rfl, _, hg5l, ⟨x5, hx5, hat5⟩, hcell5⟩ := hF5.out.get 0 (by omega)
      rw [one_play] at hx5
      have hx5' : x5 = ⟨0, 0, 0⟩ := by simpa using hx5.symm
      subst hx5'
      have hvs5 : vs5 = [.int .i64 0, .int .i64 0, .int .i64 0] := hat5
      subst hvs5
      have u2 : w5.cell? ⟨g5, 2, none⟩ = some (.int .i64 0) := by have := hcell5 2 (by decide); simpa using this
      have HBE := Lib.hid (hBl2.out.trans (hb5.mono (by have := hBl2.out.size; exact this)))
      clear hcell5 hat5 hx5 hF5 hb5
      go_wp2_with fail
      go_ret
      exact ⟨rfl, HBE.out⟩
end Go.Proofs.Yteidmdakglkkfaa
