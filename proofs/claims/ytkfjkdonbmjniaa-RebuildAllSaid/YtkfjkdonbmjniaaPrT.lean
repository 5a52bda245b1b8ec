/- The walk of package par: table, mix, factor. -/
import Derived.Test.YtkfjkdonbmjniaaGfX
import Derived.Test.YtkfjkdonbmjniaaBoxOps
import Derived.Test.YtkfjkdonbmjniaaLay2
import Derived.Test.YtkfjkdonbmjniaaOwnMake
namespace Go.Proofs.Ytkfjkdonbmjniaa
open Go.RowKit
set_option linter.unusedVariables false
set_option maxRecDepth 100000

theorem results_cell_box {P : Program} {fn : Func} {p : Tmp} {ty : TypeId} (h : fn.results = #[.cell p ty]) (tmps : Array Value) (w : World) (g : Nat) (t : TypeId) (cs : Array Value) (hg : Box w g cs t) (d : TypeDesc)
    (hp : tmps.getD p undef = .pointer (some ⟨g, 0, none⟩))
    (hu : P.underlying ty = some d) (hd : (match d with | .struct _ | .array _ _ => true | _ => false) = true) (hi : (P.info? ty).map (·.size) = some cs.size) :
    (results fn tmps).run P w = .ok (.agg cs) w := by
  have hp' : tmps[p]?.getD undef = .pointer (some ⟨g, 0, none⟩) := by simpa using hp
  simp [results, h, hp', asAddr, run_loadVar_row w g t ty cs (0, 0) d hg hu hd hi]
/-- The table of products, so far. -/
def tabL (x n : Nat) : List Value := (List.range 256).map fun i => .int .u8 (if i < n then ((gmul x i : Nat) : Int) else 0)
def tabV (x n : Nat) : Array Value := (tabL x n).toArray
theorem tabV_size (x n : Nat) : (tabV x n).size = 256 := by simp [tabV, tabL]
theorem tabV_one (x n : Nat) : (tabV x n).toList.all (·.oneCell') = true := by
  simp [tabV, tabL]; intros; rfl
theorem tabV_zero (x : Nat) : tabV x 0 = (List.replicate 256 (Value.int .u8 0)).toArray := by
  unfold tabV tabL
  apply congrArg
  apply List.ext_getElem (by simp)
  intro i h1 h2
  simp only [List.getElem_map, List.getElem_range, List.getElem_replicate]
  rw [if_neg (by omega)]
theorem tabV_set (x n : Nat) (h : n < 256) : (tabV x n).setIfInBounds n (.int .u8 ((gmul x n : Nat) : Int)) = tabV x (n + 1) := by
  apply Array.toList_inj.1
  rw [Array.toList_setIfInBounds]
  show (tabL x n).set n _ = tabL x (n + 1)
  apply List.ext_getElem (by simp [tabL])
  intro i h1 h2
  have hi : i < 256 := by simpa [tabL] using h2
  rw [List.getElem_set]
  by_cases e : n = i
  · subst e; simp [tabL]
  · rw [if_neg e]
    simp only [tabL, List.getElem_map, List.getElem_range]
    by_cases hin : i < n
    · rw [if_pos hin, if_pos (by omega)]
    · rw [if_neg hin, if_neg (by omega)]
theorem tabV_get (x i : Nat) (h : i < 256) : (tabV x 256)[i]? = some (.int .u8 ((gmul x i : Nat) : Int)) := by
  simp [tabV, tabL, h]
theorem byte_wrap (v : Int) (h : 0 ≤ v ∧ v ≤ 255) : IntKind.u8.wrap v = v := by
  simp [IntKind.wrap, IntKind.bits, IntKind.signed]; omega
set_option maxHeartbeats 1000000 in
theorem table (x : Int) (w : World) (hx : 0 ≤ x ∧ x ≤ 255) :
    Calls Try.prog 71 #[.int .i64 x] w fun e w' => e = .returned (.agg (tabV x.toNat 256)) ∧ Below w.heap.size w w' := by
  obtain ⟨a, rfl⟩ := Int.eq_ofNat_of_zero_le hx.1
  have ha : a < 256 := by omega
  go_enter Try.func71, Try.ntmps71
  go_wp2_with fail
  obtain ⟨g, hg⟩ : ∃ g, Hid (w.heap.size = g) := ⟨_, rfl⟩
  rw [hg.out]
  go_loopw [6] (fun i wr => ∃ n : Nat, n ≤ 256 ∧ i = .int .i64 n ∧ Hid (Box wr g (tabV a n) 83) ∧ Hid (Below g w wr)) (fun i _ => 256 - (intOf i).toNat)
  case atStart =>
    refine ⟨0, by omega, rfl, ?_, ?_⟩
    · have h : Box (w.alloc (.cells Try.zeroCells83 83)) g Try.zeroCells83 83 := Box.new hg.out.symm
      rw [show Try.zeroCells83 = tabV a 0 from by rw [tabV_zero]; kernel_rfl] at h ⊢
      exact h
    · rw [← hg.out]; exact Below_alloc1 _
  case round =>
    obtain ⟨n, hn, rfl, hb, hbl⟩ := hrel
    by_cases hlt : n < 256
    · have c1 : wr.cell? ⟨g, n, none⟩ = some (.int .u8 0) := by rw [hb.out.cell n]; simp [tabV, tabL, hlt]
      have f1 : wr.frozen? ⟨g, n, none⟩ = false := hb.out.free n
      go_wp2_with fail
      refine (mulG _ _ _ (by omega) (by omega)).mono ?_
      rintro e w2 ⟨v, hv, hv0, hv1, rfl, hle⟩
      have hgl := hb.out.lt
      have B2 := Lib.hid (hb.out.below hle hgl)
      have L2 := Lib.hid (hbl.out.trans (hle.mono (by omega)))
      have hw := byte_wrap v ⟨hv0, hv1⟩
      have c2 : w2.cell? ⟨g, n, none⟩ = some (.int .u8 0) := by rw [B2.out.cell n]; simp [tabV, tabL, hlt]
      have f2 : w2.frozen? ⟨g, n, none⟩ = false := B2.out.free n
      have hst : Hid (Box (w2.setCell ⟨g, n, none⟩ (.int .u8 v)) g (tabV a (n + 1)) 83) := by
        have h := B2.out.set n (.int .u8 v)
        have h2 : v = ((gmul a n : Nat) : Int) := by rw [hv.out]; simp
        rw [h2, tabV_set a n hlt] at h
        rw [h2]; exact h
      clear hle hv hb hbl c1 f1
      go_wp2_with fail
      go_roundw
      case rel => exact ⟨n + 1, by omega, by go_num, hst, L2.out.setCell (p := ⟨g, n, none⟩) (Nat.le_refl _) _⟩
      case measure => simp [intOf]; omega
    · obtain rfl : n = 256 := by omega
      go_wp2_with (first | (refine wpList_load_box rfl 83 (.tmp 2) rfl g rfl 83 (tabV a 256) hb.out _ Try.underlying83 rfl (by rw [tabV_size]; kernel_rfl) ?_) | (refine wpList_store_box rfl 83 (.tmp 2) (.tmp 20) rfl g (tabV a 256) rfl rfl 83 _ hb.out (by rw [tabV_size]; kernel_rfl) rfl (tabV_one _ _) ?_))
      intro w3 hb3 hg3
      have hgw : w.heap.size ≤ g := by rw [hg.out]; exact Nat.le_refl _
      have hws : g ≤ wr.heap.size := by have := hb.out.lt; omega
      have L3 : Hid (Below g w w3) := hbl.out.grown hg3 hws (fun k hk => by injection hk with hk; omega)
      go_wp2_with (refine bodyPost_ret (results_cell_box Try.results71 _ _ g _ _ hb3 _ rfl Try.underlying83 rfl (by rw [tabV_size]; kernel_rfl)) rfl ?_)
      exact ⟨rfl, by rw [hg.out]; exact L3.out⟩

theorem Own.grownOther {w w' : World} {base : Nat} {e : TypeId} {size : Nat} {a : Option Addr} {len cap : Nat} {vs : List Value} (h : Own w base e size a len cap vs) {row : Option Nat} (hb : w.grownBy w' row) (hne : ∀ k, (Value.slice a len cap).ownBlock = some k → some k ≠ row) : Own w' base e size a len cap vs := by
  have hlt := fun k hk => (World.ownsRow.lt h k hk).2
  refine ⟨h.1, ?_⟩
  rcases h.2 with h0 | ⟨g, c, cur, hv, hbg, hg, r⟩
  · exact .inl h0
  · have hk : (Value.slice a len cap).ownBlock = some g := by rw [hv]; rfl
    exact .inr ⟨g, c, cur, hv, hbg, (hb.block g (hlt g hk) (hne g hk)).trans hg, r⟩
def mixI (x : Nat) (t f : Int) : Int := bits .xor .u8 t ((gmul x f.toNat : Nat) : Int)
/-- A column, of whose first n places the products of another's have been added. -/
def mixN (x : Nat) (dst from_ : List Int) : Nat → List Int
  | 0 => dst
  | n + 1 => (mixN x dst from_ n).set n (mixI x ((mixN x dst from_ n).getD n 0) (from_.getD n 0))
theorem mixN_length (x : Nat) (dst from_ : List Int) : ∀ n, (mixN x dst from_ n).length = dst.length
  | 0 => rfl
  | n + 1 => by unfold mixN; rw [List.length_set, mixN_length]
theorem mixI_eq {x : Nat} {t f : Int} (hx : x < 256) (ht : 0 ≤ t ∧ t ≤ 255) : mixI x t f = ((t.toNat ^^^ gmul x f.toNat : Nat) : Int) := by
  unfold mixI
  have := gmul_lt (b := f.toNat) hx
  rw [u8_xor t _ ht.1 (by omega) (by omega) (by omega)]
  rfl
theorem mixI_bd {x : Nat} {t f : Int} (hx : x < 256) (ht : 0 ≤ t ∧ t ≤ 255) : 0 ≤ mixI x t f ∧ mixI x t f ≤ 255 := by
  rw [mixI_eq hx ht]
  have : t.toNat ^^^ gmul x f.toNat < 256 := xor_lt (by omega) (gmul_lt hx)
  omega
def Byt (l : List Int) : Prop := ∀ v ∈ l, 0 ≤ v ∧ v ≤ 255
theorem Byt.getD {l : List Int} (h : Byt l) (i : Nat) : 0 ≤ l.getD i 0 ∧ l.getD i 0 ≤ 255 := by
  by_cases hi : i < l.length
  · rw [show l.getD i 0 = l[i] by simp [List.getD, hi]]; exact h _ (List.getElem_mem hi)
  · rw [show l.getD i 0 = 0 by simp [List.getD, hi]]; omega
theorem Byt.set {l : List Int} (h : Byt l) (i : Nat) {z : Int} (hz : 0 ≤ z ∧ z ≤ 255) : Byt (l.set i z) := by
  intro v hv
  rcases List.mem_or_eq_of_mem_set hv with h' | h'
  · exact h v h'
  · rw [h']; exact hz
theorem mixN_byt {x : Nat} {dst from_ : List Int} (hx : x < 256) (h : Byt dst) : ∀ n, Byt (mixN x dst from_ n)
  | 0 => h
  | n + 1 => by unfold mixN; exact (mixN_byt hx h n).set n (mixI_bd hx ((mixN_byt hx h n).getD n))
theorem mixN_getD (x : Nat) (dst from_ : List Int) (i : Nat) (hi : i < dst.length) : ∀ n, (mixN x dst from_ n).getD i 0 = if i < n then mixI x (dst.getD i 0) (from_.getD i 0) else dst.getD i 0
  | 0 => by simp [mixN]
  | n + 1 => by
    have ih := mixN_getD x dst from_ i hi n
    have hl := mixN_length x dst from_ n
    unfold mixN
    by_cases e : n = i
    · subst e
      rw [if_neg (Nat.lt_irrefl _)] at ih
      rw [if_pos (Nat.lt_succ_self _), ← ih]
      simp [List.getD, hl, hi]
    · rw [show ((mixN x dst from_ n).set n (mixI x ((mixN x dst from_ n).getD n 0) (from_.getD n 0))).getD i 0 = (mixN x dst from_ n).getD i 0 by simp [List.getD, e], ih]
      by_cases hin : i < n
      · rw [if_pos hin, if_pos (by omega)]
      · rw [if_neg hin, if_neg (by omega)]
theorem factor (j i : Nat) (w : World) (hj : j ≤ 3) (hi : i ≤ 12) :
    Calls Try.prog 65 #[.int .i64 j, .int .i64 i] w fun e w' => e = .returned (.int .i64 ((twos (i * j) : Nat) : Int)) ∧ Below w.heap.size w w' := by
  have hm : i * j ≤ 36 := Nat.mul_le_mul hi hj
  have s1 : IntKind.i64.wrap ((i : Int) * (j : Int)) = (i : Int) * (j : Int) := IntWalk.i64_in _ (by rw [← Int.natCast_mul]; omega)
  have hp : 0 ≤ (i : Int) * (j : Int) ∧ (i : Int) * (j : Int) < 9223372036854775808 := by rw [← Int.natCast_mul]; omega
  go_enter Try.func65, Try.ntmps65
  go_wp2_with fail
  refine (expG _ _ hp).mono ?_
  rintro e w2 ⟨v, hv, hv0, hv1, rfl, hle⟩
  have hv2 : v = ((twos (i * j) : Nat) : Int) := by rw [hv.out, ← Int.natCast_mul]; rfl
  go_wp2_with fail
  go_ret
  exact ⟨rfl, hle⟩
set_option maxHeartbeats 2000000 in
theorem mix (g len cap : Nat) (dst : List Int) (b : Option Addr) (lf cf : Nat) (from_ : List Int) (x : Int) (w : World) (B : Nat) (hto : Own w B 5 1 (some ⟨g, 0, none⟩) len cap (dst.map (.int .u8))) (hB : B ≤ w.heap.size)
    (hfrom : ∀ w', Below B w w' → Row .u8 w' b lf cf from_) (hl : lf ≤ len) (hx : 0 ≤ x ∧ x ≤ 255) (htb : Byt dst) :
    Calls Try.prog 64 #[.slice (some ⟨g, 0, none⟩) len cap, .slice b lf cf, .int .i64 x] w fun e w' => e = .returned (.tuple #[]) ∧ Own w' B 5 1 (some ⟨g, 0, none⟩) len cap ((mixN x.toNat dst from_ lf).map (.int .u8)) ∧ Below B w w' := by
  have hxn : x.toNat < 256 := by omega
  have hfm := (hfrom w (Below.refl _ _)).hmax
  have hfl := (hfrom w (Below.refl _ _)).hle
  have hom := hto.row.hmax
  have hol := hto.row.hle
  have htl : dst.length = len := by have := hto.row.hlen; simpa using this
  unfold maxLen at hfm hom
  have HF : Hid (∀ w', Below B w w' → Row .u8 w' b lf cf from_) := hfrom
  have HO := Lib.hid hto
  have HTB := Lib.hid htb
  have hgl := (World.ownsRow.lt hto g rfl).2
  have hgB := (World.ownsRow.lt hto g rfl).1
  clear hto hfrom htb
  go_enter Try.func64, Try.ntmps64
  go_wp2_with fail
  refine (table x w hx).mono ?_
  rintro e w1 ⟨rfl, hle1⟩
  have O1 := Lib.hid (HO.out.below hle1)
  have L1 : Hid (Below B w w1) := hle1.mono hB
  have hs1 := hle1.size
  clear HO hle1
  go_wp2_with (refine wpList_store_box rfl 83 (.tmp 6) (.tmp 10) rfl w1.heap.size (tabV x.toNat 256) rfl rfl 83 _ (Box.new rfl) (by rw [tabV_size]; kernel_rfl) (by rw [tabV_size]; kernel_rfl) (tabV_one _ _) ?_)
  intro w2 hb2 hg2
  have hne : g ≠ w1.heap.size := by omega
  have O2 := Lib.hid ((O1.out.below (Below_alloc1 (.cells Try.zeroCells83 83))).grownOther hg2 (by intro k hk h; injection hk with hk; injection h with h; exact hne (hk.trans h)))
  have T2 := Lib.hid hb2
  have L2 : Hid (Below B w w2) := (L1.out.alloc (by omega) _).grown hg2 (by simp; omega) (fun k hk => by injection hk with hk; omega)
  obtain ⟨gt, hgt⟩ : ∃ g, w1.heap.size = g := ⟨_, rfl⟩
  rw [hgt] at hne T2 ⊢
  clear hb2 hg2 O1 L1
  go_wp2_with fail
  go_loopw [13] (fun i wr => ∃ n : Nat, n ≤ lf ∧ i = .int .i64 n ∧ Hid (Own wr B 5 1 (some ⟨g, 0, none⟩) len cap ((mixN x.toNat dst from_ n).map (.int .u8))) ∧ Hid (Box wr gt (tabV x.toNat 256) 83) ∧ Hid (Below B w wr)) (fun i _ => lf - (intOf i).toNat)
  case atStart => exact ⟨0, by omega, rfl, O2, T2, L2⟩
  case round =>
    obtain ⟨n, hn, rfl, hO, hT, hL⟩ := hrel
    by_cases hlt : n < lf
    · have hr := HF.out wr hL.out
      rcases hr.hat with h0 | ⟨b1, o1, rfl, hc1⟩
      · omega
      have e1 := hc1 n hlt
      have hfb : 0 ≤ from_.getD n 0 ∧ from_.getD n 0 ≤ 255 := hr.byte n
      obtain ⟨m, hm⟩ : ∃ m : Nat, from_.getD n 0 = (m : Int) := Int.eq_ofNat_of_zero_le hfb.1
      have hm2 : m < 256 := by omega
      rw [hm] at e1
      have hml := mixN_length x.toNat dst from_ n
      obtain ⟨Y, hY⟩ : ∃ Y, Hid (mixN x.toNat dst from_ n = Y) := ⟨_, rfl⟩
      have hYB : Byt Y := by rw [← hY.out]; exact mixN_byt hxn HTB.out n
      have hstep : mixN x.toNat dst from_ (n + 1) = Y.set n (mixI x.toNat (Y.getD n 0) m) := by
        show (mixN x.toNat dst from_ n).set n _ = _
        rw [hY.out, hm]
      rw [hY.out] at hO hml
      obtain ⟨u, hu⟩ : ∃ u, Hid (Y.getD n 0 = u) := ⟨_, rfl⟩
      rw [hu.out] at hstep
      have hub : 0 ≤ u ∧ u ≤ 255 := by rw [← hu.out]; exact hYB.getD n
      have e2 : wr.cell? ⟨g, n, none⟩ = some (.int .u8 u) := by
        rw [World.ownsRow.cellAt hO.out n (by omega), ← hu.out]
        simp [List.getD, List.getElem?_eq_getElem (show n < Y.length by omega)]
      have f2 : wr.frozen? ⟨g, n, none⟩ = false := World.ownsRow.frozenAt hO.out _
      have e3 : wr.cell? ⟨gt, m, none⟩ = some (.int .u8 ((gmul x.toNat m : Nat) : Int)) := by rw [hT.out.cell m, tabV_get _ _ hm2]
      have hst := World.ownsRow.stored hO.out n (.int .u8 (bits .xor .u8 u ((gmul x.toNat m : Nat) : Int)))
      rw [← List.map_set] at hst
      have HST := Lib.hid hst
      have HSTEP : Hid (mixN x.toNat dst from_ (n + 1) = Y.set n (bits .xor .u8 u ((gmul x.toNat m : Nat) : Int))) := hstep
      have hTs := Lib.hid ((hT.out.other (⟨g, n, none⟩ : Addr) hne (.int .u8 (bits .xor .u8 u ((gmul x.toNat m : Nat) : Int)))).drew)
      have hLs := Lib.hid ((hL.out.setCell (p := ⟨g, n, none⟩) hgB (.int .u8 (bits .xor .u8 u ((gmul x.toNat m : Nat) : Int)))).drew)
      have i1 : (n : Int) < (lf : Int) := by omega
      have i2 : (n : Int) < (len : Int) := by omega
      have i3 : (m : Int) < 256 := by omega
      clear hst hstep hfb hc1 hr hm
      go_wp2
      go_region
      go_wp2
      go_roundw
      case rel => exact ⟨n + 1, by omega, by go_num, by rw [HSTEP.out]; exact HST.out.1, hTs, hLs⟩
      case measure => simp [intOf]; omega
    · obtain rfl : n = lf := by omega
      go_wp2_with fail
      go_end0
      exact ⟨rfl, hO.out, hL.out⟩
end Go.Proofs.Ytkfjkdonbmjniaa
