/- Texts that belong together: PrT, PrE, PrC. -/
import Derived.Deep.DeepCutAuto
import Derived.Test.YtkjaddiagembaaaZ2
import Derived.Test.YtkjaddiagembaaaZ3
/- The walk of package par: table, mix, factor. -/
namespace Go.Proofs.Ytkjaddiagembaaa
open Go.RowKit
set_option linter.unusedVariables false
set_option maxRecDepth 100000

theorem results_cell_box {P : Program} {fn : Func} {p : Tmp} {ty : TypeId} (h : fn.results = #[.cell p ty]) (tmps : Array Value) (w : World) (g : Nat) (t : TypeId) (cs : Array Value) (hg : Box w g cs t) (d : TypeDesc)
    (hp : tmps.getD p undef = .pointer (some ⟨g, 0, none⟩))
    (hu : P.underlying ty = some d) (hd : (match d with | .struct _ | .array _ _ => true | _ => false) = true) (hi : (P.info? ty).map (·.size) = some cs.size) :
    (results fn tmps).run P w = .ok (.agg cs) w := by
  have hp' : tmps[p]?.getD undef = .pointer (some ⟨g, 0, none⟩) := by simpa using hp
  simp [results, h, hp', asAddr, run_loadVar_row w g t ty cs (0, 0) d hg hu hd hi]
/-- The table of products, so far. -/
def tabL (x n : Nat) : List Value := (List.range 256).map fun i => .int .u8 (if i < n then ((gmul x i : Nat) : Int) else 0)
def tabV (x n : Nat) : Array Value := (tabL x n).toArray
theorem tabV_size (x n : Nat) : (tabV x n).size = 256 := by simp [tabV, tabL]
theorem tabV_one (x n : Nat) : (tabV x n).toList.all (·.oneCell') = true := by
  simp [tabV, tabL]; intros; rfl
theorem tabV_zero (x : Nat) : tabV x 0 = (List.replicate 256 (Value.int .u8 0)).toArray := by
  unfold tabV tabL
  apply congrArg
  apply List.ext_getElem (by simp)
  intro i h1 h2
  simp only [List.getElem_map, List.getElem_range, List.getElem_replicate]
  rw [if_neg (by omega)]
theorem tabV_set (x n : Nat) (h : n < 256) : (tabV x n).setIfInBounds n (.int .u8 ((gmul x n : Nat) : Int)) = tabV x (n + 1) := by
  apply Array.toList_inj.1
  rw [Array.toList_setIfInBounds]
  show (tabL x n).set n _ = tabL x (n + 1)
  apply List.ext_getElem (by simp [tabL])
  intro i h1 h2
  have hi : i < 256 := by simpa [tabL] using h2
  rw [List.getElem_set]
  by_cases e : n = i
  · subst e; simp [tabL]
  · rw [if_neg e]
    simp only [tabL, List.getElem_map, List.getElem_range]
    by_cases hin : i < n
    · rw [if_pos hin, if_pos (by omega)]
    · rw [if_neg hin, if_neg (by omega)]
theorem tabV_get (x i : Nat) (h : i < 256) : (tabV x 256)[i]? = some (.int .u8 ((gmul x i : Nat) : Int)) := by
  simp [tabV, tabL, h]
theorem byte_wrap (v : Int) (h : 0 ≤ v ∧ v ≤ 255) : IntKind.u8.wrap v = v := by
  simp [IntKind.wrap, IntKind.bits, IntKind.signed]; omega
set_option maxHeartbeats 1000000 in
theorem table (x : Int) (w : World) (hx : 0 ≤ x ∧ x ≤ 255) :
    Calls Try.prog 50 #[.int .i64 x] w fun e w' => e = .returned (.agg (tabV x.toNat 256)) ∧ Below w.heap.size w w' := by
  obtain ⟨a, rfl⟩ := Int.eq_ofNat_of_zero_le hx.1
  have ha : a < 256 := by omega
  go_enter Try.func50, Try.ntmps50
  go_wp2_with fail
  obtain ⟨g, hg⟩ : ∃ g, Hid (w.heap.size = g) := ⟨_, rfl⟩
  rw [hg.out]
  go_loopw [6] (fun i wr => ∃ n : Nat, n ≤ 256 ∧ i = .int .i64 n ∧ Hid (Box wr g (tabV a n) 88) ∧ Hid (Below g w wr)) (fun i _ => 256 - (intOf i).toNat)
  case atStart =>
    refine ⟨0, by omega, rfl, ?_, ?_⟩
    · have h : Box (w.alloc (.cells Try.zeroCells88 88)) g Try.zeroCells88 88 := Box.new hg.out.symm
      rw [show Try.zeroCells88 = tabV a 0 from by rw [tabV_zero]; kernel_rfl] at h ⊢
      exact h
    · rw [← hg.out]; exact Below_alloc1 _
  case round =>
    obtain ⟨n, hn, rfl, hb, hbl⟩ := hrel
    by_cases hlt : n < 256
    · have c1 : wr.cell? ⟨g, n, none⟩ = some (.int .u8 0) := by rw [hb.out.cell n]; simp [tabV, tabL, hlt]
      have f1 : wr.frozen? ⟨g, n, none⟩ = false := hb.out.free n
      go_wp2_with fail
      refine (mulG _ _ _ (by omega) (by omega)).mono ?_
      rintro e w2 ⟨v, hv, hv0, hv1, rfl, hle⟩
      have hgl := hb.out.lt
      have B2 := Lib.hid (hb.out.below hle hgl)
      have L2 := Lib.hid (hbl.out.trans (hle.mono (by omega)))
      have hw := byte_wrap v ⟨hv0, hv1⟩
      have c2 : w2.cell? ⟨g, n, none⟩ = some (.int .u8 0) := by rw [B2.out.cell n]; simp [tabV, tabL, hlt]
      have f2 : w2.frozen? ⟨g, n, none⟩ = false := B2.out.free n
      have hst : Hid (Box (w2.setCell ⟨g, n, none⟩ (.int .u8 v)) g (tabV a (n + 1)) 88) := by
        have h := B2.out.set n (.int .u8 v)
        have h2 : v = ((gmul a n : Nat) : Int) := by rw [hv.out]; simp
        rw [h2, tabV_set a n hlt] at h
        rw [h2]; exact h
      clear hle hv hb hbl c1 f1
      go_wp2_with fail
      go_roundw
      case rel => exact ⟨n + 1, by omega, by go_num, hst, L2.out.setCell (p := ⟨g, n, none⟩) (Nat.le_refl _) _⟩
      case measure => simp [intOf]; omega
    · obtain rfl : n = 256 := by omega
      go_wp2_with (first | (refine wpList_load_box rfl 88 (.tmp 2) rfl g rfl 88 (tabV a 256) hb.out _ Try.underlying88 rfl (by rw [tabV_size]; kernel_rfl) ?_) | (refine wpList_store_box rfl 88 (.tmp 2) (.tmp 20) rfl g (tabV a 256) rfl rfl 88 _ hb.out (by rw [tabV_size]; kernel_rfl) rfl (tabV_one _ _) ?_))
      intro w3 hb3 hg3
      have hgw : w.heap.size ≤ g := by rw [hg.out]; exact Nat.le_refl _
      have hws : g ≤ wr.heap.size := by have := hb.out.lt; omega
      have L3 : Hid (Below g w w3) := hbl.out.grown hg3 hws (fun k hk => by injection hk with hk; omega)
      go_wp2_with (refine bodyPost_ret (results_cell_box Try.results50 _ _ g _ _ hb3 _ rfl Try.underlying88 rfl (by rw [tabV_size]; kernel_rfl)) rfl ?_)
      exact ⟨rfl, by rw [hg.out]; exact L3.out⟩

theorem Own.grownOther {w w' : World} {base : Nat} {e : TypeId} {size : Nat} {a : Option Addr} {len cap : Nat} {vs : List Value} (h : Own w base e size a len cap vs) {row : Option Nat} (hb : w.grownBy w' row) (hne : ∀ k, (Value.slice a len cap).ownBlock = some k → some k ≠ row) : Own w' base e size a len cap vs := by
  have hlt := fun k hk => (World.ownsRow.lt h k hk).2
  refine ⟨h.1, ?_⟩
  rcases h.2 with h0 | ⟨g, c, cur, hv, hbg, hg, r⟩
  · exact .inl h0
  · have hk : (Value.slice a len cap).ownBlock = some g := by rw [hv]; rfl
    exact .inr ⟨g, c, cur, hv, hbg, (hb.block g (hlt g hk) (hne g hk)).trans hg, r⟩
def mixI (x : Nat) (t f : Int) : Int := bits .xor .u8 t ((gmul x f.toNat : Nat) : Int)
/-- A column, of whose first n places the products of another's have been added. -/
def mixN (x : Nat) (dst from_ : List Int) : Nat → List Int
  | 0 => dst
  | n + 1 => (mixN x dst from_ n).set n (mixI x ((mixN x dst from_ n).getD n 0) (from_.getD n 0))
theorem mixN_length (x : Nat) (dst from_ : List Int) : ∀ n, (mixN x dst from_ n).length = dst.length
  | 0 => rfl
  | n + 1 => by unfold mixN; rw [List.length_set, mixN_length]
theorem mixI_eq {x : Nat} {t f : Int} (hx : x < 256) (ht : 0 ≤ t ∧ t ≤ 255) : mixI x t f = ((t.toNat ^^^ gmul x f.toNat : Nat) : Int) := by
  unfold mixI
  have := gmul_lt (b := f.toNat) hx
  rw [u8_xor t _ ht.1 (by omega) (by omega) (by omega)]
  rfl
theorem mixI_bd {x : Nat} {t f : Int} (hx : x < 256) (ht : 0 ≤ t ∧ t ≤ 255) : 0 ≤ mixI x t f ∧ mixI x t f ≤ 255 := by
  rw [mixI_eq hx ht]
  have : t.toNat ^^^ gmul x f.toNat < 256 := xor_lt (by omega) (gmul_lt hx)
  omega
def Byt (l : List Int) : Prop := ∀ v ∈ l, 0 ≤ v ∧ v ≤ 255
theorem Byt.getD {l : List Int} (h : Byt l) (i : Nat) : 0 ≤ l.getD i 0 ∧ l.getD i 0 ≤ 255 := by
  by_cases hi : i < l.length
  · rw [show l.getD i 0 = l[i] by simp [List.getD, hi]]; exact h _ (List.getElem_mem hi)
  · rw [show l.getD i 0 = 0 by simp [List.getD, hi]]; omega
theorem Byt.set {l : List Int} (h : Byt l) (i : Nat) {z : Int} (hz : 0 ≤ z ∧ z ≤ 255) : Byt (l.set i z) := by
  intro v hv
  rcases List.mem_or_eq_of_mem_set hv with h' | h'
  · exact h v h'
  · rw [h']; exact hz
theorem mixN_byt {x : Nat} {dst from_ : List Int} (hx : x < 256) (h : Byt dst) : ∀ n, Byt (mixN x dst from_ n)
  | 0 => h
  | n + 1 => by unfold mixN; exact (mixN_byt hx h n).set n (mixI_bd hx ((mixN_byt hx h n).getD n))
theorem mixN_getD (x : Nat) (dst from_ : List Int) (i : Nat) (hi : i < dst.length) : ∀ n, (mixN x dst from_ n).getD i 0 = if i < n then mixI x (dst.getD i 0) (from_.getD i 0) else dst.getD i 0
  | 0 => by simp [mixN]
  | n + 1 => by
    have ih := mixN_getD x dst from_ i hi n
    have hl := mixN_length x dst from_ n
    unfold mixN
    by_cases e : n = i
    · subst e
      rw [if_neg (Nat.lt_irrefl _)] at ih
      rw [if_pos (Nat.lt_succ_self _), ← ih]
      simp [List.getD, hl, hi]
    · rw [show ((mixN x dst from_ n).set n (mixI x ((mixN x dst from_ n).getD n 0) (from_.getD n 0))).getD i 0 = (mixN x dst from_ n).getD i 0 by simp [List.getD, e], ih]
      by_cases hin : i < n
      · rw [if_pos hin, if_pos (by omega)]
      · rw [if_neg hin, if_neg (by omega)]
theorem factor (j i : Nat) (w : World) (hj : j ≤ 3) (hi : i ≤ 12) :
    Calls Try.prog 46 #[.int .i64 j, .int .i64 i] w fun e w' => e = .returned (.int .i64 ((twos (i * j) : Nat) : Int)) ∧ Below w.heap.size w w' := by
  have hm : i * j ≤ 36 := Nat.mul_le_mul hi hj
  have s1 : IntKind.i64.wrap ((i : Int) * (j : Int)) = (i : Int) * (j : Int) := IntWalk.i64_in _ (by rw [← Int.natCast_mul]; omega)
  have hp : 0 ≤ (i : Int) * (j : Int) ∧ (i : Int) * (j : Int) < 9223372036854775808 := by rw [← Int.natCast_mul]; omega
  go_enter Try.func46, Try.ntmps46
  go_wp2_with fail
  refine (expG _ _ hp).mono ?_
  rintro e w2 ⟨v, hv, hv0, hv1, rfl, hle⟩
  have hv2 : v = ((twos (i * j) : Nat) : Int) := by rw [hv.out, ← Int.natCast_mul]; rfl
  go_wp2_with fail
  go_ret
  exact ⟨rfl, hle⟩
set_option maxHeartbeats 2000000 in
theorem mix (g len cap : Nat) (dst : List Int) (b : Option Addr) (lf cf : Nat) (from_ : List Int) (x : Int) (w : World) (B : Nat) (hto : Own w B 5 1 (some ⟨g, 0, none⟩) len cap (dst.map (.int .u8))) (hB : B ≤ w.heap.size)
    (hfrom : ∀ w', Below B w w' → Row .u8 w' b lf cf from_) (hl : lf ≤ len) (hx : 0 ≤ x ∧ x ≤ 255) (htb : Byt dst) :
    Calls Try.prog 45 #[.slice (some ⟨g, 0, none⟩) len cap, .slice b lf cf, .int .i64 x] w fun e w' => e = .returned (.tuple #[]) ∧ Own w' B 5 1 (some ⟨g, 0, none⟩) len cap ((mixN x.toNat dst from_ lf).map (.int .u8)) ∧ Below B w w' := by
  have hxn : x.toNat < 256 := by omega
  have hfm := (hfrom w (Below.refl _ _)).hmax
  have hfl := (hfrom w (Below.refl _ _)).hle
  have hom := hto.row.hmax
  have hol := hto.row.hle
  have htl : dst.length = len := by have := hto.row.hlen; simpa using this
  unfold maxLen at hfm hom
  have HF : Hid (∀ w', Below B w w' → Row .u8 w' b lf cf from_) := hfrom
  have HO := Lib.hid hto
  have HTB := Lib.hid htb
  have hgl := (World.ownsRow.lt hto g rfl).2
  have hgB := (World.ownsRow.lt hto g rfl).1
  clear hto hfrom htb
  go_enter Try.func45, Try.ntmps45
  go_wp2_with fail
  refine (table x w hx).mono ?_
  rintro e w1 ⟨rfl, hle1⟩
  have O1 := Lib.hid (HO.out.below hle1)
  have L1 : Hid (Below B w w1) := hle1.mono hB
  have hs1 := hle1.size
  clear HO hle1
  go_wp2_with (refine wpList_store_box rfl 88 (.tmp 6) (.tmp 10) rfl w1.heap.size (tabV x.toNat 256) rfl rfl 88 _ (Box.new rfl) (by rw [tabV_size]; kernel_rfl) (by rw [tabV_size]; kernel_rfl) (tabV_one _ _) ?_)
  intro w2 hb2 hg2
  have hne : g ≠ w1.heap.size := by omega
  have O2 := Lib.hid ((O1.out.below (Below_alloc1 (.cells Try.zeroCells88 88))).grownOther hg2 (by intro k hk h; injection hk with hk; injection h with h; exact hne (hk.trans h)))
  have T2 := Lib.hid hb2
  have L2 : Hid (Below B w w2) := (L1.out.alloc (by omega) _).grown hg2 (by simp; omega) (fun k hk => by injection hk with hk; omega)
  obtain ⟨gt, hgt⟩ : ∃ g, w1.heap.size = g := ⟨_, rfl⟩
  rw [hgt] at hne T2 ⊢
  clear hb2 hg2 O1 L1
  go_wp2_with fail
  go_loopw [13] (fun i wr => ∃ n : Nat, n ≤ lf ∧ i = .int .i64 n ∧ Hid (Own wr B 5 1 (some ⟨g, 0, none⟩) len cap ((mixN x.toNat dst from_ n).map (.int .u8))) ∧ Hid (Box wr gt (tabV x.toNat 256) 88) ∧ Hid (Below B w wr)) (fun i _ => lf - (intOf i).toNat)
  case atStart => exact ⟨0, by omega, rfl, O2, T2, L2⟩
  case round =>
    obtain ⟨n, hn, rfl, hO, hT, hL⟩ := hrel
    by_cases hlt : n < lf
    · have hr := HF.out wr hL.out
      rcases hr.hat with h0 | ⟨b1, o1, rfl, hc1⟩
      · omega
      have e1 := hc1 n hlt
      have hfb : 0 ≤ from_.getD n 0 ∧ from_.getD n 0 ≤ 255 := hr.byte n
      obtain ⟨m, hm⟩ : ∃ m : Nat, from_.getD n 0 = (m : Int) := Int.eq_ofNat_of_zero_le hfb.1
      have hm2 : m < 256 := by omega
      rw [hm] at e1
      have hml := mixN_length x.toNat dst from_ n
      obtain ⟨Y, hY⟩ : ∃ Y, Hid (mixN x.toNat dst from_ n = Y) := ⟨_, rfl⟩
      have hYB : Byt Y := by rw [← hY.out]; exact mixN_byt hxn HTB.out n
      have hstep : mixN x.toNat dst from_ (n + 1) = Y.set n (mixI x.toNat (Y.getD n 0) m) := by
        show (mixN x.toNat dst from_ n).set n _ = _
        rw [hY.out, hm]
      rw [hY.out] at hO hml
      obtain ⟨u, hu⟩ : ∃ u, Hid (Y.getD n 0 = u) := ⟨_, rfl⟩
      rw [hu.out] at hstep
      have hub : 0 ≤ u ∧ u ≤ 255 := by rw [← hu.out]; exact hYB.getD n
      have e2 : wr.cell? ⟨g, n, none⟩ = some (.int .u8 u) := by
        rw [World.ownsRow.cellAt hO.out n (by omega), ← hu.out]
        simp [List.getD, List.getElem?_eq_getElem (show n < Y.length by omega)]
      have f2 : wr.frozen? ⟨g, n, none⟩ = false := World.ownsRow.frozenAt hO.out _
      have e3 : wr.cell? ⟨gt, m, none⟩ = some (.int .u8 ((gmul x.toNat m : Nat) : Int)) := by rw [hT.out.cell m, tabV_get _ _ hm2]
      have hst := World.ownsRow.stored hO.out n (.int .u8 (bits .xor .u8 u ((gmul x.toNat m : Nat) : Int)))
      rw [← List.map_set] at hst
      have HST := Lib.hid hst
      have HSTEP : Hid (mixN x.toNat dst from_ (n + 1) = Y.set n (bits .xor .u8 u ((gmul x.toNat m : Nat) : Int))) := hstep
      have hTs := Lib.hid ((hT.out.other (⟨g, n, none⟩ : Addr) hne (.int .u8 (bits .xor .u8 u ((gmul x.toNat m : Nat) : Int)))).drew)
      have hLs := Lib.hid ((hL.out.setCell (p := ⟨g, n, none⟩) hgB (.int .u8 (bits .xor .u8 u ((gmul x.toNat m : Nat) : Int)))).drew)
      have i1 : (n : Int) < (lf : Int) := by omega
      have i2 : (n : Int) < (len : Int) := by omega
      have i3 : (m : Int) < 256 := by omega
      clear hst hstep hfb hc1 hr hm
      go_wp2
      go_region
      go_wp2
      go_roundw
      case rel => exact ⟨n + 1, by omega, by go_num, by rw [HSTEP.out]; exact HST.out.1, hTs, hLs⟩
      case measure => simp [intOf]; omega
    · obtain rfl : n = lf := by omega
      go_wp2_with fail
      go_end0
      exact ⟨rfl, hO.out, hL.out⟩
end Go.Proofs.Ytkjaddiagembaaa
/- The walk of package par: encode, May, Encode. -/
namespace Go.Proofs.Ytkjaddiagembaaa
open Go.RowKit
set_option linter.unusedVariables false
set_option maxRecDepth 100000

theorem nest_get {w : World} {F : Nat → Prop} {a : Option Addr} {len cap : Nat} {L : List (List Int)} (h : SRow (Lay.int .u8).slice w F a len cap L) (i : Nat) (hi : i < len) :
    ∃ b off a' l' c', a = some ⟨b, off, none⟩ ∧ b < w.heap.size ∧ w.cell? ⟨b, off + i, none⟩ = some (.slice a' l' c') ∧ Row .u8 w a' l' c' (L.getD i []) := by
  obtain ⟨b, off, vs, rfl, _, hb, hx, hc⟩ := h.get i hi
  have hl : i < L.length := by rw [h.1]; exact hi
  obtain ⟨a', l', c', rfl, hr⟩ := hx _ (List.getElem?_eq_getElem hl)
  refine ⟨b, off, a', l', c', rfl, hb, ?_, ?_⟩
  · have := hc 0 (by decide)
    simpa [Lay.slice] using this
  · rw [show L.getD i [] = L[i] by simp [List.getD, hl]]
    exact hr.toRow
/-- A parity column, of whose data columns the first n have been added. -/
def encN (D : List (List Int)) (size j : Nat) : Nat → List Int
  | 0 => List.replicate size 0
  | n + 1 => mixN (twos (n * j)) (encN D size j n) (D.getD n []) size
theorem encN_length (D : List (List Int)) (size j : Nat) : ∀ n, (encN D size j n).length = size
  | 0 => by simp [encN]
  | n + 1 => by unfold encN; rw [mixN_length, encN_length]
theorem encN_byt (D : List (List Int)) (size j : Nat) : ∀ n, Byt (encN D size j n)
  | 0 => by intro v hv; rw [List.eq_of_mem_replicate hv]; omega
  | n + 1 => by unfold encN; exact mixN_byt (twos_lt _) (encN_byt D size j n) size
/-- Data columns that may be: all of one length. -/
def Cols (D : List (List Int)) (size : Nat) : Prop := 1 ≤ D.length ∧ D.length ≤ 12 ∧ size ≤ 4096 ∧ ∀ c ∈ D, c.length = size
theorem Cols.get {D : List (List Int)} {size : Nat} (h : Cols D size) (i : Nat) (hi : i < D.length) : (D.getD i []).length = size := by
  rw [show D.getD i [] = D[i] by simp [List.getD, hi]]; exact h.2.2.2 _ (List.getElem_mem hi)
theorem info_byte : (Try.prog.info? 5).map (fun i => (i.zero, i.size, i.bytes)) = some (some (.int .u8 0), 1, 1) := by kernel_rfl
def Made (v : List Int) (w : World) (e : Ending) (w' : World) : Prop := ∃ g c, e = .returned (.slice (some ⟨g, 0, none⟩) v.length c) ∧ Hid (Own w' w.heap.size 5 1 (some ⟨g, 0, none⟩) v.length c (v.map (.int .u8))) ∧ Hid (Below w.heap.size w w')
set_option maxHeartbeats 2000000 in
theorem encode (a : Option Addr) (len cap : Nat) (D : List (List Int)) (size : Nat) (j : Nat) (w : World) {F : Nat → Prop} (h : SRow (Lay.int .u8).slice w F a len cap D) (hc : Cols D size) (hj : j ≤ 3) :
    Calls Try.prog 37 #[.slice a len cap, .int .i64 j] w (Made (encN D size j D.length) w) := by
  have hDl := h.1
  have hmx := h.hmax
  have hle := h.hle
  unfold maxLen at hmx
  obtain ⟨hc1, hc12, hcs, hcl⟩ := hc
  have hcg := fun i hi => Cols.get ⟨hc1, hc12, hcs, hcl⟩ i hi
  have HS := Lib.hid h
  obtain ⟨b, off, a0, l0, c0, rfl, hb, hcell, hr0⟩ := nest_get h 0 (by omega)
  have hl0 : l0 = size := by rw [← hr0.hlen]; exact hcg 0 (by omega)
  subst hl0
  have hm0 := hr0.hmax
  unfold maxLen at hm0
  rw [Nat.add_zero] at hcell
  clear h hcl hr0
  obtain ⟨B, hB⟩ : ∃ B, Hid (w.heap.size = B) := ⟨_, rfl⟩
  go_enter Try.func37, Try.ntmps37
  go_wp2_with (refine wpList_make_zeros rfl _ _ 22 rfl 5 _ 1 Try.underlying22 info_byte rfl _ _ _ _ l0 rfl rfl rfl rfl (by omega) (by unfold maxLen; omega) ?_)
  intro w1 ho hle1
  rw [hB.out] at ho hle1 ⊢
  have O1 := Lib.hid ho
  have L1 := Lib.hid hle1
  clear ho hle1
  go_wp2_with fail
  go_loopw [15] (fun i wr => ∃ n : Nat, n ≤ len ∧ i = .int .i64 n ∧ Hid (Own wr B 5 1 (some ⟨B, 0, none⟩) l0 l0 ((encN D l0 j n).map (.int .u8))) ∧ Hid (Below B w wr)) (fun i _ => len - (intOf i).toNat)
  case atStart => exact ⟨0, by omega, rfl, by rw [show (encN D l0 j 0).map (Value.int .u8) = List.replicate l0 (Value.int .u8 0) by simp [encN]]; exact O1, L1⟩
  case round =>
    obtain ⟨n, hn, rfl, hO, hL⟩ := hrel
    by_cases hlt : n < len
    · obtain ⟨b', off', a1, l1, c1, heq, _, hcell1, hr1⟩ := nest_get HS.out n hlt
      injection heq with heq; injection heq with e1 e2
      subst e1 e2
      have hl1 : l1 = l0 := by rw [← hr1.hlen]; exact hcg n (by omega)
      subst hl1
      have e1 : wr.cell? ⟨b, off + n, none⟩ = some (.slice a1 l1 c1) := (hL.out.cell (p := ⟨b, off + n, none⟩) (by show b < B; rw [← hB.out]; exact hb)).trans hcell1
      have HR : Hid (∀ w', Below B w w' → Row .u8 w' a1 l1 c1 (D.getD n [])) := fun w' hl => hr1.below (by rw [hB.out]; exact hl)
      have hlen := encN_length D l1 j n
      have hbyt := encN_byt D l1 j n
      have htw := twos_lt (n * j)
      have hsz := hL.out.size
      have hBr : B ≤ wr.heap.size := by have := hB.out; omega
      clear hr1 hcell1
      go_wp2_with fail
      refine (factor j n wr hj (by omega)).mono ?_
      rintro e w2 ⟨rfl, hle2⟩
      have O2 := Lib.hid (hO.out.below hle2)
      have L2 : Hid (Below B w w2) := hL.out.trans (hle2.mono hBr)
      have hBr2 : B ≤ w2.heap.size := by have := hle2.size; omega
      clear hle2
      go_wp2_with fail
      refine (mix B l1 l1 (encN D l1 j n) a1 l1 c1 (D.getD n []) (twos (n * j)) w2 B O2.out hBr2 (fun w' hl => HR.out w' (L2.out.trans hl)) (Nat.le_refl _) (by omega) hbyt).mono ?_
      rintro e w3 ⟨rfl, ho3, hle3⟩
      have O3 : Hid (Own w3 B 5 1 (some ⟨B, 0, none⟩) l1 l1 ((encN D l1 j (n + 1)).map (.int .u8))) := ho3
      have L3 : Hid (Below B w w3) := L2.out.trans hle3
      clear ho3 hle3 O2 L2
      go_wp2_with fail
      go_roundw
      case rel => exact ⟨n + 1, by omega, by go_num, O3, L3⟩
      case measure => simp [intOf]; omega
    · obtain rfl : n = len := by omega
      go_wp2_with fail
      go_ret
      have hl := encN_length D l0 j D.length
      refine ⟨B, l0, by rw [hl]; rfl, ?_, by rw [hB.out]; exact hL⟩
      rw [hl, hB.out, hDl]
      exact hO
set_option maxHeartbeats 1000000 in
theorem even1 (a : Option Addr) (size cap : Nat) (gl b off len cap0 : Nat) (a0 : Option Addr) (c0 : Nat) (w : World) (h1 : w.cell? ⟨gl, 0, none⟩ = some (.slice (some ⟨b, off, none⟩) len cap0)) (h2 : w.cell? ⟨b, off, none⟩ = some (.slice a0 size c0)) (hs : size ≤ 4096) (hl : 1 ≤ len) :
    Calls Try.prog 48 #[.slice a size cap, .pointer (some ⟨gl, 0, none⟩)] w fun e w' => e = .returned (.bool false) ∧ w = w' := by
  have s1 : ((size : Int) != (size : Int)) = false := by simp
  have s2 : decide ((4096 : Int) < (size : Int)) = false := decide_eq_false (by omega)
  go_enter Try.func48, Try.ntmps48
  go_wp2_with fail
  go_ret
  first | exact ⟨rfl, rfl⟩ | exact ⟨rfl, trivial⟩
set_option maxHeartbeats 1000000 in
theorem index_even (a : Option Addr) (len cap : Nat) (D : List (List Int)) (size gl : Nat) (w : World) {F : Nat → Prop} (h : SRow (Lay.int .u8).slice w F a len cap D) (hc : Cols D size) (hg : w.cell? ⟨gl, 0, none⟩ = some (.slice a len cap)) :
    Calls Try.prog 52 #[.slice a len cap, .func (.func 48) #[] #[.pointer (some ⟨gl, 0, none⟩)]] w fun e w' => e = .returned (.int .i64 (-1)) ∧ w = w' := by
  have hDl := h.1
  have hmx := h.hmax
  have hle := h.hle
  unfold maxLen at hmx
  obtain ⟨hc1, hc12, hcs, hcl⟩ := hc
  have hcg := fun i hi => Cols.get ⟨hc1, hc12, hcs, hcl⟩ i hi
  have HS := Lib.hid h
  obtain ⟨b, off, a0, l0, c0, rfl, hb, hcell, hr0⟩ := nest_get h 0 (by omega)
  have hl0 : l0 = size := by rw [← hr0.hlen]; exact hcg 0 (by omega)
  subst hl0
  rw [Nat.add_zero] at hcell
  clear h hcl hr0
  go_enter Try.func52, Try.ntmps52
  go_wp2_with fail
  go_loopw [8] (fun i wr => ∃ n : Nat, n ≤ len ∧ i = .int .i64 n ∧ w = wr) (fun i _ => len - (intOf i).toNat)
  case atStart => exact ⟨0, by omega, rfl, rfl⟩
  case round =>
    obtain ⟨n, hn, rfl, rfl⟩ := hrel
    by_cases hlt : n < len
    · obtain ⟨b', off', a1, l1, c1, heq, _, hcell1, hr1⟩ := nest_get HS.out n hlt
      injection heq with heq; injection heq with e1 e2
      subst e1 e2
      have hl1 : l1 = l0 := by rw [← hr1.hlen]; exact hcg n (by omega)
      subst hl1
      clear hr1
      go_wp2_with fail
      refine (even1 a1 l1 c1 gl b off len cap a0 c0 w hg hcell hcs (by omega)).mono ?_
      rintro e w2 ⟨rfl, rfl⟩
      go_wp2_with fail
      go_roundw
      case rel => first | exact ⟨n + 1, by omega, by go_num, rfl⟩ | exact ⟨n + 1, by omega, by go_num, trivial⟩
      case measure => simp [intOf]; omega
    · go_wp2_with fail
      go_ret
      first | exact ⟨rfl, rfl⟩ | exact ⟨rfl, trivial⟩
set_option maxHeartbeats 1000000 in
theorem even (a : Option Addr) (len cap : Nat) (D : List (List Int)) (size : Nat) (w : World) {F : Nat → Prop} (h : SRow (Lay.int .u8).slice w F a len cap D) (hc : Cols D size) :
    Calls Try.prog 42 #[.slice a len cap] w fun e w' => e = .returned (.bool true) ∧ Below w.heap.size w w' := by
  have c0 : (w.alloc (.cells #[.slice a len cap] 46)).cell? ⟨w.heap.size, 0, none⟩ = some (.slice a len cap) := (Box.new rfl).cell 0
  have HS := Lib.hid (h.below (Below_alloc1 (.cells #[.slice a len cap] 46)))
  clear h
  go_enter Try.func42, Try.ntmps42
  go_wp2_with (go_at_call 47; go_in)
  refine (index_even a len cap D size w.heap.size _ HS.out hc c0).mono ?_
  rintro e w2 ⟨rfl, rfl⟩
  go_wp2_with fail
  go_ret
  exact ⟨rfl, Below_alloc1 _⟩
set_option maxHeartbeats 1000000 in
theorem mayP (a : Option Addr) (len cap : Nat) (D : List (List Int)) (size : Nat) (w : World) {F : Nat → Prop} (h : SRow (Lay.int .u8).slice w F a len cap D) (hc : Cols D size) :
    Calls Try.prog 35 #[.slice a len cap] w fun e w' => e = .returned (.bool true) ∧ Below w.heap.size w w' := by
  have h1 : 1 ≤ len := by rw [← h.1]; exact hc.1
  have h2 : len ≤ 12 := by rw [← h.1]; exact hc.2.1
  have hmx := h.hmax
  unfold maxLen at hmx
  have HS := Lib.hid h
  have HC := Lib.hid hc
  clear h hc
  go_enter Try.func35, Try.ntmps35
  go_wp2_with fail
  refine (even a len cap D size w HS.out HC.out).mono ?_
  rintro e w2 ⟨rfl, hle⟩
  go_wp2_with fail
  go_ret
  exact ⟨rfl, hle⟩
theorem someP (p : Int) (w : World) (h : 1 ≤ p ∧ p ≤ 3) : Calls Try.prog 36 #[.int .i64 p] w fun e w' => e = .returned (.bool true) ∧ w = w' := by
  obtain ⟨h1, h2⟩ := h
  go_enter Try.func36, Try.ntmps36
  go_wp2_with fail
  go_ret
  first | exact ⟨rfl, rfl⟩ | exact ⟨rfl, trivial⟩
theorem info_bytes : (Try.prog.info? 22).map (fun i => (i.zero, i.size, i.bytes)) = some (some (.slice none 0 0), 1, 24) := by kernel_rfl
/-- The parity columns. -/
def encAll (D : List (List Int)) (size n : Nat) : List (List Int) := (List.range n).map fun j => encN D size j D.length
theorem encAll_succ (D : List (List Int)) (size n : Nat) : encAll D size (n + 1) = encAll D size n ++ [encN D size n D.length] := by simp [encAll, List.range_succ]
def EncPost (D : List (List Int)) (size p : Nat) (w : World) (e : Ending) (w' : World) : Prop :=
  ∃ a c, e = .returned (.tuple #[.slice a p c, .int .i64 0]) ∧ Hid (SOwn (Lay.int .u8).slice w' w.heap.size 22 (fun b => w.heap.size ≤ b) a p c (encAll D size p)) ∧ Hid (Below w.heap.size w w')
set_option maxHeartbeats 2000000 in
theorem encodeP (a : Option Addr) (len cap : Nat) (D : List (List Int)) (size p : Nat) (w : World) {F : Nat → Prop} (h : SRow (Lay.int .u8).slice w F a len cap D) (hc : Cols D size) (hp : 1 ≤ p ∧ p ≤ 3) :
    Calls Try.prog 26 #[.slice a len cap, .int .i64 p] w (EncPost D size p w) := by
  have hmx := h.hmax
  unfold maxLen at hmx
  have HS := Lib.hid h
  have HC := Lib.hid hc
  clear h hc
  obtain ⟨hp1, hp3⟩ := hp
  obtain ⟨B, hB⟩ : ∃ B, Hid (w.heap.size = B) := ⟨_, rfl⟩
  go_enter Try.func26, Try.ntmps26
  go_wp2_with fail
  refine (mayP a len cap D size w HS.out HC.out).mono ?_
  rintro e w1 ⟨rfl, hle⟩
  have L1 : Hid (Below B w w1) := by rw [← hB.out]; exact hle
  clear hle
  go_wp2_with fail
  refine (someP p w1 ⟨by omega, by omega⟩).mono ?_
  rintro e w2 ⟨rfl, rfl⟩
  go_wp2_with fail
  go_loopw [6, 15] (fun ov i wr => ∃ (n : Nat) (ao : Option Addr) (co : Nat), n ≤ p ∧ i = .int .i64 n ∧ ov = .slice ao n co ∧ Hid (SOwn (Lay.int .u8).slice wr B 22 (fun b => B ≤ b) ao n co (encAll D size n)) ∧ Hid (Below B w wr)) (fun _ i _ => p - (intOf i).toNat)
  case atStart => exact ⟨0, none, 0, by omega, rfl, rfl, SOwn.nil .., L1⟩
  case round =>
    obtain ⟨n, ao, co, hn, rfl, rfl, hO, hL⟩ := hrel
    by_cases hlt : n < p
    · have hBr : B ≤ wr.heap.size := by have := hL.out.size; have := hB.out; omega
      go_wp2_with fail
      refine (encode a len cap D size n wr (HS.out.below (by rw [hB.out]; exact hL.out)) HC.out (by omega)).mono ?_
      rintro e w3 ⟨g, c, rfl, hown, hle⟩
      have hlen := encN_length D size n D.length
      have hbyt := encN_byt D size n D.length
      rw [hlen] at hown
      have L3 : Hid (Below B w w3) := hL.out.trans (hle.out.mono hBr)
      have O3 := Lib.hid (hO.out.below hle.out)
      have hgw := (World.ownsRow.lt hown.out g rfl)
      have hno : Hid ((Value.slice ao n co).ownBlock ≠ some g) := fun e => by have := (hO.out.lt g e).2; omega
      have HR := Lib.hid (hown.out.row.toRow (fun v hv => WalkArith.wf_u8 (hbyt v hv)))
      have hBr3 : B ≤ w3.heap.size := by have := hle.out.size; omega
      clear hown hle hO
      rw [hlen]
      go_wp2_with (at_builtin; refine wpList_append_one (L := (Lay.int .u8).slice) rfl (.tmp 18) (.tmp 22) 46 rfl B 22 _ 24 Try.underlying46 info_bytes rfl (fun b => B ≤ b) ao n co _ rfl O3.out #[.slice (some ⟨g, 0, none⟩) size c] (encN D size n D.length) rfl (fun b => b = g) ⟨_, _, _, rfl, Row.toS HR.out (fun x hx _ => by cases hx; rfl)⟩ (fun b h => by subst h; exact ⟨by omega, hgw.2, hno.out⟩) (by unfold maxLen; omega) (by omega) hBr3 ?_)
      intro a5 c5 w5 hown5 hg5
      have L5 : Hid (Below B w w5) := O3.out.grown L3.out (Nat.le_refl _) hBr3 hg5
      rw [← encAll_succ] at hown5
      have O5 := Lib.hid hown5
      clear hown5 hg5 O3 L3 HR hno
      go_wp2_with fail
      go_roundw
      case rel => exact ⟨n + 1, a5, c5, by omega, by go_num, rfl, O5, L5⟩
      case measure => simp [intOf]; omega
    · obtain rfl : n = p := by omega
      go_wp2_with fail
      go_ret2
      exact ⟨ao, co, rfl, by rw [hB.out]; exact hO, by rw [hB.out]; exact hL⟩
end Go.Proofs.Ytkjaddiagembaaa
/- The walk of ColumnsOf. -/
namespace Go.Proofs.Ytkjaddiagembaaa
open Go.RowKit
set_option linter.unusedVariables false
set_option maxRecDepth 100000

def colSize (len n : Nat) : Nat := min (len / n) 64
def colsN (xs : List Int) (size k : Nat) : List (List Int) := (List.range k).map fun i => (xs.drop (i * size)).take size
theorem colsN_succ (xs : List Int) (size k : Nat) : colsN xs size (k + 1) = colsN xs size k ++ [(xs.drop (k * size)).take size] := by simp [colsN, List.range_succ]
theorem colsN_length (xs : List Int) (size k : Nat) : (colsN xs size k).length = k := by simp [colsN]
theorem colSize_le (len n : Nat) (hn : 1 ≤ n) : n * colSize len n ≤ len := by
  have h1 : colSize len n ≤ len / n := Nat.min_le_left _ _
  calc n * colSize len n ≤ n * (len / n) := Nat.mul_le_mul_left _ h1
    _ ≤ len := Nat.mul_div_le _ _
theorem colsN_cols (xs : List Int) (n : Nat) (h1 : 1 ≤ n) (h2 : n ≤ 12) : Cols (colsN xs (colSize xs.length n) n) (colSize xs.length n) := by
  refine ⟨by rw [colsN_length]; exact h1, by rw [colsN_length]; exact h2, by unfold colSize; omega, ?_⟩
  intro c hc
  simp only [colsN, List.mem_map, List.mem_range] at hc
  obtain ⟨i, hi, rfl⟩ := hc
  rw [List.length_take, List.length_drop]
  have h3 := colSize_le xs.length n h1
  have h4 : (i + 1) * colSize xs.length n ≤ n * colSize xs.length n := Nat.mul_le_mul_right _ hi
  rw [Nat.add_mul] at h4
  omega
def ColsPost (xs : List Int) (n : Nat) (w : World) (e : Ending) (w' : World) : Prop :=
  ∃ a c, e = .returned (.slice a n c) ∧ Hid (SOwn (Lay.int .u8).slice w' w.heap.size 22 (fun b => w.heap.size ≤ b) a n c (colsN xs (colSize xs.length n) n)) ∧ Hid (Below w.heap.size w w')
end Go.Proofs.Ytkjaddiagembaaa
