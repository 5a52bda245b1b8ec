/- Texts that belong together: GaR. -/
import Derived.BigFrameIn
import Derived.Sort.CutIn
import Derived.Laws.StructEq
import Derived.Deep.DrawnRows
import Derived.Test.YtkjaddiagembaaaZ23
import Derived.Test.YtkjaddiagembaaaZ16
import Derived.Test.YtkjaddiagembaaaZ22
import Derived.Test.YtkjaddiagembaaaZ24
/- Package stripe: a try of Gather, the body of its range over comb.Each. -/
namespace Go.Proofs.Ytkjaddiagembaaa
open Go.RowKit Go.Shelf
set_option linter.unusedVariables false
set_option maxRecDepth 100000

attribute [local go_sem] Oper.semAt_some

def rangeBody : Code → Option Code
  | .rangeFunc _ _ _ b => some b
  | .loop c => rangeBody c
  | .seq a b => match rangeBody a with
    | some c => some c
    | none => rangeBody b
  | .block _ c => rangeBody c
  | .scope c => rangeBody c
  | .cond _ a b => match rangeBody a with
    | some c => some c
    | none => rangeBody b
  | _ => none
noncomputable def tryCode : Code := ((Try.f12.body.bind rangeBody).getD .skip)

def Four.cells (x : Four) : Array Value := #[.int .i64 x.a, .int .i64 x.b, .int .i64 x.c, .int .i64 x.d]
theorem eqn_int (d : Nat) (x y : Int) (w : World) : (Op.equalIn (d + 1) 3 (.int .i64 x) (.int .i64 y)).run Try.prog w = .ok (decide (x = y)) w := by
  rw [run_equalIn_int w d _ _ _ _ _ Try.underlying3]; simp; rfl
theorem eql_four (x y : Four) : ∃ e : Bool, (e = true ↔ x = y) ∧ ∀ w, (binOp .eql 30 (.agg #[.int .i64 x.a, .int .i64 x.b, .int .i64 x.c, .int .i64 x.d]) (.agg #[.int .i64 y.a, .int .i64 y.b, .int .i64 y.c, .int .i64 y.d])).run Try.prog w = .ok (.bool e) w := by
  have key : ∀ w, (binOp .eql 30 (.agg #[.int .i64 x.a, .int .i64 x.b, .int .i64 x.c, .int .i64 x.d]) (.agg #[.int .i64 y.a, .int .i64 y.b, .int .i64 y.c, .int .i64 y.d])).run Try.prog w = ((Op.eqFields 9999 #[.int .i64 x.a, .int .i64 x.b, .int .i64 x.c, .int .i64 x.d] #[.int .i64 y.a, .int .i64 y.b, .int .i64 y.c, .int .i64 y.d] (Try.prog.fieldsOf 30).toList).run Try.prog w).andThen fun b w' => .ok (.bool b) w' := fun w => by
    rw [run_eql_struct, run_equalIn_struct w _ _ _ _ (by kernel_rfl) (by kernel_rfl)]
  simp only [key]
  unfold Program.fieldsOf
  rw [Try.underlying30]
  obtain ⟨a, b, c, d⟩ := x
  obtain ⟨a', b', c', d'⟩ := y
  by_cases h : a = a' ∧ b = b' ∧ c = c' ∧ d = d'
  · obtain ⟨rfl, rfl, rfl, rfl⟩ := h
    exact ⟨true, by simp, fun w => by simp [Op.eqFields, part, eqn_int]⟩
  · refine ⟨false, by simp; intro h1 h2 h3 h4; exact h ⟨h1, h2, h3, h4⟩, fun w => ?_⟩
    by_cases h1 : a = a'
    · by_cases h2 : b = b'
      · by_cases h3 : c = c'
        · by_cases h4 : d = d'
          · exact absurd ⟨h1, h2, h3, h4⟩ h
          · simp [Op.eqFields, part, eqn_int, h1, h2, h3, h4]
        · simp [Op.eqFields, part, eqn_int, h1, h2, h3]
      · simp [Op.eqFields, part, eqn_int, h1, h2]
    · simp [Op.eqFields, part, eqn_int, h1]

/-- What Gather holds, ahead of its tries. -/
structure GSt (b : Blk) (ps : List (Bool × List Int)) (n : Nat) (s : Four) (V : World) (h9 h10 h11 h12 h13 h14 h15 h17 h18 g cap : Nat) (al : Option Addr) (cl : Nat) (la : Option Addr) (lc : Nat) (ka : Option Addr) (kc : Nat) : Prop where
  b9 : Box V h9 #[.int .i64 (n : Int)] 3
  b10 : Box V h10 #[.slice al (b.p + b.m) cl] 28
  b11 : Box V h11 s.cells 30
  b12 : Box V h12 #[.slice none 0 0] 22
  b13 : Box V h13 #[.slice none 0 0] 23
  b14 : Box V h14 #[.int .i64 0] 36
  b15 : Box V h15 #[.slice (some ⟨g, 0, none⟩) (b.p + b.m) cap, .int .i64 (b.p : Int), .int .i64 (b.long : Int)] 52
  b17 : Box V h17 #[.slice la (lostOf ps (b.p + b.m)).length lc] 23
  b18 : Box V h18 #[.slice ka (keptOf ps (b.p + b.m)).length kc] 23
  cols : BCols b g cap V
  row : SRow pcL V (fun _ => True) al (b.p + b.m) cl ps
  lost : Row .i64 V la (lostOf ps (b.p + b.m)).length lc (nats (lostOf ps (b.p + b.m)))
  kept : Row .i64 V ka (keptOf ps (b.p + b.m)).length kc (nats (keptOf ps (b.p + b.m)))
  ne : h12 < h13 ∧ h13 < h14
theorem GSt.next {b : Blk} {ps : List (Bool × List Int)} {n : Nat} {s : Four} {V W : World} {h9 h10 h11 h12 h13 h14 h15 h17 h18 g cap : Nat} {al : Option Addr} {cl : Nat} {la : Option Addr} {lc : Nat} {ka : Option Addr} {kc : Nat} (h : GSt b ps n s V h9 h10 h11 h12 h13 h14 h15 h17 h18 g cap al cl la lc ka kc) (hb : Below V.heap.size V W) :
    GSt b ps n s W h9 h10 h11 h12 h13 h14 h15 h17 h18 g cap al cl la lc ka kc :=
  ⟨h.b9.below hb h.b9.lt, h.b10.below hb h.b10.lt, h.b11.below hb h.b11.lt, h.b12.below hb h.b12.lt, h.b13.below hb h.b13.lt, h.b14.below hb h.b14.lt, h.b15.below hb h.b15.lt, h.b17.below hb h.b17.lt, h.b18.below hb h.b18.lt,
    h.cols.below hb, h.row.below hb, h.lost.below hb, h.kept.below hb, h.ne⟩
theorem Row.kept {k : IntKind} {w w' : World} {a : Option Addr} {len cap : Nat} {xs : List Int} (h : Row k w a len cap xs) (hw : ∀ b o, a = some ⟨b, o, none⟩ → w'.heap[b]? = w.heap[b]?) : Row k w' a len cap xs :=
  VRow.toRow (h.toV.keep (fun b o e _ _ => hw b o e)) h.hwf
theorem Row.cutAll {k : IntKind} {w : World} {a : Option Addr} {len cap : Nat} {xs : List Int} (h : Row k w a len cap xs) (n : Nat) (hn : n ≤ len) : Row k w a n n (xs.take n) := by
  have h1 := row_cut h n hn
  have h2 := h.hle
  have h3 := h.hmax
  exact ⟨h1.hlen, Nat.le_refl _, by omega, fun e => by have := h.hnil e; omega, h1.hwf, h1.hat⟩
def mixK (kept p : List Nat) (i : Nat) : List Nat := mapK kept (p.take i) ++ p.drop i
theorem mixK_zero (kept p : List Nat) : mixK kept p 0 = p := rfl
theorem mixK_all (kept p : List Nat) : mixK kept p p.length = mapK kept p := by simp [mixK]
theorem mixK_set (kept p : List Nat) (i : Nat) (hi : i < p.length) : (mixK kept p i).set i (kept.getD (p.getD i 0) 0) = mixK kept p (i + 1) := by
  unfold mixK mapK
  have hl : (List.map (fun i => kept.getD i 0) (p.take i)).length = i := by rw [List.length_map, List.length_take]; omega
  rw [List.set_append_right _ _ (by omega), hl, Nat.sub_self, List.drop_eq_getElem_cons hi, List.set_cons_zero, List.take_succ_eq_append_getElem hi, List.map_append, List.append_assoc]
  congr 2
  simp [List.getD, hi]
theorem mixK_get (kept p : List Nat) (i : Nat) (hi : i < p.length) : (mixK kept p i)[i]? = some (p.getD i 0) := by
  unfold mixK mapK
  rw [List.getElem?_append_right (by simp; omega)]
  simp [List.getD, hi, show min i p.length = i by omega]
/-- What Gather has told. -/
structure GOut (b : Blk) (f : Nat → List Int) (lost g : List Nat) (n B : Nat) (W W' : World) (h12 h13 h14 : Nat) : Prop where
  res : ∃ ad ap cp, Box W' h12 #[.slice ad n n] 22 ∧ Box W' h13 #[.slice ap g.length cp] 23 ∧ Box W' h14 #[.int .i64 0] 36 ∧ Row .u8 W' ad n n ((b.data f (lost ++ g)).take n) ∧ Row .i64 W' ap g.length cp (nats g) ∧ (∀ x o, ad = some ⟨x, o, none⟩ → B ≤ x) ∧ (∀ x o, ap = some ⟨x, o, none⟩ → B ≤ x)
  os : W'.os = W.os
  tape : W'.tape = W.tape
  output : W'.output = W.output
  size : W.heap.size ≤ W'.heap.size
  block : ∀ x, x < B → x ≠ h12 → x ≠ h13 → x ≠ h14 → W'.heap[x]? = W.heap[x]?
set_option maxHeartbeats 1000000 in
theorem cloneI' (a : Option Addr) (len cap : Nat) (xs : List Int) (w : World) (h : Row .i64 w a len cap xs) (hb : len ≤ 1000000) :
    Calls Try.prog 21 #[.slice a len cap] w fun e w' => ∃ a c, e = .returned (.slice a len c) ∧ Hid (Own w' w.heap.size 3 1 a len c (xs.map (.int .i64))) ∧ Hid (Below w.heap.size w w') := by
  cases a with
  | none =>
    have h0 := h.hnil rfl
    have hln := h.hlen
    have hle := h.hle
    have hx0 : xs = [] := List.eq_nil_of_length_eq_zero (by omega)
    subst hx0
    have hl0 : len = 0 := by simpa using hln.symm
    subst hl0
    clear h h0 hln hle
    have qT : ∀ (w : World) (a : Option Addr) (n c n' c' : Nat), (binOp .eql 23 (.slice a n c) (.slice none n' c')).run Try.prog w = .ok (.bool a.isNone) w := fun w a n c n' c' => Lib.run_eql_slice_nil w _ _ a n c n' c' Try.underlying23
    go_enter Try.func21, Try.ntmps21
    go_wp2_with fail
    go_ret
    exact ⟨none, 0, rfl, Own.nil .., Below.refl _ _⟩
  | some p => exact cloneN p len cap xs w h hb
set_option maxHeartbeats 8000000 in
theorem tryW (b : Blk) (f : Nat → List Int) (ps : List (Bool × List Int)) (n : Nat) (s : Four) (V : World) (h9 h10 h11 h12 h13 h14 h15 h17 h18 g cap : Nat) (al : Option Addr) (cl : Nat) (la : Option Addr) (lc : Nat) (ka : Option Addr) (kc : Nat)
    (st : GSt b ps n s V h9 h10 h11 h12 h13 h14 h15 h17 h18 g cap al cl la lc ka kc) (k : Nat) (p : List Nat) (hp : Pick (keptOf ps (b.p + b.m)).length 0 p) (hpl : p.length = k) (hfit : b.Fit f (lostOf ps (b.p + b.m) ++ mapK (keptOf ps (b.p + b.m)) p))
    (hf : ∀ c, c < b.p + b.m → (ps.getD c (false, [])).2 = f c) (hn : n ≤ b.bytes) (hb4 : b.bytes % 4 = 0) (hb8 : b.bytes ≤ 4096) (l : Nat) (W : World) (hVW : Below V.heap.size V W) (B : Nat) (hVB : V.heap.size ≤ B) (hBW : B ≤ W.heap.size)
    (a : Option Addr) (c : Nat) (ho : Own W B 3 1 a k c ((nats p).map (.int .i64))) (Q : Exit → Act → World → Prop) (hQ : ¬ LetsOut Q) (hQp : ∀ ch a' w', ¬ Q (.panic ch) a' w')
    (hno : sumF (b.data f (lostOf ps (b.p + b.m) ++ mapK (keptOf ps (b.p + b.m)) p)) ≠ s → ∀ a' W', Below B W W' → Q .normal a' W')
    (hyes : sumF (b.data f (lostOf ps (b.p + b.m) ++ mapK (keptOf ps (b.p + b.m)) p)) = s → ∀ a' W', GOut b f (lostOf ps (b.p + b.m)) (mapK (keptOf ps (b.p + b.m)) p) n B W W' h12 h13 h14 → Q .ret a' W')
    (u0 u1 u2 u3 u4 u5 u6 u7 u8 u16 u19 u20 u21 u23 u24 u25 u26 u27 u28 u29 u30 u31 u32 u33 u34 u35 u36 u37 u38 u39 u40 u41 u42 u43 u44 u45 u46 u47 u48 u49 u50 u51 u52 u53 u54 u55 u56 u57 u58 u59 u60 u61 u62 u63 u64 u65 u66 u67 u68 u69 u70 u71 u72 u73 u74 u75 u76 u77 u78 u79 u80 u81 u82 u83 u84 u85 u86 u87 u88 u89 u90 u91 u92 u93 u94 u95 u96 u97 u98 u99 u100 u101 u102 u103 u104 u105 u106 u107 u108 u109 u110 u111 u112 u113 u114 u115 u116 u117 u118 u119 u120 u121 u122 u123 u124 u125 u126 u127 : Value) : tryCode.wpIn (Fence.wide.inRound l) 0 Try.prog Q ⟨#[u0, u1, u2, u3, u4, u5, u6, u7, u8, .pointer (some ⟨h9, 0, none⟩), .pointer (some ⟨h10, 0, none⟩), .pointer (some ⟨h11, 0, none⟩), .pointer (some ⟨h12, 0, none⟩), .pointer (some ⟨h13, 0, none⟩), .pointer (some ⟨h14, 0, none⟩), .pointer (some ⟨h15, 0, none⟩), u16, .pointer (some ⟨h17, 0, none⟩), .pointer (some ⟨h18, 0, none⟩), u19, u20, u21, .slice a k c, u23, u24, u25, u26, u27, u28, u29, u30, u31, u32, u33, u34, u35, u36, u37, u38, u39, u40, u41, u42, u43, u44, u45, u46, u47, u48, u49, u50, u51, u52, u53, u54, u55, u56, u57, u58, u59, u60, u61, u62, u63, u64, u65, u66, u67, u68, u69, u70, u71, u72, u73, u74, u75, u76, u77, u78, u79, u80, u81, u82, u83, u84, u85, u86, u87, u88, u89, u90, u91, u92, u93, u94, u95, u96, u97, u98, u99, u100, u101, u102, u103, u104, u105, u106, u107, u108, u109, u110, u111, u112, u113, u114, u115, u116, u117, u118, u119, u120, u121, u122, u123, u124, u125, u126, u127], []⟩ W := by
  obtain ⟨kept, hkept⟩ : ∃ kept, keptOf ps (b.p + b.m) = kept := ⟨_, rfl⟩
  obtain ⟨lost, hlost⟩ : ∃ lost, lostOf ps (b.p + b.m) = lost := ⟨_, rfl⟩
  have hkl : kept.length ≤ 8 := by have := keptOf_len ps (b.p + b.m); have := b.h2.2; rw [← hkept]; omega
  have hll : lost.length ≤ 8 := by have := keptOf_len ps (b.p + b.m); have := b.h2.2; rw [← hlost]; omega
  have hk8 : ∀ x ∈ kept, x < 8 := fun x hx => by rw [← hkept] at hx; have := (keptOf_mem.1 hx).1; have := b.h2.2; omega
  have hkk : k ≤ kept.length := by have := Pick.length hp; rw [hkept] at this; omega
  have HST0 := Lib.hid st
  have HST := Lib.hid (st.next hVW)
  have hk0 := st.kept
  have hk1 := (st.next hVW).kept
  have hl1 := (st.next hVW).lost
  rw [hkept] at hk0 hk1 hp hfit hno hyes
  rw [hlost] at hl1 hfit hno hyes
  have HK0 := Lib.hid hk0
  have HK := Lib.hid hk1
  have HL := Lib.hid hl1
  clear hk0 hk1 hl1
  have K18 := (st.next hVW).b18
  rw [hkept] at K18
  have HB18 := Lib.hid K18
  have HP := Lib.hid hp
  have HF := Lib.hid hf
  have HFIT := Lib.hid hfit
  have HNO := Lib.hid hno
  have HYES := Lib.hid hyes
  have HPL := Lib.hid hpl
  have HK8 := Lib.hid hk8
  have HO := Lib.hid ho
  have hc18 : W.cell? ⟨h18, 0, none⟩ = some (.slice ka kept.length kc) := K18.cell 0
  have h18W : h18 < B := by have := st.b18.lt; omega
  have HKK := Lib.hid hkept
  have HLL := Lib.hid hlost
  have hkle := HK.out.hle
  have hkmx := HK.out.hmax
  obtain ⟨kl, hkl'⟩ : ∃ kl, kept.length = kl := ⟨_, rfl⟩
  have HKL := Lib.hid hkl'
  rw [hkl'] at hc18 hkle hkk hkl
  unfold maxLen at hkmx
  have HOle := HO.out.row.hle
  have HOmx := HO.out.row.hmax
  unfold maxLen at HOmx
  clear st hp hfit hno hyes hpl hk8 ho hkept hlost K18 hf hkl'
  conv => arg 4; whnf
  gi_wp2
  gi_loopw [95] (fun iv wr => ∃ i : Nat, i ≤ k ∧ iv = .int .i64 (i : Int) ∧ Hid (Own wr B 3 1 a k c ((nats (mixK kept p i)).map (.int .i64))) ∧ Hid (Below B W wr)) (fun iv _ => k - (intOf iv).toNat)
  case atStart => exact ⟨0, Nat.zero_le _, rfl, HO, Below.refl _ _⟩
  case round =>
    obtain ⟨i, hi, rfl, hown, hbel⟩ := hrel
    by_cases hik : i < k
    · obtain ⟨g0, cur, rfl, hg0⟩ : ∃ g0 cur, a = some ⟨g0, 0, none⟩ ∧ W.heap[g0]? = some (.cells cur 3 (0, 0)) := by
        rcases HO.out.form with ⟨h0, h1⟩ | ⟨g', cur, hg, hB, hh, h1, h2, h3, h4⟩
        · have := HPL.out; simp [nats] at h1; omega
        · exact ⟨g', cur, hg, hh⟩
      have hpi : p.getD i 0 < kl := by
        have := (Pick.mem HP.out (p.getD i 0) (getD_mem' (by rw [HPL.out]; exact hik))).2
        rw [HKL.out] at this; exact this
      have hBr : B ≤ wr.heap.size := by have := hbel.out.size; omega
      have e18 : wr.cell? ⟨h18, 0, none⟩ = some (.slice ka kl kc) := (hbel.out.cell (p := ⟨h18, 0, none⟩) h18W).trans hc18
      obtain ⟨x, hx⟩ : ∃ x, p.getD i 0 = x := ⟨_, rfl⟩
      rw [hx] at hpi
      have ei : wr.cell? ⟨g0, i, none⟩ = some (.int .i64 (x : Int)) := by
        rw [World.ownsRow.cellAt hown.out i (by omega)]
        rw [List.getElem?_map, show (nats (mixK kept p i))[i]? = some (x : Int) by unfold nats; rw [List.getElem?_map, mixK_get kept p i (by rw [HPL.out]; exact hik), hx]; rfl]
        rfl
      have fi := World.ownsRow.frozenAt hown.out i
      obtain ⟨kb, ko, rfl, hkc⟩ : ∃ kb ko, ka = some ⟨kb, ko, none⟩ ∧ wr.cell? ⟨kb, ko + x, none⟩ = some (.int .i64 ((kept.getD x 0 : Nat) : Int)) := by
        rcases HK0.out.hat with h0 | ⟨kb, ko, e, hc⟩
        · rw [HKL.out] at h0; omega
        · have h1 := hc x (by rw [HKL.out]; exact hpi)
          rw [nats_getD] at h1
          have h2 : kb < V.heap.size := World.block_lt_of_cell? _ _ h1
          exact ⟨kb, ko, e, (hbel.out.cell (p := ⟨kb, ko + x, none⟩) (by show kb < B; omega)).trans ((hVW.cell (p := ⟨kb, ko + x, none⟩) h2).trans h1)⟩
      obtain ⟨y, hy⟩ : ∃ y, kept.getD x 0 = y := ⟨_, rfl⟩
      rw [hy] at hkc
      have hst := World.ownsRow.stored hown.out i (.int .i64 (y : Int))
      have HS2 := Lib.hid hst
      clear hst
      gi_wp2
      refine ⟨⟨i + 1, by omega, by push_cast; rfl, ?_, ?_⟩, by simp [intOf]; omega⟩
      · have h1 := HS2.out.1
        have h2 : (List.map (Value.int IntKind.i64) (nats (mixK kept p i))).set i (Value.int IntKind.i64 (y : Int)) = List.map (Value.int .i64) (nats (mixK kept p (i + 1))) := by
          rw [← mixK_set kept p i (by rw [HPL.out]; exact hik), hx, hy]
          simp [nats, List.map_set]
        rw [h2] at h1
        exact h1
      · exact hbel.out.setCell (p := ⟨g0, i, none⟩) (by
          have := (World.ownsRow.lt HO.out g0 rfl).1; exact this) _
    · obtain rfl : i = k := by omega
      have hmix : mixK kept p i = mapK kept p := by rw [← HPL.out]; exact mixK_all kept p
      obtain ⟨gl, hgl⟩ : ∃ gl, mapK kept p = gl := ⟨_, rfl⟩
      rw [hmix, hgl] at hown
      have HGL := Lib.hid hgl
      clear hmix hgl
      have HVr : Hid (Below V.heap.size V wr) := hVW.trans (hbel.out.mono hVB)
      have st2 := HST0.out.next HVr.out
      have b15 := st2.b15
      have b10 := st2.b10
      have b17 := st2.b17
      rw [HLL.out] at b17
      have hlr := st2.lost
      rw [HLL.out] at hlr
      have HB15 := Lib.hid b15
      have HB10 := Lib.hid b10
      have HB17 := Lib.hid b17
      have HLR := Lib.hid hlr
      have HCR := Lib.hid st2.cols
      have HPR := Lib.hid st2.row
      clear b15 b10 b17 hlr st2
      gi_wp2
      refine region_in_held (S := fun w' => Below wr.heap.size wr w') (by kernel_rfl) (by kernel_rfl) (fun ⟨_, _, h⟩ => hQ ⟨_, _, h⟩) (Below.refl _ _).drew (fun hHeld => ?_)
      have HLD : Below wr.heap.size wr wr.drew := (Below.refl _ _).drew
      refine wpAnyH_take (i := 0) (v := .agg #[.slice (some ⟨g, 0, none⟩) (b.p + b.m) cap, .int .i64 (b.p : Int), .int .i64 (b.long : Int)]) rfl (by kernel_rfl) (by kernel_rfl) (by kernel_rfl) (fun _ _ _ h => (hQp _ _ _ h).elim) (Or.inl ⟨by rfl, ?_⟩) (by assumption) ?_
      · intro w' hS
        have q := HB15.out.below hS HB15.out.lt
        have q0 := q.cell 0
        have q1 := q.cell 1
        have q2 := q.cell 2
        clear q
        go_simp
        done
      try simp only [Act.put, List.getElem_toArray, List.getElem_cons_zero, List.setIfInBounds_toArray, List.set_cons_zero, List.set_cons_succ]
      refine wpAnyH_take (i := 1) (v := .slice al (b.p + b.m) cl) rfl (by kernel_rfl) (by kernel_rfl) (by kernel_rfl) (fun _ _ _ h => (hQp _ _ _ h).elim) (Or.inl ⟨by rfl, ?_⟩) (by assumption) ?_
      · intro w' hS
        have q0 := (HB10.out.below hS HB10.out.lt).cell 0
        go_simp
        done
      try simp only [Act.put, List.getElem_toArray, List.getElem_cons_zero, List.getElem_cons_succ, List.setIfInBounds_toArray, List.set_cons_zero, List.set_cons_succ]
      refine wpAnyH_take (i := 2) (v := .slice la lost.length lc) rfl (by kernel_rfl) (by kernel_rfl) (by kernel_rfl) (fun _ _ _ h => (hQp _ _ _ h).elim) (Or.inl ⟨by rfl, ?_⟩) (by assumption) ?_
      · intro w' hS
        have q0 := (HB17.out.below hS HB17.out.lt).cell 0
        go_simp
        done
      try simp only [Act.put, List.getElem_toArray, List.getElem_cons_zero, List.getElem_cons_succ, List.setIfInBounds_toArray, List.set_cons_zero, List.set_cons_succ]
      refine wpAnyH_take (i := 4) (v := .slice a i c) rfl (by kernel_rfl) (by kernel_rfl) (by kernel_rfl) (fun _ _ _ h => (hQp _ _ _ h).elim) (Or.inl ⟨by rfl, ?_⟩) (by assumption) ?_
      · intro w' hS
        go_simp
        done
      try simp only [Act.put, List.getElem_toArray, List.getElem_cons_zero, List.getElem_cons_succ, List.setIfInBounds_toArray, List.set_cons_zero, List.set_cons_succ]
      refine wpAnyH_ready (rs := [3]) (by kernel_rfl) (by simp) ?_
      refine AllReadyH.cons rfl (fun K hK => ?_) AllReadyH.nil
      go_simp
      refine (cloneI' la lost.length lc _ _ (HLR.out.below HLD) (by omega)).mono ?_
      rintro e w3 ⟨a3, c3, rfl, HO3, HB3⟩
      go_wp2_with fail
      have hL3 : Below wr.heap.size wr w3 := HLD.trans HB3.out
      refine hK.out _ _ hL3 (fun hHeld3 => ?_)
      clear hK K
      try simp only [Act.put, List.getElem_toArray, List.getElem_cons_zero, List.getElem_cons_succ, List.setIfInBounds_toArray, List.set_cons_zero, List.set_cons_succ]
      have hP3 : VRow w3 1 a i c ((nats gl).map (.int .i64)) := (hown.out.below hL3).row
      have hO3' : Own w3 wr.heap.size 3 1 a3 lost.length c3 ((nats lost).map (.int .i64)) := HO3.out
      have hs3 := hL3.size
      refine wpAnyH_ready (rs := [5]) (by kernel_rfl) (by simp) ?_
      refine AllReadyH.cons rfl (fun K hK => ?_) AllReadyH.nil
      refine step_append_any rfl (.tmp 111) (.tmp 112) 23 rfl wr.heap.size 3 _ 1 8 Try.underlying23 info_int rfl (by decide) a3 lost.length c3 _ rfl hO3' a i c _ rfl hP3 (by intro u hu; obtain ⟨y, _, rfl⟩ := List.mem_map.1 hu; rfl) (by unfold maxLen; omega) (by omega) hs3 ?_
      intro a4 c4 w4 hO4 hG4
      have hL4 : Below wr.heap.size wr w4 := Own.grown hO3' hL3 (Nat.le_refl _) hs3 hG4
      refine hK.out _ _ hL4 (fun hHeld4 => ?_)
      clear hK K hHeld3
      try simp only [Act.put, List.getElem_toArray, List.getElem_cons_zero, List.getElem_cons_succ, List.setIfInBounds_toArray, List.set_cons_zero, List.set_cons_succ]
      refine wpAnyH_ready (rs := [6]) (by kernel_rfl) (by simp) ?_
      refine AllReadyH.cons rfl (fun K hK => ?_) AllReadyH.nil
      go_simp
      have hR4 : Row .i64 w4 a4 (lost.length + i) c4 (nats (lost ++ gl)) := by
        have e : (nats (lost ++ gl)).map (Value.int .i64) = (nats lost).map (.int .i64) ++ (nats gl).map (.int .i64) := by simp [nats]
        refine VRow.toRow (by rw [e]; exact hO4.row) (fun x hx => ?_)
        obtain ⟨y, hy, rfl⟩ := List.mem_map.1 hx
        refine nat_wf ?_
        have := HFIT.out.lt y (by rw [HGL.out]; exact hy)
        have := b.h2.2
        omega
      refine (dataW b g cap al cl ps a4 (lost.length + i) c4 (lost ++ gl) w4 f HF.out (HCR.out.below hL4) (HPR.out.below hL4) hR4 (by rw [← HGL.out]; exact HFIT.out)).mono ?_
      rintro e w5 ⟨a5, c5, rfl, HO5, hB5, hBYT⟩
      go_wp2_with fail
      have hL5 : Below wr.heap.size wr w5 := hL4.trans (hB5.mono hL4.size)
      refine hK.out _ _ hL5 (fun hHeld5 => ?_)
      clear hK K hHeld4
      try simp only [Act.put, List.getElem_toArray, List.getElem_cons_zero, List.getElem_cons_succ, List.setIfInBounds_toArray, List.set_cons_zero, List.set_cons_succ]
      refine wpAnyH_take (i := 7) (v := .slice a5 b.bytes c5) rfl (by kernel_rfl) (by kernel_rfl) (by kernel_rfl) (fun _ _ _ h => (hQp _ _ _ h).elim) (Or.inl ⟨by rfl, ?_⟩) (by assumption) ?_
      · intro w' hS
        go_simp
        done
      try simp only [Act.put, List.getElem_toArray, List.getElem_cons_zero, List.getElem_cons_succ, List.setIfInBounds_toArray, List.set_cons_zero, List.set_cons_succ]
      refine wpAnyH_done (by kernel_rfl) ?_ _
      have hL4s := hL4.size
      clear HCR HPR HLR HB15 HB10 HB17 HST HL HK HK0 HB18 hHeld5 hO3' hP3 hL3 HO3 HB3 hO4 hG4 hL4 hR4 hB5 HLD hHeld
      have hD5 : Row .u8 w5 a5 b.bytes c5 (b.data f (lost ++ gl)) := by
        exact VRow.toRow HO5.out.row (fun x hx => WalkArith.wf_u8 (hBYT x hx))
      clear hBYT
      obtain ⟨dat, hdat⟩ : ∃ dat, b.data f (lost ++ gl) = dat := ⟨_, rfl⟩
      rw [hdat] at hD5 HO5
      have HDAT := Lib.hid hdat
      have HD5 := Lib.hid hD5
      have HL5 : Hid (Below V.heap.size V w5) := HVr.out.trans (hL5.mono HVr.out.size)
      have HL6 : Hid (Below B W w5) := hbel.out.trans (hL5.mono (by have := hbel.out.size; omega))
      obtain ⟨by5, hby5⟩ : ∃ by5, b.bytes = by5 := ⟨_, rfl⟩
      rw [hby5] at HD5 hb4 hb8 hn HO5 ⊢
      have HBY := Lib.hid hby5
      have HL5w := Lib.hid hL5
      have hw4 : B ≤ w4.heap.size := by have := hbel.out.size; have := hL4s; omega
      clear hdat hD5 hL5 hby5
      gi_wp2
      refine ⟨trivial, rfl, (callsIn_wide.2 (of_bytes a5 by5 c5 dat w5 HD5.out hb4)).mono ?_⟩
      rintro e w6 ⟨sa, sb, sc, sd, HS, rfl, B6⟩
      have HB6 := Lib.hid B6
      clear B6
      gi_upto_region 30 with fail
      obtain ⟨eb, heb, qE⟩ := eql_four ⟨sa, sb, sc, sd⟩ s
      have qG : ∀ (w : World) (a b : Operand), (eqGuard .eql 30 a b (.agg #[.int .i64 sa, .int .i64 sb, .int .i64 sc, .int .i64 sd]) (.agg #[.int .i64 s.a, .int .i64 s.b, .int .i64 s.c, .int .i64 s.d])).run Try.prog w = .ok () w := fun w a b => run_eqGuard_agg w _ _ _ _ _ _ (by kernel_rfl)
      obtain ⟨V7, hV7⟩ : ∃ V7, V7 = w6.alloc (.cells #[.int .i64 sa, .int .i64 sb, .int .i64 sc, .int .i64 sd] 30) := ⟨_, rfl⟩
      obtain ⟨h6, hh6⟩ : ∃ h6, w6.heap.size = h6 := ⟨_, rfl⟩
      have B67 : Below w6.heap.size w6 V7 := by rw [hV7]; exact Below_alloc1 _
      have X26 : Box V7 h6 #[.int .i64 sa, .int .i64 sb, .int .i64 sc, .int .i64 sd] 30 := by rw [hV7]; exact Box.new hh6.symm
      have L57 : Below w5.heap.size w5 V7 := HB6.out.trans (B67.mono HB6.out.size)
      have LV7 : Hid (Below V.heap.size V V7) := HL5.out.trans (L57.mono HL5.out.size)
      have LB7 : Hid (Below B W V7) := HL6.out.trans (L57.mono (by have := HL6.out.size; omega))
      have st7 := HST0.out.next LV7.out
      have x0 := X26.cell 0
      have x1 := X26.cell 1
      have x2 := X26.cell 2
      have x3 := X26.cell 3
      have z0 : V7.cell? ⟨h11, 0, none⟩ = some (.int .i64 s.a) := st7.b11.cell 0
      have z1 : V7.cell? ⟨h11, 1, none⟩ = some (.int .i64 s.b) := st7.b11.cell 1
      have z2 : V7.cell? ⟨h11, 2, none⟩ = some (.int .i64 s.c) := st7.b11.cell 2
      have z3 : V7.cell? ⟨h11, 3, none⟩ = some (.int .i64 s.d) := st7.b11.cell 3
      have z9 := st7.b9.cell 0
      have y12 := st7.b12.cell 0
      have f12 := st7.b12.free 0
      have y13 := st7.b13.cell 0
      have f13 := st7.b13.free 0
      have y14 := st7.b14.cell 0
      have f14 := st7.b14.free 0
      have n1 := st7.ne.1
      have n2 := st7.ne.2
      have ST7 := Lib.hid st7
      have HEB := Lib.hid heb
      have hle5 := HO5.out.row.hle
      have hmx5 := HO5.out.row.hmax
      unfold maxLen at hmx5
      have HR7 : Hid (Row .u8 V7 a5 by5 c5 dat) := HD5.out.below L57
      have HG7 : Hid (Own V7 B 3 1 a i c ((nats gl).map (.int .i64))) := hown.out.below (HL5w.out.trans (L57.mono HL5w.out.size))
      clear st7 heb X26 B67 L57
      rw [← hV7, hh6]
      clear hV7 hh6
      cases eb with
      | false =>
        gi_wp2
        refine HNO.out (fun e => ?_) _ _ LB7.out
        rw [HGL.out, HDAT.out] at e
        exact absurd (HEB.out.2 (HS.out.symm.trans e)) (by simp)
      | true =>
        gi_wp2
        have hfour : sumF (b.data f (lost ++ mapK kept p)) = s := by
          rw [HGL.out, HDAT.out]
          exact HS.out.trans (HEB.out.1 (by simp))
        have hgl : gl.length = i := by rw [← HGL.out]; unfold mapK; rw [List.length_map, HPL.out]
        refine HYES.out hfour _ _ ?_
        rw [HGL.out]
        have t12 := ST7.out.b12
        have t13 := ST7.out.b13
        have t14 := ST7.out.b14
        have hrd : Row .u8 V7 a5 n n (dat.take n) := by
          have h1 := HR7.out.cutAll n hn
          exact h1
        have hrp : Row .i64 V7 a i c (nats gl) := by
          refine VRow.toRow HG7.out.row (fun x hx => ?_)
          obtain ⟨y, hy, rfl⟩ := List.mem_map.1 hx
          refine nat_wf ?_
          have := HK8.out y (by rw [← HGL.out] at hy; exact mapK_mem HP.out y hy)
          omega
        have hfar : ∀ x, x ≠ h12 → x ≠ h13 → x ≠ h14 → (((V7.setCell ⟨h12, 0, none⟩ (.slice a5 n n)).setCell ⟨h13, 0, none⟩ (.slice a i c)).setCell ⟨h14, 0, none⟩ (.int .i64 0)).heap[x]? = V7.heap[x]? := fun x e1 e2 e3 =>
          (Below.heap_setCell _ _ _ _ e3).trans ((Below.heap_setCell _ _ _ _ e2).trans (Below.heap_setCell _ _ _ _ e1))
        have hV12 := HST0.out.b12.lt
        have hV13 := HST0.out.b13.lt
        have hV14 := HST0.out.b14.lt
        have g1 : ∀ x o, a5 = some ⟨x, o, none⟩ → x ≠ h12 ∧ x ≠ h13 ∧ x ≠ h14 := fun x o e => by
          have := (World.ownsRow.lt HO5.out x (by rw [e]; rfl)).1
          omega
        have g2 : ∀ x o, a = some ⟨x, o, none⟩ → x ≠ h12 ∧ x ≠ h13 ∧ x ≠ h14 := fun x o e => by
          have := (World.ownsRow.lt HG7.out x (by rw [e]; rfl)).1
          omega
        refine ⟨⟨a5, a, c, ?_, ?_, ?_, ?_, ?_, fun x o e => ?_, fun x o e => ?_⟩, ?_, ?_, ?_, ?_, ?_⟩
        · exact ((t12.set 0 (.slice a5 n n)).other ⟨h13, 0, none⟩ (by show h13 ≠ h12; omega) _).other ⟨h14, 0, none⟩ (by show h14 ≠ h12; omega) _
        · rw [hgl]
          exact ((t13.other ⟨h12, 0, none⟩ (by show h12 ≠ h13; omega) (.slice a5 n n)).set 0 (.slice a i c)).other ⟨h14, 0, none⟩ (by show h14 ≠ h13; omega) _
        · exact ((t14.other ⟨h12, 0, none⟩ (by show h12 ≠ h14; omega) (.slice a5 n n)).other ⟨h13, 0, none⟩ (by show h13 ≠ h14; omega) (.slice a i c)).set 0 (.int .i64 0)
        · rw [HDAT.out]
          exact hrd.kept (fun x o e => hfar x (g1 x o e).1 (g1 x o e).2.1 (g1 x o e).2.2)
        · rw [hgl]
          exact hrp.kept (fun x o e => hfar x (g2 x o e).1 (g2 x o e).2.1 (g2 x o e).2.2)
        · have := (World.ownsRow.lt HO5.out x (by rw [e]; rfl)).1
          omega
        · exact (World.ownsRow.lt HG7.out x (by rw [e]; rfl)).1
        · exact LB7.out.os
        · exact LB7.out.tape
        · exact LB7.out.output
        · have := LB7.out.size; simpa [World.setCell] using this
        · intro x hx e1 e2 e3
          exact (hfar x e1 e2 e3).trans (LB7.out.block x hx)
end Go.Proofs.Ytkjaddiagembaaa
