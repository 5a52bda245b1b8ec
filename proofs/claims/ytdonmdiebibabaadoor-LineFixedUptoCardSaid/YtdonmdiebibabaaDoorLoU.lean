/- What the bound of an '..Upto' statement gives: a text's length; what the variables hold. -/
import Derived.Test.YtdonmdiebibabaaDoorLnU
import Derived.Test.YtdonmdiebibabaaDoorLoA
import Derived.Stop.LaidErr
import Derived.ChangeMaps5
namespace Go.Proofs.YtdonmdiebibabaaDoor
open Go.ChangeShapes Go.WideShapes Go.ChangeAt Go.RowKit Go.Deep
set_option linter.unusedVariables false
set_option maxRecDepth 100000

theorem bulk_str {P : Program} {H : Type} {enc : TypeId × Value → H} {ds : List (DataW H)} {w : World} {base : Nat} {spare : Nat → Bool} {held : Bool} {t : TypeId} {d : DataW H} {p : List MemPlace} {s : ByteArray} {B : Nat}
    (h : Rows.uptoBulkAll ds ≤ B) (hd : d ∈ ds) (hu : P.underlying t = some .string) (hk : DataW.Trod enc P w base spare held t (.string s) d p) : s.data.toList.length ≤ B := by
  obtain ⟨fuel, hf⟩ := hk
  have hb := bulk_part hd
  cases fuel with
  | zero => simp [DataW.trod] at hf
  | succ fuel =>
    simp only [DataW.trod, hu, Value.cells] at hf
    split at hf
    · injection hf with hf
      injection hf with hf _
      subst hf
      simp only [Rows.uptoBulk] at hb
      omega
    · cases hf
theorem arr_parts {H : Type} {enc : TypeId × Value → H} {P : Program} {w : World} {base : Nat} {sp : Nat → Bool} {held : Bool} {fuel n : Nat} {t e : TypeId} {cs : List Value} {ds : List (DataW H)} {p : List MemPlace}
    (ht : P.underlying t = some (.array n e)) (h : DataW.trod enc P w base sp held fuel t cs = some (.agg ds, p)) :
    cs.length = P.cellsOf t ∧ ds.length = n ∧ ∃ f2, ∀ i d, i < n → ds[i]? = some d → ∃ q, DataW.trod enc P w base sp held f2 e ((cs.drop (i * P.cellsOf e)).take (P.cellsOf e)) = some (d, q) := by
  cases fuel with
  | zero => simp [DataW.trod] at h
  | succ fuel =>
    simp only [DataW.trod, ht] at h
    split at h
    · rename_i hl
      obtain ⟨xs, hm, hx⟩ := Option.map_eq_some_iff.1 h
      have hxs : xs.map (·.1) = ds := by
        have := congrArg Prod.fst hx
        simpa using this
      have hxl : xs.length = n := by simpa using Lib.mapM_length hm
      refine ⟨hl, by rw [← hxs]; simpa using hxl, fuel, fun i d hi hd => ?_⟩
      obtain ⟨b, hb, hf⟩ := Lib.mapM_at hm i i (by simp [hi])
      rw [← hxs, List.getElem?_map, hb] at hd
      obtain rfl := Option.some.inj hd
      exact ⟨b.2, hf⟩
    · cases h
theorem str_part {H : Type} {enc : TypeId × Value → H} {P : Program} {w : World} {base : Nat} {sp : Nat → Bool} {held : Bool} {fuel : Nat} {t : TypeId} {cs : List Value} {bs : List UInt8} {p : List MemPlace}
    (ht : P.underlying t = some .string) (h : DataW.trod enc P w base sp held fuel t cs = some (.lit (.string bs), p)) : cs = [encStr bs] := by
  cases fuel with
  | zero => simp [DataW.trod] at h
  | succ fuel =>
    obtain ⟨s, rfl, hx, _⟩ := DataW.trod_string ht h
    simp only [Prod.mk.injEq, DataW.lit.injEq, Lit.string.injEq] at hx
    rw [hx.1]
theorem arr_join : ∀ (n m : Nat) (cs : List Value) (f : Nat → List Value), cs.length = n * m → (∀ i, i < n → (cs.drop (i * m)).take m = f i) → cs = (List.range n).flatMap f
  | 0, m, cs, f, hl, _ => by simpa using hl
  | n + 1, m, cs, f, hl, h => by
    have hl' : cs.length = n * m + m := by rw [hl, Nat.add_mul]; omega
    have h0 : (cs.drop (n * m)).take m = f n := h n (by omega)
    have h1 : cs.drop (n * m) = f n := by
      rw [← h0, List.take_of_length_le (by rw [List.length_drop]; omega)]
    have ih := arr_join n m (cs.take (n * m)) f (by rw [List.length_take]; omega) (fun i hi => by
      rw [← h i (by omega), List.drop_take, List.take_take]
      congr 1
      have : i * m + m ≤ n * m := by rw [← Nat.succ_mul]; exact Nat.mul_le_mul_right m (by omega)
      omega)
    rw [List.range_succ, List.flatMap_append, ← ih]
    simp only [List.flatMap_cons, List.flatMap_nil, List.append_nil]
    rw [← h1, List.take_append_drop]
theorem cells2 : Tryd.prog.cellsOf 58 = 2 := by kernel_rfl
theorem cells1 : Tryd.prog.cellsOf 9 = 1 := by kernel_rfl
theorem cells38 : Tryd.prog.cellsOf 59 = 19 * 2 := by kernel_rfl
theorem gWordsT : (Tryd.prog.globals[0]?).map (·.type) = some 59 := by kernel_rfl
def wordPair (i : Nat) : List Value := [encStr (wordOf i), encStr (lettersOf i)]
theorem wordPairs : (List.range 19).flatMap wordPair = wordCells.toList := by rfl
def wordData (H : Type) (i : Nat) : DataW H := .agg [.lit (.string (wordOf i)), .lit (.string (lettersOf i))]
theorem wordDatas (H : Type) : (Rows.laid_quickset_desk_words : DataW H) = .agg ((List.range 19).map (wordData H)) := by rfl
theorem wordsTab {W : World} {laid : List (String × DataW Unit)} (h : laidMetH Tryd.prog laid W) (he : laid.filter (fun x => x.1 == "quickset/desk.words") = [("quickset/desk.words", Rows.laid_quickset_desk_words)]) : W.var? Tryd.prog "quickset/desk.words" = some wordCells := by
  have h1 := h.filter (fun x => x.1 == "quickset/desk.words")
  rw [he] at h1
  obtain ⟨ps, ⟨g', t', cs, fuel, p, q, hg', ht', hvar, hd, _, _⟩, _⟩ := (laidMetH_iff.1 h1).1
  obtain rfl := Option.some.inj (gWords.symm.trans hg')
  obtain rfl := Option.some.inj (gWordsT.symm.trans ht')
  rw [hvar]
  rw [wordDatas] at hd
  obtain ⟨hl, hn, f2, hp⟩ := arr_parts Tryd.underlying59 hd
  rw [cells38] at hl
  rw [cells2] at hp
  have := arr_join 19 2 cs.toList wordPair hl (fun i hi => by
    obtain ⟨q2, h2⟩ := hp i (wordData Unit i) hi (by rw [List.getElem?_map, List.getElem?_range hi]; rfl)
    obtain ⟨k1, k2, f3, k3⟩ := arr_parts Tryd.underlying58 h2
    rw [cells2] at k1
    rw [cells1] at k3
    obtain ⟨_, e0⟩ := k3 0 _ (by decide) rfl
    obtain ⟨_, e1⟩ := k3 1 _ (by decide) rfl
    have s0 := str_part Tryd.underlying9 e0
    have s1 := str_part Tryd.underlying9 e1
    generalize (cs.toList.drop (i * 2)).take 2 = l at k1 s0 s1
    match l, k1 with
    | [a, b], _ =>
      simp at s0 s1
      rw [s0, s1]; rfl)
  rw [wordPairs] at this
  exact congrArg some (Array.toList_inj.1 this)
theorem starErr : "*" ++ "errors.errorString" = "*errors.errorString" := by decide
theorem errRow (u : TypeId) (h : Tryd.prog.typeName? 3 u = some "*errors.errorString") : u = 127 :=
  typeName_ptr_named (nm := "errors.errorString") (by rw [starErr]; kernel_rfl) (by kernel_rfl) (by decide) u (by rw [starErr]; exact h)
theorem errVar {W : World} {n : String} {bs : List UInt8} {laid : List (String × DataW Unit)} (h : laidMetH Tryd.prog laid W) (he : laid.filter (fun x => x.1 == n) = [(n, .iface "*errors.errorString" (.ptr (.agg [.lit (.string bs)])))])
    (hb : (Tryd.prog.globalNamed n).bind (fun g => (Tryd.prog.globals[g]?).map (·.type)) = some 74) : ∃ tp p, W.var? Tryd.prog n = some #[.iface tp p] := by
  have h1 := h.filter (fun x => x.1 == n)
  rw [he] at h1
  have h2 := (laidMetH_iff.1 h1).1
  obtain ⟨g, hg, ht⟩ := Option.bind_eq_some_iff.1 hb
  obtain ⟨a0, s0, hv0, -, -, -⟩ := laid_sentinel (r := []) h2 hg ht Tryd.underlying74 errRow Tryd.underlying127 Tryd.underlying129 rfl rfl Tryd.underlying9 (by kernel_rfl) (by kernel_rfl)
  exact ⟨_, _, hv0⟩
theorem envX {W : World} {laid : List (String × DataW Unit)} (hsh : W.ShapedOpen Tryd.prog) (h : laidMetH Tryd.prog laid W)
    (h1 : laid.filter (fun x => x.1 == "internal/strconv.uint64pow10") = [("internal/strconv.uint64pow10", Rows.laid_internal_strconv_uint64pow10)])
    (h2 : laid.filter (fun x => x.1 == "quickset/desk.words") = [("quickset/desk.words", Rows.laid_quickset_desk_words)])
    (h3 : laid.filter (fun x => x.1 == "strconv.ErrSyntax") = [("strconv.ErrSyntax", Rows.laid_strconv_ErrSyntax)])
    (h4 : laid.filter (fun x => x.1 == "strconv.ErrRange") = [("strconv.ErrRange", Rows.laid_strconv_ErrRange)]) : EnvX W :=
  ⟨⟨hsh, powTab h h1⟩, wordsTab h h2, errVar h h3 (by kernel_rfl), errVar h h4 (by kernel_rfl)⟩
theorem i64_wf {z : Int} (h : (Lit.int .i64 z).wf = true) : -9223372036854775808 ≤ z ∧ z ≤ 9223372036854775807 := by
  simp [Lit.wf, IntKind.min, IntKind.max, IntKind.signed, IntKind.bits] at h
  omega
/-- An order that came in. -/
theorem open_orderB {H : Type} {enc : TypeId × Value → H} {ds : List (DataW H)} {w : World} {base : Nat} {spare : Nat → Bool} {held : Bool} {d : DataW H} {p : List MemPlace} {cs : Array Value} {B : Nat}
    (h : Rows.uptoBulkAll ds ≤ B) (hd : d ∈ ds) (hk : DataW.Trod enc Tryd.prog w base spare held 37 (.agg cs) d p) :
    ∃ kd na oa off cnt ad len cd xs, cs = #[.int .i64 kd, .int .i64 na, .int .i64 oa, .int .i64 off, .int .i64 cnt, .slice ad len cd] ∧ (-9223372036854775808 ≤ off ∧ off ≤ 9223372036854775807) ∧ (-9223372036854775808 ≤ cnt ∧ cnt ≤ 9223372036854775807) ∧ len ≤ B ∧ SRow (Lay.int .u8) w (fun _ => True) ad len cd xs := by
  have hb := bulk_part hd
  obtain ⟨fuel, hf⟩ := hk
  obtain ⟨cl, hcs⟩ : ∃ cl, cs = ⟨cl⟩ := ⟨cs.toList, rfl⟩
  subst hcs
  obtain ⟨xs, n, _, hxx, hcl, hxl, hf⟩ := DataW.trod_struct Tryd.underlying37 hf
  have hcl' : cl.length = 6 := hcl.trans (by kernel_rfl)
  have hx6 : xs.length = 6 := hxl
  obtain ⟨c0, c1, c2, c3, c4, c5, rfl⟩ : ∃ c0 c1 c2 c3 c4 c5, cl = [c0, c1, c2, c3, c4, c5] := by
    match cl, hcl' with
    | [a, b, c, d, e, f], _ => exact ⟨a, b, c, d, e, f, rfl⟩
  obtain ⟨x0, x1, x2, x3, x4, x5, rfl⟩ : ∃ x0 x1 x2 x3 x4 x5, xs = [x0, x1, x2, x3, x4, x5] := by
    match xs, hx6 with
    | [a, b, c, d, e, f], _ => exact ⟨a, b, c, d, e, f, rfl⟩
  have g0 : DataW.trod enc Tryd.prog w base spare held n 3 [c0] = some x0 := hf 0 _ rfl
  have g1 : DataW.trod enc Tryd.prog w base spare held n 3 [c1] = some x1 := hf 1 _ rfl
  have g2 : DataW.trod enc Tryd.prog w base spare held n 3 [c2] = some x2 := hf 2 _ rfl
  have g3 : DataW.trod enc Tryd.prog w base spare held n 3 [c3] = some x3 := hf 3 _ rfl
  have g4 : DataW.trod enc Tryd.prog w base spare held n 3 [c4] = some x4 := hf 4 _ rfl
  have g5 : DataW.trod enc Tryd.prog w base spare held n 22 [c5] = some x5 := hf 5 _ rfl
  obtain ⟨z0, e0, _, _⟩ := DataW.trod_int Tryd.underlying3 g0
  obtain ⟨z1, e1, _, _⟩ := DataW.trod_int Tryd.underlying3 g1
  obtain ⟨z2, e2, _, _⟩ := DataW.trod_int Tryd.underlying3 g2
  obtain ⟨z3, e3, _, r3⟩ := DataW.trod_int Tryd.underlying3 g3
  obtain ⟨z4, e4, _, r4⟩ := DataW.trod_int Tryd.underlying3 g4
  obtain ⟨d5, a, len, cap, e5, hr⟩ := opens_bytesU g5
  obtain rfl : c0 = .int .i64 z0 := by simpa using e0
  obtain rfl : c1 = .int .i64 z1 := by simpa using e1
  obtain rfl : c2 = .int .i64 z2 := by simpa using e2
  obtain rfl : c3 = .int .i64 z3 := by simpa using e3
  obtain rfl : c4 = .int .i64 z4 := by simpa using e4
  obtain rfl : c5 = .slice a len cap := by simpa using e5
  simp only [Prod.mk.injEq] at hxx
  obtain ⟨rfl, _⟩ := hxx
  simp only [Rows.uptoBulk] at hb
  refine ⟨z0, z1, z2, z3, z4, a, len, cap, d5, rfl, i64_wf r3, i64_wf r4, ?_, hr⟩
  exact bulk_len (P := Tryd.prog) (t := 22) (B := B) (d := x5.1) (p := x5.2) (Nat.le_trans (Nat.le_succ _) (Nat.le_trans hb h)) (by simp) Tryd.underlying22 ⟨n, g5⟩
end Go.Proofs.YtdonmdiebibabaaDoor
