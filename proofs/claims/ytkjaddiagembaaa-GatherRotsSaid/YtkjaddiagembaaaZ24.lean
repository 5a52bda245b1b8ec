/- Texts that belong together: ItE. -/
import Derived.Stop.RegionWithIn
import Derived.BigRegionIn
import Derived.Laws.EntriesVeiled
import Derived.Test.YtkjaddiagembaaaZ23
import Derived.Test.YtkjaddiagembaaaZ16
import Derived.Test.YtkjaddiagembaaaZ18
import Derived.Test.YtkjaddiagembaaaZ3
/- comb.Each: an iterator by a closure that calls itself. -/
namespace Go.Proofs.Ytkjaddiagembaaa
open Go.RowKit Go.Shelf
set_option linter.unusedVariables false
set_option maxRecDepth 100000

attribute [local go_sem] Oper.semAt_some

theorem wpList_append_room {P : Program} {w : World} {ops : Array Oper} {rest : List Oper} {o : Oper} {act : Act} {Q : Exit → Act → World → Prop} (hgd : o.guard = none) (s x : Operand) (t : TypeId)
    (ho : o.op = .call { callee := .builtin .append, args := #[s, x], argTypes := #[t, t] })
    (base : Nat) (e : TypeId) (z : Value) (size bytes : Nat) (ht : P.underlying t = some (.slice e)) (hi : (P.info? e).map (fun i => (i.zero, i.size, i.bytes)) = some (some z, size, bytes))
    (g len cap : Nat) (vs : List Value) (hs : act.eval s = .slice (some ⟨g, 0, none⟩) len cap) (hown : Own w base e size (some ⟨g, 0, none⟩) len cap vs)
    (ad : Addr) (len2 cap2 : Nat) (us : List Value) (hx : act.eval x = .slice (some ad) len2 cap2) (hrow : VRow w size (some ad) len2 cap2 us) (h1 : ∀ u ∈ us, u.oneCell' = true)
    (hroom : len + len2 ≤ cap)
    (h : ∀ w', Own w' base e size (some ⟨g, 0, none⟩) (len + len2) cap (vs ++ us) → w.grownBy w' (some g) → wpList P ops Q rest (act.put o.dst (.slice (some ⟨g, 0, none⟩) (len + len2) cap)) w') : wpList P ops Q (o :: rest) act w := by
  obtain ⟨i, hi0, hz, hsize, hby⟩ := info_parts hi
  obtain ⟨w', hr, ho', hg⟩ := run_append_fits (P := P) w base t o.type e i size ht hi0 hsize g len cap vs hown ad len2 cap2 us hrow.hlen (by
      intro j u hj
      have hjl : j < us.length := (List.getElem?_eq_some_iff.1 hj).1
      rw [hrow.hlen] at hjl
      rcases hrow.hat with h0 | ⟨b, off, hab, hc⟩
      · omega
      · obtain rfl : ad = ⟨b, off, none⟩ := by simpa using hab
        have : (⟨b, off, none⟩ : Addr).add j = ⟨b, off + j, none⟩ := by unfold Addr.add; split <;> simp_all
        rw [this, hc j hjl, hj]) h1 hroom
  refine wpList_plain hgd fun K hK => ?_
  unfold Oper.wp execOp
  simp only [ho, resolve, invoke, builtin, Sem.run_bind, Sem.run_pure, Result.andThen_ok, List.map_toArray, List.map_cons, List.map_nil, hs, hx, hr]
  exact hK _ _ (h w' ho' hg)

set_option maxHeartbeats 2000000 in
theorem cloneN (p : Addr) (len cap : Nat) (xs : List Int) (w : World) (h : Row .i64 w (some p) len cap xs) (hb : len ≤ 1000000) :
    Calls Try.prog 21 #[.slice (some p) len cap] w fun e w' => ∃ a c, e = .returned (.slice a len c) ∧ Hid (Own w' w.heap.size 3 1 a len c (xs.map (.int .i64))) ∧ Hid (Below w.heap.size w w') := by
  have hle := h.hle
  have hmx := h.hmax
  have hln := h.hlen
  unfold maxLen at hmx
  have HR := Lib.hid h
  have qT : ∀ (w : World) (a : Option Addr) (n c n' c' : Nat), (binOp .eql 23 (.slice a n c) (.slice none n' c')).run Try.prog w = .ok (.bool a.isNone) w := fun w a n c n' c' => Lib.run_eql_slice_nil w _ _ a n c n' c' Try.underlying23
  have hone : ∀ u ∈ xs.map (Value.int .i64), u.oneCell' = true := fun u hu => by obtain ⟨x, _, rfl⟩ := List.mem_map.1 hu; rfl
  clear h
  go_enter Try.func21, Try.ntmps21
  have hown0 : Own (w.alloc (.cells #[] 3)) w.heap.size 3 1 (some ⟨w.heap.size, 0, none⟩) 0 0 [] :=
    ⟨rfl, .inr ⟨w.heap.size, 0, #[], rfl, Nat.le_refl _, heap_alloc_new w _, Nat.le_refl _, Nat.zero_le _, rfl, rfl⟩⟩
  have HR1 := Lib.hid (HR.out.below (Below_alloc1 (.cells #[] 3)))
  have HO0 := Lib.hid hown0
  have HONE := Lib.hid hone
  clear hown0 hone
  go_wp2_with (at_builtin; refine wpList_append_any rfl (.tmp 5) (.tmp 6) 23 rfl w.heap.size 3 _ 1 8 Try.underlying23 info_int rfl (by decide) (some ⟨w.heap.size, 0, none⟩) 0 0 [] rfl HO0.out (some p) len cap (xs.map (.int .i64)) rfl HR1.out.toV HONE.out (by unfold maxLen; omega) (by omega) (by simp) ?_)
  intro a1 c1 w1 ho hg
  have LB1 : Hid (Below w.heap.size w w1) := (Below_alloc1 _).grown hg (by simp) (fun k hk => by
    have e : w.heap.size = k := by injection hk
    omega)
  have HO : Hid (Own w1 w.heap.size 3 1 a1 len c1 (xs.map (.int .i64))) := by simpa [Hid] using ho
  clear ho hg HO0 HR1
  go_wp2_with fail
  go_ret
  exact ⟨a1, c1, rfl, HO, LB1⟩

def walkF (A bk bn : Nat) : Value := .func (.func 30) #[] #[.pointer (some ⟨A + 2, 0, none⟩), .pointer (some ⟨bk, 0, none⟩), .pointer (some ⟨A, 0, none⟩), .pointer (some ⟨bn, 0, none⟩), .pointer (some ⟨A + 3, 0, none⟩)]
/-- The state of the iterator, p being the pick so far. -/
structure ItSt (A bk bn l n k : Nat) (X : World) (p : List Nat) : Prop where
  hy : Box X A #[.func (.yield l) #[] #[]] 68
  hw : Box X (A + 3) #[walkF A bk bn] 63
  hp : Box X (A + 2) #[.slice (some ⟨A + 1, 0, none⟩) p.length k] 23
  ha : Own X (A + 1) 3 1 (some ⟨A + 1, 0, none⟩) p.length k ((ints p).map (.int .i64))
  hk : Box X bk #[.int .i64 (k : Int)] 3
  hn : Box X bn #[.int .i64 (n : Int)] 3
theorem Own.at {w w' : World} {base : Nat} {e : TypeId} {size g len cap : Nat} {vs : List Value} (h : Own w base e size (some ⟨g, 0, none⟩) len cap vs) (hb : w'.heap[g]? = w.heap[g]?) : Own w' base e size (some ⟨g, 0, none⟩) len cap vs := by
  refine ⟨h.1, ?_⟩
  rcases h.2 with h0 | ⟨g', c, cur, hv, hbg, hg, r⟩
  · exact .inl h0
  · have e1 : g = g' := by simp only [Value.slice.injEq, Option.some.injEq, Addr.mk.injEq, and_true] at hv; exact hv.1
    exact .inr ⟨g', c, cur, hv, hbg, by rw [← e1, hb, e1]; exact hg, r⟩
theorem ItSt.same {A bk bn l n k : Nat} {X Y : World} {p : List Nat} (h : ItSt A bk bn l n k X p) (hs : ∀ b, A ≤ b → b < A + 4 → Y.heap[b]? = X.heap[b]?) (h1 : Y.heap[bk]? = X.heap[bk]?) (h2 : Y.heap[bn]? = X.heap[bn]?) : ItSt A bk bn l n k Y p :=
  ⟨(hs _ (by omega) (by omega)).trans h.hy, (hs _ (by omega) (by omega)).trans h.hw, (hs _ (by omega) (by omega)).trans h.hp, h.ha.at (hs _ (by omega) (by omega)), h1.trans h.hk, h2.trans h.hn⟩
theorem ItSt.keep {A bk bn l n k : Nat} {X Y : World} {p : List Nat} (h : ItSt A bk bn l n k X p) (hk : RoundKeeps A (A + 4) [bk, bn] X Y) : ItSt A bk bn l n k Y p :=
  h.same hk.1.block (hk.2 bk (by simp)) (hk.2 bn (by simp))
theorem ItSt.below {A bk bn l n k : Nat} {X Y : World} {p : List Nat} (h : ItSt A bk bn l n k X p) (hb : Below X.heap.size X Y) : ItSt A bk bn l n k Y p := by
  have h1 := h.hw.lt
  exact h.same (fun b _ h2 => hb.block b (by omega)) (hb.block _ h.hk.lt) (hb.block _ h.hn.lt)
theorem ints_wf {n : Nat} {p : List Nat} (hp : ∀ x ∈ p, x < n) (hn : n ≤ 12) : ∀ x ∈ ints p, (Lit.int .i64 x).wf = true := by
  intro x hx
  obtain ⟨y, hy, rfl⟩ := List.mem_map.1 hx
  have := hp y hy
  exact int_wf (by omega) (by omega)
def PickEl (k : Nat) (ps : List (List Nat)) (B j : Nat) (x : Value) (X : World) : Prop := ∃ p a c, ps[j]? = some p ∧ x = .slice a k c ∧ Own X B 3 1 a k c ((ints p).map (.int .i64))
def extTo (n r f : Nat) (p : List Nat) (x : Nat) : List (List Nat) := (List.range' f (x - f)).flatMap fun y => ext n r (y + 1) (p ++ [y])
theorem ext_split (n r f : Nat) (p : List Nat) : extTo n r f p f = [] ∧ (∀ x, f ≤ x → extTo n r f p (x + 1) = extTo n r f p x ++ ext n r (x + 1) (p ++ [x])) ∧
    (∀ x, f ≤ x → x - f ≤ n - r - f → ∃ rest, ext n (r + 1) f p = extTo n r f p x ++ rest ∧ (n - r ≤ x → rest = []) ∧ (x < n - r → ∃ rest', rest = ext n r (x + 1) (p ++ [x]) ++ rest')) := by
  refine ⟨by unfold extTo; rw [Nat.sub_self]; rfl, fun x hx => ?_, fun x hx hxn => ?_⟩
  · unfold extTo
    rw [show x + 1 - f = (x - f) + 1 by omega, List.range'_concat, List.flatMap_append]
    simp only [Nat.one_mul, List.flatMap_cons, List.flatMap_nil, List.append_nil]
    rw [show f + (x - f) = x by omega]
  · refine ⟨(List.range' x (n - r - f - (x - f))).flatMap fun y => ext n r (y + 1) (p ++ [y]), ?_, ?_, ?_⟩
    · show (List.range' f (n - r - f)).flatMap _ = _
      unfold extTo
      rw [← List.flatMap_append]
      congr 1
      have := List.range'_append (s := f) (m := x - f) (n := n - r - f - (x - f)) (step := 1)
      rw [Nat.one_mul, show f + (x - f) = x by omega, show x - f + (n - r - f - (x - f)) = n - r - f by omega] at this
      exact this.symm
    · intro h
      rw [show n - r - f - (x - f) = 0 by omega]; rfl
    · intro h
      rw [show n - r - f - (x - f) = (n - r - (x + 1)) + 1 by omega, List.range'_succ, List.flatMap_cons]
      exact ⟨_, rfl⟩
theorem own_cut {w : World} {base : Nat} {e : TypeId} {size g len cap : Nat} {vs : List Value} (h : Own w base e size (some ⟨g, 0, none⟩) len cap vs) (i : Nat) (hi : i ≤ len) : Own w base e size (some ⟨g, 0, none⟩) i cap (vs.take (i * size)) := by
  have hl := h.1
  have hm : i * size ≤ len * size := Nat.mul_le_mul_right _ hi
  refine ⟨by rw [List.length_take, hl]; omega, ?_⟩
  rcases h.2 with ⟨h0, _⟩ | ⟨g', c, cur, hv, hbg, hg, h1, h2, h3, h4⟩
  · simp at h0
  · simp only [Value.slice.injEq, Option.some.injEq, Addr.mk.injEq, and_true, true_and] at hv
    obtain ⟨rfl, rfl⟩ := hv
    exact .inr ⟨g, cap, cur, rfl, hbg, hg, by omega, h2, h3, by rw [← h4, List.take_take, Nat.min_eq_left hm]⟩
set_option maxHeartbeats 4000000 in
theorem walkW {n k A bk bn l : Nat} {J Jx : Nat → World → Prop} (hkn : k ≤ n) (hn : n ≤ 12) (hbk : bk < A) (hbn : bn < A)
    (hJ : ∀ j X Y, J j X → Off A (A + 4) X Y → J j Y) (hJx : ∀ j X Y, Jx j X → Off A (A + 4) X Y → Jx j Y)
    (hY : ∀ j x X, j < (picks n k).length → J j X → A + 4 ≤ X.heap.size → PickEl k (picks n k) (A + 4) j x X → YieldAt Fence.wide 0 Try.prog l #[x] X fun e Y =>
      RoundKeeps A (A + 4) [bk, bn] X Y ∧ ((e = .returned (.bool true) ∧ J (j + 1) Y) ∨ (e = .returned (.bool false) ∧ Jx j Y))) :
    ∀ (r f : Nat) (p : List Nat) (pre suf : List (List Nat)) (X : World), ItSt A bk bn l n k X p → p.length + r = k → f ≤ n → (∀ x ∈ p, x < n) → pre ++ ext n r f p ++ suf = picks n k → J pre.length X →
      Calls Try.prog 30 #[.int .i64 (f : Nat), .pointer (some ⟨A + 2, 0, none⟩), .pointer (some ⟨bk, 0, none⟩), .pointer (some ⟨A, 0, none⟩), .pointer (some ⟨bn, 0, none⟩), .pointer (some ⟨A + 3, 0, none⟩)] X fun e Y =>
        (e = .returned (.bool true) ∧ ItSt A bk bn l n k Y p ∧ J (pre.length + (ext n r f p).length) Y) ∨ (e = .returned (.bool false) ∧ ∃ j, j < (picks n k).length ∧ Jx j Y) := by
  intro r
  induction r with
  | zero =>
    intro f p pre suf X hst hl hf hp hpre hj
    have hlp : p.length = k := by omega
    obtain ⟨hy, hw, hpb, ha, hkb, hnb⟩ := hst
    have e1 : X.cell? ⟨A + 2, 0, none⟩ = some (.slice (some ⟨A + 1, 0, none⟩) k k) := by rw [← hlp]; rw [hlp]; have := hpb.cell 0; rw [hlp] at this; exact this
    have e2 : X.cell? ⟨bk, 0, none⟩ = some (.int .i64 (k : Int)) := hkb.cell 0
    have e3 : X.cell? ⟨A, 0, none⟩ = some (.func (.yield l) #[] #[]) := hy.cell 0
    have HST : Hid (ItSt A bk bn l n k X p) := ⟨hy, hw, hpb, ha, hkb, hnb⟩
    clear hy hw hpb ha hkb hnb
    have hpj : (picks n k)[pre.length]? = some p := by
      rw [← hpre]
      show (pre ++ [p] ++ suf)[pre.length]? = some p
      simp
    have hjl : pre.length < (picks n k).length := (List.getElem?_eq_some_iff.1 hpj).1
    have hk12 : k ≤ 12 := by omega
    have hrow : Row .i64 X (some ⟨A + 1, 0, none⟩) k k (ints p) := by
      have h := (HST.out.ha.row).toRow (ints_wf hp hn)
      rw [hlp] at h
      exact h
    have hszX : A + 4 ≤ X.heap.size := by have := HST.out.hw.lt; omega
    have HROW := Lib.hid hrow
    have hAX : A < X.heap.size := by omega
    have HYA : Hid (∀ (a : Option Addr) (c : Nat) (X1 : World), Own X1 X.heap.size 3 1 a k c ((ints p).map (.int .i64)) → Below X.heap.size X X1 → YieldAt Fence.wide 0 Try.prog l #[.slice a k c] X1 fun e Y =>
        ∃ yb, e = .returned (.bool yb) ∧ Hid ((yb = true ∧ ItSt A bk bn l n k Y p ∧ J (pre.length + 1) Y) ∨ (yb = false ∧ Jx pre.length Y))) := by
      intro a c X1 ho hb
      refine YieldAt.mono (hY pre.length (.slice a k c) X1 hjl (hJ _ _ _ hj (Off.below hb)) (by have := hb.size; omega) ⟨p, a, c, hpj, rfl, ho.mono hszX⟩) ?_
      rintro e Y ⟨hkp, h⟩
      rcases h with ⟨h1, h2⟩ | ⟨h1, h2⟩
      · exact ⟨true, h1, .inl ⟨rfl, (HST.out.below hb).keep hkp, h2⟩⟩
      · exact ⟨false, h1, .inr ⟨rfl, h2⟩⟩
    have HC : Hid (Calls Try.prog 21 #[.slice (some ⟨A + 1, 0, none⟩) k k] X.drew fun e w' => ∃ a c, e = .returned (.slice a k c) ∧ Hid (Own w' X.heap.size 3 1 a k c ((ints p).map (.int .i64))) ∧ Hid (Below X.heap.size X w')) := by
      refine (cloneN _ _ _ _ X.drew (HROW.out.drewN 1) (by omega)).mono ?_
      rintro e w' ⟨a, c, h1, h2, h3⟩
      exact ⟨a, c, h1, h2, (Below.refl _ X).drew.trans h3.out⟩
    clear hrow hY
    refine (callsIn_wide (n := 1)).1 ?_
    refine callsIn_of_wp Try.func30 rfl trivial ?_ rfl
    simp only [Try.ntmps30, List.size_toArray, List.length_cons, List.length_nil, Nat.reduceAdd, Nat.reduceSub, Array.replicate_succ, Array.replicate_zero, List.push_toArray, List.append_toArray, List.nil_append, List.cons_append]
    gi_wp2
    gi_region_with (first
      | (refine ⟨trivial, ?_⟩; gi_at_call 21; refine (callsIn_wide.2 HC.out).mono ?_; rintro e X1 ⟨a, c, rfl, hO, hB⟩; have e3' := (hB.out.cell hAX).trans e3; obtain ⟨fn, tmps, assign, body, hy, hR⟩ := HYA.out a c X1 hO.out hB.out)
      | (refine hR.mono ?_; rintro e Y ⟨yb, rfl, hyb⟩))
    all_goals gi_wp2
    all_goals go_ret
    all_goals
      rcases hyb.out with ⟨rfl, h1, h2⟩ | ⟨rfl, h2⟩
      · exact .inl ⟨rfl, h1, h2⟩
      · exact .inr ⟨rfl, _, hjl, h2⟩
  | succ r ih =>
    intro f p pre suf X hst hl hf hp hpre hj
    obtain ⟨hext0, hext1, hext2⟩ := ext_split n r f p
    have HST := Lib.hid hst
    have HPRE := Lib.hid hpre
    have HE0 := Lib.hid hext0
    have HE1 := Lib.hid hext1
    have HE2 := Lib.hid hext2
    obtain ⟨lp, hlp⟩ : ∃ lp, p.length = lp := ⟨_, rfl⟩
    have HLP := Lib.hid hlp
    have HP := Lib.hid hp
    obtain ⟨E, hE⟩ : ∃ E : Nat → List (List Nat), E = extTo n r f p := ⟨_, rfl⟩
    rw [hlp] at hl
    have HEE := Lib.hid hE
    have hJ0 : Hid (J (pre ++ E f).length X) := by
      show J _ _
      rw [hE, hext0, List.append_nil]; exact hj
    clear hst hpre hext0 hext1 hext2 hlp hp hj hE
    go_enter Try.func30, Try.ntmps30
    have e1 : X.cell? ⟨A + 2, 0, none⟩ = some (.slice (some ⟨A + 1, 0, none⟩) lp k) := by have := HST.out.hp.cell 0; rw [HLP.out] at this; exact this
    have e2 : X.cell? ⟨bk, 0, none⟩ = some (.int .i64 (k : Int)) := HST.out.hk.cell 0
    have ne : ((lp : Int) == (k : Int)) = false := by simp; omega
    go_wp2_with fail
    clear e1 e2 ne
    go_loopw [8] (fun xv wr => ∃ x : Nat, f ≤ x ∧ x - f ≤ n - r - f ∧ xv = .int .i64 x ∧ Hid (ItSt A bk bn l n k wr p) ∧ Hid (J (pre ++ E x).length wr)) (fun xv _ => n - (intOf xv).toNat)
    case atStart => exact ⟨f, Nat.le_refl _, by omega, rfl, HST.out, hJ0.out⟩
    case round =>
      obtain ⟨x, hfx, hxn, rfl, hsx, hjx⟩ := hrel
      have c1 : wr.cell? ⟨A + 2, 0, none⟩ = some (.slice (some ⟨A + 1, 0, none⟩) lp k) := by have := hsx.out.hp.cell 0; rw [HLP.out] at this; exact this
      have c2 : wr.cell? ⟨bk, 0, none⟩ = some (.int .i64 (k : Int)) := hsx.out.hk.cell 0
      have c3 : wr.cell? ⟨bn, 0, none⟩ = some (.int .i64 (n : Int)) := hsx.out.hn.cell 0
      have w1 : IntKind.i64.wrap ((k : Int) - (lp : Int)) = ((r + 1 : Nat) : Int) := by rw [IntWalk.i64_in _ (by omega)]; omega
      have w2 : IntKind.i64.wrap ((n : Int) - ((r + 1 : Nat) : Int)) = ((n - r - 1 : Nat) : Int) := by rw [IntWalk.i64_in _ (by omega)]; omega
      have w2' : IntKind.i64.wrap ((n : Int) - ((r : Int) + 1)) = ((n - r - 1 : Nat) : Int) := by rw [IntWalk.i64_in _ (by omega)]; omega
      by_cases hlt : x ≤ n - r - 1
      · have hle : ((x : Int) ≤ ((n - r - 1 : Nat) : Int)) := by omega
        have hszr : A + 4 ≤ wr.heap.size := by have := hsx.out.hw.lt; omega
        have HA0 : Hid (Own (wr.alloc (.cells #[.int .i64 (x : Int)] 3)) (A + 1) 3 1 (some ⟨A + 1, 0, none⟩) lp k ((ints p).map (.int .i64))) := by
          have := hsx.out.ha
          rw [HLP.out] at this
          exact this.below (Below_alloc1 _)
        have HL0 : Hid (VRow (wr.alloc (.cells #[.int .i64 (x : Int)] 3)) 1 (some ⟨wr.heap.size, 0, none⟩) 1 1 [.int .i64 (x : Int)]) := (show Own _ wr.heap.size _ 1 _ 1 1 _ from World.ownsRow_lit wr #[.int .i64 (x : Int)] 1 (Nat.le_refl _) (by decide) rfl).row
        have HPB : Hid (Box (wr.alloc (.cells #[.int .i64 (x : Int)] 3)) (A + 2) #[.slice (some ⟨A + 1, 0, none⟩) lp k] 23) := by
          have := hsx.out.hp
          rw [HLP.out] at this
          exact this.alloc _
        have hxn' : x < n := by omega
        go_upto_region 7 with (at_builtin; refine wpList_append_room rfl (.tmp 28) (.tmp 30) 23 rfl (A + 1) 3 _ 1 8 Try.underlying23 info_int (A + 1) lp k _ rfl HA0.out ⟨wr.heap.size, 0, none⟩ 1 1 [.int .i64 (x : Int)] rfl HL0.out (by simp [Value.oneCell']) (by omega) ?_; intro w7 ho7 hg7; have HO7 := Lib.hid ho7; have HG7 := Lib.hid hg7; have HP7 : Hid (Box w7 (A + 2) #[.slice (some ⟨A + 1, 0, none⟩) lp k] 23) := (hg7.block (A + 2) (by simp; omega) (by simp)).trans HPB.out; have p7 := HP7.out.cell 0; have q7 := HP7.out.free 0; clear ho7 hg7)
        obtain ⟨W8, hW8⟩ : ∃ W8, W8 = w7.setCell ⟨A + 2, 0, none⟩ (.slice (some ⟨A + 1, 0, none⟩) (lp + 1) k) := ⟨_, rfl⟩
        rw [← hW8]
        have HOFF : Hid (Off A (A + 4) wr W8) := by
          show Off _ _ _ _
          rw [hW8]
          exact ((Off.alloc wr _).trans (Off.grown HG7.out (fun k hk => by have e : A + 1 = k := (by simpa using hk); omega))).trans (Off.setCell _ _ _ (by show A ≤ A + 2 ∧ A + 2 < A + 4; omega))
        have hsame : ∀ b, b ≠ A + 1 → b ≠ A + 2 → b < wr.heap.size → W8.heap[b]? = wr.heap[b]? := by
          intro b h1 h2 h3
          rw [hW8, Below.heap_setCell _ _ _ _ (by show b ≠ A + 2; exact h2), HG7.out.block b (by simp; omega) (by simp; omega)]
          exact Below.heap_alloc _ _ _ h3
        have hbkl := hsx.out.hk.lt
        have hbnl := hsx.out.hn.lt
        have hst8 : ItSt A bk bn l n k W8 (p ++ [x]) := by
          refine ⟨(hsame _ (by omega) (by omega) (by omega)).trans hsx.out.hy, (hsame _ (by omega) (by omega) (by omega)).trans hsx.out.hw, ?_, ?_, (hsame _ (by omega) (by omega) (by omega)).trans hsx.out.hk, (hsame _ (by omega) (by omega) (by omega)).trans hsx.out.hn⟩
          · rw [hW8, List.length_append, HLP.out]
            exact HP7.out.set 0 _
          · have h1 := HO7.out.at (w' := W8) (by rw [hW8]; exact Below.heap_setCell _ _ _ _ (by show A + 1 ≠ A + 2; omega))
            rw [List.length_append, HLP.out]
            simpa [ints] using h1
        have HS8 := Lib.hid hst8
        have hj8 : J (pre ++ E x).length W8 := hJ _ _ _ hjx.out HOFF.out
        obtain ⟨rest, hr1, _, hr3⟩ := HE2.out x hfx hxn
        obtain ⟨rest', rfl⟩ := hr3 (by omega)
        have HIH : Hid (Calls Try.prog 30 #[.int .i64 ((x + 1 : Nat) : Int), .pointer (some ⟨A + 2, 0, none⟩), .pointer (some ⟨bk, 0, none⟩), .pointer (some ⟨A, 0, none⟩), .pointer (some ⟨bn, 0, none⟩), .pointer (some ⟨A + 3, 0, none⟩)] W8 fun e Y =>
            (e = .returned (.bool true) ∧ Hid (ItSt A bk bn l n k Y (p ++ [x])) ∧ Hid (J (pre ++ E (x + 1)).length Y) ∧ Y.cell? ⟨A + 2, 0, none⟩ = some (.slice (some ⟨A + 1, 0, none⟩) (lp + 1) k) ∧ Y.frozen? ⟨A + 2, 0, none⟩ = false) ∨ (e = .returned (.bool false) ∧ Hid (∃ j, j < (picks n k).length ∧ Jx j Y))) := by
          refine (ih (x + 1) (p ++ [x]) (pre ++ E x) (rest' ++ suf) W8 hst8 (by rw [List.length_append, HLP.out]; simp; omega) (by omega) ?_ ?_ hj8).mono ?_
          · intro y hy
            rcases List.mem_append.1 hy with hy | hy
            · exact HP.out y hy
            · obtain rfl := List.mem_singleton.1 hy; exact hxn'
          · rw [← HPRE.out, hr1, HEE.out]
            simp [List.append_assoc]
          · rintro e Y (⟨h1, h2, h3⟩ | ⟨h1, h2⟩)
            · refine .inl ⟨h1, h2, ?_, (by have := h2.hp.cell 0; rw [List.length_append, HLP.out] at this; exact this), h2.hp.free 0⟩
              show J _ _
              rw [HEE.out, HE1.out x hfx, ← List.append_assoc, List.length_append]
              rw [HEE.out] at h3
              exact h3
            · exact .inr ⟨h1, h2⟩
        have c8 : W8.cell? ⟨A + 3, 0, none⟩ = some (walkF A bk bn) := hst8.hw.cell 0
        unfold walkF at c8
        have w8 : IntKind.i64.wrap ((x : Int) + 1) = ((x + 1 : Nat) : Int) := by rw [IntWalk.i64_in _ (by omega)]; omega
        have w8' : IntKind.i64.wrap ((lp : Int) + 1 - 1) = (lp : Int) := by rw [IntWalk.i64_in _ (by omega)]; omega
        clear hst8 hj8 hsame hr1 hr3 hW8 c1 c2 c3 w1 w2 w2' p7 q7
        have h1k : ((lp : Int) ≤ (k : Int)) := by omega
        have h1k' : lp ≤ k := by omega
        go_wp2_with (refine HIH.out.mono ?_; rintro e Y (⟨rfl, hsy, hjy, y1, y2⟩ | ⟨rfl, hjy⟩))
        · have hst9 : ItSt A bk bn l n k (Y.setCell ⟨A + 2, 0, none⟩ (.slice (some ⟨A + 1, 0, none⟩) lp k)) p := by
            have hs : ∀ b, b ≠ A + 2 → (Y.setCell ⟨A + 2, 0, none⟩ (.slice (some ⟨A + 1, 0, none⟩) lp k)).heap[b]? = Y.heap[b]? := fun b hb => Below.heap_setCell _ _ _ _ hb
            refine ⟨(hs _ (by omega)).trans hsy.out.hy, (hs _ (by omega)).trans hsy.out.hw, ?_, ?_, (hs _ (by omega)).trans hsy.out.hk, (hs _ (by omega)).trans hsy.out.hn⟩
            · have h1 := hsy.out.hp
              rw [HLP.out]
              exact h1.set 0 _
            · have h1 := hsy.out.ha.at (hs _ (by omega))
              rw [HLP.out]
              rw [List.length_append, HLP.out] at h1
              have h2 := own_cut h1 lp (by simp)
              rw [Nat.mul_one, show lp = (ints p).length by rw [← HLP.out]; simp [ints], show ints (p ++ [x]) = ints p ++ [(x : Int)] by simp [ints], ← List.map_take, List.take_left] at h2
              rw [show lp = (ints p).length by rw [← HLP.out]; simp [ints]]
              exact h2
          have HS9 := Lib.hid hst9
          have HJ9 := Lib.hid (hJ _ _ _ hjy.out (Off.setCell (A := A) (B := A + 4) Y ⟨A + 2, 0, none⟩ (.slice (some ⟨A + 1, 0, none⟩) lp k) (by show A ≤ A + 2 ∧ A + 2 < A + 4; omega)))
          refine ⟨⟨x + 1, by omega, by omega, by go_num, HS9.out, HJ9.out⟩, ?_⟩
          simp [intOf]; omega
        · go_ret
          exact .inr ⟨rfl, hjy.out⟩
      · have hle : decide ((x : Int) ≤ ((n - r - 1 : Nat) : Int)) = false := by simp; omega
        have hle' : decide (x ≤ n - r - 1) = false := by simp; omega
        go_wp2_with fail
        go_ret
        obtain ⟨rest, hr1, hr2, _⟩ := HE2.out x hfx hxn
        refine .inl ⟨rfl, hsx.out, ?_⟩
        have h := hjx.out
        rw [HEE.out, List.length_append] at h
        rw [hr1, hr2 (by omega), List.append_nil]
        exact h
set_option maxHeartbeats 2000000 in
theorem eachBody (n k bk bn : Nat) (hkn : k ≤ n) (hn : n ≤ 12) (w0 : World) (hk : Box w0 bk #[.int .i64 (k : Int)] 3) (hb : Box w0 bn #[.int .i64 (n : Int)] 3) :
    ItGives Try.prog 29 #[.pointer (some ⟨bk, 0, none⟩), .pointer (some ⟨bn, 0, none⟩)] (picks n k).length 4 [bk, bn] (PickEl k (picks n k)) w0 := by
  intro l J Jx W hsz hheld hJ hJx hY h0
  have hbk : Box W bk #[.int .i64 (k : Int)] 3 := (hheld bk (by simp)).trans hk
  have hbn : Box W bn #[.int .i64 (n : Int)] 3 := (hheld bn (by simp)).trans hb
  obtain ⟨A, hA⟩ : ∃ A, W.heap.size = A := ⟨_, rfl⟩
  rw [hA] at hJ hJx hY
  have hbkl : bk < A := by have := hbk.lt; omega
  have hbnl : bn < A := by have := hbn.lt; omega
  have hwalk := walkW (l := l) hkn hn hbkl hbnl hJ hJx hY k 0 [] [] []
  have HK := Lib.hid hbk
  have HN := Lib.hid hbn
  obtain ⟨W1, hW1⟩ : ∃ W1, W1 = W.alloc (.cells #[.func (.yield l) #[] #[]] 68) := ⟨_, rfl⟩
  have hs1 : W1.heap.size = A + 1 := by rw [hW1]; simp [hA]
  have y1 : Box W1 A #[.func (.yield l) #[] #[]] 68 := by rw [hW1]; exact Box.new hA.symm
  have k1 : Box W1 bk #[.int .i64 (k : Int)] 3 := by rw [hW1]; exact hbk.alloc _
  have n1 : Box W1 bn #[.int .i64 (n : Int)] 3 := by rw [hW1]; exact hbn.alloc _
  have o1 : Off A (A + 4) W W1 := by rw [hW1]; exact Off.alloc _ _
  have Y1 := Lib.hid y1
  have K1 := Lib.hid k1
  have N1 := Lib.hid n1
  have O1 := Lib.hid o1
  have HWK := Lib.hid hwalk
  have HJ := Lib.hid hJ
  have H0 := Lib.hid h0
  have c1 : W1.cell? ⟨bk, 0, none⟩ = some (.int .i64 (k : Int)) := k1.cell 0
  obtain ⟨W3, hW3⟩ : ∃ W3, W3 = (W1.alloc (.cells (Array.replicate k (Value.int .i64 0)) 3)).alloc (.cells #[.slice (some ⟨A + 1, 0, none⟩) 0 k] 23) := ⟨_, rfl⟩
  obtain ⟨V3, hV3⟩ : ∃ V3, V3 = W3.alloc (.cells #[.nilFunc] 63) := ⟨_, rfl⟩
  have hs3 : W3.heap.size = A + 3 := by rw [hW3]; simp [hs1]
  have b3 : Box V3 (A + 3) #[.nilFunc] 63 := by rw [hV3]; exact Box.new hs3.symm
  have q3 : V3.cell? ⟨A + 3, 0, none⟩ = some .nilFunc := b3.cell 0
  have f3 : V3.frozen? ⟨A + 3, 0, none⟩ = false := b3.free 0
  obtain ⟨W4, hW4⟩ : ∃ W4, W4 = V3.setCell ⟨A + 3, 0, none⟩ (walkF A bk bn) := ⟨_, rfl⟩
  have hof3 : Off A (A + 4) W V3 := by rw [hV3, hW3]; exact ((o1.trans (Off.alloc _ _)).trans (Off.alloc _ _)).trans (Off.alloc _ _)
  have hst : Hid (ItSt A bk bn l n k W4 []) := by
    show ItSt _ _ _ _ _ _ _ _
    have hs : ∀ b, b ≠ A + 3 → W4.heap[b]? = V3.heap[b]? := fun b hb => by rw [hW4]; exact Below.heap_setCell _ _ _ _ hb
    refine ⟨(hs _ (by omega)).trans (by rw [hV3, hW3]; exact ((y1.alloc _).alloc _).alloc _), by rw [hW4]; exact b3.set 0 _, (hs _ (by omega)).trans (by rw [hV3, hW3]; exact (Box.new (by simp [hs1])).alloc _), ?_, (hs _ (by omega)).trans (by rw [hV3, hW3]; exact ((k1.alloc _).alloc _).alloc _), (hs _ (by omega)).trans (by rw [hV3, hW3]; exact ((n1.alloc _).alloc _).alloc _)⟩
    refine ⟨rfl, .inr ⟨A + 1, k, Array.replicate k (Value.int .i64 0), rfl, Nat.le_refl _, (hs _ (by omega)).trans ?_, by simp, by unfold maxLen; omega, by simp, by simp [ints]⟩⟩
    rw [hV3, hW3]
    exact ((Box.new hs1.symm).alloc _).alloc _
  have hj4 : Hid (J 0 W4) := by
    show J _ _
    rw [hW4]
    exact hJ _ _ _ h0 (hof3.trans (Off.setCell _ _ _ (by show A ≤ A + 3 ∧ A + 3 < A + 4; omega)))
  have HC : Hid (Calls Try.prog 30 #[.int .i64 0, .pointer (some ⟨A + 2, 0, none⟩), .pointer (some ⟨bk, 0, none⟩), .pointer (some ⟨A, 0, none⟩), .pointer (some ⟨bn, 0, none⟩), .pointer (some ⟨A + 3, 0, none⟩)] W4 fun e Y =>
      ∃ yb, e = .returned (.bool yb) ∧ Hid (J (picks n k).length Y ∨ ∃ j, j < (picks n k).length ∧ Jx j Y)) := by
    refine (hwalk W4 hst.out (by simp) (by omega) (fun x hx => by cases hx) (by simp [picks]) hj4.out).mono ?_
    rintro e Y (⟨h1, _, h2⟩ | ⟨h1, h2⟩)
    · exact ⟨true, h1, .inl (by simpa [picks] using h2)⟩
    · exact ⟨false, h1, .inr h2⟩
  have c4 : W4.cell? ⟨A + 3, 0, none⟩ = some (walkF A bk bn) := hst.out.hw.cell 0
  unfold walkF at c4
  clear hbk hbn hheld hk hb hJ hJx hY h0 hwalk y1 k1 n1 o1
  show Calls _ _ #[.func (.yield l) #[] #[], .pointer (some ⟨bk, 0, none⟩), .pointer (some ⟨bn, 0, none⟩)] _ _
  go_enter Try.func29, Try.ntmps29
  go_upto_region 1 with fail
  rw [← hW1]
  clear hW1
  go_upto_region 2 with (refine wpList_make_room rfl _ _ 23 rfl 3 (.int .i64 0) 8 Try.underlying23 info_int rfl .i64 .i64 k rfl rfl (by omega) (by unfold maxLen; omega) ?_; intro hbox; clear hbox)
  rw [← hW3]
  clear hW3 b3 hof3 c1
  go_upto_region 3 with fail
  rw [← hV3]
  clear hV3
  rw [show A + 1 + 1 = A + 2 from rfl]
  go_upto_region 4 with fail
  unfold walkF at hW4
  rw [← hW4]
  clear hW4 q3 f3
  go_wp2_with (refine HC.out.mono ?_; rintro e Y ⟨yb, rfl, h⟩)
  go_end0
  exact ⟨⟨_, rfl⟩, h.out⟩
set_option maxHeartbeats 1000000 in
theorem eachW (n k : Int) (w : World) : Calls Try.prog 19 #[.int .i64 n, .int .i64 k] w fun e w' => e = .returned (.func (.func 29) #[] #[.pointer (some ⟨w.heap.size + 1, 0, none⟩), .pointer (some ⟨w.heap.size, 0, none⟩)]) ∧ w' = (w.alloc (.cells #[.int .i64 n] 3)).alloc (.cells #[.int .i64 k] 3) := by
  go_enter Try.func19, Try.ntmps19
  go_wp2_with fail
  go_ret
  exact ⟨rfl, rfl⟩
theorem each_gives (n k : Nat) (hkn : k ≤ n) (hn : n ≤ 12) (w : World) :
    ItGives Try.prog 29 #[.pointer (some ⟨w.heap.size + 1, 0, none⟩), .pointer (some ⟨w.heap.size, 0, none⟩)] (picks n k).length 4 [w.heap.size + 1, w.heap.size] (PickEl k (picks n k)) ((w.alloc (.cells #[.int .i64 (n : Int)] 3)).alloc (.cells #[.int .i64 (k : Int)] 3)) :=
  eachBody n k (w.heap.size + 1) w.heap.size hkn hn _ (Box.new (by simp)) ((Box.new rfl).alloc _)
end Go.Proofs.Ytkjaddiagembaaa
