/- Texts that belong together: GaU. -/
import Derived.Test.YtkjaddiagembaaaZ25
/- Package stripe: Gather's loop over the numbers of columns that are taken as bad. -/
namespace Go.Proofs.Ytkjaddiagembaaa
open Go.RowKit Go.Shelf
set_option linter.unusedVariables false
set_option maxRecDepth 100000

attribute [local go_sem] Oper.semAt_some

def rangeLoop : Code → Option Code
  | .loop c => match rangeBody c with
    | some _ => some (.loop c)
    | none => none
  | .seq a b => match rangeLoop a with
    | some c => some c
    | none => rangeLoop b
  | .block _ c => rangeLoop c
  | .scope c => rangeLoop c
  | .cond _ a b => match rangeLoop a with
    | some c => some c
    | none => rangeLoop b
  | _ => none
noncomputable def tryLoop : Code := ((Try.f12.body.bind rangeLoop).getD .skip)
theorem own_off {X Y : World} {B A : Nat} {e : TypeId} {size : Nat} {a : Option Addr} {len cap : Nat} {vs : List Value} (h : Own X B e size a len cap vs) (ho : Off A B X Y) : Own Y B e size a len cap vs := by
  refine ⟨h.1, ?_⟩
  rcases h.2 with h0 | ⟨g, c, cur, hv, hb, hg, r⟩
  · exact .inl h0
  · exact .inr ⟨g, c, cur, hv, hb, (ho.block g (Array.getElem?_eq_some_iff.1 hg).1 (.inr hb)).trans hg, r⟩
def mkD (D : Nat) : Deferred := { target := .collected D, args := #[] }
theorem Row.keptIn {k : IntKind} {w w' : World} {a : Option Addr} {len cap : Nat} {xs : List Int} (h : Row k w a len cap xs) (hw : ∀ b o, a = some ⟨b, o, none⟩ → b < w.heap.size → w'.heap[b]? = w.heap[b]?) : Row k w' a len cap xs :=
  VRow.toRow (h.toV.keep (fun b o e _ hl => hw b o e hl)) h.hwf
/-- The marks of the loops that are over. -/
structure Marks (Ds : List Nat) (V W : World) : Prop where
  at_ : ∀ D ∈ Ds, W.heap[D]? = some (.deferred (some []))
  nd : Ds.Nodup
  ge : ∀ D ∈ Ds, V.heap.size ≤ D
theorem Marks.off {Ds : List Nat} {V X Y : World} {A B : Nat} (h : Marks Ds V X) (ho : Off A B X Y) (hD : ∀ D ∈ Ds, D < A) : Marks Ds V Y :=
  ⟨fun D hd => by
    have h1 := h.at_ D hd
    exact (ho.block D (Array.getElem?_eq_some_iff.1 h1).1 (.inl (hD D hd))).trans h1, h.nd, h.ge⟩
theorem Marks.keep {Ds : List Nat} {V X Y : World} (h : Marks Ds V X) (hk : ∀ D ∈ Ds, Y.heap[D]? = X.heap[D]?) : Marks Ds V Y :=
  ⟨fun D hd => (hk D hd).trans (h.at_ D hd), h.nd, h.ge⟩
/-- What the loop leaves when it returns. -/
structure LOut (b : Blk) (f : Nat → List Int) (lost kept : List Nat) (K n : Nat) (s : Four) (V W' : World) (h12 h13 h14 B : Nat) : Prop where
  out : ∃ g, Found kept K (fun g => sumF (b.data f (lost ++ g)) = s) g ∧ ∃ ad ap cp, Box W' h12 #[.slice ad n n] 22 ∧ Box W' h13 #[.slice ap g.length cp] 23 ∧ Box W' h14 #[.int .i64 0] 36 ∧ Row .u8 W' ad n n ((b.data f (lost ++ g)).take n) ∧ Row .i64 W' ap g.length cp (nats g) ∧ (∀ x o, ad = some ⟨x, o, none⟩ → B ≤ x) ∧ (∀ x o, ap = some ⟨x, o, none⟩ → B ≤ x)
  os : W'.os = V.os
  tape : W'.tape = V.tape
  output : W'.output = V.output
  size : V.heap.size ≤ W'.heap.size
  block : ∀ x, x < V.heap.size → x ≠ h12 → x ≠ h13 → x ≠ h14 → W'.heap[x]? = V.heap[x]?
set_option maxHeartbeats 8000000 in
theorem loopW (b : Blk) (f : Nat → List Int) (ps : List (Bool × List Int)) (n : Nat) (s : Four) (V : World) (h9 h10 h11 h12 h13 h14 h15 h17 h18 g cap : Nat) (al : Option Addr) (cl : Nat) (la : Option Addr) (lc : Nat) (ka : Option Addr) (kc : Nat)
    (st : GSt b ps n s V h9 h10 h11 h12 h13 h14 h15 h17 h18 g cap al cl la lc ka kc)
    (hf : ∀ c, c < b.p + b.m → (ps.getD c (false, [])).2 = f c) (hfl : ∀ c, c < b.p + b.m → (f c).length ≤ b.long) (hn : n ≤ b.bytes) (hb4 : b.bytes % 4 = 0) (hb8 : b.bytes ≤ 4096)
    (hll : (lostOf ps (b.p + b.m)).length ≤ b.p)
    (hex : ∃ k p, k ≤ min (b.p - (lostOf ps (b.p + b.m)).length) (keptOf ps (b.p + b.m)).length ∧ p ∈ picks (keptOf ps (b.p + b.m)).length k ∧ sumF (b.data f (lostOf ps (b.p + b.m) ++ mapK (keptOf ps (b.p + b.m)) p)) = s)
    (Q : Exit → Act → World → Prop)
    (hret : ∀ Ds W' a' B, Marks Ds V W' → V.heap.size ≤ B → LOut b f (lostOf ps (b.p + b.m)) (keptOf ps (b.p + b.m)) (min (b.p - (lostOf ps (b.p + b.m)).length) (keptOf ps (b.p + b.m)).length) n s V W' h12 h13 h14 B → (∀ D ∈ Ds, D < B) → a'.defers = Ds.map mkD →
      a'.tmps.getD 12 undef = .pointer (some ⟨h12, 0, none⟩) → a'.tmps.getD 13 undef = .pointer (some ⟨h13, 0, none⟩) → a'.tmps.getD 14 undef = .pointer (some ⟨h14, 0, none⟩) → Q .ret a' W')
    (c0 c2 c3 c4 c5 c6 c7 c8 c16 c19 c20 c28 c29 c30 c31 c32 c33 c34 c35 c36 c37 c38 c39 c40 c41 c42 c43 c44 c45 c46 c47 c48 c49 c50 c51 c52 c53 c54 c55 c56 c57 c58 c59 c60 c61 c62 c63 c64 c65 c66 c67 c68 c69 c70 c71 c72 c73 u22 u23 u24 u25 u26 u27 u74 u75 u76 u77 u78 u79 u80 u81 u82 u83 u84 u85 u86 u87 u88 u89 u90 u91 u92 u93 u94 u95 u96 u97 u98 u99 u100 u101 u102 u103 u104 u105 u106 u107 u108 u109 u110 u111 u112 u113 u114 u115 u116 u117 u118 u119 u120 u121 u122 u123 u124 u125 u126 u127 : Value) : tryLoop.wp Try.prog Q ⟨#[c0, .int .i64 (b.p : Int), c2, c3, c4, c5, c6, c7, c8, .pointer (some ⟨h9, 0, none⟩), .pointer (some ⟨h10, 0, none⟩), .pointer (some ⟨h11, 0, none⟩), .pointer (some ⟨h12, 0, none⟩), .pointer (some ⟨h13, 0, none⟩), .pointer (some ⟨h14, 0, none⟩), .pointer (some ⟨h15, 0, none⟩), c16, .pointer (some ⟨h17, 0, none⟩), .pointer (some ⟨h18, 0, none⟩), c19, c20, .int .i64 0, u22, u23, u24, u25, u26, u27, c28, c29, c30, c31, c32, c33, c34, c35, c36, c37, c38, c39, c40, c41, c42, c43, c44, c45, c46, c47, c48, c49, c50, c51, c52, c53, c54, c55, c56, c57, c58, c59, c60, c61, c62, c63, c64, c65, c66, c67, c68, c69, c70, c71, c72, c73, u74, u75, u76, u77, u78, u79, u80, u81, u82, u83, u84, u85, u86, u87, u88, u89, u90, u91, u92, u93, u94, u95, u96, u97, u98, u99, u100, u101, u102, u103, u104, u105, u106, u107, u108, u109, u110, u111, u112, u113, u114, u115, u116, u117, u118, u119, u120, u121, u122, u123, u124, u125, u126, u127], []⟩ V := by
  obtain ⟨kept, hkept⟩ : ∃ kept, keptOf ps (b.p + b.m) = kept := ⟨_, rfl⟩
  obtain ⟨lost, hlost⟩ : ∃ lost, lostOf ps (b.p + b.m) = lost := ⟨_, rfl⟩
  have hlen := keptOf_len ps (b.p + b.m)
  have hnn := b.h2.2
  have hpp := b.h1.2
  have hm1 := b.h2.1
  obtain ⟨K, hK⟩ : ∃ K, min (b.p - (lostOf ps (b.p + b.m)).length) (keptOf ps (b.p + b.m)).length = K := ⟨_, rfl⟩
  rw [hK] at hex hret
  rw [hkept] at hex hret hlen hK
  rw [hlost] at hex hret hlen hK hll
  obtain ⟨kl, hkl⟩ : ∃ kl, kept.length = kl := ⟨_, rfl⟩
  obtain ⟨ll, hll'⟩ : ∃ ll, lost.length = ll := ⟨_, rfl⟩
  obtain ⟨d, hd⟩ : ∃ d, b.p - ll = d := ⟨_, rfl⟩
  have HST := Lib.hid st
  have HEX := Lib.hid hex
  have HRET := Lib.hid hret
  have HKEPT := Lib.hid hkept
  have HLOST := Lib.hid hlost
  have HKL := Lib.hid hkl
  have HLL := Lib.hid hll'
  have HF := Lib.hid hf
  have HFL := Lib.hid hfl
  rw [hkl, hll'] at hlen
  rw [hll', hkl, hd] at hK
  rw [hll'] at hll
  have hKd : K ≤ d := by omega
  have hKk : K ≤ kl := by omega
  have hkl8 : kl ≤ 8 := by omega
  have hd3 : d ≤ 3 := by omega
  have HKD := Lib.hid hK
  have HD := Lib.hid hd
  have c17 := st.b17.cell 0
  have c18 := st.b18.cell 0
  rw [hlost, hll'] at c17
  rw [hkept, hkl] at c18
  have HC17 := Lib.hid c17
  have HC18 := Lib.hid c18
  have h17V := st.b17.lt
  have h18V := st.b18.lt
  have hkle := st.kept.hle
  have hkmx := st.kept.hmax
  have wd : IntKind.i64.wrap ((b.p : Int) - (ll : Int)) = (d : Int) := by rw [IntWalk.i64_in _ (by omega)]; omega
  clear st hex hret hkept hlost hkl hll' hf hfl hK hd c17 c18
  conv => arg 2; whnf
  refine (wpIn_wide (n := 3)).1 ?_
  refine wpIn_loop (fun a W => ∃ (k : Nat) (Ds : List Nat), k ≤ K + 1 ∧ Marks Ds V W ∧ Below V.heap.size V W ∧ (∀ k', k' < k → ∀ p ∈ picks kl k', ¬ sumF (b.data f (lost ++ mapK kept p)) = s) ∧ ∃ u22 u23 u24 u25 u26 u27 u74 u75 u76 u77 u78 u79 u80 u81 u82 u83 u84 u85 u86 u87 u88 u89 u90 u91 u92 u93 u94 u95 u96 u97 u98 u99 u100 u101 u102 u103 u104 u105 u106 u107 u108 u109 u110 u111 u112 u113 u114 u115 u116 u117 u118 u119 u120 u121 u122 u123 u124 u125 u126 u127 : Value, a = ⟨#[c0, .int .i64 (b.p : Int), c2, c3, c4, c5, c6, c7, c8, .pointer (some ⟨h9, 0, none⟩), .pointer (some ⟨h10, 0, none⟩), .pointer (some ⟨h11, 0, none⟩), .pointer (some ⟨h12, 0, none⟩), .pointer (some ⟨h13, 0, none⟩), .pointer (some ⟨h14, 0, none⟩), .pointer (some ⟨h15, 0, none⟩), c16, .pointer (some ⟨h17, 0, none⟩), .pointer (some ⟨h18, 0, none⟩), c19, c20, .int .i64 (k : Int), u22, u23, u24, u25, u26, u27, c28, c29, c30, c31, c32, c33, c34, c35, c36, c37, c38, c39, c40, c41, c42, c43, c44, c45, c46, c47, c48, c49, c50, c51, c52, c53, c54, c55, c56, c57, c58, c59, c60, c61, c62, c63, c64, c65, c66, c67, c68, c69, c70, c71, c72, c73, u74, u75, u76, u77, u78, u79, u80, u81, u82, u83, u84, u85, u86, u87, u88, u89, u90, u91, u92, u93, u94, u95, u96, u97, u98, u99, u100, u101, u102, u103, u104, u105, u106, u107, u108, u109, u110, u111, u112, u113, u114, u115, u116, u117, u118, u119, u120, u121, u122, u123, u124, u125, u126, u127], Ds.map mkD⟩)
    (fun a _ => K + 1 - (intOf (a.tmps.getD 21 undef)).toNat) ⟨0, [], by omega, ⟨by simp, List.nodup_nil, by simp⟩, Below.refl _ _, fun _ h => absurd h (by omega), _, _, _, _, _, _, _, _, _, _, _, _, _, _, _, _, _, _, _, _, _, _, _, _, _, _, _, _, _, _, _, _, _, _, _, _, _, _, _, _, _, _, _, _, _, _, _, _, _, _, _, _, _, _, _, _, _, _, _, _, rfl⟩ ?_
  clear u22 u23 u24 u25 u26 u27 u74 u75 u76 u77 u78 u79 u80 u81 u82 u83 u84 u85 u86 u87 u88 u89 u90 u91 u92 u93 u94 u95 u96 u97 u98 u99 u100 u101 u102 u103 u104 u105 u106 u107 u108 u109 u110 u111 u112 u113 u114 u115 u116 u117 u118 u119 u120 u121 u122 u123 u124 u125 u126 u127
  intro a W hI
  obtain ⟨k, Ds, hk, hMK, hVW, hno, hI⟩ := hI
  obtain ⟨u22, hI⟩ := hI
  obtain ⟨u23, hI⟩ := hI
  obtain ⟨u24, hI⟩ := hI
  obtain ⟨u25, hI⟩ := hI
  obtain ⟨u26, hI⟩ := hI
  obtain ⟨u27, hI⟩ := hI
  obtain ⟨u74, hI⟩ := hI
  obtain ⟨u75, hI⟩ := hI
  obtain ⟨u76, hI⟩ := hI
  obtain ⟨u77, hI⟩ := hI
  obtain ⟨u78, hI⟩ := hI
  obtain ⟨u79, hI⟩ := hI
  obtain ⟨u80, hI⟩ := hI
  obtain ⟨u81, hI⟩ := hI
  obtain ⟨u82, hI⟩ := hI
  obtain ⟨u83, hI⟩ := hI
  obtain ⟨u84, hI⟩ := hI
  obtain ⟨u85, hI⟩ := hI
  obtain ⟨u86, hI⟩ := hI
  obtain ⟨u87, hI⟩ := hI
  obtain ⟨u88, hI⟩ := hI
  obtain ⟨u89, hI⟩ := hI
  obtain ⟨u90, hI⟩ := hI
  obtain ⟨u91, hI⟩ := hI
  obtain ⟨u92, hI⟩ := hI
  obtain ⟨u93, hI⟩ := hI
  obtain ⟨u94, hI⟩ := hI
  obtain ⟨u95, hI⟩ := hI
  obtain ⟨u96, hI⟩ := hI
  obtain ⟨u97, hI⟩ := hI
  obtain ⟨u98, hI⟩ := hI
  obtain ⟨u99, hI⟩ := hI
  obtain ⟨u100, hI⟩ := hI
  obtain ⟨u101, hI⟩ := hI
  obtain ⟨u102, hI⟩ := hI
  obtain ⟨u103, hI⟩ := hI
  obtain ⟨u104, hI⟩ := hI
  obtain ⟨u105, hI⟩ := hI
  obtain ⟨u106, hI⟩ := hI
  obtain ⟨u107, hI⟩ := hI
  obtain ⟨u108, hI⟩ := hI
  obtain ⟨u109, hI⟩ := hI
  obtain ⟨u110, hI⟩ := hI
  obtain ⟨u111, hI⟩ := hI
  obtain ⟨u112, hI⟩ := hI
  obtain ⟨u113, hI⟩ := hI
  obtain ⟨u114, hI⟩ := hI
  obtain ⟨u115, hI⟩ := hI
  obtain ⟨u116, hI⟩ := hI
  obtain ⟨u117, hI⟩ := hI
  obtain ⟨u118, hI⟩ := hI
  obtain ⟨u119, hI⟩ := hI
  obtain ⟨u120, hI⟩ := hI
  obtain ⟨u121, hI⟩ := hI
  obtain ⟨u122, hI⟩ := hI
  obtain ⟨u123, hI⟩ := hI
  obtain ⟨u124, hI⟩ := hI
  obtain ⟨u125, hI⟩ := hI
  obtain ⟨u126, hI⟩ := hI
  obtain ⟨u127, hI⟩ := hI
  subst hI
  by_cases hkK : k ≤ K
  · have HMK := Lib.hid hMK
    have HVW := Lib.hid hVW
    have HNO := Lib.hid hno
    have e17 : W.cell? ⟨h17, 0, none⟩ = some (.slice la ll lc) := (hVW.cell (p := ⟨h17, 0, none⟩) h17V).trans HC17.out
    have e18 : W.cell? ⟨h18, 0, none⟩ = some (.slice ka kl kc) := (hVW.cell (p := ⟨h18, 0, none⟩) h18V).trans HC18.out
    have i1 : (k : Int) ≤ (d : Int) := by omega
    have i2 : (k : Int) ≤ (kl : Int) := by omega
    have i1' : k ≤ d := by omega
    have i2' : k ≤ kl := by omega
    have HE := Lib.hid (eachW (kl : Int) (k : Int) W)
    clear hMK hVW hno
    refine wpIn_wide.2 ?_
    go_wp2_with (go_at_call 19; refine HE.out.mono ?_; rintro e w' ⟨rfl, rfl⟩)
    have hVs := HVW.out.size
    obtain ⟨X, hX⟩ : ∃ X, X = (W.alloc (.cells #[.int .i64 (kl : Int)] 3)).alloc (.cells #[.int .i64 (k : Int)] 3) := ⟨_, rfl⟩
    have hXs : X.heap.size = W.heap.size + 2 := by rw [hX]; simp
    have hWX : Below W.heap.size W X := by rw [hX]; exact ((Below.refl _ W).alloc (Nat.le_refl _) _).alloc (by simp) _
    have hgv := each_gives kl k i2' (by omega) W
    rw [← hX] at hgv ⊢
    have HVX : Hid (Below V.heap.size V X) := HVW.out.trans (hWX.mono hVs)
    have HMX : Hid (Marks Ds V X) := HMK.out.keep (fun D hD => hWX.block D (Array.getElem?_eq_some_iff.1 (HMK.out.at_ D hD)).1)
    have hDlt : ∀ D ∈ Ds, D < W.heap.size := fun D hD => (Array.getElem?_eq_some_iff.1 (HMK.out.at_ D hD)).1
    have l12 := HST.out.b12.lt
    have l13 := HST.out.b13.lt
    have l14 := HST.out.b14.lt
    clear hX hWX
    refine (wpIn_wide (n := 3)).1 ?_
    refine wp_range (gf := 29) rfl (enters_of Try.func29 (by kernel_rfl) rfl) hgv (Nat.le_refl _) (Held.refl _ _) (by intro b hb; simp at hb; omega) rfl
      (fun j Y => Below V.heap.size V Y ∧ Marks Ds V Y ∧ ∀ j', j' < j → ∀ p', (picks kl k)[j']? = some p' → ¬ sumF (b.data f (lost ++ mapK kept p')) = s)
      (fun c j Y => c = .ret ∧ Marks Ds V Y ∧ LOut b f lost kept K n s V Y h12 h13 h14 (X.heap.size + 2 + 4))
      (fun j a' Y => ∃ p a c, (picks kl k)[j]? = some p ∧ Own Y (X.heap.size + 2 + 4) 3 1 a k c ((ints p).map (.int .i64)) ∧ ∃ u23 u24 u25 u26 u27 u74 u75 u76 u77 u78 u79 u80 u81 u82 u83 u84 u85 u86 u87 u88 u89 u90 u91 u92 u93 u94 u95 u96 u97 u98 u99 u100 u101 u102 u103 u104 u105 u106 u107 u108 u109 u110 u111 u112 u113 u114 u115 u116 u117 u118 u119 u120 u121 u122 u123 u124 u125 u126 u127 : Value, a' = ⟨#[c0, .int .i64 (b.p : Int), c2, c3, c4, c5, c6, c7, c8, .pointer (some ⟨h9, 0, none⟩), .pointer (some ⟨h10, 0, none⟩), .pointer (some ⟨h11, 0, none⟩), .pointer (some ⟨h12, 0, none⟩), .pointer (some ⟨h13, 0, none⟩), .pointer (some ⟨h14, 0, none⟩), .pointer (some ⟨h15, 0, none⟩), c16, .pointer (some ⟨h17, 0, none⟩), .pointer (some ⟨h18, 0, none⟩), c19, c20, .int .i64 (k : Int), .slice a k c, u23, u24, u25, u26, u27, c28, c29, c30, c31, c32, c33, c34, c35, c36, c37, c38, c39, c40, c41, c42, c43, c44, c45, c46, c47, c48, c49, c50, c51, c52, c53, c54, c55, c56, c57, c58, c59, c60, c61, c62, c63, c64, c65, c66, c67, c68, c69, c70, c71, c72, c73, u74, u75, u76, u77, u78, u79, u80, u81, u82, u83, u84, u85, u86, u87, u88, u89, u90, u91, u92, u93, u94, u95, u96, u97, u98, u99, u100, u101, u102, u103, u104, u105, u106, u107, u108, u109, u110, u111, u112, u113, u114, u115, u116, u117, u118, u119, u120, u121, u122, u123, u124, u125, u126, u127], []⟩)
      ?hi ?hix ?hax ?h0 ?assign ?body ?done ?stop
    case hi =>
      rintro j Y Z ⟨h1, h2, h3⟩ hoff
      exact ⟨hoff.below_of h1 (by omega) h1.size, h2.off hoff (fun D hD => by have := hDlt D hD; omega), h3⟩
    case hix =>
      rintro c j Y Z ⟨rfl, h2, h3⟩ hoff
      have hno : ∀ x, x < Y.heap.size → x < X.heap.size → Z.heap[x]? = Y.heap[x]? := fun x hx hx2 => hoff.block x hx (.inl hx2)
      have hbx : ∀ {h : Nat} {vs : Array Value} {t : TypeId}, Box Y h vs t → h < X.heap.size → Box Z h vs t := fun hb hx => (hno _ hb.lt hx).trans hb
      have hYs := h3.size
      refine ⟨rfl, h2.off hoff (fun D hD => by have := hDlt D hD; omega), ?_, hoff.os.trans h3.os, hoff.tape.trans h3.tape, hoff.output.trans h3.output, Nat.le_trans h3.size hoff.size, fun x hx e1 e2 e3 => (hno x (by omega) (by omega)).trans (h3.block x hx e1 e2 e3)⟩
      obtain ⟨g, hg, ad, ap, cp, b1, b2, b3, r1, r2, n1, n2⟩ := h3.out
      refine ⟨g, hg, ad, ap, cp, hbx b1 (by omega), hbx b2 (by omega), hbx b3 (by omega), r1.keptIn (fun x o e hx => hoff.block x hx (.inr (n1 x o e))), r2.keptIn (fun x o e hx => hoff.block x hx (.inr (n2 x o e))), n1, n2⟩
    case hax =>
      rintro j a' Y Z ⟨p, a, c, h1, h2, h3⟩ hoff
      exact ⟨p, a, c, h1, own_off h2 hoff, h3⟩
    case h0 => exact ⟨HVX.out, HMX.out, fun _ h => absurd h (by omega)⟩
    case assign =>
      rintro l j x Y KK hj hst hsz ⟨p, a, c, hp, rfl, ho⟩ hKK
      gi_wp2
      exact hKK _ _ (RoundKeeps.refl ..) hst ⟨p, a, c, hp, ho, _, _, _, _, _, _, _, _, _, _, _, _, _, _, _, _, _, _, _, _, _, _, _, _, _, _, _, _, _, _, _, _, _, _, _, _, _, _, _, _, _, _, _, _, _, _, _, _, _, _, _, _, _, _, _, _, _, _, _, rfl⟩
    case body =>
      rintro l j a' Y hj ⟨hbl, hmk, hnj⟩ hsz ⟨p, a, c, hp, ho, hI⟩
      obtain ⟨u23, hI⟩ := hI
      obtain ⟨u24, hI⟩ := hI
      obtain ⟨u25, hI⟩ := hI
      obtain ⟨u26, hI⟩ := hI
      obtain ⟨u27, hI⟩ := hI
      obtain ⟨u74, hI⟩ := hI
      obtain ⟨u75, hI⟩ := hI
      obtain ⟨u76, hI⟩ := hI
      obtain ⟨u77, hI⟩ := hI
      obtain ⟨u78, hI⟩ := hI
      obtain ⟨u79, hI⟩ := hI
      obtain ⟨u80, hI⟩ := hI
      obtain ⟨u81, hI⟩ := hI
      obtain ⟨u82, hI⟩ := hI
      obtain ⟨u83, hI⟩ := hI
      obtain ⟨u84, hI⟩ := hI
      obtain ⟨u85, hI⟩ := hI
      obtain ⟨u86, hI⟩ := hI
      obtain ⟨u87, hI⟩ := hI
      obtain ⟨u88, hI⟩ := hI
      obtain ⟨u89, hI⟩ := hI
      obtain ⟨u90, hI⟩ := hI
      obtain ⟨u91, hI⟩ := hI
      obtain ⟨u92, hI⟩ := hI
      obtain ⟨u93, hI⟩ := hI
      obtain ⟨u94, hI⟩ := hI
      obtain ⟨u95, hI⟩ := hI
      obtain ⟨u96, hI⟩ := hI
      obtain ⟨u97, hI⟩ := hI
      obtain ⟨u98, hI⟩ := hI
      obtain ⟨u99, hI⟩ := hI
      obtain ⟨u100, hI⟩ := hI
      obtain ⟨u101, hI⟩ := hI
      obtain ⟨u102, hI⟩ := hI
      obtain ⟨u103, hI⟩ := hI
      obtain ⟨u104, hI⟩ := hI
      obtain ⟨u105, hI⟩ := hI
      obtain ⟨u106, hI⟩ := hI
      obtain ⟨u107, hI⟩ := hI
      obtain ⟨u108, hI⟩ := hI
      obtain ⟨u109, hI⟩ := hI
      obtain ⟨u110, hI⟩ := hI
      obtain ⟨u111, hI⟩ := hI
      obtain ⟨u112, hI⟩ := hI
      obtain ⟨u113, hI⟩ := hI
      obtain ⟨u114, hI⟩ := hI
      obtain ⟨u115, hI⟩ := hI
      obtain ⟨u116, hI⟩ := hI
      obtain ⟨u117, hI⟩ := hI
      obtain ⟨u118, hI⟩ := hI
      obtain ⟨u119, hI⟩ := hI
      obtain ⟨u120, hI⟩ := hI
      obtain ⟨u121, hI⟩ := hI
      obtain ⟨u122, hI⟩ := hI
      obtain ⟨u123, hI⟩ := hI
      obtain ⟨u124, hI⟩ := hI
      obtain ⟨u125, hI⟩ := hI
      obtain ⟨u126, hI⟩ := hI
      obtain ⟨u127, hI⟩ := hI
      subst hI
      have hpk : p ∈ picks kl k := List.mem_of_getElem? hp
      obtain ⟨hp1, hp2⟩ := picks_mem (by omega) (by omega) hpk
      have hfit : b.Fit f (lost ++ mapK kept p) := by
        have := try_fit (b := b) (f := f) (ps := ps) (p := p) (k := k) (by rw [HKEPT.out, HKL.out]; exact hp1) hp2 (by rw [HLOST.out, HLL.out]; have := HD.out; omega) HFL.out
        rw [HKEPT.out, HLOST.out] at this
        exact this
      have hDX : ∀ D ∈ Ds, D < X.heap.size + 2 + 4 := fun D hD => by have := hDlt D hD; omega
      have key := tryW b f ps n s V h9 h10 h11 h12 h13 h14 h15 h17 h18 g cap al cl la lc ka kc HST.out k p (by rw [HKEPT.out, HKL.out]; exact hp1) hp2 (by rw [HKEPT.out, HLOST.out]; exact hfit) HF.out hn hb4 hb8 l Y hbl (X.heap.size + 2 + 4) (by have := HVX.out.size; omega) hsz a c ho
        (itPost X.heap.size (X.heap.size + 2 + 4) [W.heap.size + 1, W.heap.size] (fun j Y => Below V.heap.size V Y ∧ Marks Ds V Y ∧ ∀ j', j' < j → ∀ p', (picks kl k)[j']? = some p' → ¬ sumF (b.data f (lost ++ mapK kept p')) = s)
      (fun c j Y => c = .ret ∧ Marks Ds V Y ∧ LOut b f lost kept K n s V Y h12 h13 h14 (X.heap.size + 2 + 4)) j Y) (fun ⟨_, _, h⟩ => h) (fun _ _ _ h => h)
        (fun hne a' W' hb => by
          rw [HKEPT.out, HLOST.out] at hne
          refine ⟨⟨Mid.below hb, Held.below hb (by intro x hx; simp at hx; omega)⟩, hbl.trans (hb.mono (by have := HVX.out.size; omega)), hmk.keep (fun D hD => hb.block D (hDX D hD)), fun j' hj' p' hp' => ?_⟩
          by_cases e : j' = j
          · subst e
            rw [hp] at hp'
            obtain rfl : p = p' := by injection hp'
            exact hne
          · exact hnj j' (by omega) p' hp')
        (fun hyes a' W' hg => by
          rw [HKEPT.out, HLOST.out] at hyes hg
          have hVXs := HVX.out.size
          refine ⟨⟨⟨hg.size, fun x h1 h2 => hg.block x h2 (by omega) (by omega) (by omega)⟩, fun x hx => ?_⟩, rfl, hmk.keep (fun D hD => ?_), ?_, hg.os.trans hbl.os, hg.tape.trans hbl.tape, hg.output.trans hbl.output, Nat.le_trans hbl.size hg.size, fun x hx e1 e2 e3 => (hg.block x (by omega) e1 e2 e3).trans (hbl.block x hx)⟩
          · simp at hx
            exact hg.block x (by omega) (by omega) (by omega) (by omega)
          · have h1 := hmk.ge D hD
            exact hg.block D (hDX D hD) (by omega) (by omega) (by omega)
          · refine ⟨mapK kept p, ⟨k, j, p, hkK, by rw [HKL.out]; exact hp, rfl, hyes, fun k' hk' p' hp' => HNO.out k' hk' p' (by rw [HKL.out] at hp'; exact hp'), fun j' hj' p' hp' => hnj j' hj' p' (by rw [HKL.out] at hp'; exact hp')⟩, hg.res⟩)
        c0 (.int .i64 (b.p : Int)) c2 c3 c4 c5 c6 c7 c8 c16 c19 c20 (.int .i64 (k : Int)) u23 u24 u25 u26 u27 c28 c29 c30 c31 c32 c33 c34 c35 c36 c37 c38 c39 c40 c41 c42 c43 c44 c45 c46 c47 c48 c49 c50 c51 c52 c53 c54 c55 c56 c57 c58 c59 c60 c61 c62 c63 c64 c65 c66 c67 c68 c69 c70 c71 c72 c73 u74 u75 u76 u77 u78 u79 u80 u81 u82 u83 u84 u85 u86 u87 u88 u89 u90 u91 u92 u93 u94 u95 u96 u97 u98 u99 u100 u101 u102 u103 u104 u105 u106 u107 u108 u109 u110 u111 u112 u113 u114 u115 u116 u117 u118 u119 u120 u121 u122 u123 u124 u125 u126 u127
      exact key
    case done =>
      rintro D Y h1 h2 ⟨hbl, hmk, hnj⟩ hKD
      have HBL := Lib.hid hbl
      have HMK2 := Lib.hid hmk
      have HNJ := Lib.hid hnj
      have HDL := Lib.hid hDlt
      clear hbl hmk hnj hDlt
      go_wp2
      rw [show (k : Int) + 1 = ((k + 1 : Nat) : Int) by push_cast; rfl]
      refine ⟨⟨k + 1, D :: Ds, by omega, ⟨fun E hE => ?_, List.nodup_cons.2 ⟨fun hD => ?_, HMK2.out.nd⟩, fun E hE => ?_⟩, HBL.out, fun k' hk' p hp => ?_, _, _, _, _, _, _, _, _, _, _, _, _, _, _, _, _, _, _, _, _, _, _, _, _, _, _, _, _, _, _, _, _, _, _, _, _, _, _, _, _, _, _, _, _, _, _, _, _, _, _, _, _, _, _, _, _, _, _, _, _, rfl⟩, by simp [intOf]; omega⟩
      · rcases List.mem_cons.1 hE with rfl | hE
        · exact hKD
        · exact HMK2.out.at_ E hE
      · have := HDL.out D hD; omega
      · rcases List.mem_cons.1 hE with rfl | hE
        · have := HVX.out.size; omega
        · exact HMK2.out.ge E hE
      · by_cases e : k' = k
        · subst e
          obtain ⟨j, hj⟩ := List.getElem?_of_mem hp
          exact HNJ.out j (List.getElem?_eq_some_iff.1 hj).1 p hj
        · exact HNO.out k' (by omega) p hp
    case stop =>
      rintro D c j Y h1 h2 hj ⟨rfl, hmk, hlo⟩ hKD
      refine wpIn_wide.2 ?_
      have HMK2 := Lib.hid hmk
      have HLO := Lib.hid hlo
      have HDL := Lib.hid hDlt
      clear hmk hlo hDlt
      go_wp2
      refine HRET.out (D :: Ds) Y _ (X.heap.size + 2 + 4) ⟨fun E hE => ?_, List.nodup_cons.2 ⟨fun hD => ?_, HMK2.out.nd⟩, fun E hE => ?_⟩ (by have := HVX.out.size; omega) HLO.out (fun E hE => ?_) rfl rfl rfl rfl
      · rcases List.mem_cons.1 hE with rfl | hE
        · exact hKD
        · exact HMK2.out.at_ E hE
      · have := HDL.out D hD; omega
      · rcases List.mem_cons.1 hE with rfl | hE
        · have := HVX.out.size; omega
        · exact HMK2.out.ge E hE
      · rcases List.mem_cons.1 hE with rfl | hE
        · omega
        · have := HDL.out E hE; omega
  · exfalso
    obtain ⟨k', p, hk', hp, hs⟩ := HEX.out
    rw [HKL.out] at hp
    exact hno k' (by omega) p hp hs
end Go.Proofs.Ytkjaddiagembaaa
