/- The walk of places. -/
import Derived.Test.YthjjfmnipemakaaTuG
import Derived.Test.YthjjfmnipemakaaTvA
namespace Go.Proofs.Ythjjfmnipemakaa
open Go.RowKit
set_option linter.unusedVariables false
set_option maxRecDepth 100000

def plFour (x : Pl) : List Value := [.int .i64 x.level, .int .i64 x.base, .int .i64 x.id, .int .i64 x.birth]
def plL : Lay Pl := Lay.map (Lay.pair (Lay.flat 4 (by decide) plFour (fun _ => rfl) (fun x v hv => by
  unfold plFour at hv
  simp only [List.mem_cons, List.mem_nil_iff, or_false] at hv
  rcases hv with rfl | rfl | rfl | rfl <;> rfl)) (Lay.int .u8).slice) (fun s => (s, s.data))
theorem info_placed : (Try.prog.info? 44).map (fun i => (i.zero, i.size, i.bytes)) = some (some (.agg #[.int .i64 0, .int .i64 0, .int .i64 0, .int .i64 0, .slice none 0 0]), 5, 56) := by kernel_rfl
theorem pl_at {w : World} {F : Nat → Prop} (x : Pl) {a : Option Addr} {n c : Nat} (h : SRow (Lay.int .u8) w F a n c x.data) : plL.at_ w F x [.int .i64 x.level, .int .i64 x.base, .int .i64 x.id, .int .i64 x.birth, .slice a n c] :=
  ⟨plFour x, [.slice a n c], rfl, rfl, a, n, c, rfl, h⟩
theorem plOwn1 {w : World} {N0 : Nat} (x : Pl) {a : Option Addr} {n c : Nat} (h : SRow (Lay.int .u8) w (fun b => b < N0) a n c x.data) (hN : N0 ≤ w.heap.size) {B : Nat} (hB : B ≤ w.heap.size) : SOwn plL (w.alloc (.cells #[.int .i64 x.level, .int .i64 x.base, .int .i64 x.id, .int .i64 x.birth, .slice a n c] 44)) B 44 (fun b => b < N0) (some ⟨w.heap.size, 0, none⟩) 1 1 [x] := by
  refine ⟨rfl, [(#[.int .i64 x.level, .int .i64 x.base, .int .i64 x.id, .int .i64 x.birth, .slice a n c] : Array Value).toList], fun b => b < N0, ⟨rfl, .inr ⟨w.heap.size, 1, #[.int .i64 x.level, .int .i64 x.base, .int .i64 x.id, .int .i64 x.birth, .slice a n c], rfl, hB, Box.new rfl, Nat.le_refl _, by unfold maxLen; omega, rfl, rfl⟩⟩, Pt.single (plL.keep (pl_at x h) (fun _ h => h) (fun b _ hlt => Below.heap_alloc _ _ _ hlt)), fun b hb => ⟨hb, by simp; omega, fun e => ?_⟩⟩
  have : some w.heap.size = some b := e
  injection this with this
  omega
theorem bytesLt {w : World} {F : Nat → Prop} {a : Option Addr} {len cap : Nat} {xs : List Int} (h : SRow (Lay.int .u8) w F a len cap xs) : SRow (Lay.int .u8) w (fun b => b < w.heap.size) a len cap xs :=
  h.toRow.toS (fun x hx h0 => by
    obtain ⟨b, off, vs, ha, _, hb, _⟩ := h.get 0 h0
    rw [hx] at ha
    obtain rfl := Option.some.inj ha
    exact hb)
theorem SOwn.wholeG {α : Type} {L : Lay α} {w : World} {base : Nat} {e : TypeId} {G : Nat → Prop} {a : Option Addr} {len cap : Nat} {xs : List α} (h : SOwn L w base e G a len cap xs) :
    ∃ (uss : List (List Value)), VRow w L.size a len cap uss.flatten ∧ Pt L w G xs uss ∧ xs.length = len := by
  obtain ⟨hl, vss, F, ho, hp, hF⟩ := h
  exact ⟨vss, ho.row, hp.keep (fun b hb => (hF b hb).1) (fun _ _ _ => rfl), hl⟩
def PlacesAt (n : Nat) : Prop := ∀ (R : List Rt) (r : Rt) (W0 : World) (F : Nat → Prop) (al : Option Addr) (ll cl base a : Nat) (t : T n) (w : World), Tree R r →
  SRow ndL W0 F al ll cl (nodesUpTo R R.length) → R[a]? = some ⟨n, t⟩ → T.Ok n (some t) → Below W0.heap.size W0 w → base + room n ≤ 4096 → ll ≤ 1000 →
  Calls Try.prog 16 #[.slice al ll cl, .int .i64 a, .int .i64 base] w fun e w' => ∃ a' c', e = .returned (.slice a' (T.pl n base t).length c') ∧ Hid (SOwn plL w' w.heap.size 44 (fun b => b < W0.heap.size) a' (T.pl n base t).length c' (T.pl n base t)) ∧ Below w.heap.size w w'
set_option maxHeartbeats 8000000 in
theorem placesLeaf : PlacesAt 0 := by
  intro R r W0 F al ll cl base a t w tr hrow hat hok hsin hroom hll2
  have hr0 : room 0 = 64 := room_zero
  rw [hr0] at hroom
  have hget := nodesUpTo_get R R.length a _ (List.getElem?_eq_some_iff.1 hat).1 (Nat.le_refl _) hat
  have hnd : ndAt R a ⟨0, t⟩ = ⟨Lf.id t, Lf.birth t, 0, [], Lf.data t⟩ := rfl
  rw [hnd] at hget
  obtain ⟨b', off', ak, nk, ck, ad, nd, cd, rfl, hb', hi, n0, n1, n2, n3, n4, hk, hd⟩ := ndRow hrow a _ hget
  have hnk : nk = 0 := hk.1.symm
  subst hnk
  simp only at n0 n1 n2
  have m0 := (hsin.cell hb').trans n0
  have m1 := (hsin.cell hb').trans n1
  have m2 := (hsin.cell hb').trans n2
  have m3 := (hsin.cell hb').trans n3
  have m4 := (hsin.cell hb').trans n4
  have hbw : b' < w.heap.size := by have := hsin.size; omega
  have hD := (bytesLt hd).below hsin
  have hai : (a : Int) < (ll : Int) := by omega
  have hz := hsin.size
  have HO : Hid (SOwn plL ((w.alloc (.cells #[.int .i64 (Lf.id t : Nat), .int .i64 (Lf.birth t : Nat), .int .i64 0, .slice ak 0 ck, .slice ad nd cd] 42)).alloc (.cells #[.int .i64 (0 : Nat), .int .i64 (base : Nat), .int .i64 (Lf.id t : Nat), .int .i64 (Lf.birth t : Nat), .slice ad nd cd] 44)) w.heap.size 44 (fun b => b < W0.heap.size) (some ⟨w.heap.size + 1, 0, none⟩) 1 1 (T.pl 0 base t)) := by
    have := plOwn1 (w := w.alloc (.cells #[.int .i64 (Lf.id t : Nat), .int .i64 (Lf.birth t : Nat), .int .i64 0, .slice ak 0 ck, .slice ad nd cd] 42)) (N0 := W0.heap.size) (⟨0, base, Lf.id t, Lf.birth t, Lf.data t⟩ : Pl) (a := ad) (n := nd) (c := cd) (hD.below (Below_alloc1 _)) (by simp; omega) (B := w.heap.size) (by simp)
    rw [show (w.alloc (.cells #[.int .i64 (Lf.id t : Nat), .int .i64 (Lf.birth t : Nat), .int .i64 0, .slice ak 0 ck, .slice ad nd cd] 42)).heap.size = w.heap.size + 1 by simp] at this
    exact this
  have HB := Lib.hid (Below_alloc2 (wr := w) (.cells #[.int .i64 (Lf.id t : Nat), .int .i64 (Lf.birth t : Nat), .int .i64 0, .slice ak 0 ck, .slice ad nd cd] 42) (.cells #[.int .i64 (0 : Nat), .int .i64 (base : Nat), .int .i64 (Lf.id t : Nat), .int .i64 (Lf.birth t : Nat), .slice ad nd cd] 44))
  have hp1 : (T.pl 0 base t).length = 1 := rfl
  rw [hp1]
  clear hrow hat hok hsin hget hnd n0 n1 n2 n3 n4 hk hd hD hz
  go_enter Try.func16, Try.ntmps16
  go_wp2_with fail
  go_loop [8, 9] (fun ov iv => ov = .slice (some ⟨w.heap.size + 1, 0, none⟩) 1 1 ∧ iv = .int .i64 0) (fun _ _ => 0)
  case atStart => exact ⟨rfl, rfl⟩
  case round =>
    obtain ⟨rfl, rfl⟩ := hrel
    go_wp2_with fail
    go_ret
    exact ⟨_, _, rfl, HO, HB.out⟩
theorem kpl_len {α : Type} {f : Nat → α → List Pl} {m : Nat} : ∀ (ks : List (Option α)) (i : Nat), (∀ k, some k ∈ ks → ∀ j, (f j k).length ≤ m) → (kpl f i ks).length ≤ ks.length * m
  | [], i, _ => Nat.zero_le _
  | none :: ks, i, h => by
    have := kpl_len ks (i + 1) (fun k hk => h k (List.mem_cons_of_mem _ hk))
    show (kpl f (i + 1) ks).length ≤ (ks.length + 1) * m
    rw [Nat.add_mul]; omega
  | some y :: ks, i, h => by
    have := kpl_len ks (i + 1) (fun k hk => h k (List.mem_cons_of_mem _ hk))
    have h1 := h y (List.mem_cons_self ..) i
    show (f i y ++ kpl f (i + 1) ks).length ≤ (ks.length + 1) * m
    rw [Nat.add_mul, List.length_append]; omega
theorem pl_len : ∀ (n base : Nat) (t : T n), T.Ok n (some t) → (T.pl n base t).length ≤ costT n
  | 0, _, _, _ => Nat.le_refl _
  | n + 1, base, t, h => by
    have h1 := kpl_len (f := fun i k => T.pl n (base + i * room n) k) (m := costT n) (In.kids t) 0 (fun k hk j => pl_len n _ k (h.2 _ hk))
    rw [h.1] at h1
    show (kpl _ 0 _).length + 1 ≤ 1 + 4 * costT n
    omega
theorem costT_le {n : Nat} (h : n ≤ 3) : costT n ≤ 85 := by
  have : n = 0 ∨ n = 1 ∨ n = 2 ∨ n = 3 := by omega
  rcases this with e | e | e | e <;> rw [e] <;> decide
theorem kpl_append {α : Type} {f : Nat → α → List Pl} : ∀ (xs ys : List (Option α)) (i : Nat), kpl f i (xs ++ ys) = kpl f i xs ++ kpl f (i + xs.length) ys
  | [], ys, i => rfl
  | none :: xs, ys, i => by
    show kpl f (i + 1) (xs ++ ys) = kpl f (i + 1) xs ++ kpl f (i + (xs.length + 1)) ys
    rw [kpl_append xs ys (i + 1), show i + 1 + xs.length = i + (xs.length + 1) by omega]
  | some x :: xs, ys, i => by
    show f i x ++ kpl f (i + 1) (xs ++ ys) = f i x ++ kpl f (i + 1) xs ++ kpl f (i + (xs.length + 1)) ys
    rw [kpl_append xs ys (i + 1), show i + 1 + xs.length = i + (xs.length + 1) by omega, List.append_assoc]
/-- The places of a node and of its first kids. -/
def plUp {n : Nat} (base : Nat) (t : T (n + 1)) (i : Nat) : List Pl := ⟨n + 1, base, In.id t, In.birth t, []⟩ :: kpl (fun i k => T.pl n (base + i * room n) k) 0 ((In.kids t).take i)
theorem plUp_zero {n : Nat} (base : Nat) (t : T (n + 1)) : plUp base t 0 = [⟨n + 1, base, In.id t, In.birth t, []⟩] := rfl
theorem plUp_succ {n : Nat} (base : Nat) (t : T (n + 1)) (i : Nat) (q : Option (T n)) (h : (In.kids t)[i]? = some q) : plUp base t (i + 1) = plUp base t i ++ opl n (base + i * room n) q := by
  have h' := List.getElem?_eq_some_iff.1 h
  unfold plUp
  rw [List.take_succ_eq_append_getElem h'.1, h'.2, kpl_append, List.length_take, Nat.min_eq_left (Nat.le_of_lt h'.1), Nat.zero_add]
  cases q with
  | none => rfl
  | some k => show _ :: (_ ++ (T.pl n (base + i * room n) k ++ [])) = _; rw [List.append_nil]; rfl
theorem plUp_all {n : Nat} (base : Nat) (t : T (n + 1)) (h : T.Ok (n + 1) (some t)) : plUp base t 4 = T.pl (n + 1) base t := by
  unfold plUp
  rw [List.take_of_length_le (by rw [h.1]; exact Nat.le_refl _)]; rfl
set_option maxHeartbeats 16000000 in
theorem placesInner (n : Nat) (ih : PlacesAt n) (hn : n ≤ 2) : PlacesAt (n + 1) := by
  intro R r W0 F al ll cl base a t w tr hrow hat hok hsin hroom hll2
  have hget := nodesUpTo_get R R.length a _ (List.getElem?_eq_some_iff.1 hat).1 (Nat.le_refl _) hat
  have hnd : ndAt R a ⟨n + 1, t⟩ = ⟨In.id t, In.birth t, n + 1, kidsIdx (first R a) (In.kids t), []⟩ := rfl
  rw [hnd] at hget
  obtain ⟨b', off', ak, nk, ck, ad, nd, cd, rfl, hb', hi, n0, n1, n2, n3, n4, hk, hd⟩ := ndRow hrow a _ hget
  have hk4 : (In.kids t).length = 4 := hok.1
  have hnk : nk = 4 := by have h1 := hk.1; simp only [kidsIdx_length] at h1; omega
  subst hnk
  simp only at n0 n1 n2
  have hRl : R.length = ll := by have h1 := hrow.1; rw [nodesUpTo_length R R.length (Nat.le_refl _)] at h1; exact h1
  have HK := Lib.hid hk
  have HS := Lib.hid hsin
  have HROW := Lib.hid hrow
  have m0 := (hsin.cell hb').trans n0
  have m1 := (hsin.cell hb').trans n1
  have m2 := (hsin.cell hb').trans n2
  have m3 := (hsin.cell hb').trans n3
  have m4 := (hsin.cell hb').trans n4
  have hbw : b' < w.heap.size := by have := hsin.size; omega
  have en : ((n + 1 : Nat) : Int) = (n : Int) + 1 := by push_cast; rfl
  rw [en] at m2
  have hai : (a : Int) < (ll : Int) := by omega
  have hz := hsin.size
  have hD := (bytesLt hd).below hsin
  have HO : Hid (SOwn plL ((w.alloc (.cells #[.int .i64 (In.id t : Nat), .int .i64 (In.birth t : Nat), .int .i64 ((n : Int) + 1), .slice ak 4 ck, .slice ad nd cd] 42)).alloc (.cells #[.int .i64 ((n : Int) + 1), .int .i64 (base : Nat), .int .i64 (In.id t : Nat), .int .i64 (In.birth t : Nat), .slice ad nd cd] 44)) (w.heap.size + 1) 44 (fun b => b < W0.heap.size) (some ⟨w.heap.size + 1, 0, none⟩) 1 1 (plUp base t 0)) := by
    have := plOwn1 (w := w.alloc (.cells #[.int .i64 (In.id t : Nat), .int .i64 (In.birth t : Nat), .int .i64 ((n : Int) + 1), .slice ak 4 ck, .slice ad nd cd] 42)) (N0 := W0.heap.size) (⟨n + 1, base, In.id t, In.birth t, []⟩ : Pl) (a := ad) (n := nd) (c := cd) (hD.below (Below_alloc1 _)) (by simp; omega) (B := w.heap.size + 1) (by simp)
    rw [show (w.alloc (.cells #[.int .i64 (In.id t : Nat), .int .i64 (In.birth t : Nat), .int .i64 ((n : Int) + 1), .slice ak 4 ck, .slice ad nd cd] 42)).heap.size = w.heap.size + 1 by simp, en] at this
    exact this
  have HB := Lib.hid (Below_alloc2 (wr := w) (.cells #[.int .i64 (In.id t : Nat), .int .i64 (In.birth t : Nat), .int .i64 ((n : Int) + 1), .slice ak 4 ck, .slice ad nd cd] 42) (.cells #[.int .i64 ((n : Int) + 1), .int .i64 (base : Nat), .int .i64 (In.id t : Nat), .int .i64 (In.birth t : Nat), .slice ad nd cd] 44))
  obtain ⟨gx, hgx⟩ : ∃ gx, Hid (w.heap.size = gx) := ⟨_, rfl⟩
  have HBX : Hid (Box ((w.alloc (.cells #[.int .i64 (In.id t : Nat), .int .i64 (In.birth t : Nat), .int .i64 ((n : Int) + 1), .slice ak 4 ck, .slice ad nd cd] 42)).alloc (.cells #[.int .i64 ((n : Int) + 1), .int .i64 (base : Nat), .int .i64 (In.id t : Nat), .int .i64 (In.birth t : Nat), .slice ad nd cd] 44)) gx #[.int .i64 (In.id t : Nat), .int .i64 (In.birth t : Nat), .int .i64 ((n : Int) + 1), .slice ak 4 ck, .slice ad nd cd] 42) := by
    rw [← hgx.out]
    exact Box.below (Box.new rfl) (Below_alloc1 _) (by simp)
  have hgxl : gx < ((w.alloc (.cells #[.int .i64 (In.id t : Nat), .int .i64 (In.birth t : Nat), .int .i64 ((n : Int) + 1), .slice ak 4 ck, .slice ad nd cd] 42)).alloc (.cells #[.int .i64 ((n : Int) + 1), .int .i64 (base : Nat), .int .i64 (In.id t : Nat), .int .i64 (In.birth t : Nat), .slice ad nd cd] 44)).heap.size := HBX.out.lt
  have HOKK := Lib.hid hok
  have HAT := Lib.hid hat
  have HRL := Lib.hid hRl
  have hrs := room_succ n
  obtain ⟨rm, hrm⟩ : ∃ rm, Hid (room n = rm) := ⟨_, rfl⟩
  have hrml : rm ≤ 4096 := by rw [← hrm.out]; exact room_mono (a := n) (b := 3) (by omega)
  have hroom2 : base + 4 * rm ≤ 4096 := by have := hrm.out; omega
  obtain ⟨x, hx⟩ : ∃ x : Rt, Hid ((⟨n + 1, t⟩ : Rt) = x) := ⟨_, rfl⟩
  have hgx1 : w.heap.size = gx := hgx.out
  clear hrow hat hok hsin hget hnd n0 n1 n2 n3 n4 hk hd hD hz en hroom hRl
  go_enter Try.func16, Try.ntmps16
  go_wp2_with fail
  go_loopw [8, 9] (fun ov iv wr => ∃ (i : Nat) (ao : Option Addr) (lo co : Nat), i ≤ 4 ∧ lo ≤ 1 + i * 85 ∧ ov = .slice ao lo co ∧ iv = .int .i64 i ∧ Hid (SOwn plL wr (w.heap.size + 1) 44 (fun b => b < W0.heap.size) ao lo co (plUp base t i)) ∧ Hid (Box wr gx #[.int .i64 (In.id t : Nat), .int .i64 (In.birth t : Nat), .int .i64 ((n : Int) + 1), .slice ak 4 ck, .slice ad nd cd] 42) ∧ Hid (Below w.heap.size w wr)) (fun _ iv _ => 4 - (intOf iv).toNat)
  case atStart => exact ⟨0, _, _, _, by omega, by omega, rfl, rfl, by show SOwn _ _ _ _ _ _ _ _ _; rw [show gx = w.heap.size from hgx.out.symm]; exact HO.out, HBX, HB⟩
  case round =>
    obtain ⟨i, ao, lo, co, hi4, hlo, rfl, rfl, hO, hBX, hB⟩ := hrel
    have r2 : wr.cell? ⟨gx, 2, none⟩ = some (.int .i64 ((n : Int) + 1)) := hBX.out.cell 2
    have r3 : wr.cell? ⟨gx, 3, none⟩ = some (.slice ak 4 ck) := hBX.out.cell 3
    have hgxw : gx < wr.heap.size := hBX.out.lt
    by_cases hlt : i < 4
    · have ii : (i : Int) < 4 := by omega
      have hsw := HS.out.trans (hB.out.mono HS.out.size)
      obtain ⟨q, hq⟩ : ∃ q, (In.kids t)[i]? = some q := ⟨_, List.getElem?_eq_getElem (by omega)⟩
      have hkg := kidsIdx_get (In.kids t) (first R a) i q hq
      rw [← kidNo_eq] at hkg
      have hxq : (kidsT x)[i]? = some (q.map fun k => (⟨n, k⟩ : Rt)) := by rw [← hx.out]; exact kidsT_get hq
      have hkrow := HK.out.below hsw
      obtain ⟨bK, oK, vs, hak, _, hbK, hvv, hcK⟩ := hkrow.get i hlt
      obtain ⟨hvs, _⟩ := hvv _ hkg
      subst hvs
      have cK := hcK 0 (by decide)
      rw [show oK + (i * (Lay.int IntKind.i64).size + 0) = oK + i by show oK + (i * 1 + 0) = _; omega] at cK
      subst hak
      have hup := plUp_succ base t i q hq
      cases q with
      | none =>
        have cK' : wr.cell? ⟨bK, oK + i, none⟩ = some (.int .i64 (-1)) := cK
        have hO2 : Hid (SOwn plL wr (w.heap.size + 1) 44 (fun b => b < W0.heap.size) ao lo co (plUp base t (i + 1))) := by
          show SOwn _ _ _ _ _ _ _ _ _
          rw [hup, show opl n (base + i * room n) (none : Option (T n)) = [] from rfl, List.append_nil]
          exact hO.out
        clear hcK hvv hkrow hkg hxq hq cK hsw hup
        go_wp2_with fail
        go_roundw
        case rel => exact ⟨i + 1, ao, lo, co, by omega, by omega, rfl, by go_num, hO2, hBX, hB⟩
        case measure => (simp [intOf]; try omega)
      | some y =>
        have hat2 : R[a]? = some x := by rw [← hx.out]; exact HAT.out
        obtain ⟨hIK, hRj⟩ := tr.kid a x hat2 i ⟨n, y⟩ hxq
        have hjk : first R a + (((kidsT x).take i).filterMap id).length = kidNo R a x i := rfl
        rw [hjk] at hIK hRj
        have hjlt := hIK.lt tr
        obtain ⟨j, hj⟩ : ∃ j, kidNo R a x i = j := ⟨_, rfl⟩
        have cK' : wr.cell? ⟨bK, oK + i, none⟩ = some (.int .i64 (j : Int)) := by
          have : (Option.isSome (some y)) = true := rfl
          rw [hx.out] at cK
          rw [hj] at cK
          exact cK
        rw [hj] at hIK hRj hjlt
        have hoky : T.Ok n (some y) := HOKK.out.2 _ (List.mem_of_getElem? hq)
        have wn : IntKind.i64.wrap ((n : Int) + 1 - 1) = (n : Int) := by rw [show (n : Int) + 1 - 1 = n by omega]; exact IntWalk.i64_in _ (by omega)
        have wn' : IntKind.i64.wrap (n : Int) = (n : Int) := IntWalk.i64_in _ (by omega)
        obtain ⟨ir, hir⟩ : ∃ ir, i * rm = ir := ⟨_, rfl⟩
        have hir3 : i * rm ≤ 3 * rm := Nat.mul_le_mul_right _ (by omega)
        have w3 : IntKind.i64.wrap ((i : Int) * (rm : Int)) = (ir : Int) := by
          have : (i : Int) * (rm : Int) = (ir : Int) := by rw [← hir]; push_cast; rfl
          rw [this]; exact IntWalk.i64_in _ (by omega)
        have w4 : IntKind.i64.wrap ((base : Int) + (ir : Int)) = (base : Int) + (ir : Int) := IntWalk.i64_in _ (by omega)
        have hirn : i * room n = ir := by rw [hrm.out]; exact hir
        rw [hirn] at hup
        have hylen : (T.pl n (base + ir) y).length ≤ 85 := Nat.le_trans (pl_len n _ y hoky) (costT_le (by omega))
        have hih := ih R r W0 F (some ⟨b', off', none⟩) ll cl (base + ir) j y wr.drew tr HROW.out hRj hoky hsw.drew (by have := hrm.out; omega) hll2
        obtain ⟨YS, hYS⟩ : ∃ YS, T.pl n (base + ir) y = YS := ⟨_, rfl⟩
        have hup2 : plUp base t (i + 1) = plUp base t i ++ YS := by rw [hup, ← hYS]; rfl
        rw [hYS] at hih hylen
        push_cast at hih
        obtain ⟨l5, hl5⟩ : ∃ l5, YS.length = l5 := ⟨_, rfl⟩
        rw [hl5] at hih hylen
        have HIH := Lib.hid hih
        have HUP := Lib.hid hup2
        have HL5 := Lib.hid hl5
        have hRW := Lib.hid (fun w => keepRoomW n (by omega) w)
        rw [hrm.out] at hRW
        have hW0 : W0.heap.size ≤ wr.heap.size := hsw.size
        have HOw := Lib.hid (hO.out.lt)
        have hwr : w.heap.size ≤ wr.heap.size := hB.out.size
        have hW0w : W0.heap.size ≤ w.heap.size := HS.out.size
        have hbKw : bK < wr.heap.size := hbK
        clear hcK hvv hkrow hkg hxq hq cK hsw hup hup2 hat2 hIK hRj hjk hoky hih hYS hir hir3 hl5 hirn
        go_upto_block 1 with fail
        go_cut [8] from 32 to 54 (fun v8 wx => ∃ (a7 : Option Addr) (c7 : Nat), v8 = .slice a7 (lo + l5) c7 ∧ Hid (SOwn plL wx (w.heap.size + 1) 44 (fun b => b < W0.heap.size) a7 (lo + l5) c7 (plUp base t (i + 1))) ∧ Hid (Below w.heap.size w wx) ∧ Hid (Box wx gx #[.int .i64 (In.id t : Nat), .int .i64 (In.birth t : Nat), .int .i64 ((n : Int) + 1), .slice (some ⟨bK, oK, none⟩) 4 ck, .slice ad nd cd] 42))
        case first =>
          go_upto_region 7 with fail
          go_region_law (first
            | (go_simp; go_at_call 17; refine (hRW.out _).mono ?_; rintro e w' ⟨rfl, rfl⟩)
            | (go_simp; go_at_call 16; refine HIH.out.mono ?_; rintro e w5 ⟨a5, c5, rfl, hO5, hb5⟩; have HB5 : Hid (Below wr.heap.size wr w5) := Below.trans ((Below.refl wr.heap.size wr).drew) hb5; have HOO := Lib.hid (hO.out.below HB5.out); obtain ⟨uss5, hV5, hP5, hL5⟩ := hO5.out.wholeG; have HV5 := Lib.hid hV5; have HP5 := Lib.hid hP5; have HL5' := Lib.hid hL5; have hN5 : w.heap.size + 1 ≤ w5.heap.size := (by have := HB5.out.size; have := hgx.out; omega); have HF5 : Hid (∀ b, b < W0.heap.size → b < W0.heap.size ∧ b < w5.heap.size ∧ (Value.slice ao lo co).ownBlock ≠ some b) := (fun b hb => ⟨hb, by omega, fun e => by have := (HOO.out.lt b e).1; omega⟩); have y3 : w5.cell? ⟨gx, 3, none⟩ = some (.slice (some ⟨bK, oK, none⟩) 4 ck) := (HB5.out.cell hgxw).trans r3; have y2 : w5.cell? ⟨gx, 2, none⟩ = some (.int .i64 ((n : Int) + 1)) := (HB5.out.cell hgxw).trans r2; clear hV5 hP5 hL5 hb5)
            | (refine step_append_data (L := plL) (w := w5) rfl (.tmp 38) (.tmp 53) 38 rfl (w.heap.size + 1) 44 _ 56 Try.underlying38 info_placed rfl (fun b => b < W0.heap.size) ao lo co (plUp base t i) rfl HOO.out a5 l5 c5 YS uss5 rfl HV5.out (fun b => b < W0.heap.size) HP5.out HL5'.out HF5.out (by unfold maxLen; omega) (by omega) hN5 ?_; intro a7 c7 w7 hown7 hg7; have HO7 := Lib.hid hown7; have HB7 : Hid (Below w.heap.size w w7) := Own.grown HOO.out.2.choose_spec.choose_spec.1 (hB.out.trans (HB5.out.mono hB.out.size)) (Nat.le_succ _) (Nat.le_of_succ_le hN5) hg7; have HBX7 := Lib.hid (Box.below (Box.below hBX.out HB5.out hgxw) (Own.grown HOO.out.2.choose_spec.choose_spec.1 (Below.refl (w.heap.size + 1) w5) (Nat.le_refl _) hN5 hg7) (by have := hgx.out; omega)); clear hown7 hg7))
          all_goals
            rw [← HUP.out] at HO7
            go_wp2_with fail
            go_meet
            exact ⟨a7, c7, rfl, HO7, HB7, HBX7⟩
        case rest =>
          obtain ⟨a7, c7, rfl, hO7, hB7, hBX7⟩ := hcut
          clear r2 r3 hgxw cK' hbKw
          have r2 : wc.cell? ⟨gx, 2, none⟩ = some (.int .i64 ((n : Int) + 1)) := hBX7.out.cell 2
          have hgxw : gx < wc.heap.size := hBX7.out.lt
          go_wp2_with fail
          go_roundw
          case rel => exact ⟨i + 1, a7, lo + l5, c7, by omega, by omega, rfl, by go_num, hO7, hBX7, hB7⟩
          case measure => (simp [intOf]; try omega)
    · obtain rfl : i = 4 := by omega
      have hall := plUp_all base t HOKK.out
      rw [hall] at hO
      have hl : (T.pl (n + 1) base t).length = lo := hO.out.1
      subst hl
      clear hall r2
      go_wp2_with fail
      go_ret
      exact ⟨_, _, rfl, by show SOwn _ _ _ _ _ _ _ _ _; exact hO.out.mono (Nat.le_succ _) (fun _ h => h), hB.out⟩
theorem placesAt : ∀ (n : Nat), n ≤ 3 → PlacesAt n
  | 0, _ => placesLeaf
  | n + 1, h => placesInner n (placesAt n (by omega)) (by omega)
end Go.Proofs.Ythjjfmnipemakaa
