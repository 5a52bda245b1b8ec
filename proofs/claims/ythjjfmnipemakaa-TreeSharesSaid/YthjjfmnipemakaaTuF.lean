/- The walks of Room and of spread at a leaf; what the counts come to. -/
import Derived.Test.YthjjfmnipemakaaTuC
import Derived.Test.YthjjfmnipemakaaTuD
import Derived.Test.YthjjfmnipemakaaTuE
namespace Go.Proofs.Ythjjfmnipemakaa
open Go.RowKit
set_option linter.unusedVariables false
set_option maxRecDepth 100000

theorem keepRoomW (n : Nat) (hn : n ≤ 6) (w : World) : Calls Try.prog 17 #[.int .i64 n] w fun e w' => e = .returned (.int .i64 (room n : Nat)) ∧ w = w' := by
  have h : n = 0 ∨ n = 1 ∨ n = 2 ∨ n = 3 ∨ n = 4 ∨ n = 5 ∨ n = 6 := by omega
  rcases h with rfl | rfl | rfl | rfl | rfl | rfl | rfl
  all_goals
    go_enter Try.func17, Try.ntmps17
    go_wp2_with fail
    go_ret
    exact ⟨rfl, rfl⟩
def i64s (xs : List Int) : Array Value := (xs.map (Value.int .i64)).toArray
theorem i64s_set (xs : List Int) (k : Nat) (v : Int) : (i64s xs).setIfInBounds k (.int .i64 v) = i64s (xs.set k v) := by
  unfold i64s
  rw [List.setIfInBounds_toArray, List.map_set]
theorem i64s_get (xs : List Int) (k : Nat) (h : k < xs.length) : (i64s xs)[k]? = some (.int .i64 (xs.getD k 0)) := by
  unfold i64s
  rw [List.getElem?_toArray, List.getElem?_map, List.getElem?_eq_getElem h]
  simp [List.getD, h]
structure SnTo (R : List Rt) (a : Nat) (sn sn' : List Int) : Prop where
  len : sn'.length = sn.length
  up : ∀ k, k < sn.length → Up R a k → k ≠ a → sn'.getD k 0 = sn.getD k 0 + 1
  rest : ∀ k, k < sn.length → ¬ (Up R a k ∧ k ≠ a) → sn'.getD k 0 = sn.getD k 0
/-- The number of the i-th kid. -/
def kidNo (R : List Rt) (a : Nat) (x : Rt) (i : Nat) : Nat := first R a + (((kidsT x).take i).filterMap id).length
def Done (R : List Rt) (a : Nat) (x : Rt) (i k : Nat) : Prop := ∃ i', i' < i ∧ ∃ y, (kidsT x)[i']? = some (some y) ∧ Up R (kidNo R a x i') k
structure SnI (R : List Rt) (a : Nat) (x : Rt) (i : Nat) (sn sn' : List Int) : Prop where
  len : sn'.length = sn.length
  up : ∀ k, k < sn.length → Done R a x i k → sn'.getD k 0 = sn.getD k 0 + 1
  rest : ∀ k, k < sn.length → ¬ Done R a x i k → sn'.getD k 0 = sn.getD k 0
theorem SnI.start (R : List Rt) (a : Nat) (x : Rt) (sn : List Int) : SnI R a x 0 sn sn := ⟨rfl, fun k _ ⟨i', h, _⟩ => absurd h (by omega), fun _ _ _ => rfl⟩
theorem SnI.hole {R : List Rt} {a : Nat} {x : Rt} {i : Nat} {sn sn' : List Int} (h : SnI R a x i sn sn') (hq : (kidsT x)[i]? = some none) : SnI R a x (i + 1) sn sn' := by
  have e : ∀ k, Done R a x (i + 1) k ↔ Done R a x i k := fun k => by
    constructor
    · rintro ⟨i', hi', y, hy, hu⟩
      have : i' ≠ i := fun e => by rw [e, hq] at hy; cases hy
      exact ⟨i', by omega, y, hy, hu⟩
    · rintro ⟨i', hi', y, hy, hu⟩
      exact ⟨i', by omega, y, hy, hu⟩
  exact ⟨h.len, fun k hk hd => h.up k hk ((e k).1 hd), fun k hk hd => h.rest k hk (fun hd' => hd ((e k).2 hd'))⟩
theorem not_done {R : List Rt} {r : Rt} (t : Tree R r) {a : Nat} {x : Rt} (ha : R[a]? = some x) {i : Nat} {y : Rt} (hy : (kidsT x)[i]? = some (some y)) {k : Nat} (hu : Up R (kidNo R a x i) k) : ¬ Done R a x i k := by
  rintro ⟨i', hi', y', hy', hu'⟩
  have h1 := (t.kid a x ha i y hy).1
  have h2 := (t.kid a x ha i' y' hy').1
  exact kids_apart t h2 h1 (Tree.kids_differ hy' hy hi') hu' hu
theorem SnI.kid {R : List Rt} {r : Rt} (t : Tree R r) {a : Nat} {x : Rt} (ha : R[a]? = some x) {i : Nat} {y : Rt} (hy : (kidsT x)[i]? = some (some y)) {sn sn' sn'' : List Int} (h : SnI R a x i sn sn') (hj : kidNo R a x i < sn.length)
    (h2 : SnTo R (kidNo R a x i) (sn'.set (kidNo R a x i) (sn'.getD (kidNo R a x i) 0 + 1)) sn'') : SnI R a x (i + 1) sn sn'' := by
  obtain ⟨j, hje⟩ : ∃ j, kidNo R a x i = j := ⟨_, rfl⟩
  have nd : ∀ k, Up R j k → ¬ Done R a x i k := fun k hu => not_done t ha hy (by rw [hje]; exact hu)
  rw [hje] at hj h2
  have gs : ∀ k, k < sn.length → (sn'.set j (sn'.getD j 0 + 1)).getD k 0 = if k = j then sn'.getD j 0 + 1 else sn'.getD k 0 := fun k hk => by
    rw [List.getD_eq_getElem?_getD, List.getElem?_set]
    by_cases e : j = k
    · subst e; rw [if_pos rfl, if_pos (by rw [h.len]; exact hk), if_pos rfl]; rfl
    · rw [if_neg e, if_neg (fun e' => e e'.symm), ← List.getD_eq_getElem?_getD]
  have hl2 : (sn'.set j (sn'.getD j 0 + 1)).length = sn.length := by rw [List.length_set, h.len]
  refine ⟨h2.len.trans hl2, fun k hk hd => ?_, fun k hk hd => ?_⟩
  · by_cases hu : Up R j k
    · have hr := h.rest k hk (nd k hu)
      by_cases e : k = j
      · rw [h2.rest k (by rw [hl2]; exact hk) (fun hc => hc.2 e), gs k hk, if_pos e, ← e, hr]
      · rw [h2.up k (by rw [hl2]; exact hk) hu e, gs k hk, if_neg e, hr]
    · have hd' : Done R a x i k := by
        obtain ⟨i', hi', y', hy', hu'⟩ := hd
        have : i' ≠ i := fun e => by subst e; exact hu (hje ▸ hu')
        exact ⟨i', by omega, y', hy', hu'⟩
      have e : k ≠ j := fun e => hu (e ▸ .refl)
      rw [h2.rest k (by rw [hl2]; exact hk) (fun hc => hu hc.1), gs k hk, if_neg e]
      exact h.up k hk hd'
  · have hu : ¬ Up R j k := fun hu => hd ⟨i, by omega, y, hy, hje ▸ hu⟩
    have hd' : ¬ Done R a x i k := fun ⟨i', hi', h'⟩ => hd ⟨i', by omega, h'⟩
    have e : k ≠ j := fun e => hu (e ▸ .refl)
    rw [h2.rest k (by rw [hl2]; exact hk) (fun hc => hu hc.1), gs k hk, if_neg e]
    exact h.rest k hk hd'
theorem filterMap_find {α : Type} : ∀ (ks : List (Option α)) (c : Nat), c < (ks.filterMap id).length → ∃ i y, ks[i]? = some (some y) ∧ ((ks.take i).filterMap id).length = c
  | [], c, h => absurd h (by simp)
  | none :: ks, c, h => by
    obtain ⟨i, y, h1, h2⟩ := filterMap_find ks c h
    exact ⟨i + 1, y, by simpa using h1, h2⟩
  | some x :: ks, 0, h => ⟨0, x, rfl, rfl⟩
  | some x :: ks, c + 1, h => by
    have h' : c + 1 < (ks.filterMap id).length + 1 := h
    obtain ⟨i, y, h1, h2⟩ := filterMap_find ks c (by omega)
    exact ⟨i + 1, y, by simpa using h1, by show ((ks.take i).filterMap id).length + 1 = _; rw [h2]⟩
theorem SnI.done {R : List Rt} {r : Rt} (t : Tree R r) {a : Nat} {x : Rt} (ha : R[a]? = some x) {sn sn' : List Int} {n : Nat} (hn : (kidsT x).length = n) (h : SnI R a x n sn sn') : SnTo R a sn sn' := by
  have e : ∀ k, Done R a x n k ↔ Up R a k ∧ k ≠ a := fun k => by
    constructor
    · rintro ⟨i, hi, y, hy, hu⟩
      have hk := (t.kid a x ha i y hy).1
      refine ⟨Up.cons hk hu, fun e => ?_⟩
      have h1 := hu.le t
      have h2 : a < kidNo R a x i := (hk.lt t).1
      omega
    · rintro ⟨hu, hne⟩
      rcases hu.split with e | ⟨j, hj, huj⟩
      · exact absurd e hne
      · have hs := first_succ R a x ha
        have h1 := hj.2.1
        have h2 := hj.2.2
        obtain ⟨i, y, hy, hc⟩ := filterMap_find (kidsT x) (j - first R a) (by omega)
        have hil := (List.getElem?_eq_some_iff.1 hy).1
        refine ⟨i, by omega, y, hy, ?_⟩
        have : kidNo R a x i = j := by unfold kidNo; rw [hc]; omega
        rw [this]; exact huj
  exact ⟨h.len, fun k hk hu hne => h.up k hk ((e k).2 ⟨hu, hne⟩), fun k hk hn' => h.rest k hk (fun hd => hn' ((e k).1 hd))⟩
theorem ndRow {w : World} {F : Nat → Prop} {a : Option Addr} {len cap : Nat} {xs : List Nd} (h : SRow ndL w F a len cap xs) (i : Nat) (x : Nd) (hx : xs[i]? = some x) :
    ∃ b off ak nk ck ad nd cd, a = some ⟨b, off, none⟩ ∧ b < w.heap.size ∧ i < len ∧ w.cell? ⟨b, off + i * 5, none⟩ = some (.int .i64 x.id) ∧ w.cell? ⟨b, off + i * 5 + 1, none⟩ = some (.int .i64 x.birth) ∧ w.cell? ⟨b, off + i * 5 + 2, none⟩ = some (.int .i64 x.level) ∧
      w.cell? ⟨b, off + i * 5 + 3, none⟩ = some (.slice ak nk ck) ∧ w.cell? ⟨b, off + i * 5 + 4, none⟩ = some (.slice ad nd cd) ∧ SRow (Lay.int .i64) w F ak nk ck x.kids ∧ SRow (Lay.int .u8) w F ad nd cd x.data := by
  have hi : i < len := by have := (List.getElem?_eq_some_iff.1 hx).1; have := h.1; omega
  obtain ⟨b, off, vs, ha, _, hb, hv, hc⟩ := h.get i hi
  obtain ⟨us, ws, rfl, h1, us2, ws2, rfl, ⟨ak, nk, ck, rfl, hk⟩, ⟨ad, nd, cd, rfl, hd⟩⟩ := hv x hx
  have e1 : us = nd3 x := h1
  subst e1
  exact ⟨b, off, ak, nk, ck, ad, nd, cd, ha, hb, hi, hc 0 (by decide), hc 1 (by decide), hc 2 (by decide), hc 3 (by decide), hc 4 (by decide), hk, hd⟩
theorem nd_len (n : Nat) (hn : n < 2) : True := trivial
theorem SRow.since {α : Type} {L : Lay α} {W w : World} {F : Nat → Prop} {a : Option Addr} {len cap : Nat} {xs : List α} (h : SRow L W F a len cap xs) (hs : (thSince W).holds w) : SRow L w F a len cap xs := h.below hs
def SpreadAt (n : Nat) : Prop := ∀ (R : List Rt) (r : Rt) (W0 : World) (F : Nat → Prop) (al : Option Addr) (ll cl base o sb lo a : Nat) (t : T n) (b : Nat) (xs sn : List Int) (w : World), Tree R r →
  SRow ndL W0 F al ll cl (nodesUpTo R R.length) → R[a]? = some ⟨n, t⟩ → T.Bir b n (some t) → T.Ok n (some t) → (thSince W0).holds w → W0.heap.size ≤ o → W0.heap.size ≤ sb →
  Apt [thBox o (u8s xs) 5, thBox sb (i64s sn) 3] w → xs.length = lo → sn.length = ll → base + room n ≤ lo → lo ≤ 100000 → ll ≤ 1000 → Zero0 (room n) base 0 xs → (∀ k, Up R a k → k ≠ a → sn.getD k 0 = 0) →
  Calls Try.prog 24 #[.slice al ll cl, .int .i64 a, .int .i64 base, .slice (some ⟨o, 0, none⟩) lo lo, .slice (some ⟨sb, 0, none⟩) ll ll] w fun e w' => e = .returned (.bool true) ∧ ∃ sn', SnTo R a sn sn' ∧
    Turns (thAll [thBox o (u8s xs) 5, thBox sb (i64s sn) 3]) (thAll [thBox o (u8s (putU (room n) n (some t) base 0 xs)) 5, thBox sb (i64s sn') 3]) w w'
theorem since_kept {W0 w w' : World} {l l' : List Thing} (hs : (thSince W0).holds w) (ht : Turns (thAll l) (thAll l') w w') (hl : ∀ b, (thAll l).foot b → W0.heap.size ≤ b) : (thSince W0).holds w' :=
  (thSince W0).keep hs ht.mv (fun b hb hf => by have h1 := hl b hf; have h2 : b < W0.heap.size := hb; omega)
set_option maxHeartbeats 8000000 in
theorem spreadLeaf : SpreadAt 0 := by
  intro R r W0 F al ll cl base o sb lo a t b xs sn w tr hrow hat hbir hok hsin ho hsb hA hlo hln hroom hlo2 hll2 hz hsn
  have hr0 : room 0 = 64 := room_zero
  rw [hr0] at hroom hz ⊢
  have hget := nodesUpTo_get R R.length a _ (List.getElem?_eq_some_iff.1 hat).1 (Nat.le_refl _) hat
  have hnd : ndAt R a ⟨0, t⟩ = ⟨Lf.id t, Lf.birth t, 0, [], Lf.data t⟩ := rfl
  rw [hnd] at hget
  obtain ⟨b', off', ak, nk, ck, ad, nd, cd, rfl, hb', hi, n0, n1, n2, n3, n4, hk, hd⟩ := ndRow hrow a _ hget
  have hnk : nk = 0 := hk.1.symm
  have hnd64 : nd = 64 := by have h1 := hd.1; have h2 : (Lf.data t).length = 64 := hok; simp only at h1; omega
  subst hnk hnd64
  simp only at n0 n1 n2
  have HD := Lib.hid hd
  have HS := Lib.hid hsin
  have m0 := (hsin.cell hb').trans n0
  have m1 := (hsin.cell hb').trans n1
  have m2 := (hsin.cell hb').trans n2
  have m3 := (hsin.cell hb').trans n3
  have m4 := (hsin.cell hb').trans n4
  have hbw : b' < w.heap.size := by have := hsin.size; omega
  have TA := (Turns.refl (t := thAll [thBox o (u8s xs) 5, thBox sb (i64s sn) 3]) hA).putBox (ndV (Lf.id t) (Lf.birth t) 0 ak 0 ck ad 64 cd) 42
  obtain ⟨gx, hgx⟩ : ∃ gx, Hid (w.heap.size = gx) := ⟨_, rfl⟩
  rw [hgx.out] at TA
  obtain ⟨V, hV⟩ : ∃ V, w.alloc (.cells #[.int .i64 (Lf.id t : Nat), .int .i64 (Lf.birth t : Nat), .int .i64 0, .slice ak 0 ck, .slice ad 64 cd] 42) = V := ⟨_, rfl⟩
  unfold ndV at TA
  rw [hV] at TA
  have HTA := Lib.hid TA
  have HO : Hid (∀ b, (thAll [thBox o (u8s xs) 5, thBox sb (i64s sn) 3]).foot b → W0.heap.size ≤ b) := fun b ⟨u, hu, hb⟩ => by
    rcases List.mem_cons.1 hu with rfl | hu
    · have : b = o := hb; omega
    · obtain rfl := List.mem_singleton.1 hu
      have : b = sb := hb; omega
  have HL := Lib.hid hlo
  obtain ⟨LF, hLF⟩ : ∃ LF : Lf, Hid (t = LF) := ⟨t, rfl⟩
  have HDL : Hid ((Lf.data t).length = 64) := hok
  have HSN : Hid (SnTo R a sn sn) := ⟨rfl, fun k _ hu hne => by
    exfalso
    rcases hu.split with e | ⟨j, hj, _⟩
    · exact hne e
    · have h1 := first_succ R a _ hat
      have h2 : ((kidsT ⟨0, t⟩).filterMap id).length = 0 := rfl
      have h3 := hj.2.1
      have h4 := hj.2.2
      omega, fun _ _ _ => rfl⟩
  have hai : (a : Int) < (ll : Int) := by omega
  have hgx1 : w.heap.size = gx := hgx.out
  have B11 : Box V gx _ 42 := HTA.out.now.all 0 _ rfl
  have q2 : V.cell? ⟨gx, 2, none⟩ = some (.int .i64 0) := B11.cell 2
  have q3 : V.cell? ⟨gx, 3, none⟩ = some (.slice ak 0 ck) := B11.cell 3
  have q4 : V.cell? ⟨gx, 4, none⟩ = some (.slice ad 64 cd) := B11.cell 4
  have hgxV : gx < V.heap.size := B11.lt
  clear B11
  clear TA hA hrow hat hbir hok hsin hz hsn hget hnd n0 n1 n2 n3 n4 hk hd hlo hln
  go_enter Try.func24, Try.ntmps24
  go_wp2_with fail
  go_loopw [12] (fun iv wr => ∃ i : Nat, i ≤ 64 ∧ iv = .int .i64 i ∧ Hid (Turns (thAll [thBox o (u8s xs) 5, thBox sb (i64s sn) 3]) (thAll [thBox gx #[.int .i64 (Lf.id t : Nat), .int .i64 (Lf.birth t : Nat), .int .i64 0, .slice ak 0 ck, .slice ad 64 cd] 42, thBox o (u8s (putU i 0 (some (show T 0 from LF)) base 0 xs)) 5, thBox sb (i64s sn) 3]) w wr)) (fun iv _ => 64 - (intOf iv).toNat)
  case atStart => exact ⟨0, by omega, rfl, by show Turns _ _ _ _; rw [putU_zero]; exact HTA.out⟩
  case round =>
    obtain ⟨i, hi64, rfl, hT⟩ := hrel
    by_cases hlt : i < 64
    · have ii : (i : Int) < 64 := by omega
      obtain ⟨kk, hkk⟩ : ∃ kk, base + i = kk := ⟨_, rfl⟩
      have wa : IntKind.i64.wrap ((base : Int) + (i : Int)) = (kk : Int) := by rw [IntWalk.i64_in _ (by omega)]; omega
      have hkl : (kk : Int) < (lo : Int) := by omega
      have hkn : kk < lo := by omega
      have hk0 : (0 : Int) ≤ (kk : Int) := by omega
      have hsw := since_kept HS.out hT.out HO.out
      have hrw := (HD.out.since hsw).toRow
      obtain ⟨bD, oD, rfl, hcD⟩ : ∃ b off, ad = some ⟨b, off, none⟩ ∧ ∀ i, i < 64 → wr.cell? ⟨b, off + i, none⟩ = some (.int .u8 ((Lf.data t).getD i 0)) := by
        rcases hrw.hat with h0 | ⟨b, off, e, hc⟩
        · omega
        · exact ⟨b, off, e, hc⟩
      have cD := hcD i hlt
      obtain ⟨v, hv⟩ : ∃ v, (Lf.data t).getD i 0 = v := ⟨_, rfl⟩
      rw [hv] at cD
      have B11 : Box wr gx _ 42 := hT.out.now.all 0 _ rfl
      have BO := Lib.hid (show Box wr o (u8s (putU i 0 (some (show T 0 from LF)) base 0 xs)) 5 from hT.out.now.all 1 _ rfl)
      have r4 : wr.cell? ⟨gx, 4, none⟩ = some (.slice (some ⟨bD, oD, none⟩) 64 cd) := B11.cell 4
      have hgxw : gx < wr.heap.size := B11.lt
      have how : o < wr.heap.size := BO.out.lt
      have hpl : kk < (putU i 0 (some (show T 0 from LF)) base 0 xs).length := by rw [putU_length, HL.out]; exact hkn
      have co : wr.cell? ⟨o, kk, none⟩ = some (.int .u8 ((putU i 0 (some (show T 0 from LF)) base 0 xs).getD kk 0)) := by
        rw [BO.out.cell kk]
        unfold u8s
        rw [List.getElem?_toArray, List.getElem?_map, List.getElem?_eq_getElem hpl]
        simp [List.getD, hpl]
      have cf : wr.frozen? ⟨o, kk, none⟩ = false := BO.out.free kk
      have hms : Hid (putU (i + 1) 0 (some (show T 0 from LF)) base 0 xs = (putU i 0 (some (show T 0 from LF)) base 0 xs).set kk v) := by
        show _ = _
        rw [leafU_step i kk base 0 LF xs (by omega) (by rw [HL.out]; exact hkn), ← hLF.out, hv]
      have T6 := hT.out.trans (Turns.inside (i := 1) hT.out.now rfl (Turns.cell BO.out kk (.int .u8 v)))
      rw [u8s_set, ← hms.out] at T6
      have T7 := Lib.hid T6
      obtain ⟨pv, hpv⟩ : ∃ pv, (putU i 0 (some (show T 0 from LF)) base 0 xs).getD kk 0 = pv := ⟨_, rfl⟩
      rw [hpv] at co
      clear T6 hms hv hcD hsw hrw B11 hkk hpv hpl
      go_wp2_with fail
      go_roundw
      case rel => exact ⟨i + 1, by omega, by go_num, T7⟩
      case measure => (simp [intOf]; try omega)
    · obtain rfl : i = 64 := by omega
      have hT2 := Lib.hid (show Turns (thAll [thBox o (u8s xs) 5, thBox sb (i64s sn) 3]) (thAll [thBox o (u8s (putU 64 0 (some t) base 0 xs)) 5, thBox sb (i64s sn) 3]) w wr from by
        have := hT.out.tail
        rw [← hLF.out] at this
        exact this)
      go_wp2_with fail
      go_ret
      exact ⟨rfl, sn, HSN.out, hT2.out⟩
end Go.Proofs.Ythjjfmnipemakaa
