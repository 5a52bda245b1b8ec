/- The walk of a node's read, and of a version's. -/
import Derived.Test.YthjjfmnipemakaaTrH
namespace Go.Proofs.Ythjjfmnipemakaa
open Go.RowKit
set_option linter.unusedVariables false
set_option maxRecDepth 100000

def u8s (xs : List Int) : Array Value := (xs.map (Value.int .u8)).toArray
/-- The bytes of a node in a window that begins at off, u of them from base on. -/
def putU (u n : Nat) (t : Option (T n)) (base off : Nat) (xs : List Int) : List Int :=
  (List.range xs.length).map fun p => if base ≤ off + p ∧ off + p < base + u then T.get n t (off + p - base) else xs.getD p 0
theorem putU_length (u n : Nat) (t : Option (T n)) (base off : Nat) (xs : List Int) : (putU u n t base off xs).length = xs.length := by simp [putU]
theorem putU_get (u n : Nat) (t : Option (T n)) (base off : Nat) (xs : List Int) (p : Nat) (h : p < xs.length) : (putU u n t base off xs).getD p 0 = if base ≤ off + p ∧ off + p < base + u then T.get n t (off + p - base) else xs.getD p 0 := by
  unfold putU
  rw [List.getD_eq_getElem?_getD, List.getElem?_map, List.getElem?_range h]; rfl
theorem list_ext0 {xs ys : List Int} (hl : xs.length = ys.length) (h : ∀ p, p < xs.length → xs.getD p 0 = ys.getD p 0) : xs = ys := by
  apply List.ext_getElem hl
  intro p h1 h2
  have := h p h1
  simpa [List.getD, h1, h2] using this
/-- Nothing was there. -/
def Zero0 (u base off : Nat) (xs : List Int) : Prop := ∀ p, p < xs.length → base ≤ off + p → off + p < base + u → xs.getD p 0 = 0
theorem putU_out (u n : Nat) (t : Option (T n)) (base off : Nat) (xs : List Int) (h : ∀ p, p < xs.length → base ≤ off + p → off + p < base + u → T.get n t (off + p - base) = xs.getD p 0) : putU u n t base off xs = xs := by
  refine list_ext0 (putU_length ..) (fun p hp => ?_)
  rw [putU_length] at hp
  rw [putU_get _ _ _ _ _ _ _ hp]
  split
  · rename_i hc; exact h p hp hc.1 hc.2
  · rfl
theorem putU_zero (n : Nat) (t : Option (T n)) (base off : Nat) (xs : List Int) : putU 0 n t base off xs = xs := putU_out _ _ _ _ _ _ (fun p _ h1 h2 => absurd h2 (by omega))
theorem leafU_skip (i base off : Nat) (t : Option (T 0)) (xs : List Int) (h : ¬ (off ≤ base + i ∧ base + i < off + xs.length)) : putU (i + 1) 0 t base off xs = putU i 0 t base off xs := by
  unfold putU
  apply List.map_congr_left
  intro p hp
  have hp' := List.mem_range.1 hp
  by_cases h2 : base ≤ off + p ∧ off + p < base + i
  · rw [if_pos h2, if_pos ⟨h2.1, by omega⟩]
  · rw [if_neg h2, if_neg (fun e => h2 ⟨e.1, by omega⟩)]
theorem leafU_step (i k base off : Nat) (t : Lf) (xs : List Int) (hk : off + k = base + i) (hl : k < xs.length) : putU (i + 1) 0 (some (show T 0 from t)) base off xs = (putU i 0 (some (show T 0 from t)) base off xs).set k (t.data.getD i 0) := by
  refine list_ext0 (by rw [List.length_set, putU_length, putU_length]) (fun p hp => ?_)
  rw [putU_length] at hp
  rw [putU_get _ _ _ _ _ _ _ hp]
  by_cases hpk : k = p
  · subst hpk
    rw [if_pos ⟨by omega, by omega⟩, List.getD_eq_getElem?_getD, List.getElem?_set_self (by rw [putU_length]; exact hl)]
    show t.data.getD (off + k - base) 0 = t.data.getD i 0
    rw [show off + k - base = i by omega]
  · rw [List.getD_eq_getElem?_getD (l := List.set _ _ _), List.getElem?_set_ne hpk, ← List.getD_eq_getElem?_getD, putU_get _ _ _ _ _ _ _ hp]
    by_cases h2 : base ≤ off + p ∧ off + p < base + i
    · rw [if_pos h2, if_pos ⟨h2.1, by omega⟩]
    · rw [if_neg h2, if_neg (fun e => h2 ⟨e.1, by omega⟩)]
theorem innerU_step (n i base off : Nat) (t : T (n + 1)) (k : Option (T n)) (xs : List Int) (hk : (In.kids t)[i]? = some k) : putU (room n) n k (base + i * room n) off (putU (i * room n) (n + 1) (some t) base off xs) = putU ((i + 1) * room n) (n + 1) (some t) base off xs := by
  refine list_ext0 (by simp only [putU_length]) (fun p hp => ?_)
  rw [putU_length, putU_length] at hp
  have hr := room_pos n
  rw [putU_get _ _ _ _ _ _ _ (by rw [putU_length]; exact hp), putU_get _ _ _ _ _ _ _ hp, putU_get _ _ _ _ _ _ _ hp]
  have e1 : (i + 1) * room n = i * room n + room n := by rw [Nat.add_mul]; omega
  rw [e1]
  by_cases h1 : base + i * room n ≤ off + p ∧ off + p < base + i * room n + room n
  · rw [if_pos h1, if_pos ⟨by omega, by omega⟩]
    show _ = T.get n ((In.kids t).getD ((off + p - base) / room n) none) ((off + p - base) % room n)
    have hd : (off + p - base) / room n = i := by
      have : off + p - base = (off + p - (base + i * room n)) + i * room n := by omega
      rw [this, Nat.add_mul_div_right _ _ hr, Nat.div_eq_of_lt (by omega)]; omega
    have hm : (off + p - base) % room n = off + p - (base + i * room n) := by
      have : off + p - base = (off + p - (base + i * room n)) + i * room n := by omega
      rw [this, Nat.add_mul_mod_self_right, Nat.mod_eq_of_lt (by omega)]
    rw [hd, hm, List.getD_eq_getElem?_getD, hk]; rfl
  · rw [if_neg h1]
    by_cases h2 : base ≤ off + p ∧ off + p < base + i * room n
    · rw [if_pos h2, if_pos ⟨h2.1, by omega⟩]
    · rw [if_neg h2, if_neg (by omega)]
theorem innerU_zero (n i base off : Nat) (t : T (n + 1)) (xs : List Int) (hi : i < 4) (h : Zero0 (room (n + 1)) base off xs) : Zero0 (room n) (base + i * room n) off (putU (i * room n) (n + 1) (some t) base off xs) := by
  intro p hp h1 h2
  rw [putU_length] at hp
  rw [putU_get _ _ _ _ _ _ _ hp, if_neg (by omega)]
  have hrs := room_succ n
  have : (i + 1) * room n ≤ 4 * room n := Nat.mul_le_mul_right _ hi
  rw [Nat.add_mul, Nat.one_mul] at this
  exact h p hp (by omega) (by omega)
theorem u8s_set (xs : List Int) (k : Nat) (v : Int) : (u8s xs).setIfInBounds k (.int .u8 v) = u8s (xs.set k v) := by
  unfold u8s
  rw [List.setIfInBounds_toArray, List.map_set]
def ReadAt (n : Nat) : Prop := ∀ (W : World) (G : Nat → Prop) (cur : Nat) (t : Option (PT n)) (o base off ld : Nat) (xs : List Int) (w : World),
    OldT W G cur n t → (thOld W G).holds w → ¬ G o → Box w o (u8s xs) 5 → xs.length = ld → Zero0 (room n) base off xs → base + room n ≤ 100000 → off ≤ 100000 → ld ≤ 100000 →
    Calls Try.prog 41 #[ptr t, .int .i64 base, .int .i64 off, .slice (some ⟨o, 0, none⟩) ld ld] w fun e w' =>
      e = .returned (.tuple #[]) ∧ Turns (thBox o (u8s xs) 5) (thBox o (u8s (putU (room n) n (t.map (PT.er n)) base off xs)) 5) w w'
theorem data_range {w : World} {g id birth level : Nat} {ps : List Value} {ds : List Int} {ty : TypeId} (h : Box w g (nodeV id birth level ps ds) ty) (hp : ps.length = 4) : w.rangeAt g 7 (ds.map (Value.int .u8)) := fun j v hj => by
  rw [h.cell (7 + j), nodeV_data _ _ _ _ _ hp]
  rw [List.getElem?_map] at hj; exact hj
set_option maxHeartbeats 8000000 in
theorem readLeaf : ReadAt 0 := by
  intro W G cur t o base off ld xs w hO hold hGo hB hld hz hb ho hll
  have hr0 : room 0 = 64 := room_zero
  rw [hr0] at hb hz ⊢
  have HB := Lib.hid hB
  have HL := Lib.hid hld
  cases t with
  | none =>
    change Calls _ _ #[.pointer none, .int .i64 base, .int .i64 off, .slice (some ⟨o, 0, none⟩) ld ld] w _
    have hx : putU 64 0 ((none : Option (PT 0)).map (PT.er 0)) base off xs = xs := putU_out _ _ _ _ _ _ (fun p hp h1 h2 => by rw [hz p hp h1 h2]; rfl)
    rw [hx]
    clear hz hold hB hld
    go_enter Try.func41, Try.ntmps41
    go_wp2_with fail
    exact bodyPost_ret (results_none Try.results41 _ _ _) rfl ⟨rfl, Turns.refl HB.out⟩
  | some t =>
    obtain ⟨g0, ⟨id0, birth0, ds0⟩⟩ := t
    have B0 : Box w g0 (nodeV id0 birth0 0 nils ds0) 82 := hO.now hold
    have hne : g0 ≠ o := fun e => hGo (e ▸ hO.1)
    have hds : Hid (ds0.length = 64 ∧ ∀ x ∈ ds0, (Lit.int .u8 x).wf = true) := hO.2.2.1
    have n2 : w.cell? ⟨g0, 2, none⟩ = some (.int .i64 0) := (B0.cell 2).trans (by simp [nodeV])
    have hg0 : g0 < w.heap.size := B0.lt
    have w0 : IntKind.i64.wrap ((base : Int) + 64) = (base : Int) + 64 := IntWalk.i64_in _ (by omega)
    have w1 : IntKind.i64.wrap ((off : Int) + ld) = (off : Int) + ld := IntWalk.i64_in _ (by omega)
    have hout0 : (off ≥ base + 64 ∨ off + ld ≤ base) → putU 64 0 ((some (⟨g0, ⟨id0, birth0, ds0⟩⟩ : LfP) : Option (PT 0)).map (PT.er 0)) base off xs = xs := fun h => putU_out _ _ _ _ _ _ (fun p hp h1 h2 => by omega)
    have HR := Lib.hid (data_range B0 rfl)
    have hrl : Hid ((Try.prog.info? 80).map (·.size) = some (ds0.map (Value.int .u8)).length) := by show _ = _; rw [List.length_map, hds.out.1]; kernel_rfl
    clear hO hold hB hld hz B0
    change Calls _ _ #[.pointer (some ⟨g0, 0, none⟩), .int .i64 base, .int .i64 off, .slice (some ⟨o, 0, none⟩) ld ld] w _
    by_cases h1 : off ≥ base + 64
    · have q1 : decide ((base : Int) + 64 ≤ (off : Int)) = true := by simp; omega
      rw [hout0 (.inl h1)]
      clear hout0
      go_enter Try.func41, Try.ntmps41
      go_wp2_with fail
      refine (roomW0 w).mono ?_
      rintro e w' ⟨rfl, rfl⟩
      go_wp2_with fail
      exact bodyPost_ret (results_none Try.results41 _ _ _) rfl ⟨rfl, Turns.refl HB.out⟩
    · have q1 : decide ((base : Int) + 64 ≤ (off : Int)) = false := by simp; omega
      by_cases h2 : off + ld ≤ base
      · have q2 : decide ((off : Int) + (ld : Int) ≤ (base : Int)) = true := by simp; omega
        rw [hout0 (.inr h2)]
        clear hout0
        go_enter Try.func41, Try.ntmps41
        go_wp2_with fail
        refine (roomW0 w).mono ?_
        rintro e w' ⟨rfl, rfl⟩
        go_wp2_with fail
        exact bodyPost_ret (results_none Try.results41 _ _ _) rfl ⟨rfl, Turns.refl HB.out⟩
      · have q2 : decide ((off : Int) + (ld : Int) ≤ (base : Int)) = false := by simp; omega
        obtain ⟨LF, hLF⟩ : ∃ LF, Hid ((⟨id0, birth0, ds0⟩ : Lf) = LF) := ⟨_, rfl⟩
        have eer : (some (⟨g0, ⟨id0, birth0, ds0⟩⟩ : LfP) : Option (PT 0)).map (PT.er 0) = some (show T 0 from LF) := by rw [← hLF.out]; rfl
        rw [eer]
        have hLd : Hid (LF.data = ds0) := by show _ = _; rw [← hLF.out]
        clear hout0 eer hLF
        go_enter Try.func41, Try.ntmps41
        go_wp2_with fail
        refine (roomW0 w).mono ?_
        rintro e w' ⟨rfl, rfl⟩
        go_wp2_with (refine wpList_load_mid rfl 80 (.tmp 41) rfl g0 7 rfl (ds0.map (Value.int .u8)) _ HR.out Try.underlying80 rfl hrl.out ?_)
        go_loopw [43] (fun iv wr => ∃ i : Nat, i ≤ 64 ∧ iv = .int .i64 i ∧ Hid (Turns (thBox o (u8s xs) 5) (thBox o (u8s (putU i 0 (some (show T 0 from LF)) base off xs)) 5) w wr)) (fun iv _ => 64 - (intOf iv).toNat)
        case atStart => exact ⟨0, by omega, rfl, by show Turns _ _ _ _; rw [putU_zero]; exact Turns.refl HB.out⟩
        case round =>
          obtain ⟨i, hi, rfl, hT⟩ := hrel
          by_cases hlt : i < 64
          · have BO := Lib.hid hT.out.now
            have hol : o < wr.heap.size := Box.lt BO.out
            have wa : IntKind.i64.wrap ((base : Int) + (i : Int)) = (base : Int) + (i : Int) := IntWalk.i64_in _ (by omega)
            have ii : (i : Int) < 64 := by omega
            obtain ⟨v, hv⟩ : ∃ v, ds0.getD i 0 = v := ⟨_, rfl⟩
            have hvi : Hid ((ds0.map (Value.int .u8)).toArray[i]? = some (.int .u8 v)) := by
              show _ = _
              rw [List.getElem?_toArray, List.getElem?_map, List.getElem?_eq_getElem (by have := hds.out.1; omega), ← hv]
              simp [List.getD, show i < ds0.length by have := hds.out.1; omega]
            by_cases hin : off ≤ base + i ∧ base + i < off + ld
            · obtain ⟨kk, hkk⟩ : ∃ kk, base + i - off = kk := ⟨_, rfl⟩
              have wb : IntKind.i64.wrap ((base : Int) + (i : Int) - (off : Int)) = (kk : Int) := by rw [IntWalk.i64_in _ (by omega)]; omega
              have hkl : kk < ld := by omega
              have hki : (kk : Int) < ld := by omega
              have hk0 : (0 : Int) ≤ (kk : Int) := by omega
              have hms : Hid (putU (i + 1) 0 (some (show T 0 from LF)) base off xs = (putU i 0 (some (show T 0 from LF)) base off xs).set kk v) := by
                show _ = _
                rw [leafU_step i kk base off LF xs (by omega) (by have := HL.out; omega), hLd.out, hv]
              have co : wr.cell? ⟨o, kk, none⟩ = some (.int .u8 ((putU i 0 (some (show T 0 from LF)) base off xs).getD kk 0)) := by
                rw [Box.cell BO.out kk]
                unfold u8s
                rw [List.getElem?_toArray, List.getElem?_map, List.getElem?_eq_getElem (by rw [putU_length]; have := HL.out; omega)]
                simp [List.getD, show kk < (putU i 0 (some (show T 0 from LF)) base off xs).length by rw [putU_length]; have := HL.out; omega]
              have cf : wr.frozen? ⟨o, kk, none⟩ = false := Box.free BO.out kk
              have T6 := hT.out.trans (Turns.cell BO.out kk (.int .u8 v))
              rw [u8s_set, ← hms.out] at T6
              have T7 := Lib.hid T6
              clear T6 hms hv hin hkk
              go_wp2_with (refine wpList_index_at rfl 80 (.tmp 42) (.tmp 43) rfl _ rfl i rfl 64 5 rfl hlt _ rfl rfl rfl (.int .u8 v) hvi.out ?_)
              go_roundw
              case rel => exact ⟨i + 1, by omega, by go_num, T7⟩
              case measure => (simp [intOf]; try omega)
            · have hms : Hid (putU (i + 1) 0 (some (show T 0 from LF)) base off xs = putU i 0 (some (show T 0 from LF)) base off xs) := leafU_skip i base off _ xs (by have := HL.out; omega)
              have wb : IntKind.i64.wrap ((base : Int) + (i : Int) - (off : Int)) = (base : Int) + (i : Int) - (off : Int) := IntWalk.i64_in _ (by omega)
              by_cases hlo : off ≤ base + i
              · have hk0 : decide ((0 : Int) ≤ (base : Int) + (i : Int) - (off : Int)) = true := by simp; omega
                have hki : decide ((base : Int) + (i : Int) - (off : Int) < (ld : Int)) = false := by simp; omega
                clear hin hv
                go_wp2_with (refine wpList_index_at rfl 80 (.tmp 42) (.tmp 43) rfl _ rfl i rfl 64 5 rfl hlt _ rfl rfl rfl (.int .u8 v) hvi.out ?_)
                go_roundw
                case rel => exact ⟨i + 1, by omega, by go_num, by show Turns _ _ _ _; rw [hms.out]; exact hT.out⟩
                case measure => (simp [intOf]; try omega)
              · have hk0 : decide ((0 : Int) ≤ (base : Int) + (i : Int) - (off : Int)) = false := by simp; omega
                clear hin hv
                go_wp2_with (refine wpList_index_at rfl 80 (.tmp 42) (.tmp 43) rfl _ rfl i rfl 64 5 rfl hlt _ rfl rfl rfl (.int .u8 v) hvi.out ?_)
                go_roundw
                case rel => exact ⟨i + 1, by omega, by go_num, by show Turns _ _ _ _; rw [hms.out]; exact hT.out⟩
                case measure => (simp [intOf]; try omega)
          · obtain rfl : i = 64 := by omega
            go_wp2_with fail
            exact bodyPost_ret (results_none Try.results41 _ _ _) rfl ⟨rfl, hT.out⟩
theorem thOld.kept {W w w' : World} {G : Nat → Prop} {o : Nat} {t' : Thing} {vs : Array Value} {ty : TypeId} (h : (thOld W G).holds w) (hG : ¬ G o) (ht : Turns (thBox o vs ty) t' w w') : (thOld W G).holds w' :=
  (thOld W G).keep h ht.mv (fun b hb hbo => hG (by have : b = o := hbo; exact this ▸ hb))
set_option maxHeartbeats 8000000 in
theorem readInner (n : Nat) (ih : ReadAt n) (hn : n ≤ 3) : ReadAt (n + 1) := by
  intro W G cur t o base off ld xs w hO hold hGo hB hld hz hb ho hll
  have hroom : room (n + 1) ≤ 16384 := room_mono (a := n + 1) (b := 4) (by omega)
  have HB := Lib.hid hB
  have HL := Lib.hid hld
  have HZ := Lib.hid hz
  obtain ⟨R, hR⟩ : ∃ R, Hid (room (n + 1) = R) := ⟨_, rfl⟩
  have hRW := Lib.hid (roomW (n + 1) (by omega) w)
  rw [hR.out] at hroom hb hz hRW ⊢
  cases t with
  | none =>
    change Calls _ _ #[.pointer none, .int .i64 base, .int .i64 off, .slice (some ⟨o, 0, none⟩) ld ld] w _
    have hx : putU R (n + 1) ((none : Option (PT (n + 1))).map (PT.er (n + 1))) base off xs = xs := putU_out _ _ _ _ _ _ (fun p hp h1 h2 => by rw [hz p hp h1 h2]; rfl)
    rw [hx]
    clear hz hold hB hld
    go_enter Try.func41, Try.ntmps41
    go_wp2_with fail
    exact bodyPost_ret (results_none Try.results41 _ _ _) rfl ⟨rfl, Turns.refl HB.out⟩
  | some t =>
    obtain ⟨g0, id0, birth0, ks0⟩ := t
    have B0 : Box w g0 (nodeV id0 birth0 (n + 1) (ks0.map ptr) zeros) 82 := hO.now hold
    have hk4 : ks0.length = 4 := hO.2.2.1
    have hkids := Lib.hid hO.2.2.2.2
    have HO := Lib.hid hO
    have HOLD := Lib.hid hold
    have n2 : w.cell? ⟨g0, 2, none⟩ = some (.int .i64 ((n : Int) + 1)) := (B0.cell 2).trans (by simp [nodeV])
    have hg0 : g0 < w.heap.size := B0.lt
    have w0 : IntKind.i64.wrap ((base : Int) + (R : Int)) = (base : Int) + (R : Int) := IntWalk.i64_in _ (by omega)
    have w1 : IntKind.i64.wrap ((off : Int) + ld) = (off : Int) + ld := IntWalk.i64_in _ (by omega)
    have hout0 : (off ≥ base + R ∨ off + ld ≤ base) → putU R (n + 1) ((some (⟨g0, id0, birth0, ks0⟩ : InP (PT n)) : Option (PT (n + 1))).map (PT.er (n + 1))) base off xs = xs := fun h => putU_out _ _ _ _ _ _ (fun p hp h1 h2 => by omega)
    have en : ((n + 1 : Nat) : Int) = (n : Int) + 1 := by push_cast; rfl
    rw [en] at hRW
    obtain ⟨p0, p1, p2, p3, rfl⟩ : ∃ p0 p1 p2 p3, ks0 = [p0, p1, p2, p3] := by
      match ks0, hk4 with
      | [a, b, c, d], _ => exact ⟨a, b, c, d, rfl⟩
    obtain ⟨x0, h0⟩ : ∃ x, Hid (p0.map (fun t => (⟨PT.gOf t, 0, none⟩ : Addr)) = x) := ⟨_, rfl⟩
    obtain ⟨x1, h1⟩ : ∃ x, Hid (p1.map (fun t => (⟨PT.gOf t, 0, none⟩ : Addr)) = x) := ⟨_, rfl⟩
    obtain ⟨x2, h2⟩ : ∃ x, Hid (p2.map (fun t => (⟨PT.gOf t, 0, none⟩ : Addr)) = x) := ⟨_, rfl⟩
    obtain ⟨x3, h3⟩ : ∃ x, Hid (p3.map (fun t => (⟨PT.gOf t, 0, none⟩ : Addr)) = x) := ⟨_, rfl⟩
    have c3 : w.cell? ⟨g0, 3, none⟩ = some (.pointer x0) := by rw [← h0.out]; exact B0.cell 3
    have c4 : w.cell? ⟨g0, 4, none⟩ = some (.pointer x1) := by rw [← h1.out]; exact B0.cell 4
    have c5 : w.cell? ⟨g0, 5, none⟩ = some (.pointer x2) := by rw [← h2.out]; exact B0.cell 5
    have c6 : w.cell? ⟨g0, 6, none⟩ = some (.pointer x3) := by rw [← h3.out]; exact B0.cell 6
    clear hO hold hB hld hz B0 hk4
    change Calls _ _ #[.pointer (some ⟨g0, 0, none⟩), .int .i64 base, .int .i64 off, .slice (some ⟨o, 0, none⟩) ld ld] w _
    by_cases h1' : off ≥ base + R
    · have q1 : decide ((base : Int) + (R : Int) ≤ (off : Int)) = true := by simp; omega
      rw [hout0 (.inl h1')]
      clear hout0
      go_enter Try.func41, Try.ntmps41
      go_wp2_with fail
      refine hRW.out.mono ?_
      rintro e w' ⟨rfl, rfl⟩
      go_wp2_with fail
      exact bodyPost_ret (results_none Try.results41 _ _ _) rfl ⟨rfl, Turns.refl HB.out⟩
    · have q1 : decide ((base : Int) + (R : Int) ≤ (off : Int)) = false := by simp; omega
      by_cases h2' : off + ld ≤ base
      · have q2 : decide ((off : Int) + (ld : Int) ≤ (base : Int)) = true := by simp; omega
        rw [hout0 (.inr h2')]
        clear hout0
        go_enter Try.func41, Try.ntmps41
        go_wp2_with fail
        refine hRW.out.mono ?_
        rintro e w' ⟨rfl, rfl⟩
        go_wp2_with fail
        exact bodyPost_ret (results_none Try.results41 _ _ _) rfl ⟨rfl, Turns.refl HB.out⟩
      · have q2 : decide ((off : Int) + (ld : Int) ≤ (base : Int)) = false := by simp; omega
        obtain ⟨TT, hTT⟩ : ∃ TT, Hid (PT.er (n + 1) (show PT (n + 1) from (⟨g0, id0, birth0, [p0, p1, p2, p3]⟩ : InP (PT n))) = TT) := ⟨_, rfl⟩
        have eer : (some (⟨g0, id0, birth0, [p0, p1, p2, p3]⟩ : InP (PT n)) : Option (PT (n + 1))).map (PT.er (n + 1)) = some TT := by rw [← hTT.out]; rfl
        rw [eer]
        have hKT : Hid (In.kids TT = [p0, p1, p2, p3].map (Option.map (PT.er n))) := by show _ = _; rw [← hTT.out]; rfl
        have HG := Lib.hid hGo
        obtain ⟨r, hr⟩ : ∃ r, Hid (room n = r) := ⟨_, rfl⟩
        have hrl : r ≤ 4096 := by rw [← hr.out]; exact room_mono (a := n) (b := 3) (by omega)
        have hrR : 4 * r = R := by rw [← hr.out, ← hR.out, room_succ]
        have hn1 : IntKind.i64.wrap ((n : Int) + 1 - 1) = (n : Int) := by rw [IntWalk.i64_in _ (by omega)]; omega
        have e40 : R = 4 * room n := by have h1 := hr.out; omega
        have E4 := Lib.hid e40
        clear hout0 eer hTT hGo e40
        go_enter Try.func41, Try.ntmps41
        go_wp2_with fail
        refine hRW.out.mono ?_
        rintro e w' ⟨rfl, rfl⟩
        go_wp2_with fail
        go_loopw [69] (fun iv wr => ∃ i : Nat, i ≤ 4 ∧ iv = .int .i64 i ∧ Hid (Turns (thBox o (u8s xs) 5) (thBox o (u8s (putU (i * room n) (n + 1) (some TT) base off xs)) 5) w wr)) (fun iv _ => 4 - (intOf iv).toNat)
        case atStart => exact ⟨0, by omega, rfl, by show Turns _ _ _ _; rw [Nat.zero_mul, putU_zero]; exact Turns.refl HB.out⟩
        case round =>
          obtain ⟨i, hi, rfl, hT⟩ := hrel
          by_cases hlt : i < 4
          · have ii : (i : Int) < 4 := by omega
            obtain ⟨q, hq⟩ : ∃ q, Hid ([p0, p1, p2, p3][i]? = some q) := ⟨([p0, p1, p2, p3].get ⟨i, hlt⟩), by show _ = _; rw [List.getElem?_eq_getElem hlt]; rfl⟩
            obtain ⟨x, hx⟩ : ∃ x, Hid (q.map (fun t => (⟨PT.gOf t, 0, none⟩ : Addr)) = x) := ⟨_, rfl⟩
            have hv : Hid ((#[Value.pointer x0, .pointer x1, .pointer x2, .pointer x3] : Array Value)[i]? = some (.pointer x)) := by
              have hi4 : i = 0 ∨ i = 1 ∨ i = 2 ∨ i = 3 := by omega
              have hqq := hq.out
              rcases hi4 with rfl | rfl | rfl | rfl
              · obtain rfl : p0 = q := by simpa using hqq
                obtain rfl : x0 = x := h0.out.symm.trans hx.out
                rfl
              · obtain rfl : p1 = q := by simpa using hqq
                obtain rfl : x1 = x := h1.out.symm.trans hx.out
                rfl
              · obtain rfl : p2 = q := by simpa using hqq
                obtain rfl : x2 = x := h2.out.symm.trans hx.out
                rfl
              · obtain rfl : p3 = q := by simpa using hqq
                obtain rfl : x3 = x := h3.out.symm.trans hx.out
                rfl
            have hold' := thOld.kept HOLD.out HG.out hT.out
            have B' : Box wr g0 (nodeV id0 birth0 (n + 1) ([p0, p1, p2, p3].map ptr) zeros) 82 := HO.out.now hold'
            have n2' : wr.cell? ⟨g0, 2, none⟩ = some (.int .i64 ((n : Int) + 1)) := (B'.cell 2).trans (by simp [nodeV])
            have hg0' : g0 < wr.heap.size := B'.lt
            have hir : i * r ≤ 3 * r := Nat.mul_le_mul_right _ (by omega)
            have hKq : (In.kids TT)[i]? = some (q.map (PT.er n)) := by rw [hKT.out, List.getElem?_map, hq.out]; rfl
            have hZ' : Zero0 (room n) (base + i * room n) off (putU (i * room n) (n + 1) (some TT) base off xs) := innerU_zero n i base off TT xs hlt HZ.out
            have HIH := ih W G cur q o (base + i * room n) off ld (putU (i * room n) (n + 1) (some TT) base off xs) wr (hkids.out q (List.mem_of_getElem? hq.out)) hold' HG.out hT.out.now (by rw [putU_length]; exact HL.out) hZ' (by have h5 : (i + 1) * room n ≤ 4 * room n := Nat.mul_le_mul_right _ hlt; rw [Nat.add_mul, Nat.one_mul] at h5; have := E4.out; omega) ho hll
            rw [innerU_step n i base off TT (q.map (PT.er n)) xs hKq] at HIH
            have eP : ptr q = .pointer x := by rw [← hx.out]; rfl
            obtain ⟨ir, hir2⟩ : ∃ ir : Nat, i * r = ir := ⟨_, rfl⟩
            have hir3 : (i : Int) * (r : Int) = (ir : Int) := by rw [← hir2]; push_cast; rfl
            have eB : ((base + i * room n : Nat) : Int) = (base : Int) + (ir : Int) := by rw [hr.out, hir2]; push_cast; rfl
            rw [eP, eB] at HIH
            have HI := Lib.hid HIH
            have HRM := Lib.hid (roomW n (by omega) wr)
            rw [hr.out] at HRM
            have wi : IntKind.i64.wrap ((i : Int) * (r : Int)) = (ir : Int) := by rw [hir3]; exact IntWalk.i64_in _ (by omega)
            have wb : IntKind.i64.wrap ((base : Int) + (ir : Int)) = (base : Int) + (ir : Int) := IntWalk.i64_in _ (by omega)
            clear HIH hold' B' hKq hZ' eP eB hir2 hir3 hir c3 c4 c5 c6 n2
            go_wp2_with (refine wpList_index_at rfl 79 (.tmp 68) (.tmp 69) rfl #[Value.pointer x0, .pointer x1, .pointer x2, .pointer x3] rfl i rfl 4 76 rfl hlt _ rfl rfl rfl (.pointer x) hv.out ?_)
            refine HRM.out.mono ?_
            rintro e w' ⟨rfl, rfl⟩
            go_wp2_with fail
            refine HI.out.mono ?_
            rintro e w5 ⟨rfl, hT5⟩
            have T7 := Lib.hid (hT.out.trans hT5)
            clear hT5
            go_wp2_with fail
            refine ⟨?_, ?measure⟩
            (repeat apply Exists.intro)
            refine ⟨?rel, rfl⟩
            case rel => exact ⟨i + 1, by omega, by go_num, T7⟩
            case measure => (simp [intOf]; try omega)
          · obtain rfl : i = 4 := by omega
            have e4 := E4.out
            rw [← e4] at hT
            go_wp2_with fail
            exact bodyPost_end (results_none Try.results41 _ _ _) rfl ⟨rfl, hT.out⟩
theorem readAt : ∀ (n : Nat), n ≤ 4 → ReadAt n
  | 0, _ => readLeaf
  | n + 1, h => readInner n (readAt n (by omega)) (by omega)
def readO (v : Ver) (off count : Nat) : List Int := if v.size ≤ off then [] else (List.range (min count (v.size - off))).map fun p => Rt.get v.root (off + p)
def Ver.er (x : Option PRt × Nat) : Ver := ⟨x.1.map PRt.er, x.2⟩
theorem readO_put (r : PRt) (size off count : Nat) (h : ¬ size ≤ off) : putU (room r.1) r.1 (some (PT.er r.1 r.2)) 0 off (List.replicate (min count (size - off)) 0) = readO ⟨some (PRt.er r), size⟩ off count := by
  unfold readO putU
  rw [if_neg h, List.length_replicate]
  apply List.map_congr_left
  intro p hp
  have hp' := List.mem_range.1 hp
  show _ = if off + p < room r.1 then T.get r.1 (some (PT.er r.1 r.2)) (off + p) else 0
  by_cases h2 : off + p < room r.1
  · rw [if_pos h2, if_pos ⟨by omega, by omega⟩]; rfl
  · rw [if_neg h2, if_neg (by omega)]
    rw [List.getD_eq_getElem?_getD, List.getElem?_replicate]; split <;> rfl
theorem get_wf {W : World} {G : Nat → Prop} {cur : Nat} : ∀ (n : Nat) (t : Option (PT n)) (p : Nat), OldT W G cur n t → (Lit.int .u8 (T.get n (t.map (PT.er n)) p)).wf = true
  | n, none, p, _ => by rw [Option.map_none, T.get_none]; rfl
  | 0, some t, p, h => by
    show (Lit.int .u8 ((Lf.data (LfP.lf t)).getD p 0)).wf = true
    rw [List.getD_eq_getElem?_getD]
    cases hq : (Lf.data (LfP.lf t))[p]? with
    | none => rfl
    | some v => exact h.2.2.1.2 v (List.mem_of_getElem? hq)
  | n + 1, some t, p, h => by
    show (Lit.int .u8 (T.get n ((((InP.kids t).map (Option.map (PT.er n)))).getD (p / room n) none) (p % room n))).wf = true
    rw [List.getD_eq_getElem?_getD, List.getElem?_map]
    cases hq : (InP.kids t)[p / room n]? with
    | none => show (Lit.int .u8 (T.get n none (p % room n))).wf = true; rw [T.get_none]; rfl
    | some k => exact get_wf n k (p % room n) (h.2.2.2.2 k (List.mem_of_getElem? hq))
theorem readO_wf {W : World} {G : Nat → Prop} {cur : Nat} {r : Option PRt} (size off count : Nat) (h : OldR W G cur r) : ∀ x ∈ readO (Ver.er (r, size)) off count, (Lit.int .u8 x).wf = true := by
  intro x hx
  unfold readO at hx
  split at hx
  · cases hx
  · obtain ⟨p, _, rfl⟩ := List.mem_map.1 hx
    cases r with
    | none => rfl
    | some r =>
      show (Lit.int .u8 (if off + p < room r.1 then T.get r.1 (some (PT.er r.1 r.2)) (off + p) else 0)).wf = true
      split
      · exact get_wf r.1 (some r.2) (off + p) h
      · rfl
theorem readR (W : World) (G : Nat → Prop) (cur : Nat) (r : Option PRt) (size off count o m : Nat) (w : World) (hO : OldR W G cur r) (hold : (thOld W G).holds w) (hGo : ¬ G o) (hl : ∀ q, r = some q → q.1 ≤ 4) (hs : size ≤ 4096) (h1 : ¬ size ≤ off) (hm : min count (size - off) = m)
    (hB : Box w o (u8s (List.replicate m 0)) 5) :
    Calls Try.prog 41 #[rptr r, .int .i64 0, .int .i64 off, .slice (some ⟨o, 0, none⟩) m m] w fun e w' =>
      e = .returned (.tuple #[]) ∧ Turns (thBox o (u8s (List.replicate m 0)) 5) (thBox o (u8s (readO (Ver.er (r, size)) off count)) 5) w w' := by
  have hz : ∀ u base, Zero0 u base off (List.replicate m 0) := fun u base p hp _ _ => by
    rw [List.getD_eq_getElem?_getD, List.getElem?_replicate]; split <;> rfl
  have hml : m ≤ 4096 := by omega
  cases r with
  | none =>
    have := readAt 0 (by omega) W G cur none o 0 off m (List.replicate m 0) w trivial hold hGo hB (by simp) (hz _ _) (by decide) (by omega) (by omega)
    refine this.mono ?_
    rintro e w' ⟨rfl, hT⟩
    refine ⟨rfl, ?_⟩
    have e1 : putU (room 0) 0 ((none : Option (PT 0)).map (PT.er 0)) 0 off (List.replicate m 0) = readO (Ver.er (none, size)) off count := by
      rw [putU_out _ _ _ _ _ _ (fun p hp h1 h2 => by rw [hz (room 0) 0 p hp h1 h2]; rfl)]
      show _ = if size ≤ off then [] else _
      rw [if_neg h1]
      show _ = (List.range (min count (size - off))).map fun p => (0 : Int)
      rw [hm]
      refine List.ext_getElem (by simp) (fun i h1 h2 => by simp)
    rw [e1] at hT; exact hT
  | some r =>
    obtain ⟨n, t⟩ := r
    have hn := hl ⟨n, t⟩ rfl
    have hrm : room n ≤ room 4 := room_mono hn
    have hr4 : room 4 = 16384 := by decide
    have := readAt n hn W G cur (some t) o 0 off m (List.replicate m 0) w hO hold hGo hB (by simp) (hz _ _) (by omega) (by omega) (by omega)
    refine this.mono ?_
    rintro e w' ⟨rfl, hT⟩
    refine ⟨rfl, ?_⟩
    have e1 := readO_put ⟨n, t⟩ size off count h1
    rw [hm] at e1
    have e2 : putU (room n) n ((some t : Option (PT n)).map (PT.er n)) 0 off (List.replicate m 0) = readO (Ver.er (some ⟨n, t⟩, size)) off count := e1
    rw [e2] at hT; exact hT
theorem byteOwn {w : World} {B o m : Nat} {xs : List Int} (h : Box w o (u8s xs) 5) (hB : B ≤ o) (hm : xs.length = m) (hx : m ≤ maxLen) (hw : ∀ x ∈ xs, (Lit.int .u8 x).wf = true) :
    (thOwn (Lay.int .u8) B 5 (some ⟨o, 0, none⟩) m m xs).holds w := by
  refine ⟨hm, xs.map fun x => [Value.int .u8 x], fun _ => False, ⟨?_, .inr ⟨o, m, u8s xs, rfl, hB, h, Nat.le_refl _, hx, ?_, ?_⟩⟩, Pt.ints hw, fun b hb => hb.elim⟩
  · rw [flatten_ints]; show (xs.map (Value.int .u8)).length = m * 1; simp [hm]
  · show (u8s xs).size = m * 1; simp [u8s, hm]
  · rw [flatten_ints]; show (u8s xs).toList.take (m * 1) = _; unfold u8s; rw [Nat.mul_one]; show (xs.map (Value.int .u8)).take m = _; exact List.take_of_length_le (by rw [List.length_map]; omega)
set_option maxHeartbeats 8000000 in
theorem readW (W : World) (G : Nat → Prop) (cur : Nat) (r : Option PRt) (size off count : Nat) (w : World) (hO : OldR W G cur r) (hold : (thOld W G).holds w) (hG : ∀ b, G b → b < w.heap.size) (hl : ∀ q, r = some q → q.1 ≤ 4) (hs : size ≤ 4096) :
    Calls Try.prog 34 #[.agg #[rptr r, .int .i64 size], .int .i64 off, .int .i64 count] w fun e w' =>
      ∃ a n c, e = .returned (.slice a n c) ∧ Hid (Turns (thAll []) (thOwn (Lay.int .u8) w.heap.size 5 a n c (readO (Ver.er (r, size)) off count)) w w') := by
  have ex0 : ∃ x0, rptr r = .pointer x0 := ⟨_, rfl⟩
  have HO := Lib.hid hO
  have HOLD := Lib.hid hold
  have HG := Lib.hid hG
  have HL := Lib.hid hl
  by_cases h1 : size ≤ off
  · obtain ⟨x0, ex0⟩ := ex0
    rw [ex0]
    have q1 : decide ((size : Int) ≤ (off : Int)) = true := by simp; omega
    have hx : readO (Ver.er (r, size)) off count = [] := by unfold readO; exact if_pos h1
    rw [hx]
    clear hx ex0 hO hold hG hl
    go_enter Try.func34, Try.ntmps34
    go_wp2_with fail
    go_ret
    exact ⟨none, 0, 0, rfl, ⟨SOwn.nil .., Mv.alloc _ _, fun b hb => by cases (show (none : Option Nat) = some b from hb)⟩⟩
  · have q1 : decide ((size : Int) ≤ (off : Int)) = false := by simp; omega
    have w1 : IntKind.i64.wrap ((size : Int) - (off : Int)) = (size : Int) - (off : Int) := IntWalk.i64_in _ (by omega)
    obtain ⟨m, hm⟩ : ∃ m, min count (size - off) = m := ⟨_, rfl⟩
    have hrl : (readO (Ver.er (r, size)) off count).length = m := by unfold readO; show (if size ≤ off then _ else _ : List Int).length = m; rw [if_neg h1, List.length_map, List.length_range]; exact hm
    have HRL := Lib.hid hrl
    have HM := Lib.hid hm
    have hml : m ≤ 4096 := by omega
    have hR := fun o w2 (hb2 : Below w.heap.size w w2) (ho : ¬ G o) (hB : Box w2 o (u8s (List.replicate m 0)) 5) => readR W G cur r size off count o m w2 hO (Thing.below hold hb2) ho hl hs h1 hm hB
    obtain ⟨x0, ex0⟩ := ex0
    rw [ex0] at hR ⊢
    have HR := Lib.hid hR
    have hbx : Hid (Below w.heap.size w (w.alloc (.cells #[.pointer x0, .int .i64 size] 78))) := Below_alloc1 _
    have hbn : Hid (Box (w.alloc (.cells #[.pointer x0, .int .i64 size] 78)) w.heap.size #[.pointer x0, .int .i64 size] 78) := Box.new rfl
    have H1 := Lib.hid h1
    clear hR ex0 hO hold hG hl hrl h1
    by_cases hc : count ≤ size - off
    · have q2 : decide ((count : Int) ≤ (size : Int) - (off : Int)) = true := by have := H1.out; simp; omega
      have q4 : ¬ ((size : Int) - (off : Int) < (count : Int)) := by have := H1.out; omega
      have hmc : Hid ((count : Int) = (m : Int)) := by show _ = _; omega
      clear hm hc
      go_enter Try.func34, Try.ntmps34
      go_wp2_with (refine wpList_make_zeros rfl (.tmp 17) (.tmp 17) 23 rfl 5 (.int .u8 0) 1 Try.underlying23 info_byte0 rfl .i64 .i64 _ _ m rfl rfl hmc.out hmc.out (by omega) (by unfold maxLen; omega) ?_; intro w2 hown2 hb2; have c0 : w2.cell? ⟨w.heap.size, 0, none⟩ = some (.pointer x0) := (hbn.out.below hb2 (by simp)).cell 0; have hbl : w.heap.size < w2.heap.size := (hbn.out.below hb2 (by simp)).lt)
      obtain ⟨o, ho⟩ : ∃ o, Hid ((w.alloc (.cells #[.pointer x0, .int .i64 size] 78)).heap.size = o) := ⟨_, rfl⟩
      have ho1 : o = w.heap.size + 1 := by rw [← ho.out]; simp
      rw [show w.heap.size + 1 = o from ho1.symm]
      rw [ho.out] at hown2 hb2
      have hBw : Below w.heap.size w w2 := hbx.out.trans (hb2.mono (by omega))
      have hBo : Box w2 o (u8s (List.replicate m 0)) 5 := by
        have := Own.box hown2
        rw [show (List.replicate m (Value.int .u8 0)).toArray = u8s (List.replicate m 0) by unfold u8s; rw [List.map_replicate]] at this
        exact this
      have HC := Lib.hid (HR.out o w2 hBw (fun hg => by have := HG.out o hg; omega) hBo)
      have T1 : Hid (Turns (thAll []) (thBox o (u8s (List.replicate m 0)) 5) w w2) := ⟨hBo, Mv.below hBw, fun b hb => .inr (by have : b = o := hb; omega)⟩
      have HO1 := Lib.hid ho1
      clear hBo hBw hown2 hb2 ho1
      refine HC.out.mono ?_
      rintro e w5 ⟨rfl, hT5⟩
      have T6 := T1.out.trans hT5
      have T7 := Lib.hid (T6.trans (t'' := thOwn (Lay.int .u8) w.heap.size 5 (some ⟨o, 0, none⟩) m m (readO (Ver.er (r, size)) off count)) ⟨byteOwn T6.now (by have := HO1.out; omega) HRL.out (by unfold maxLen; omega) (readO_wf size off count HO.out), Mv.refl _ _, fun b hb => .inl (by have : some o = some b := hb; injection this with this; exact this.symm)⟩)
      clear T6 hT5
      go_wp2_with fail
      go_ret
      exact ⟨some ⟨o, 0, none⟩, m, m, rfl, T7⟩
    · have q2 : decide ((count : Int) ≤ (size : Int) - (off : Int)) = false := by have := H1.out; simp; omega
      have q4 : (size : Int) - (off : Int) < (count : Int) := by have := H1.out; omega
      have hmc : Hid ((size : Int) - (off : Int) = (m : Int)) := by have := H1.out; show _ = _; omega
      clear hm hc
      go_enter Try.func34, Try.ntmps34
      go_wp2_with (refine wpList_make_zeros rfl (.tmp 17) (.tmp 17) 23 rfl 5 (.int .u8 0) 1 Try.underlying23 info_byte0 rfl .i64 .i64 _ _ m rfl rfl hmc.out hmc.out (by omega) (by unfold maxLen; omega) ?_; intro w2 hown2 hb2; have c0 : w2.cell? ⟨w.heap.size, 0, none⟩ = some (.pointer x0) := (hbn.out.below hb2 (by simp)).cell 0; have hbl : w.heap.size < w2.heap.size := (hbn.out.below hb2 (by simp)).lt)
      obtain ⟨o, ho⟩ : ∃ o, Hid ((w.alloc (.cells #[.pointer x0, .int .i64 size] 78)).heap.size = o) := ⟨_, rfl⟩
      have ho1 : o = w.heap.size + 1 := by rw [← ho.out]; simp
      rw [show w.heap.size + 1 = o from ho1.symm]
      rw [ho.out] at hown2 hb2
      have hBw : Below w.heap.size w w2 := hbx.out.trans (hb2.mono (by omega))
      have hBo : Box w2 o (u8s (List.replicate m 0)) 5 := by
        have := Own.box hown2
        rw [show (List.replicate m (Value.int .u8 0)).toArray = u8s (List.replicate m 0) by unfold u8s; rw [List.map_replicate]] at this
        exact this
      have HC := Lib.hid (HR.out o w2 hBw (fun hg => by have := HG.out o hg; omega) hBo)
      have T1 : Hid (Turns (thAll []) (thBox o (u8s (List.replicate m 0)) 5) w w2) := ⟨hBo, Mv.below hBw, fun b hb => .inr (by have : b = o := hb; omega)⟩
      have HO1 := Lib.hid ho1
      clear hBo hBw hown2 hb2 ho1
      refine HC.out.mono ?_
      rintro e w5 ⟨rfl, hT5⟩
      have T6 := T1.out.trans hT5
      have T7 := Lib.hid (T6.trans (t'' := thOwn (Lay.int .u8) w.heap.size 5 (some ⟨o, 0, none⟩) m m (readO (Ver.er (r, size)) off count)) ⟨byteOwn T6.now (by have := HO1.out; omega) HRL.out (by unfold maxLen; omega) (readO_wf size off count HO.out), Mv.refl _ _, fun b hb => .inl (by have : some o = some b := hb; injection this with this; exact this.symm)⟩)
      clear T6 hT5
      go_wp2_with fail
      go_ret
      exact ⟨some ⟨o, 0, none⟩, m, m, rfl, T7⟩
end Go.Proofs.Ythjjfmnipemakaa
