/- The walks of replayed, Replay, Condense. -/
import Derived.Test.YteidmdakglkkfaaSpA
namespace Go.Proofs.Yteidmdakglkkfaa
open Go.RowKit
set_option linter.unusedVariables false

def isOf (b : Bool) : Nat := if b then 0 else 1
def wasOf (b : Bool) : Nat := if b then 1 else 0
def rplStep (us : List Nat) (r : Bool × Nat × Nat) : List Nat := setR us r.2.1 r.2.2 (isOf r.1)
def rpl (us : List Nat) (log : List (Bool × Nat × Nat)) : List Nat := log.foldl rplStep us
/-- a log that can be replayed -/
def RplOk (n : Nat) : List Nat → List (Bool × Nat × Nat) → Prop
  | _, [] => True
  | us, r :: rs => r.2.1 < r.2.2 ∧ r.2.2 ≤ n ∧ (∀ j, r.2.1 ≤ j → j < r.2.2 → us.getD j 0 = wasOf r.1) ∧ RplOk n (rplStep us r) rs
theorem RplOk.append {n : Nat} : ∀ {l m : List (Bool × Nat × Nat)} {us : List Nat}, RplOk n us l → RplOk n (rpl us l) m → RplOk n us (l ++ m)
  | [], _, _, _, h => h
  | r :: rs, m, us, h, k => ⟨h.1, h.2.1, h.2.2.1, RplOk.append h.2.2.2 k⟩
theorem rpl_append (us : List Nat) (l m : List (Bool × Nat × Nat)) : rpl us (l ++ m) = rpl (rpl us l) m := by simp [rpl]
theorem RplOk.get {n : Nat} : ∀ {l : List (Bool × Nat × Nat)} {us : List Nat}, RplOk n us l → ∀ k, (h : k < l.length) → l[k].2.1 < l[k].2.2 ∧ l[k].2.2 ≤ n ∧ ∀ j, l[k].2.1 ≤ j → j < l[k].2.2 → (rpl us (l.take k)).getD j 0 = wasOf l[k].1
  | [], _, _, k, h => by simp at h
  | r :: rs, us, h, 0, _ => ⟨h.1, h.2.1, h.2.2.1⟩
  | r :: rs, us, h, k + 1, hk => by
    have := RplOk.get h.2.2.2 k (by simpa using hk)
    exact this
theorem rpl_length {n : Nat} : ∀ {l : List (Bool × Nat × Nat)} {us : List Nat}, RplOk n us l → us.length = n → (rpl us l).length = n
  | [], _, _, h => h
  | r :: rs, us, h, hu => rpl_length (l := rs) (us := rplStep us r) h.2.2.2 (by show (setR _ _ _ _).length = n; rw [setR_length _ _ _ _ (Nat.le_of_lt h.1) (by rw [hu]; exact h.2.1)]; exact hu)
theorem RplOk.take {n : Nat} : ∀ {l : List (Bool × Nat × Nat)} {us : List Nat}, RplOk n us l → ∀ k, RplOk n us (l.take k)
  | [], _, _, k => by rw [List.take_nil]; trivial
  | r :: rs, us, h, 0 => trivial
  | r :: rs, us, h, k + 1 => ⟨h.1, h.2.1, h.2.2.1, RplOk.take h.2.2.2 k⟩
theorem rpl_take (us : List Nat) (l : List (Bool × Nat × Nat)) (k : Nat) (h : k < l.length) : rpl us (l.take (k + 1)) = rplStep (rpl us (l.take k)) l[k] := by
  unfold rpl; rw [List.take_succ_eq_append_getElem h, List.foldl_append]; rfl

def noughts (n : Nat) : List Nat := List.replicate n 0
def Replayed (n : Nat) (log : List (Bool × Nat × Nat)) (w : World) (e : Ending) (w' : World) : Prop :=
  ∃ g gu : Nat, e = .returned (.tuple #[.pointer (some ⟨g, 0, none⟩), .int .i64 0]) ∧ Hid (Box w' g #[.slice (some ⟨gu, 0, none⟩) n n, .int .i64 0, .slice none 0 0] 99) ∧ Hid (Box w' gu (us8 (rpl (noughts n) log)) 5) ∧ Below w.heap.size w w'
set_option maxRecDepth 100000 in
set_option maxHeartbeats 8000000 in
theorem replayed (n : Nat) (F : Nat → Prop) (a : Option Addr) (len cap : Nat) (log : List (Bool × Nat × Nat)) (w : World) (ha : SRow recL w F a len cap log) (hok : RplOk n (noughts n) log) (hn1 : 1 ≤ n) (hn : n ≤ 4096) (hl : len ≤ 4096) :
    Calls Try.prog 37 #[.int .i64 n, .slice a len cap] w (Replayed n log w) := by
  have hle := ha.hle
  have hmx := ha.hmax
  unfold maxLen at hmx
  have hdl := Lib.hid ha.1
  have HOK := Lib.hid hok
  have HLN := Lib.hid (fun k => rpl_length (hok.take k) (show (noughts n).length = n by simp [noughts]))
  have b1 : decide ((1 : Int) ≤ (n : Int)) = true := by simp; omega
  have b2 : decide ((n : Int) ≤ 4096) = true := by simp; omega
  have b3 : decide ((4096 : Int) < (len : Int)) = false := by simp; omega
  obtain ⟨B, hBB⟩ : ∃ B, Hid (w.heap.size = B) := ⟨_, rfl⟩
  clear hok
  go_enter Try.func37, Try.ntmps37
  go_wp2_with (first | (go_at_call 35; go_in) | (at_make; refine wpList_make_zeros rfl (.tmp 18) (.tmp 18) 59 rfl 5 (.int .u8 0) 1 Try.underlying59 info_u8' rfl .i64 .i64 (n : Int) (n : Int) n rfl rfl rfl rfl (by omega) (by unfold maxLen; omega) ?_))
  intro w1 hoz hb1
  have hu1 : Box w1 w.heap.size (us8 (noughts n)) 5 := by
    have := hoz.box
    rwa [show (List.replicate n (Value.int .u8 0)).toArray = us8 (noughts n) by simp [us8, noughts]] at this
  obtain ⟨gu, hgu⟩ : ∃ gu, Hid (w.heap.size = gu) := ⟨_, rfl⟩
  rw [hgu.out] at hu1
  rw [hgu.out]
  have HU1 := Lib.hid (hu1.alloc (.cells #[.slice (some ⟨gu, 0, none⟩) n n, .int .i64 0, .slice none 0 0] 99))
  have HG1 := Lib.hid (Box.new (w := w1) (vs := #[.slice (some ⟨gu, 0, none⟩) n n, .int .i64 0, .slice none 0 0]) (t := 99) rfl)
  have HB1 := Lib.hid (show Below B w (w1.alloc (.cells #[.slice (some ⟨gu, 0, none⟩) n n, .int .i64 0, .slice none 0 0] 99)) by rw [← hBB.out]; exact hb1.alloc hb1.size _)
  have hBg : B ≤ w1.heap.size := by have := hb1.size; have := hBB.out; omega
  have hBu : B ≤ gu := by have := hgu.out; have := hBB.out; omega
  obtain ⟨g, hg⟩ : ∃ g, Hid (w1.heap.size = g) := ⟨_, rfl⟩
  rw [hg.out] at HG1 hBg
  clear hoz hu1 b1 b2 b3 hb1
  go_wp2_with fail
  rw [hg.out]
  obtain ⟨W, hW⟩ : ∃ W, W = w1.alloc (.cells #[.slice (some ⟨gu, 0, none⟩) n n, .int .i64 0, .slice none 0 0] 99) := ⟨_, rfl⟩
  rw [← hW] at HU1 HG1 HB1 ⊢
  clear hW
  go_loopw [24] (fun iv wr => ∃ k : Nat, k ≤ len ∧ iv = .int .i64 k ∧ Hid (Box wr g #[.slice (some ⟨gu, 0, none⟩) n n, .int .i64 0, .slice none 0 0] 99) ∧ Hid (Box wr gu (us8 (rpl (noughts n) (log.take k))) 5) ∧ Hid (Below B w wr)) (fun iv _ => len - (intOf iv).toNat)
  case atStart => exact ⟨0, by omega, rfl, HG1.out, HU1.out, HB1.out⟩
  case round =>
    obtain ⟨k, hk, rfl, hbg, hbu, hbl⟩ := hrel
    by_cases hlt : k < len
    · have hkd : k < log.length := by have := hdl.out; omega
      obtain ⟨b, off, vs, rfl, _, hbw, hat, hcell⟩ := ha.get k hlt
      have hvs := hat log[k] (List.getElem?_eq_getElem hkd)
      obtain ⟨o1, o2, o3⟩ := HOK.out.get k hkd
      have hnx := rpl_take (noughts n) log k hkd
      have hun := HLN.out k
      obtain ⟨r, hr⟩ : ∃ r : Bool × Nat × Nat, Hid (log[k] = r) := ⟨log[k], rfl⟩
      rw [hr.out] at hvs o1 o2 o3 hnx
      obtain ⟨us, hus⟩ : ∃ us, Hid (rpl (noughts n) (log.take k) = us) := ⟨_, rfl⟩
      rw [hus.out] at hbu o3 hnx hun
      obtain ⟨fr, f, t⟩ := r
      have hvs' : vs = [.bool fr, .int .i64 (f : Int), .int .i64 (t : Int)] := hvs
      subst hvs'
      simp only at o1 o2 o3
      have hbB : b < B := by have := hBB.out; omega
      have e0 : wr.cell? ⟨b, off + k * 3, none⟩ = some (.bool fr) := (hbl.out.cell (p := ⟨b, off + k * 3, none⟩) hbB).trans (hcell 0 (by decide))
      have e1 : wr.cell? ⟨b, off + k * 3 + 1, none⟩ = some (.int .i64 f) := (hbl.out.cell (p := ⟨b, off + k * 3 + 1, none⟩) hbB).trans (hcell 1 (by decide))
      have e2 : wr.cell? ⟨b, off + k * 3 + 2, none⟩ = some (.int .i64 t) := (hbl.out.cell (p := ⟨b, off + k * 3 + 2, none⟩) hbB).trans (hcell 2 (by decide))
      have hal : allR us f t (wasOf fr) = true := by
        unfold allR
        rw [List.all_eq_true]
        intro j hj
        rw [List.mem_range'_1] at hj
        rw [o3 j (by omega) (by omega)]; simp
      have HAL := Lib.hid hal
      have HNX := Lib.hid hnx
      have HUN := Lib.hid hun
      have hBwr : B ≤ wr.heap.size := by have := hbg.out.lt; omega
      have t1 : decide ((f : Int) < 0) = false := by simp
      have t2 : decide (t ≤ f) = false := by simp; omega
      have t3 : decide (n < t) = false := by simp; omega
      clear hcell hat hvs hal hnx hun o3
      cases fr with
      | false =>
        go_wp2_with fail
        have G0 := Lib.hid ((hbg.out.alloc (.cells #[.bool false, .int .i64 f, .int .i64 t] 106)).alloc (.cells #[.int .i64 f, .int .i64 t] 95))
        have U0 := Lib.hid ((hbu.out.alloc (.cells #[.bool false, .int .i64 f, .int .i64 t] 106)).alloc (.cells #[.int .i64 f, .int .i64 t] 95))
        have R0 := Lib.hid (Box.new (w := wr.alloc (.cells #[.bool false, .int .i64 f, .int .i64 t] 106)) (vs := #[.int .i64 f, .int .i64 t]) (t := 95) (g := wr.heap.size + 1) (by simp))
        have L0 := Lib.hid ((hbl.out.alloc hBwr (.cells #[.bool false, .int .i64 f, .int .i64 t] 106)).alloc (by simp; omega) (.cells #[.int .i64 f, .int .i64 t] 95))
        obtain ⟨V, hV⟩ : ∃ V, V = (wr.alloc (.cells #[.bool false, .int .i64 f, .int .i64 t] 106)).alloc (.cells #[.int .i64 f, .int .i64 t] 95) := ⟨_, rfl⟩
        rw [← hV] at G0 U0 R0 L0 ⊢
        obtain ⟨x, hx⟩ : ∃ x, Hid (wr.heap.size + 1 = x) := ⟨_, rfl⟩
        rw [hx.out] at R0 ⊢
        clear hV hbg hbu hbl e0 e1 e2
        have G0' : Hid (Box V g #[.slice (some ⟨gu, 0, none⟩) us.length us.length, .int .i64 0, .slice none 0 0] 99) := by rw [HUN.out]; exact G0.out
        refine (sp_all V g gu us 0 none 0 0 G0'.out U0.out _ _ 0 (by omega) (by omega) (by have := HUN.out; omega) (by have := HUN.out; omega)).mono ?_
        rintro e w2 ⟨rfl, hb2⟩
        rw [Int.toNat_natCast, Int.toNat_natCast, show allR us f t 0 = true from HAL.out]
        have hRx : x ≠ gu := R0.out.ne U0.out (by decide)
        have G2 := Lib.hid (G0'.out.below hb2 G0'.out.lt)
        have U2 := Lib.hid (U0.out.below hb2 U0.out.lt)
        have R2 := R0.out.below hb2 R0.out.lt
        have q0 : w2.cell? ⟨x, 0, none⟩ = some (.int .i64 f) := R2.cell 0
        have q1 : w2.cell? ⟨x, 1, none⟩ = some (.int .i64 t) := R2.cell 1
        have L2 := Lib.hid (L0.out.trans (hb2.mono (by have := G0.out.lt; omega)))
        have hg2 : g < w2.heap.size := G2.out.lt
        clear G0 G0' U0 R0 L0 hb2 R2
        go_wp2_with fail
        refine (sp_set w2 g gu us 0 none 0 0 G2.out U2.out _ _ 1 (by omega) (by omega) (by have := HUN.out; omega) (by have := HUN.out; omega)).mono ?_
        rintro e w3 ⟨rfl, hbu3, hg3⟩
        rw [Int.toNat_natCast, Int.toNat_natCast] at hbu3
        have G3 : Hid (Box w3 g #[.slice (some ⟨gu, 0, none⟩) n n, .int .i64 0, .slice none 0 0] 99) := by
          have := G2.out.grown hg3 (by intro e; injection e with e; exact (G2.out.ne U2.out (by decide)) e)
          rw [HUN.out] at this; exact this
        have L3 := Lib.hid (L2.out.grown hg3 (by omega) (fun k hk => by injection hk with hk; omega))
        clear hg3 G2 U2 L2 q0 q1
        go_wp2_with fail
        go_roundw
        case rel => exact ⟨k + 1, by omega, by go_num, G3.out, by rw [HNX.out]; exact hbu3.out, L3.out⟩
        case measure => (simp [intOf]; try omega)
      | true =>
        go_wp2_with fail
        have G0 := Lib.hid ((hbg.out.alloc (.cells #[.bool true, .int .i64 f, .int .i64 t] 106)).alloc (.cells #[.int .i64 f, .int .i64 t] 95))
        have U0 := Lib.hid ((hbu.out.alloc (.cells #[.bool true, .int .i64 f, .int .i64 t] 106)).alloc (.cells #[.int .i64 f, .int .i64 t] 95))
        have R0 := Lib.hid (Box.new (w := wr.alloc (.cells #[.bool true, .int .i64 f, .int .i64 t] 106)) (vs := #[.int .i64 f, .int .i64 t]) (t := 95) (g := wr.heap.size + 1) (by simp))
        have L0 := Lib.hid ((hbl.out.alloc hBwr (.cells #[.bool true, .int .i64 f, .int .i64 t] 106)).alloc (by simp; omega) (.cells #[.int .i64 f, .int .i64 t] 95))
        obtain ⟨V, hV⟩ : ∃ V, V = (wr.alloc (.cells #[.bool true, .int .i64 f, .int .i64 t] 106)).alloc (.cells #[.int .i64 f, .int .i64 t] 95) := ⟨_, rfl⟩
        rw [← hV] at G0 U0 R0 L0 ⊢
        obtain ⟨x, hx⟩ : ∃ x, Hid (wr.heap.size + 1 = x) := ⟨_, rfl⟩
        rw [hx.out] at R0 ⊢
        clear hV hbg hbu hbl e0 e1 e2
        have G0' : Hid (Box V g #[.slice (some ⟨gu, 0, none⟩) us.length us.length, .int .i64 0, .slice none 0 0] 99) := by rw [HUN.out]; exact G0.out
        refine (sp_all V g gu us 0 none 0 0 G0'.out U0.out _ _ 1 (by omega) (by omega) (by have := HUN.out; omega) (by have := HUN.out; omega)).mono ?_
        rintro e w2 ⟨rfl, hb2⟩
        rw [Int.toNat_natCast, Int.toNat_natCast, show allR us f t 1 = true from HAL.out]
        have hRx : x ≠ gu := R0.out.ne U0.out (by decide)
        have G2 := Lib.hid (G0'.out.below hb2 G0'.out.lt)
        have U2 := Lib.hid (U0.out.below hb2 U0.out.lt)
        have R2 := R0.out.below hb2 R0.out.lt
        have q0 : w2.cell? ⟨x, 0, none⟩ = some (.int .i64 f) := R2.cell 0
        have q1 : w2.cell? ⟨x, 1, none⟩ = some (.int .i64 t) := R2.cell 1
        have L2 := Lib.hid (L0.out.trans (hb2.mono (by have := G0.out.lt; omega)))
        have hg2 : g < w2.heap.size := G2.out.lt
        clear G0 G0' U0 R0 L0 hb2 R2
        go_wp2_with fail
        refine (sp_set w2 g gu us 0 none 0 0 G2.out U2.out _ _ 0 (by omega) (by omega) (by have := HUN.out; omega) (by have := HUN.out; omega)).mono ?_
        rintro e w3 ⟨rfl, hbu3, hg3⟩
        rw [Int.toNat_natCast, Int.toNat_natCast] at hbu3
        have G3 : Hid (Box w3 g #[.slice (some ⟨gu, 0, none⟩) n n, .int .i64 0, .slice none 0 0] 99) := by
          have := G2.out.grown hg3 (by intro e; injection e with e; exact (G2.out.ne U2.out (by decide)) e)
          rw [HUN.out] at this; exact this
        have L3 := Lib.hid (L2.out.grown hg3 (by omega) (fun k hk => by injection hk with hk; omega))
        clear hg3 G2 U2 L2 q0 q1
        go_wp2_with fail
        go_roundw
        case rel => exact ⟨k + 1, by omega, by go_num, G3.out, by rw [HNX.out]; exact hbu3.out, L3.out⟩
        case measure => (simp [intOf]; try omega)
    · obtain rfl : k = len := by omega
      have htk : log.take k = log := List.take_of_length_le (by have := hdl.out; omega)
      rw [htk] at hbu
      have hbf : Hid (Below w.heap.size w wr) := by rw [hBB.out]; exact hbl.out
      clear htk hbl
      go_wp2_with fail
      go_ret2
      exact ⟨g, gu, rfl, hbg, hbu, hbf.out⟩

def Replays (n : Nat) (log : List (Bool × Nat × Nat)) (w : World) (e : Ending) (w' : World) : Prop :=
  ∃ (a : Option Addr) (l c : Nat), e = .returned (.tuple #[.slice a l c, .int .i64 0]) ∧ Hid (SOwn rangeL w' w.heap.size 95 (fun _ => False) a l c (runs (· == 0) (rpl (noughts n) log))) ∧ Below w.heap.size w w'
set_option maxHeartbeats 2000000 in
theorem replay (n : Nat) (F : Nat → Prop) (a : Option Addr) (len cap : Nat) (log : List (Bool × Nat × Nat)) (w : World) (ha : SRow recL w F a len cap log) (hok : RplOk n (noughts n) log) (hn1 : 1 ≤ n) (hn : n ≤ 100) (hl : len ≤ 4096) :
    Calls Try.prog 19 #[.int .i64 n, .slice a len cap] w (Replays n log w) := by
  have HLN := Lib.hid (rpl_length hok (show (noughts n).length = n by simp [noughts]))
  go_enter Try.func19, Try.ntmps19
  go_wp2_with fail
  refine (replayed n F a len cap log w ha hok hn1 (by omega) hl).mono ?_
  rintro e w1 ⟨g, gu, rfl, hg, hu, hb⟩
  have hg' : Hid (Box w1 g #[.slice (some ⟨gu, 0, none⟩) (rpl (noughts n) log).length (rpl (noughts n) log).length, .int .i64 0, .slice none 0 0] 99) := by rw [HLN.out]; exact hg.out
  clear hg
  go_wp2_with fail
  refine (runs_replay w1 g gu _ 0 none 0 0 hg'.out hu.out (by have := HLN.out; omega)).mono ?_
  rintro e w2 ⟨a2, l2, c2, rfl, hown, hb2⟩
  have hl2 : l2 ≤ 101 := by
    have h1 := hown.out.1
    have h2 := runs_length (· == 0) (rpl (noughts n) log)
    have := HLN.out
    omega
  have hc1 := hown.out.hle
  have hc2 := hown.out.hmax
  unfold maxLen at hc2
  have b1 : decide ((200 : Int) < (l2 : Int)) = false := by simp; omega
  go_wp2_with fail
  go_ret2
  exact ⟨a2, l2, c2, rfl, hown.out.mono hb.size (fun _ h => h), Below_next hb hb2⟩

def condensed (us : List Nat) : List (Bool × Nat × Nat) := (runs (· == 1) us).map fun r => (false, r.1, r.2)
def Condenses (n : Nat) (log : List (Bool × Nat × Nat)) (w : World) (e : Ending) (w' : World) : Prop :=
  ∃ (a : Option Addr) (l c : Nat), e = .returned (.tuple #[.slice a l c, .int .i64 0]) ∧ Hid (SOwn recL w' w.heap.size 106 (fun _ => False) a l c (condensed (rpl (noughts n) log))) ∧ Below w.heap.size w w'
set_option maxHeartbeats 4000000 in
theorem condense (n : Nat) (F : Nat → Prop) (a : Option Addr) (len cap : Nat) (log : List (Bool × Nat × Nat)) (w : World) (ha : SRow recL w F a len cap log) (hok : RplOk n (noughts n) log) (hn1 : 1 ≤ n) (hn : n ≤ 100) (hl : len ≤ 4096) :
    Calls Try.prog 18 #[.int .i64 n, .slice a len cap] w (Condenses n log w) := by
  have HLN := Lib.hid (rpl_length hok (show (noughts n).length = n by simp [noughts]))
  obtain ⟨B, hBB⟩ : ∃ B, Hid (w.heap.size = B) := ⟨_, rfl⟩
  go_enter Try.func18, Try.ntmps18
  go_wp2_with fail
  refine (replayed n F a len cap log w ha hok hn1 (by omega) hl).mono ?_
  rintro e w1 ⟨g, gu, rfl, hg, hu, hb⟩
  have hg' : Hid (Box w1 g #[.slice (some ⟨gu, 0, none⟩) (rpl (noughts n) log).length (rpl (noughts n) log).length, .int .i64 0, .slice none 0 0] 99) := by rw [HLN.out]; exact hg.out
  clear hg
  go_wp2_with fail
  refine (runs_condense w1 g gu _ 0 none 0 0 hg'.out hu.out (by have := HLN.out; omega)).mono ?_
  rintro e w2 ⟨a2, l2, c2, rfl, hown, hb2⟩
  have hl2 : l2 ≤ 101 := by
    have h1 := hown.out.1
    have h2 := runs_length (· == 1) (rpl (noughts n) log)
    have := HLN.out
    omega
  have hc1 := hown.out.hle
  have hc2 := hown.out.hmax
  unfold maxLen at hc2
  obtain ⟨rs, hrs⟩ : ∃ rs, Hid (runs (· == 1) (rpl (noughts n) log) = rs) := ⟨_, rfl⟩
  rw [hrs.out] at hown
  have HRL : Hid (rs.length = l2) := hown.out.1
  have HB2 : Hid (Below B w w2) := by rw [← hBB.out]; exact Below_next hb hb2
  clear hb hb2 hu hg'
  go_wp2_with fail
  go_loopw [8, 23] (fun ov iv wr => ∃ (k : Nat) (ao : Option Addr) (co : Nat), k ≤ l2 ∧ iv = .int .i64 k ∧ ov = .slice ao k co ∧ Hid (SOwn recL wr B 106 (fun _ => False) ao k co ((rs.take k).map fun r => (false, r.1, r.2))) ∧ Hid (SOwn rangeL wr w1.heap.size 95 (fun _ => False) a2 l2 c2 rs) ∧ Hid (Below B w wr)) (fun _ iv _ => l2 - (intOf iv).toNat)
  case atStart => exact ⟨0, none, 0, by omega, rfl, rfl, SOwn.nil .., hown.out, HB2.out⟩
  case round =>
    obtain ⟨k, ao, co, hk, rfl, rfl, hout, hrow, hbl⟩ := hrel
    have hco := hout.out.hle
    have hcm := hout.out.hmax
    unfold maxLen at hcm
    by_cases hlt : k < l2
    · obtain ⟨g1, vs, rfl, _, hg1l, ⟨⟨f, t⟩, hx, hat⟩, hcell⟩ := hrow.out.get k hlt
      have hvs : vs = [.int .i64 (f : Int), .int .i64 (t : Int)] := hat
      subst hvs
      have e0 : wr.cell? ⟨g1, k * 2, none⟩ = some (.int .i64 f) := hcell 0 (by decide)
      have e1 : wr.cell? ⟨g1, k * 2 + 1, none⟩ = some (.int .i64 t) := hcell 1 (by decide)
      have hnx : Hid ((rs.take (k + 1)).map (fun r => (false, r.1, r.2)) = (rs.take k).map (fun r => (false, r.1, r.2)) ++ [(false, f, t)]) := by
        have hkr : k < rs.length := by have := HRL.out; omega
        rw [List.getElem?_eq_getElem hkr] at hx
        injection hx with hx
        show _ = _
        rw [List.take_succ_eq_append_getElem hkr, List.map_append, hx]; rfl
      have hBwr : B ≤ wr.heap.size := by have := hbl.out.size; have := hBB.out; omega
      clear hcell hat hx
      go_wp2_with (at_builtin; refine wpList_append_one (L := recL) (wr := wr.alloc (.cells #[.int .i64 f, .int .i64 t] 95)) rfl (.tmp 27) (.tmp 30) 26 rfl B 106 _ 24 Try.underlying26 info_rec rfl (fun _ => False) ao k co ((rs.take k).map fun r => (false, r.1, r.2)) rfl (hout.out.alloc _) #[.bool false, .int .i64 f, .int .i64 t] (false, f, t) ?hx1 (fun _ => False) rfl (fun b h => h.elim) (by unfold maxLen; omega) (by omega) ?hb1 ?_)
      case hx1 => simp [Act.eval]
      case hb1 => simp; omega
      intro a5 c5 w5 hown5 hg5
      have hL5 := Lib.hid ((hout.out.alloc (.cells #[.int .i64 f, .int .i64 t] 95)).grown (hbl.out.alloc hBwr _) (Nat.le_refl _) (by simp; omega) hg5)
      have hR5 := Lib.hid (SOwn.flat_keep (hrow.out.alloc (.cells #[.int .i64 f, .int .i64 t] 95)) hg5.size (fun g' cur hh => (hg5.block g' (Array.getElem?_eq_some_iff.1 hh).1 ((hout.out.alloc _).apart hh (by decide))).trans hh))
      have hO5 := Lib.hid hown5
      clear hown5 hg5 hout hrow hbl
      go_wp2_with fail
      go_roundw
      case rel => exact ⟨k + 1, a5, c5, by omega, by go_num, rfl, by rw [hnx.out, List.map_take]; exact hO5.out, hR5.out, hL5.out⟩
      case measure => (simp [intOf]; try omega)
    · obtain rfl : k = l2 := by omega
      have hfin : Hid (SOwn recL wr w.heap.size 106 (fun _ => False) ao k co (condensed (rpl (noughts n) log))) := by
        have h := hout.out
        rw [List.take_of_length_le (by have := HRL.out; omega)] at h
        rw [condensed, hrs.out, hBB.out]; exact h
      have hbf : Hid (Below w.heap.size w wr) := by rw [hBB.out]; exact hbl.out
      clear hout hrow hbl
      go_wp2_with fail
      go_ret2
      exact ⟨ao, k, co, rfl, hfin, hbf.out⟩
end Go.Proofs.Yteidmdakglkkfaa
