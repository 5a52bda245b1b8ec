/- The drive: settle. -/
import Derived.Test.YteidmdakglkkfaaDrC
import Derived.Deep.RegionLaw
namespace Go.Proofs.Yteidmdakglkkfaa
open Go.RowKit
set_option linter.unusedVariables false
set_option maxRecDepth 100000

instance : Inhabited Put := ⟨⟨0, []⟩⟩
instance : Inhabited Sec := ⟨⟨none, false⟩⟩
def putOn (pl : List Sec) (p : Put) : List Sec := pl.set p.at_ ⟨some p.data, false⟩
def settleN (f : Nat → Bool) (pl : List Sec) (ws : List Put) : Nat → List Sec
  | 0 => pl
  | n + 1 => if f n then putOn (settleN f pl ws n) (ws.getD n default) else settleN f pl ws n
theorem settleN_length (f : Nat → Bool) (pl : List Sec) (ws : List Put) : ∀ n, (settleN f pl ws n).length = pl.length
  | 0 => rfl
  | n + 1 => by unfold settleN putOn; split <;> simp [settleN_length f pl ws n]
/-- What a call on a drive leaves alone: all blocks of other kinds, and all that lay below the base. -/
def Spare (B : Nat) (w w' : World) : Prop := Below B w w' ∧ ∀ ts : List TypeId, 136 ∉ ts → 144 ∉ ts → 140 ∉ ts → Keeps ts w w'
theorem Spare.refl (B : Nat) (w : World) : Spare B w w := ⟨Below.refl _ _, fun ts _ _ _ => Keeps.refl ts w⟩
theorem Spare.trans {B : Nat} {a b c : World} (h : Spare B a b) (h' : Spare B b c) : Spare B a c := ⟨h.1.trans h'.1, fun ts h1 h2 h3 => (h.2 ts h1 h2 h3).trans (h'.2 ts h1 h2 h3)⟩
theorem Spare.below {B : Nat} {a b : World} (h : Below a.heap.size a b) (hB : B ≤ a.heap.size) : Spare B a b := ⟨h.mono hB, fun ts _ _ _ => Keeps.below ts h⟩
theorem Spare.set {B : Nat} {w : World} {t : TypeId} {g j : Nat} (v : Value) (hg : B ≤ g) (hk : Kind w t g) (ht : t = 136 ∨ t = 144 ∨ t = 140) : Spare B w (w.setCell ⟨g, j, none⟩ v) := by
  refine ⟨(Below.refl _ _).setCell (p := ⟨g, j, none⟩) hg v, fun ts h1 h2 h3 => Keeps.set v (fun t' ht' hk' => ?_)⟩
  have := hk.ne hk'
  subst this
  rcases ht with rfl | rfl | rfl
  · exact h1 ht'
  · exact h2 ht'
  · exact h3 ht'
theorem Spare.drew {B : Nat} {a b : World} (h : Spare B a b) : Spare B a b.drew := ⟨h.1.drew, fun ts h1 h2 h3 => ⟨(h.2 ts h1 h2 h3).1, (h.2 ts h1 h2 h3).2⟩⟩
theorem Keeps.drew (ts : List TypeId) (w : World) : Keeps ts w w.drew := ⟨Nat.le_refl _, fun _ _ _ _ => rfl⟩
theorem Kind.drew {w : World} {t : TypeId} {b : Nat} (h : Kind w t b) : Kind w.drew t b := h
def Settled (B hd : Nat) (s : DS) (f : Nat → Bool) (w : World) (e : Ending) (w' : World) : Prop := e = .returned (.tuple #[]) ∧ Dr w' B hd ⟨settleN f s.plate s.waits s.waits.length, [], s.dead⟩ ∧ Spare B w w'
set_option maxHeartbeats 4000000 in
theorem settleAll (B hd : Nat) (s : DS) (w : World) (h : Dr w B hd s) (hBw : B ≤ w.heap.size) (f : Nat → Bool)
    (hf : ∀ (k : Nat) (w' : World), Calls Try.prog 61 #[.int .i64 k] w' fun e w'' => e = .returned (.bool (f k)) ∧ w' = w'') :
    Calls Try.prog 60 #[.pointer (some ⟨hd, 0, none⟩), .func (.func 61) #[] #[]] w (Settled B hd s f w) := by
  obtain ⟨gp, cp, aw, lw, cw, hBh, hb, hp, hw, hat⟩ := h
  have HF : Hid (∀ (k : Nat) (w' : World), Calls Try.prog 61 #[.int .i64 k] w' fun e w'' => e = .returned (.bool (f k)) ∧ w' = w'') := hf
  have HB := Lib.hid hb
  have HP := Lib.hid hp
  have HW := Lib.hid hw
  have hmw := hw.hmax
  have hlw := hw.hle
  have hln := hw.1
  have hcp := hp.hmax
  have hlp := hp.hle
  unfold maxLen at hmw hcp
  have hbl := hb.lt
  have q1 : w.cell? ⟨hd, 1, none⟩ = some (.slice aw lw cw) := hb.cell 1
  obtain ⟨pl, ws, dd⟩ := s
  clear hb hp hw hf
  go_enter Try.func60, Try.ntmps60
  go_wp2_with fail
  go_loopw [11] (fun kv wr => ∃ k : Nat, k ≤ lw ∧ kv = .int .i64 k ∧ Hid (Box wr hd #[.slice (some ⟨gp, 0, none⟩) 8 cp, .slice aw lw cw, .bool dd] 136) ∧ Hid (SOwn secL wr B 144 (Kind wr 5) (some ⟨gp, 0, none⟩) 8 cp (settleN f pl ws k)) ∧ Hid (SOwn putL wr B 140 (Kind wr 5) aw lw cw ws) ∧ Hid (Spare B w wr)) (fun kv _ => lw - (intOf kv).toNat)
  case atStart => exact ⟨0, by omega, rfl, HB, HP, HW, Spare.refl _ _⟩
  case round =>
    obtain ⟨k, hk, rfl, hb, hp, hw, hS⟩ := hrel
    have hBr : B ≤ wr.heap.size := by have := hS.out.1.size; omega
    by_cases hlt : k < lw
    · obtain ⟨ga, vs, rfl, hBg, hgl, ⟨x, hx, hxa⟩, hc⟩ := hw.out.get k hlt
      obtain ⟨ax, lx, cx, rfl, hx128, hxr⟩ := hxa
      have hxat : x.at_ < 8 := hat x (List.mem_of_getElem? hx)
      have hxg : ws.getD k default = x := by simp [List.getD, hx]
      have e0 : wr.cell? ⟨ga, k * 2, none⟩ = some (.int .i64 (x.at_ : Int)) := hc 0 (by decide)
      have e1 : wr.cell? ⟨ga, k * 2 + 1, none⟩ = some (.slice ax lx cx) := hc 1 (by decide)
      have XR := Lib.hid hxr
      clear hc hxr
      go_wp2_with fail
      obtain ⟨W1, hW1⟩ : ∃ W, W = wr.alloc (.cells #[.int .i64 (x.at_ : Int), .slice ax lx cx] 140) := ⟨_, rfl⟩
      obtain ⟨gx, hgx⟩ : ∃ g, wr.heap.size = g := ⟨_, rfl⟩
      have XB : Box W1 gx #[.int .i64 (x.at_ : Int), .slice ax lx cx] 140 := by rw [hW1]; exact Box.new hgx.symm
      have LA : Below wr.heap.size wr W1 := by rw [hW1]; exact Below_alloc1 _
      rw [← hW1, hgx]
      have b1 := Lib.hid (hb.out.below LA hb.out.lt)
      have p1 := Lib.hid (hp.out.keeps (Keeps.below [5, 144] LA) (by simp) (by simp))
      have w1 := Lib.hid (hw.out.keeps (Keeps.below [5, 140] LA) (by simp) (by simp))
      have S1 : Hid (Spare B w W1) := hS.out.trans (Spare.below LA hBr)
      have X1 := Lib.hid (XR.out.below LA)
      have K1 : ∀ b, Kind wr 5 b → Kind W1 5 b := fun b hb => (Keeps.below [5] LA).kind (by simp) hb
      clear hW1 hb hp hw hS XR LA e0 e1
      refine (HF.out k W1).mono ?_
      rintro e w' ⟨rfl, rfl⟩
      cases hfk : f k with
      | false =>
        have hstep : settleN f pl ws (k + 1) = settleN f pl ws k := by show (if f k = true then _ else _) = _; rw [hfk]; rfl
        go_wp2_with fail
        go_roundw
        case rel => exact ⟨k + 1, by omega, by go_num, b1, by rw [hstep]; exact p1, w1, S1⟩
        case measure => simp [intOf]; omega
      | true =>
        have hstep : settleN f pl ws (k + 1) = (settleN f pl ws k).set x.at_ ⟨some x.data, false⟩ := by show (if f k = true then _ else _) = _; rw [hfk, hxg]; rfl
        have z0 : W1.cell? ⟨gx, 0, none⟩ = some (.int .i64 (x.at_ : Int)) := XB.cell 0
        have z1 : W1.cell? ⟨gx, 1, none⟩ = some (.slice ax lx cx) := XB.cell 1
        have h0 : W1.cell? ⟨hd, 0, none⟩ = some (.slice (some ⟨gp, 0, none⟩) 8 cp) := b1.out.cell 0
        obtain ⟨gp', vs, heq, hBp, hpl, ⟨y, _, hya⟩, hcp2⟩ := p1.out.get x.at_ hxat
        obtain rfl : gp' = gp := by injection heq with heq; injection heq with h1 _; exact h1.symm
        obtain ⟨ay, ly, cy, rfl, _⟩ := hya
        have o0 : W1.cell? ⟨gp', x.at_ * 2, none⟩ = some (.slice ay ly cy) := hcp2 0 (by decide)
        have o1 : W1.cell? ⟨gp', x.at_ * 2 + 1, none⟩ = some (.bool y.broken) := hcp2 1 (by decide)
        have kp := p1.out.kind gp' rfl
        have f0 : W1.frozen? ⟨gp', x.at_ * 2, none⟩ = false := by obtain ⟨_, _, _, ho, _⟩ := p1.out; exact World.ownsRow.frozenAt ho _
        have f1 : W1.frozen? ⟨gp', x.at_ * 2 + 1, none⟩ = false := by obtain ⟨_, _, _, ho, _⟩ := p1.out; exact World.ownsRow.frozenAt ho _
        have i8 : (x.at_ : Int) < 8 := by omega
        obtain ⟨W2, hW2⟩ : ∃ W, W = (W1.setCell ⟨gp', x.at_ * 2, none⟩ (.slice ax lx cx)).setCell ⟨gp', x.at_ * 2 + 1, none⟩ (.bool false) := ⟨_, rfl⟩
        have P2 : SOwn secL W2 B 144 (Kind W1 5) (some ⟨gp', 0, none⟩) 8 cp ((settleN f pl ws k).set x.at_ ⟨some x.data, false⟩) := by
          rw [hW2]
          refine SOwn.put_two rfl p1.out x.at_ hxat (F2 := Kind W1 5) ⟨ax, lx, cx, rfl, .inr ⟨x.data, rfl, hx128, X1.out.keep K1 (fun _ _ _ => rfl)⟩⟩ (fun b hb => ⟨hb, hb.lt, fun e => ?_⟩)
          rw [e] at hb
          exact absurd (hb.ne kp) (by decide)
        have Kt : ∀ ts : List TypeId, 144 ∉ ts → Keeps ts W1 W2 := by
          intro ts hts
          rw [hW2]
          refine (Keeps.set _ (fun t ht hk => hts (by rw [← hk.ne kp]; exact ht))).trans (Keeps.set _ (fun t ht hk => hts ?_))
          have kp' : Kind (W1.setCell ⟨gp', x.at_ * 2, none⟩ (.slice ax lx cx)) 144 gp' := by
            obtain ⟨_, _, _, ho, _⟩ := p1.out
            exact Own.kind (World.ownsRow.stored ho (x.at_ * 2) (.slice ax lx cx)).1 gp' rfl
          rw [← hk.ne kp']; exact ht
        have P3 : Hid (SOwn secL W2 B 144 (Kind W2 5) (some ⟨gp', 0, none⟩) 8 cp (settleN f pl ws (k + 1))) := by
          show SOwn _ _ _ _ _ _ _ _ _
          rw [hstep]
          exact P2.mono (Nat.le_refl _) (fun b hb => (Kt [5] (by decide)).kind (by simp) hb)
        have B3 := Lib.hid (b1.out.keeps (Kt [136] (by decide)) (by simp))
        have W3 := Lib.hid (w1.out.keeps (Kt [5, 140] (by decide)) (by simp) (by simp))
        have S3 : Hid (Spare B w W2) := by
          refine S1.out.trans ⟨?_, fun ts _ h2 _ => Kt ts h2⟩
          rw [hW2]
          exact ((Below.refl _ _).setCell (p := ⟨gp', x.at_ * 2, none⟩) hBp _).setCell (p := ⟨gp', x.at_ * 2 + 1, none⟩) hBp _
        have HW2 := Lib.hid hW2
        clear hcp2 P2 Kt hW2
        go_wp2
        go_region
        go_wp2
        go_roundw
        case rel =>
          have e9 := HW2.out
          refine ⟨k + 1, by omega, by go_num, ?_, ?_, ?_, ?_⟩
          · rw [← e9]; exact B3.out.drew
          · rw [← e9]; exact P3.out.keeps (Keeps.drew [5, 144] _) (by simp) (by simp)
          · rw [← e9]; exact W3.out.keeps (Keeps.drew [5, 140] _) (by simp) (by simp)
          · rw [← e9]; exact S3.out.drew
        case measure => simp [intOf]; omega
    · obtain rfl : k = lw := by omega
      have q3 : wr.cell? ⟨hd, 1, none⟩ = some (.slice aw k cw) := hb.out.cell 1
      have q4 : wr.frozen? ⟨hd, 1, none⟩ = false := hb.out.free 1
      have B9 := Lib.hid (hb.out.set 1 (.slice none 0 0))
      have kd := hb.out.kind
      have Kt : ∀ ts : List TypeId, 136 ∉ ts → Keeps ts wr (wr.setCell ⟨hd, 1, none⟩ (.slice none 0 0)) := fun ts hts => Keeps.set _ (fun t ht hk => hts (by rw [← hk.ne kd]; exact ht))
      have P9 := Lib.hid (hp.out.keeps (Kt [5, 144] (by decide)) (by simp) (by simp))
      have S9 : Hid (Spare B w (wr.setCell ⟨hd, 1, none⟩ (.slice none 0 0))) := hS.out.trans (Spare.set _ hBh kd (.inl rfl))
      clear Kt
      go_wp2_with fail
      go_end0
      exact ⟨rfl, ⟨gp, cp, none, 0, 0, hBh, B9.out, by rw [hln]; exact P9.out, SOwn.nil .., fun x hx => by cases hx⟩, S9.out⟩
set_option maxHeartbeats 4000000 in
theorem settleSome (B hd : Nat) (s : DS) (w : World) (h : Dr w B hd s) (hBw : B ≤ w.heap.size) (gj : Nat) (jc : Array Value) (hj : Box w gj jc 78) (f : Nat → Bool)
    (hf : ∀ (k : Nat) (w' : World), k < 9223372036854775808 → Box w' gj jc 78 → Calls Try.prog 62 #[.int .i64 k, .pointer (some ⟨gj, 0, none⟩)] w' fun e w'' => e = .returned (.bool (f k)) ∧ w' = w'') :
    Calls Try.prog 60 #[.pointer (some ⟨hd, 0, none⟩), .func (.func 62) #[] #[.pointer (some ⟨gj, 0, none⟩)]] w (Settled B hd s f w) := by
  obtain ⟨gp, cp, aw, lw, cw, hBh, hb, hp, hw, hat⟩ := h
  have HF : Hid (∀ (k : Nat) (w' : World), k < 9223372036854775808 → Box w' gj jc 78 → Calls Try.prog 62 #[.int .i64 k, .pointer (some ⟨gj, 0, none⟩)] w' fun e w'' => e = .returned (.bool (f k)) ∧ w' = w'') := hf
  have HB := Lib.hid hb
  have HJ := Lib.hid hj
  have HP := Lib.hid hp
  have HW := Lib.hid hw
  have hmw := hw.hmax
  have hlw := hw.hle
  have hln := hw.1
  have hcp := hp.hmax
  have hlp := hp.hle
  unfold maxLen at hmw hcp
  have hbl := hb.lt
  have q1 : w.cell? ⟨hd, 1, none⟩ = some (.slice aw lw cw) := hb.cell 1
  obtain ⟨pl, ws, dd⟩ := s
  clear hb hp hw hf hj
  go_enter Try.func60, Try.ntmps60
  go_wp2_with fail
  go_loopw [11] (fun kv wr => ∃ k : Nat, k ≤ lw ∧ kv = .int .i64 k ∧ Hid (Box wr hd #[.slice (some ⟨gp, 0, none⟩) 8 cp, .slice aw lw cw, .bool dd] 136) ∧ Hid (SOwn secL wr B 144 (Kind wr 5) (some ⟨gp, 0, none⟩) 8 cp (settleN f pl ws k)) ∧ Hid (SOwn putL wr B 140 (Kind wr 5) aw lw cw ws) ∧ Hid (Spare B w wr)) (fun kv _ => lw - (intOf kv).toNat)
  case atStart => exact ⟨0, by omega, rfl, HB, HP, HW, Spare.refl _ _⟩
  case round =>
    obtain ⟨k, hk, rfl, hb, hp, hw, hS⟩ := hrel
    have hBr : B ≤ wr.heap.size := by have := hS.out.1.size; omega
    by_cases hlt : k < lw
    · obtain ⟨ga, vs, rfl, hBg, hgl, ⟨x, hx, hxa⟩, hc⟩ := hw.out.get k hlt
      obtain ⟨ax, lx, cx, rfl, hx128, hxr⟩ := hxa
      have hxat : x.at_ < 8 := hat x (List.mem_of_getElem? hx)
      have hxg : ws.getD k default = x := by simp [List.getD, hx]
      have e0 : wr.cell? ⟨ga, k * 2, none⟩ = some (.int .i64 (x.at_ : Int)) := hc 0 (by decide)
      have e1 : wr.cell? ⟨ga, k * 2 + 1, none⟩ = some (.slice ax lx cx) := hc 1 (by decide)
      have XR := Lib.hid hxr
      clear hc hxr
      go_wp2_with fail
      obtain ⟨W1, hW1⟩ : ∃ W, W = wr.alloc (.cells #[.int .i64 (x.at_ : Int), .slice ax lx cx] 140) := ⟨_, rfl⟩
      obtain ⟨gx, hgx⟩ : ∃ g, wr.heap.size = g := ⟨_, rfl⟩
      have XB : Box W1 gx #[.int .i64 (x.at_ : Int), .slice ax lx cx] 140 := by rw [hW1]; exact Box.new hgx.symm
      have LA : Below wr.heap.size wr W1 := by rw [hW1]; exact Below_alloc1 _
      rw [← hW1, hgx]
      have b1 := Lib.hid (hb.out.below LA hb.out.lt)
      have p1 := Lib.hid (hp.out.keeps (Keeps.below [5, 144] LA) (by simp) (by simp))
      have w1 := Lib.hid (hw.out.keeps (Keeps.below [5, 140] LA) (by simp) (by simp))
      have S1 : Hid (Spare B w W1) := hS.out.trans (Spare.below LA hBr)
      have X1 := Lib.hid (XR.out.below LA)
      have K1 : ∀ b, Kind wr 5 b → Kind W1 5 b := fun b hb => (Keeps.below [5] LA).kind (by simp) hb
      clear hW1 hb hp hw hS XR LA e0 e1
      refine (HF.out k W1 (by omega) (HJ.out.keeps (S1.out.2 [78] (by decide) (by decide) (by decide)) (by simp))).mono ?_
      rintro e w' ⟨rfl, rfl⟩
      cases hfk : f k with
      | false =>
        have hstep : settleN f pl ws (k + 1) = settleN f pl ws k := by show (if f k = true then _ else _) = _; rw [hfk]; rfl
        go_wp2_with fail
        go_roundw
        case rel => exact ⟨k + 1, by omega, by go_num, b1, by rw [hstep]; exact p1, w1, S1⟩
        case measure => simp [intOf]; omega
      | true =>
        have hstep : settleN f pl ws (k + 1) = (settleN f pl ws k).set x.at_ ⟨some x.data, false⟩ := by show (if f k = true then _ else _) = _; rw [hfk, hxg]; rfl
        have z0 : W1.cell? ⟨gx, 0, none⟩ = some (.int .i64 (x.at_ : Int)) := XB.cell 0
        have z1 : W1.cell? ⟨gx, 1, none⟩ = some (.slice ax lx cx) := XB.cell 1
        have h0 : W1.cell? ⟨hd, 0, none⟩ = some (.slice (some ⟨gp, 0, none⟩) 8 cp) := b1.out.cell 0
        obtain ⟨gp', vs, heq, hBp, hpl, ⟨y, _, hya⟩, hcp2⟩ := p1.out.get x.at_ hxat
        obtain rfl : gp' = gp := by injection heq with heq; injection heq with h1 _; exact h1.symm
        obtain ⟨ay, ly, cy, rfl, _⟩ := hya
        have o0 : W1.cell? ⟨gp', x.at_ * 2, none⟩ = some (.slice ay ly cy) := hcp2 0 (by decide)
        have o1 : W1.cell? ⟨gp', x.at_ * 2 + 1, none⟩ = some (.bool y.broken) := hcp2 1 (by decide)
        have kp := p1.out.kind gp' rfl
        have f0 : W1.frozen? ⟨gp', x.at_ * 2, none⟩ = false := by obtain ⟨_, _, _, ho, _⟩ := p1.out; exact World.ownsRow.frozenAt ho _
        have f1 : W1.frozen? ⟨gp', x.at_ * 2 + 1, none⟩ = false := by obtain ⟨_, _, _, ho, _⟩ := p1.out; exact World.ownsRow.frozenAt ho _
        have i8 : (x.at_ : Int) < 8 := by omega
        obtain ⟨W2, hW2⟩ : ∃ W, W = (W1.setCell ⟨gp', x.at_ * 2, none⟩ (.slice ax lx cx)).setCell ⟨gp', x.at_ * 2 + 1, none⟩ (.bool false) := ⟨_, rfl⟩
        have P2 : SOwn secL W2 B 144 (Kind W1 5) (some ⟨gp', 0, none⟩) 8 cp ((settleN f pl ws k).set x.at_ ⟨some x.data, false⟩) := by
          rw [hW2]
          refine SOwn.put_two rfl p1.out x.at_ hxat (F2 := Kind W1 5) ⟨ax, lx, cx, rfl, .inr ⟨x.data, rfl, hx128, X1.out.keep K1 (fun _ _ _ => rfl)⟩⟩ (fun b hb => ⟨hb, hb.lt, fun e => ?_⟩)
          rw [e] at hb
          exact absurd (hb.ne kp) (by decide)
        have Kt : ∀ ts : List TypeId, 144 ∉ ts → Keeps ts W1 W2 := by
          intro ts hts
          rw [hW2]
          refine (Keeps.set _ (fun t ht hk => hts (by rw [← hk.ne kp]; exact ht))).trans (Keeps.set _ (fun t ht hk => hts ?_))
          have kp' : Kind (W1.setCell ⟨gp', x.at_ * 2, none⟩ (.slice ax lx cx)) 144 gp' := by
            obtain ⟨_, _, _, ho, _⟩ := p1.out
            exact Own.kind (World.ownsRow.stored ho (x.at_ * 2) (.slice ax lx cx)).1 gp' rfl
          rw [← hk.ne kp']; exact ht
        have P3 : Hid (SOwn secL W2 B 144 (Kind W2 5) (some ⟨gp', 0, none⟩) 8 cp (settleN f pl ws (k + 1))) := by
          show SOwn _ _ _ _ _ _ _ _ _
          rw [hstep]
          exact P2.mono (Nat.le_refl _) (fun b hb => (Kt [5] (by decide)).kind (by simp) hb)
        have B3 := Lib.hid (b1.out.keeps (Kt [136] (by decide)) (by simp))
        have W3 := Lib.hid (w1.out.keeps (Kt [5, 140] (by decide)) (by simp) (by simp))
        have S3 : Hid (Spare B w W2) := by
          refine S1.out.trans ⟨?_, fun ts _ h2 _ => Kt ts h2⟩
          rw [hW2]
          exact ((Below.refl _ _).setCell (p := ⟨gp', x.at_ * 2, none⟩) hBp _).setCell (p := ⟨gp', x.at_ * 2 + 1, none⟩) hBp _
        have HW2 := Lib.hid hW2
        clear hcp2 P2 Kt hW2
        go_wp2
        go_region
        go_wp2
        go_roundw
        case rel =>
          have e9 := HW2.out
          refine ⟨k + 1, by omega, by go_num, ?_, ?_, ?_, ?_⟩
          · rw [← e9]; exact B3.out.drew
          · rw [← e9]; exact P3.out.keeps (Keeps.drew [5, 144] _) (by simp) (by simp)
          · rw [← e9]; exact W3.out.keeps (Keeps.drew [5, 140] _) (by simp) (by simp)
          · rw [← e9]; exact S3.out.drew
        case measure => simp [intOf]; omega
    · obtain rfl : k = lw := by omega
      have q3 : wr.cell? ⟨hd, 1, none⟩ = some (.slice aw k cw) := hb.out.cell 1
      have q4 : wr.frozen? ⟨hd, 1, none⟩ = false := hb.out.free 1
      have B9 := Lib.hid (hb.out.set 1 (.slice none 0 0))
      have kd := hb.out.kind
      have Kt : ∀ ts : List TypeId, 136 ∉ ts → Keeps ts wr (wr.setCell ⟨hd, 1, none⟩ (.slice none 0 0)) := fun ts hts => Keeps.set _ (fun t ht hk => hts (by rw [← hk.ne kd]; exact ht))
      have P9 := Lib.hid (hp.out.keeps (Kt [5, 144] (by decide)) (by simp) (by simp))
      have S9 : Hid (Spare B w (wr.setCell ⟨hd, 1, none⟩ (.slice none 0 0))) := hS.out.trans (Spare.set _ hBh kd (.inl rfl))
      clear Kt
      go_wp2_with fail
      go_end0
      exact ⟨rfl, ⟨gp, cp, none, 0, 0, hBh, B9.out, by rw [hln]; exact P9.out, SOwn.nil .., fun x hx => by cases hx⟩, S9.out⟩
theorem so_all (k : Nat) (w : World) : Calls Try.prog 61 #[.int .i64 k] w fun e w'' => e = .returned (.bool true) ∧ w = w'' := by
  go_enter Try.func61, Try.ntmps61
  go_wp2_with fail
  go_ret
  first | exact ⟨rfl, rfl⟩ | exact ⟨rfl, trivial⟩
/-- Of what waits, those whose bit is set. -/
def bitSet (keep : Int) (k : Nat) : Bool := bits .and .i64 (keep / 2 ^ (k % 62)) 1 == 1
set_option maxHeartbeats 1000000 in
theorem so_some (keep : Int) (jk ja : Int) (jd : Value) (k gj : Nat) (w : World) (hk : k < 9223372036854775808) (hb : Box w gj #[.int .i64 jk, .int .i64 ja, .int .i64 keep, jd] 78) : Calls Try.prog 62 #[.int .i64 k, .pointer (some ⟨gj, 0, none⟩)] w fun e w'' => e = .returned (.bool (bitSet keep k)) ∧ w = w'' := by
  have q : w.cell? ⟨gj, 2, none⟩ = some (.int .i64 keep) := hb.cell 2
  clear hb
  go_enter Try.func62, Try.ntmps62
  go_wp2_with fail
  go_ret
  first | exact ⟨rfl, rfl⟩ | exact ⟨rfl, trivial⟩
end Go.Proofs.Yteidmdakglkkfaa
