/- Texts that belong together: GaV. -/
import Derived.Test.YtkjaddiagembaaaZ26
/- Package stripe: Gather. -/
namespace Go.Proofs.Ytkjaddiagembaaa
open Go.RowKit Go.Shelf
set_option linter.unusedVariables false
set_option maxRecDepth 100000

/-- append, and where the new slice lies. -/
theorem wpList_append_at {P : Program} {w : World} {ops : Array Oper} {rest : List Oper} {o : Oper} {act : Act} {Q : Exit → Act → World → Prop} (hgd : o.guard = none) (s x : Operand) (t : TypeId)
    (ho : o.op = .call { callee := .builtin .append, args := #[s, x], argTypes := #[t, t] })
    (base : Nat) (e : TypeId) (z : Value) (size bytes : Nat) (ht : P.underlying t = some (.slice e)) (hi : (P.info? e).map (fun i => (i.zero, i.size, i.bytes)) = some (some z, size, bytes)) (hzs : z.cells.size = size) (hsz : 0 < size)
    (a : Option Addr) (len cap : Nat) (vs : List Value) (hs : act.eval s = .slice a len cap) (hown : Own w base e size a len cap vs) (a2 : Option Addr) (len2 cap2 : Nat) (us : List Value) (hx : act.eval x = .slice a2 len2 cap2) (hrow : VRow w size a2 len2 cap2 us) (h1 : ∀ u ∈ us, u.oneCell' = true)
    (h63 : len + len2 ≤ maxLen) (hbytes : (len + len2) * bytes ≤ 140737488355328) (hbase : base ≤ w.heap.size)
    (h : ∀ a' cap' w', Own w' base e size a' (len + len2) cap' (vs ++ us) → w.grownBy w' (Value.slice a len cap).ownBlock →
      ((Value.slice a' (len + len2) cap').ownBlock = (Value.slice a len cap).ownBlock ∨ (Value.slice a' (len + len2) cap').ownBlock = some w.heap.size) → wpList P ops Q rest (act.put o.dst (.slice a' (len + len2) cap')) w') : wpList P ops Q (o :: rest) act w := by
  refine wpList_plain hgd fun K hK => ?_
  obtain ⟨a', cap', w', hrun, r1, r2, r3⟩ := run_append_at (P := P) w base t o.type e z size bytes ht hi hzs hsz a len cap vs hown a2 len2 cap2 us hrow h1 h63 hbytes hbase
  unfold Oper.wp execOp
  simp only [ho, resolve, invoke, builtin, Sem.run_bind, Sem.run_pure, Result.andThen_ok, List.map_toArray, List.map_cons, List.map_nil, hs, hx, hrun]
  exact hK _ _ (h a' cap' w' r1 r2 r3)
def GPost (b : Blk) (ps : List (Bool × List Int)) (n : Nat) (s : Four) (w : World) (e : Ending) (w' : World) : Prop :=
  (b.p < (lostOf ps (b.p + b.m)).length ∧ e = .returned (.tuple #[.slice none 0 0, .slice none 0 0, .int .i64 12]) ∧ Below w.heap.size w w') ∨
  ((lostOf ps (b.p + b.m)).length ≤ b.p ∧ ∃ g ad ap cp, e = .returned (.tuple #[.slice ad n n, .slice ap g.length cp, .int .i64 0]) ∧
    Found (keptOf ps (b.p + b.m)) (min (b.p - (lostOf ps (b.p + b.m)).length) (keptOf ps (b.p + b.m)).length) (fun g => sumF (b.data (fun c => (ps.getD c (false, [])).2) (lostOf ps (b.p + b.m) ++ g)) = s) g ∧
    Row .u8 w' ad n n ((b.data (fun c => (ps.getD c (false, [])).2) (lostOf ps (b.p + b.m) ++ g)).take n) ∧ Row .i64 w' ap g.length cp (nats g) ∧ Below w.heap.size w w')
/-- Two lists of numbers that grow, each in a box of its own. -/
structure TwoRows (B F : Nat) (V : World) (p q : Nat) (wr : World) (L1 L2 : List Nat) (la : Option Addr) (lc : Nat) (ka : Option Addr) (kc : Nat) : Prop where
  b1 : Box wr p #[.slice la L1.length lc] 23
  b2 : Box wr q #[.slice ka L2.length kc] 23
  own1 : Own wr B 3 1 la L1.length lc ((nats L1).map (.int .i64))
  own2 : Own wr B 3 1 ka L2.length kc ((nats L2).map (.int .i64))
  dis : ∀ g, (Value.slice la L1.length lc).ownBlock = some g → (Value.slice ka L2.length kc).ownBlock ≠ some g
  bel : Below F V wr
  lt : F ≤ p ∧ F ≤ q ∧ p < B ∧ q < B ∧ p ≠ q ∧ B ≤ wr.heap.size ∧ F ≤ V.heap.size
theorem TwoRows.swap {B F p q : Nat} {V wr : World} {L1 L2 : List Nat} {la : Option Addr} {lc : Nat} {ka : Option Addr} {kc : Nat} (h : TwoRows B F V p q wr L1 L2 la lc ka kc) : TwoRows B F V q p wr L2 L1 ka kc la lc :=
  ⟨h.b2, h.b1, h.own2, h.own1, fun g h1 h2 => h.dis g h2 h1, h.bel, by have := h.lt; omega⟩
theorem TwoRows.below {B F p q : Nat} {V wr Y : World} {L1 L2 : List Nat} {la : Option Addr} {lc : Nat} {ka : Option Addr} {kc : Nat} (h : TwoRows B F V p q wr L1 L2 la lc ka kc) (hb : Below wr.heap.size wr Y) : TwoRows B F V p q Y L1 L2 la lc ka kc :=
  ⟨h.b1.below hb h.b1.lt, h.b2.below hb h.b2.lt, h.own1.below hb, h.own2.below hb, h.dis, h.bel.trans (hb.mono (Nat.le_trans h.lt.2.2.2.2.2.2 h.bel.size)), by have := h.lt; have := hb.size; omega⟩
theorem TwoRows.mid {B F p q : Nat} {V wr : World} {L1 L2 : List Nat} {la : Option Addr} {lc : Nat} {ka : Option Addr} {kc : Nat} (h : TwoRows B F V p q wr L1 L2 la lc ka kc) {w2 : World} (hg : wr.grownBy w2 (Value.slice la L1.length lc).ownBlock) :
    Box w2 p #[.slice la L1.length lc] 23 := by
  obtain ⟨t1, t2, t3, t4, t5, t6, t7⟩ := h.lt
  exact (hg.block p (by omega) (fun e => by have := (World.ownsRow.lt h.own1 p e.symm).1; omega)).trans h.b1
theorem TwoRows.src {B F p q : Nat} {V wr : World} {L1 L2 : List Nat} {la : Option Addr} {lc : Nat} {ka : Option Addr} {kc : Nat} (h : TwoRows B F V p q wr L1 L2 la lc ka kc) (x : Nat) :
    VRow (wr.alloc (.cells #[.int .i64 (x : Int)] 3)) 1 (some ⟨wr.heap.size, 0, none⟩) 1 1 [.int .i64 (x : Int)] :=
  Own.row (base := B) (e := 3) (box_own (Box.new rfl) h.lt.2.2.2.2.2.1 rfl (by unfold maxLen; omega))
theorem TwoRows.put {B F p q : Nat} {V wr : World} {L1 L2 : List Nat} {la : Option Addr} {lc : Nat} {ka : Option Addr} {kc : Nat} (h : TwoRows B F V p q wr L1 L2 la lc ka kc) {x : Nat} {a' : Option Addr} {c' : Nat} {w2 : World}
    (ho : Own w2 B 3 1 a' (L1.length + 1) c' ((nats L1).map (.int .i64) ++ [.int .i64 (x : Int)])) (hg : wr.grownBy w2 (Value.slice la L1.length lc).ownBlock)
    (hat : (Value.slice a' (L1.length + 1) c').ownBlock = (Value.slice la L1.length lc).ownBlock ∨ (Value.slice a' (L1.length + 1) c').ownBlock = some wr.heap.size) :
    TwoRows B F V p q (w2.setCell ⟨p, 0, none⟩ (.slice a' (L1.length + 1) c')) (L1 ++ [x]) L2 a' c' ka kc := by
  obtain ⟨t1, t2, t3, t4, t5, t6, t7⟩ := h.lt
  have hl : ∀ g, (Value.slice la L1.length lc).ownBlock = some g → B ≤ g := fun g hg => (World.ownsRow.lt h.own1 g hg).1
  have hk : ∀ g, (Value.slice ka L2.length kc).ownBlock = some g → B ≤ g ∧ g < wr.heap.size := fun g hg => World.ownsRow.lt h.own2 g hg
  have q1 : Box w2 p #[.slice la L1.length lc] 23 := (hg.block p (by omega) (fun e => by have := hl p e.symm; omega)).trans h.b1
  have q2 : Box w2 q #[.slice ka L2.length kc] 23 := (hg.block q (by omega) (fun e => by have := hl q e.symm; omega)).trans h.b2
  have hbl : Below F V w2 := h.bel.grown hg (by omega) (fun g hg => by have := hl g hg; omega)
  have hset : ∀ {e : TypeId} {a : Option Addr} {len cap : Nat} {vs : List Value}, Own w2 B e 1 a len cap vs → Own (w2.setCell ⟨p, 0, none⟩ (.slice a' (L1.length + 1) c')) B e 1 a len cap vs := fun ho => by
    refine ⟨ho.1, ?_⟩
    rcases ho.2 with h0 | ⟨g, c, cur, hv, hb, hg, r⟩
    · exact .inl h0
    · exact .inr ⟨g, c, cur, hv, hb, (Below.heap_setCell _ _ _ _ (by show g ≠ p; omega)).trans hg, r⟩
  have hll : (L1 ++ [x]).length = L1.length + 1 := by simp
  refine ⟨?_, q2.other ⟨p, 0, none⟩ t5 _, ?_, hset (h.own2.grownOther hg (fun g hg' e => h.dis g e.symm hg')), fun g h1 h2 => ?_, hbl.setCell t1 _, ?_⟩
  · rw [hll]; exact q1.set 0 _
  · rw [hll, show (nats (L1 ++ [x])).map (Value.int .i64) = (nats L1).map (.int .i64) ++ [.int .i64 (x : Int)] by simp [nats]]
    exact hset ho
  · rw [hll] at h1
    rcases hat with e | e
    · exact h.dis g (e ▸ h1) h2
    · have h3 : wr.heap.size = g := by rw [e] at h1; injection h1
      have := (hk g h2).2
      omega
  · have := hg.size
    refine ⟨t1, t2, t3, t4, t5, ?_, t7⟩
    show B ≤ (w2.setCell _ _).heap.size
    simp [World.setCell]; omega
set_option maxHeartbeats 8000000 in
theorem gatherW (D P a n C : Nat) (b : Blk) (hb : IsBlk b D P C) (h1 : 2 ≤ D) (h2 : D ≤ 8) (h3 : 1 ≤ P) (h4 : P ≤ 3) (h5 : P < D) (h6 : 1 ≤ n) (h7 : n ≤ 4096) (h8 : a ≤ 65536) (hC : C = (n + 127) / 128)
    (ps : List (Bool × List Int)) (al : Option Addr) (cl : Nat) (s : Four) (w : World) (hrow : SRow pcL w (fun _ => True) al (b.p + b.m) cl ps)
    (hsz : ∀ c, c < b.p + b.m → (ps.getD c (false, [])).1 = false → (ps.getD c (false, [])).2.length = b.sz c) (hfl : ∀ c, c < b.p + b.m → (ps.getD c (false, [])).2.length ≤ b.long)
    (hex : (lostOf ps (b.p + b.m)).length ≤ b.p → ∃ k p, k ≤ min (b.p - (lostOf ps (b.p + b.m)).length) (keptOf ps (b.p + b.m)).length ∧ p ∈ picks (keptOf ps (b.p + b.m)).length k ∧ sumF (b.data (fun c => (ps.getD c (false, [])).2) (lostOf ps (b.p + b.m) ++ mapK (keptOf ps (b.p + b.m)) p)) = s) :
    Calls Try.prog 12 #[.int .i64 (D : Int), .int .i64 (P : Int), .int .i64 (a : Int), .int .i64 (n : Int), .slice al (b.p + b.m) cl, .agg #[.int .i64 s.a, .int .i64 s.b, .int .i64 s.c, .int .i64 s.d]] w (GPost b ps n s w) := by
  obtain rfl := hb.p
  have HSH := Lib.hid (fun w0 => shapedW D b.p a n C b hb h1 h2 h3 h4 h5 h6 h7 h8 hC w0)
  have hbyt : b.bytes = C * 128 := hb.s
  have hn : n ≤ b.bytes := by omega
  have hb4 : b.bytes % 4 = 0 := by omega
  have hb8 : b.bytes ≤ 4096 := by omega
  have HSZ := Lib.hid hsz
  have HFL := Lib.hid hfl
  have HEX := Lib.hid hex
  have HROW := Lib.hid hrow
  obtain ⟨nn, hnn⟩ : ∃ nn, b.p + b.m = nn := ⟨_, rfl⟩
  have HNN := Lib.hid hnn
  have hn8 : nn ≤ 8 := by have := b.h2.2; omega
  have hcl := hrow.hle
  have hcm := hrow.hmax
  unfold maxLen at hcm
  clear hb hsz hfl hex hrow hC hbyt
  refine (callsIn_wide (n := 3)).1 ?_
  refine callsIn_of_wp_marks Try.func12 rfl trivial ?_ rfl
  simp only [Try.ntmps12, List.size_toArray, List.length_cons, List.length_nil, Nat.reduceAdd, Nat.reduceSub, Array.replicate_succ, Array.replicate_zero, List.push_toArray, List.append_toArray, List.nil_append, List.cons_append]
  refine wpIn_wide.2 ?_
  rw [hnn]
  go_wp2_with fail
  obtain ⟨h9, e9⟩ : ∃ h, w.heap.size = h := ⟨_, rfl⟩
  obtain ⟨h10, e10⟩ : ∃ h, h9 + 1 = h := ⟨_, rfl⟩
  obtain ⟨h11, e11⟩ : ∃ h, h10 + 1 = h := ⟨_, rfl⟩
  obtain ⟨h12, e12⟩ : ∃ h, h11 + 1 = h := ⟨_, rfl⟩
  obtain ⟨h13, e13⟩ : ∃ h, h12 + 1 = h := ⟨_, rfl⟩
  obtain ⟨h14, e14⟩ : ∃ h, h13 + 1 = h := ⟨_, rfl⟩
  obtain ⟨X, hX⟩ : ∃ X, X = ((((((w.alloc (.cells #[.int .i64 (n : Int)] 3)).alloc (.cells #[.slice al nn cl] 28)).alloc (.cells #[.int .i64 s.a, .int .i64 s.b, .int .i64 s.c, .int .i64 s.d] 30)).alloc (.cells #[.slice none 0 0] 22)).alloc (.cells #[.slice none 0 0] 23)).alloc (.cells #[.int .i64 0] 36)) := ⟨_, rfl⟩
  have hXs : X.heap.size = h14 + 1 := by rw [hX]; simp; omega
  have b9 : Box X h9 #[.int .i64 (n : Int)] 3 := by rw [hX]; exact (((((Box.new e9.symm : Box (w.alloc _) h9 _ _).alloc _).alloc _).alloc _).alloc _).alloc _
  have b10 : Box X h10 #[.slice al nn cl] 28 := by rw [hX]; exact ((((Box.new (by simp; omega) : Box ((w.alloc _).alloc _) h10 _ _).alloc _).alloc _).alloc _).alloc _
  have b11 : Box X h11 s.cells 30 := by rw [hX]; exact (((Box.new (by simp; omega) : Box (((w.alloc _).alloc _).alloc _) h11 _ _).alloc _).alloc _).alloc _
  have b12 : Box X h12 #[.slice none 0 0] 22 := by rw [hX]; exact ((Box.new (by simp; omega) : Box ((((w.alloc _).alloc _).alloc _).alloc _) h12 _ _).alloc _).alloc _
  have b13 : Box X h13 #[.slice none 0 0] 23 := by rw [hX]; exact (Box.new (by simp; omega) : Box (((((w.alloc _).alloc _).alloc _).alloc _).alloc _) h13 _ _).alloc _
  have b14 : Box X h14 #[.int .i64 0] 36 := by rw [hX]; exact Box.new (by simp; omega)
  have hwX : Hid (Below h9 w X) := by
    show Below _ _ _
    rw [hX, ← e9]
    exact (((((Below_alloc1 (wr := w) _).alloc (by simp) _).alloc (by simp; omega) _).alloc (by simp; omega) _).alloc (by simp; omega) _).alloc (by simp; omega) _
  rw [← hX, e9, e10, e11, e12, e13, e14]
  have HB9 := Lib.hid b9
  have HB10 := Lib.hid b10
  have HB11 := Lib.hid b11
  have HB12 := Lib.hid b12
  have HB13 := Lib.hid b13
  have HB14 := Lib.hid b14
  have HE9 := Lib.hid e9
  have l9 : h9 < h10 := by omega
  have l10 : h10 < h11 := by omega
  have l11 : h11 < h12 := by omega
  have l12 : h12 < h13 := by omega
  have l13 : h13 < h14 := by omega
  clear hX b9 b10 b11 b12 b13 b14 e9 e10 e11 e12 e13 e14
  have HSX := Lib.hid (HSH.out X)
  unfold blkV at HSX
  rw [hnn] at HSX
  refine HSX.out.mono ?_
  rintro e w1 ⟨g, cap, rfl, hBC, hg, hb1⟩
  have HBC := Lib.hid hBC.out
  have HBG := Lib.hid hBC.out.lt
  have HB1 := Lib.hid hb1
  have hs1 := hb1.size
  clear hBC hb1 HSX HSH
  go_upto_region 2 with fail
  obtain ⟨h15, e15⟩ : ∃ h, w1.heap.size = h := ⟨_, rfl⟩
  obtain ⟨V1, hV1⟩ : ∃ V1, V1 = w1.alloc (.cells #[.slice (some ⟨g, 0, none⟩) nn cap, .int .i64 (b.p : Int), .int .i64 (b.long : Int)] 52) := ⟨_, rfl⟩
  have hV1s : V1.heap.size = h15 + 1 := by rw [hV1, World.size_alloc, e15]
  have b15 : Box V1 h15 #[.slice (some ⟨g, 0, none⟩) nn cap, .int .i64 (b.p : Int), .int .i64 (b.long : Int)] 52 := by rw [hV1]; exact Box.new e15.symm
  have hw1V : Below w1.heap.size w1 V1 := by rw [hV1]; exact Below_alloc1 _
  have HXV : Hid (Below X.heap.size X V1) := HB1.out.trans (hw1V.mono hs1)
  have HCV : Hid (BCols b g cap V1) := HBC.out.below hw1V
  rw [e15] at HBG
  rw [← hV1, e15]
  have HB15 := Lib.hid b15
  have l14 : h14 < h15 := by omega
  have q10 := (HB10.out.below HXV.out HB10.out.lt).cell 0
  have q15 := HB15.out.cell 0
  clear hV1 b15 hw1V HB1 HBC hs1 e15
  go_upto_region 7 with fail
  obtain ⟨h17, e17⟩ : ∃ h, h15 + 1 = h := ⟨_, rfl⟩
  obtain ⟨h18, e18⟩ : ∃ h, h17 + 1 = h := ⟨_, rfl⟩
  obtain ⟨V2, hV2⟩ : ∃ V2, V2 = (V1.alloc (.cells #[.slice none 0 0] 23)).alloc (.cells #[.slice none 0 0] 23) := ⟨_, rfl⟩
  have hV2s : V2.heap.size = h18 + 1 := by rw [hV2]; simp; omega
  have hT0 : TwoRows (h18 + 1) h17 V2 h17 h18 V2 [] [] none 0 none 0 := ⟨by rw [hV2]; exact (Box.new (by omega) : Box (V1.alloc _) h17 _ _).alloc _, by rw [hV2]; exact Box.new (by simp; omega), Own.nil .., Own.nil .., fun g h => (by cases h), Below.refl _ _, by omega⟩
  have h12V : Below V1.heap.size V1 V2 := by rw [hV2]; exact ((Below.refl _ V1).alloc (Nat.le_refl _) _).alloc (by simp) _
  have HXV2 : Hid (Below X.heap.size X V2) := HXV.out.trans (h12V.mono HXV.out.size)
  have HCV2 : Hid (BCols b g cap V2) := HCV.out.below h12V
  have HB15' : Hid (Box V2 h15 #[.slice (some ⟨g, 0, none⟩) nn cap, .int .i64 (b.p : Int), .int .i64 (b.long : Int)] 52) := HB15.out.below h12V HB15.out.lt
  have q10' := (HB10.out.below HXV2.out HB10.out.lt).cell 0
  have HT0 := Lib.hid hT0
  have HRV2 : Hid (SRow pcL V2 (fun _ => True) al nn cl ps) := by
    have h1 := (HROW.out.below (w' := X) (by rw [HE9.out]; exact hwX.out)).below HXV2.out
    rw [HNN.out] at h1
    exact h1
  rw [← hV2, e17, e18]
  have l17 : h15 < h17 := by omega
  have l18 : h17 < h18 := by omega
  clear hV2 hT0 h12V HXV HCV HB15 q10 q15 e17 e18
  go_wp2_with fail
  go_loopw [47] (fun kv wr => ∃ (k : Nat) (la : Option Addr) (lc : Nat) (ka : Option Addr) (kc : Nat), k ≤ nn ∧ kv = .int .i64 (k : Int) ∧ Hid (TwoRows (h18 + 1) h17 V2 h17 h18 wr (lostOf ps k) (keptOf ps k) la lc ka kc)) (fun kv _ => nn - (intOf kv).toNat)
  case atStart => exact ⟨0, none, 0, none, 0, Nat.zero_le _, rfl, HT0⟩
  case round =>
    obtain ⟨k, la, lc, ka, kc, hk, rfl, hT⟩ := hrel
    by_cases hkn : k < nn
    · have i1 : (k : Int) < (nn : Int) := by omega
      have hpl : ps.length = nn := by have := HROW.out.1; rw [HNN.out] at this; exact this
      obtain ⟨x, hx⟩ : ∃ x, ps[k]? = some x := ⟨_, List.getElem?_eq_getElem (by omega)⟩
      have hxd : ps.getD k (false, []) = x := by simp [List.getD, hx]
      obtain ⟨bl, ol, ad, nd, cd, rfl, hbl, _, hc0, hc1, hrw⟩ := pcRow HROW.out k x hx
      obtain ⟨lo, xs⟩ := x
      have hF : h17 ≤ wr.heap.size := by have := hT.out.lt; omega
      have hwr : Below h9 w wr := (hwX.out.trans (HXV2.out.mono (by have := HXV2.out.size; have := hXs; omega))).trans (hT.out.bel.mono (by omega))
      have e0 := (hwr.cell (p := ⟨bl, ol + k * 2, none⟩) (by show bl < _; rw [← HE9.out]; exact hbl)).trans hc0
      have e1 := (hwr.cell (p := ⟨bl, ol + k * 2 + 1, none⟩) (by show bl < _; rw [← HE9.out]; exact hbl)).trans hc1
      have HXD := Lib.hid hxd
      have hnd := hrw.hlen
      have HND := Lib.hid hnd
      clear hx hxd hc0 hc1 hrw hnd hwr
      go_upto_region 10 with fail
      obtain ⟨Y, hY⟩ : ∃ Y, Y = wr.alloc (.cells #[.bool lo, .slice ad nd cd] 35) := ⟨_, rfl⟩
      obtain ⟨h20, e20⟩ : ∃ h, wr.heap.size = h := ⟨_, rfl⟩
      have hYw : Below wr.heap.size wr Y := by rw [hY]; exact Below_alloc1 _
      have b20 : Box Y h20 #[.bool lo, .slice ad nd cd] 35 := by rw [hY]; exact Box.new e20.symm
      have HTY := Lib.hid (hT.out.below hYw)
      have hk1 := lostOf_succ ps k
      have hk2 := keptOf_succ ps k
      rw [HXD.out] at hk1 hk2
      rw [← hY, e20]
      have u0 := b20.cell 0
      have u1 := b20.cell 1
      clear hY e20 hYw hT e0 e1
      cases lo with
      | true =>
        have hk1' : lostOf ps (k + 1) = lostOf ps k ++ [k] := hk1
        have hk2' : keptOf ps (k + 1) = keptOf ps k := by rw [hk2]; simp
        have HK1 := Lib.hid hk1'
        have HK2 := Lib.hid hk2'
        have HL := Lib.hid (keptOf_len ps k)
        have HT2 := Lib.hid (HTY.out.below (Below_alloc1 (.cells #[.int .i64 (k : Int)] 3)))
        have HV2 := Lib.hid (HTY.out.src k)
        have y17 := HTY.out.b1.cell 0
        have HLT := Lib.hid HT2.out.lt
        have hlk : (lostOf ps k).length ≤ 8 := by have := HL.out; omega
        obtain ⟨lk, hlk'⟩ : ∃ lk, (lostOf ps k).length = lk := ⟨_, rfl⟩
        clear hk1 hk2 hk1' hk2'
        rw [hlk'] at y17 hlk
        have HLK := Lib.hid hlk'
        clear hlk'
        go_wp2_with (at_builtin; refine wpList_append_at rfl (.tmp 54) (.tmp 56) 23 rfl (h18 + 1) 3 _ 1 8 Try.underlying23 info_int rfl (by decide) la lk lc _ rfl (HLK.out ▸ HT2.out.own1) (some ⟨Y.heap.size, 0, none⟩) 1 1 [.int .i64 (k : Int)] rfl HV2.out (by intro u hu; obtain rfl := List.mem_singleton.1 hu; rfl) (by unfold maxLen; omega) (by omega) HLT.out.2.2.2.2.2.1 ?_; intro a2 c2 w2 O2 G2 A2; rw [← HLK.out] at O2 G2 A2; have T3 := Lib.hid (HT2.out.put O2 G2 A2); have bm := HT2.out.mid G2; have z17 := bm.cell 0; have zf17 := bm.free 0; clear bm O2 G2 A2)
        refine ⟨⟨k + 1, a2, c2, ka, kc, by omega, by push_cast; rfl, ?_⟩, by simp [intOf]; omega⟩
        have h := T3.out
        rw [HLK.out, ← HK1.out, ← HK2.out] at h
        exact h
      | false =>
        have hk1' : lostOf ps (k + 1) = lostOf ps k := by rw [hk1]; simp
        have hk2' : keptOf ps (k + 1) = keptOf ps k ++ [k] := hk2
        have HK1 := Lib.hid hk1'
        have HK2 := Lib.hid hk2'
        have HL := Lib.hid (keptOf_len ps k)
        clear hk1 hk2 hk1' hk2'
        have hnz : Hid (nd = b.sz k) := by
          have h1 := HSZ.out k (by rw [HNN.out]; exact hkn) (by rw [HXD.out])
          rw [HXD.out] at h1
          exact HND.out.symm.trans h1
        have HYV : Hid (Below h17 V2 Y) := HTY.out.bel
        have hYs : h18 + 1 ≤ Y.heap.size := HTY.out.lt.2.2.2.2.2.1
        have HB15y : Hid (Box Y h15 #[.slice (some ⟨g, 0, none⟩) nn cap, .int .i64 (b.p : Int), .int .i64 (b.long : Int)] 52) := HB15'.out.below HYV.out l17
        have HCY : Hid (BCols b g cap Y) := by
          have h1 := HCV2.out
          have hg2 : g < h15 := by
            have := HBG.out; omega
          exact ⟨by omega, h1.cap1, h1.cap2, fun j hj => (HYV.out.cell (p := ⟨g, j * 4 + 2, none⟩) (by show g < h17; omega)).trans (h1.cnt j hj)⟩
        go_upto_region 12 with fail
        refine wp_region_noPanic ?_
        refine wp_region_held_drew (S := fun w' => Below Y.heap.size Y w') (by kernel_rfl) (Below.refl _ _).drew (fun hHeld => ?_)
        have HLD : Below Y.heap.size Y Y.drew := (Below.refl _ _).drew
        have h20Y := b20.lt
        have HB20 := Lib.hid b20
        refine wpAnyH_take (i := 0) (v := .pointer (some ⟨h20, 1, none⟩)) rfl (by kernel_rfl) (by kernel_rfl) (by kernel_rfl) (fun _ _ _ h => (h : False).elim) (Or.inl ⟨by rfl, ?_⟩) (by assumption) ?_
        · intro w' hS
          go_simp
          done
        try simp only [Act.put, List.getElem_toArray, List.getElem_cons_zero, List.setIfInBounds_toArray, List.set_cons_zero, List.set_cons_succ]
        refine wpAnyH_take (i := 1) (v := .slice ad nd cd) rfl (by kernel_rfl) (by kernel_rfl) (by kernel_rfl) (fun _ _ _ h => (h : False).elim) (Or.inl ⟨by rfl, ?_⟩) (by assumption) ?_
        · intro w' hS
          have q := (HB20.out.below hS h20Y).cell 1
          go_simp
          done
        try simp only [Act.put, List.getElem_toArray, List.getElem_cons_zero, List.getElem_cons_succ, List.setIfInBounds_toArray, List.set_cons_zero, List.set_cons_succ]
        refine wpAnyH_take (i := 2) (v := .int .i64 (nd : Int)) rfl (by kernel_rfl) (by kernel_rfl) (by kernel_rfl) (fun _ _ _ h => (h : False).elim) (Or.inl ⟨by rfl, ?_⟩) (by assumption) ?_
        · intro w' hS
          go_simp
          done
        try simp only [Act.put, List.getElem_toArray, List.getElem_cons_zero, List.getElem_cons_succ, List.setIfInBounds_toArray, List.set_cons_zero, List.set_cons_succ]
        refine wpAnyH_take (i := 3) (v := .agg #[.slice (some ⟨g, 0, none⟩) nn cap, .int .i64 (b.p : Int), .int .i64 (b.long : Int)]) rfl (by kernel_rfl) (by kernel_rfl) (by kernel_rfl) (fun _ _ _ h => (h : False).elim) (Or.inl ⟨by rfl, ?_⟩) (by assumption) ?_
        · intro w' hS
          have q := HB15y.out.below hS HB15y.out.lt
          have q0 := q.cell 0
          have q1 := q.cell 1
          have q2 := q.cell 2
          clear q
          go_simp
          done
        try simp only [Act.put, List.getElem_toArray, List.getElem_cons_zero, List.getElem_cons_succ, List.setIfInBounds_toArray, List.set_cons_zero, List.set_cons_succ]
        refine wpAnyH_take (i := 4) (v := .int .i64 (k : Int)) rfl (by kernel_rfl) (by kernel_rfl) (by kernel_rfl) (fun _ _ _ h => (h : False).elim) (Or.inl ⟨by rfl, ?_⟩) (by assumption) ?_
        · intro w' hS
          go_simp
          done
        try simp only [Act.put, List.getElem_toArray, List.getElem_cons_zero, List.getElem_cons_succ, List.setIfInBounds_toArray, List.set_cons_zero, List.set_cons_succ]
        refine wpAnyH_ready (rs := [5]) (by kernel_rfl) (by simp) ?_
        refine AllReadyH.cons rfl (fun K hK => ?_) AllReadyH.nil
        go_simp
        have hSZW := sizeW b g cap k (by rw [HNN.out]; exact hkn) Y.drew (HCY.out.below HLD)
        unfold blkV at hSZW
        rw [HNN.out] at hSZW
        refine hSZW.mono ?_
        rintro e w3 ⟨rfl, hB3⟩
        go_wp2_with fail
        have hL3 : Below Y.heap.size Y w3 := HLD.trans hB3
        refine hK.out _ _ hL3 (fun hHeld3 => ?_)
        clear hK K hSZW
        try simp only [Act.put, List.getElem_toArray, List.getElem_cons_zero, List.getElem_cons_succ, List.setIfInBounds_toArray, List.set_cons_zero, List.set_cons_succ]
        obtain ⟨sz, hsz⟩ : ∃ sz, b.sz k = sz := ⟨_, rfl⟩
        obtain rfl : nd = sz := by rw [← hsz]; exact hnz.out
        rw [hsz]
        clear hsz
        refine wpAnyH_take (i := 6) (v := .bool false) rfl (by kernel_rfl) (by kernel_rfl) (by kernel_rfl) (fun _ _ _ h => (h : False).elim) (Or.inl ⟨by rfl, ?_⟩) (by assumption) ?_
        · intro w' hS
          go_simp
          done
        try simp only [Act.put, List.getElem_toArray, List.getElem_cons_zero, List.getElem_cons_succ, List.setIfInBounds_toArray, List.set_cons_zero, List.set_cons_succ]
        refine wpAnyH_done (by kernel_rfl) (NoPanic.normal ?_) _
        have HT3 := Lib.hid (HTY.out.swap.below hL3)
        have HT4 := Lib.hid (HT3.out.below (Below_alloc1 (.cells #[.int .i64 (k : Int)] 3)))
        have HV4 := Lib.hid (HT3.out.src k)
        have y18 := HT3.out.b1.cell 0
        have HLT := Lib.hid HT4.out.lt
        have hlk : (keptOf ps k).length ≤ 8 := by have := HL.out; omega
        obtain ⟨lk, hlk'⟩ : ∃ lk, (keptOf ps k).length = lk := ⟨_, rfl⟩
        rw [hlk'] at y18 hlk
        have HLK := Lib.hid hlk'
        clear hlk' hHeld hHeld3 HLD h20Y HB20 hB3 hL3
        go_wp2_with (at_builtin; refine wpList_append_at rfl (.tmp 65) (.tmp 67) 23 rfl (h18 + 1) 3 _ 1 8 Try.underlying23 info_int rfl (by decide) ka lk kc _ rfl (HLK.out ▸ HT4.out.own1) (some ⟨w3.heap.size, 0, none⟩) 1 1 [.int .i64 (k : Int)] rfl HV4.out (by intro u hu; obtain rfl := List.mem_singleton.1 hu; rfl) (by unfold maxLen; omega) (by omega) HLT.out.2.2.2.2.2.1 ?_; intro a2 c2 w2 O2 G2 A2; rw [← HLK.out] at O2 G2 A2; have T3 := Lib.hid (HT4.out.put O2 G2 A2); have bm := HT4.out.mid G2; have z18 := bm.cell 0; have zf18 := bm.free 0; clear bm O2 G2 A2)
        refine ⟨⟨k + 1, la, lc, a2, c2, by omega, by push_cast; rfl, ?_⟩, by simp [intOf]; omega⟩
        have h := T3.out.swap
        rw [HLK.out, ← HK1.out, ← HK2.out] at h
        exact h
    · obtain rfl : k = nn := by omega
      have HLEN := Lib.hid (keptOf_len ps k)
      have y17 := hT.out.b1.cell 0
      have y18 := hT.out.b2.cell 0
      obtain ⟨ll, hll⟩ : ∃ ll, (lostOf ps k).length = ll := ⟨_, rfl⟩
      have HLL := Lib.hid hll
      have hl8 : ll ≤ 8 := by have := HLEN.out; omega
      rw [hll] at y17
      clear hll
      have hlt := hT.out.lt
      have hbl := hT.out.bel
      have hX2 := HXV2.out.size
      have hXr : Below X.heap.size X wr := HXV2.out.trans (hbl.mono (by omega))
      have HXR := Lib.hid hXr
      have hwr : Below h9 w wr := hwX.out.trans (hXr.mono (by omega))
      have HWR := Lib.hid hwr
      have b9 := HB9.out.below hXr (by omega)
      have b10 := HB10.out.below hXr (by omega)
      have b11 := HB11.out.below hXr (by omega)
      have b12 := HB12.out.below hXr (by omega)
      have b13 := HB13.out.below hXr (by omega)
      have b14 := HB14.out.below hXr (by omega)
      have b15 : Box wr h15 #[.slice (some ⟨g, 0, none⟩) k cap, .int .i64 (b.p : Int), .int .i64 (b.long : Int)] 52 := HB15'.out.below hbl l17
      have y12 := b12.cell 0
      have y13 := b13.cell 0
      have y14 := b14.cell 0
      have f12 := b12.free 0
      have f13 := b13.free 0
      have f14 := b14.free 0
      clear hXr hwr hbl
      by_cases hmany : b.p < ll
      · have i1 : (b.p : Int) < (ll : Int) := by omega
        have HB1 := Lib.hid b12
        have HB2 := Lib.hid b13
        have HB3 := Lib.hid b14
        clear b9 b10 b11 b12 b13 b14 b15 hlt
        go_wp2_with fail
        have r12 : Box (((wr.setCell ⟨h12, 0, none⟩ (.slice none 0 0)).setCell ⟨h13, 0, none⟩ (.slice none 0 0)).setCell ⟨h14, 0, none⟩ (.int .i64 12)) h12 #[.slice none 0 0] 22 := ((HB1.out.set 0 (.slice none 0 0)).other ⟨h13, 0, none⟩ (by show h13 ≠ h12; omega) _).other ⟨h14, 0, none⟩ (by show h14 ≠ h12; omega) _
        have r13 : Box (((wr.setCell ⟨h12, 0, none⟩ (.slice none 0 0)).setCell ⟨h13, 0, none⟩ (.slice none 0 0)).setCell ⟨h14, 0, none⟩ (.int .i64 12)) h13 #[.slice none 0 0] 23 := ((HB2.out.other ⟨h12, 0, none⟩ (by show h12 ≠ h13; omega) (.slice none 0 0)).set 0 (.slice none 0 0)).other ⟨h14, 0, none⟩ (by show h14 ≠ h13; omega) _
        have r14 : Box (((wr.setCell ⟨h12, 0, none⟩ (.slice none 0 0)).setCell ⟨h13, 0, none⟩ (.slice none 0 0)).setCell ⟨h14, 0, none⟩ (.int .i64 12)) h14 #[.int .i64 12] 36 := ((HB3.out.other ⟨h12, 0, none⟩ (by show h12 ≠ h14; omega) (.slice none 0 0)).other ⟨h13, 0, none⟩ (by show h13 ≠ h14; omega) (.slice none 0 0)).set 0 (.int .i64 12)
        have LL := Lib.hid (((HWR.out.setCell (p := ⟨h12, 0, none⟩) (by show h9 ≤ h12; omega) (.slice none 0 0)).setCell (p := ⟨h13, 0, none⟩) (by show h9 ≤ h13; omega) (.slice none 0 0)).setCell (p := ⟨h14, 0, none⟩) (by show h9 ≤ h14; omega) (.int .i64 12))
        generalize (((wr.setCell ⟨h12, 0, none⟩ (.slice none 0 0)).setCell ⟨h13, 0, none⟩ (.slice none 0 0)).setCell ⟨h14, 0, none⟩ (.int .i64 12)) = W at *
        have q12 : W.cell? ⟨h12, 0, none⟩ = some (.slice none 0 0) := r12.cell 0
        have q13 : W.cell? ⟨h13, 0, none⟩ = some (.slice none 0 0) := r13.cell 0
        have q14 : W.cell? ⟨h14, 0, none⟩ = some (.int .i64 12) := r14.cell 0
        clear y12 y13 y14 f12 f13 f14
        refine ⟨.tuple #[.slice none 0 0, .slice none 0 0, .int .i64 12], by simp [results, Try.results12, go_sem, q12, q13, q14], .inl ⟨by rw [HNN.out, HLL.out]; exact hmany, rfl, by rw [HE9.out]; exact LL.out⟩⟩
      · have i1 : ¬ (b.p : Int) < (ll : Int) := by omega
        have i2 : decide ((b.p : Int) < (ll : Int)) = false := by simp; omega
        have i3 : decide (b.p < ll) = false := by simp; omega
        have HST : Hid (GSt b ps n s wr h9 h10 h11 h12 h13 h14 h15 h17 h18 g cap al cl la lc ka kc) := by
          have hwf : ∀ {L : List Nat}, (∀ x ∈ L, x < k) → ∀ x ∈ nats L, (Lit.int .i64 x).wf = true := fun hL x hx => by
            obtain ⟨y, hy, rfl⟩ := List.mem_map.1 hx
            have := hL y hy
            exact nat_wf (by omega)
          have hg2 : g < h15 := HBG.out
          refine ⟨b9, ?_, b11, b12, b13, b14, ?_, ?_, ?_, ?_, ?_, ?_, ?_, by omega⟩
          · rw [HNN.out]; exact b10
          · rw [HNN.out]; exact b15
          · rw [HNN.out]; exact hT.out.b1
          · rw [HNN.out]; exact hT.out.b2
          · have h1 := HCV2.out
            exact ⟨by omega, h1.cap1, h1.cap2, fun j hj => (hT.out.bel.cell (p := ⟨g, j * 4 + 2, none⟩) (by show g < h17; omega)).trans (h1.cnt j hj)⟩
          · exact HROW.out.below (by rw [HE9.out]; exact HWR.out)
          · rw [HNN.out]
            exact VRow.toRow hT.out.own1.row (hwf (fun x hx => (lostOf_mem.1 hx).1))
          · rw [HNN.out]
            exact VRow.toRow hT.out.own2.row (hwf (fun x hx => (keptOf_mem.1 hx).1))
        have hwrs : h9 ≤ h12 ∧ h12 < wr.heap.size ∧ h13 < wr.heap.size ∧ h14 < wr.heap.size := by
          have := b12.lt; have := b13.lt; have := b14.lt; omega
        have HWS := Lib.hid hwrs
        clear b9 b10 b11 b12 b13 b14 b15 hlt hwrs y12 y13 y14 f12 f13 f14
        go_wp2_with fail
        refine loopW b (fun c => (ps.getD c (false, [])).2) ps n s wr h9 h10 h11 h12 h13 h14 h15 h17 h18 g cap al cl la lc ka kc HST.out (fun _ _ => rfl) HFL.out hn hb4 hb8 (by rw [HNN.out, HLL.out]; omega) (HEX.out (by rw [HNN.out, HLL.out]; omega)) _ ?_ _ _ _ _ _ _ _ _ _ _ _ _ _ _ _ _ _ _ _ _ _ _ _ _ _ _ _ _ _ _ _ _ _ _ _ _ _ _ _ _ _ _ _ _ _ _ _ _ _ _ _ _ _ _ _ _ _ _ _ _ _ _ _ _ _ _ _ _ _ _ _ _ _ _ _ _ _ _ _ _ _ _ _ _ _ _ _ _ _ _ _ _ _ _ _ _ _ _ _ _ _ _ _ _ _ _ _ _ _ _ _ _ _ _ _ _ _
        intro Ds W' a' B hm hB hl hD hdf t12 t13 t14
        show LeavesInM Fence.wide 3 Try.prog Try.f12 a'.tmps (GPost b ps n s w) a'.defers .returning W'
        rw [hdf]
        refine leaves_marks Ds W' hm.at_ hm.nd fun Y hu => ?_
        obtain ⟨gg, hfd, ad, ap, cp, r12, r13, r14, w1, w2, n1, n2⟩ := hl.out
        have hws := HWS.out
        have hk : ∀ {h : Nat} {vs : Array Value} {t : TypeId}, Box W' h vs t → h < wr.heap.size → Box Y h vs t := fun hb hx => (hu.block _ (fun e => by have := hm.ge _ e; omega)).trans hb
        have hx12 : Y.cell? ⟨h12, 0, none⟩ = some (.slice ad n n) := (hk r12 hws.2.1).cell 0
        have hx13 : Y.cell? ⟨h13, 0, none⟩ = some (.slice ap gg.length cp) := (hk r13 hws.2.2.1).cell 0
        have hx14 : Y.cell? ⟨h14, 0, none⟩ = some (.int .i64 0) := (hk r14 hws.2.2.2).cell 0
        refine ⟨.tuple #[.slice ad n n, .slice ap gg.length cp, .int .i64 0], ?_, .inr ⟨by rw [HNN.out, HLL.out]; omega, gg, ad, ap, cp, rfl, hfd, w1.kept (fun x o e => hu.block x (fun hx => ?_)), w2.kept (fun x o e => hu.block x (fun hx => ?_)), ?_⟩⟩
        · rw [Array.getD_eq_getD_getElem?] at t12 t13 t14
          simp [results, Try.results12, go_sem, t12, t13, t14, hx12, hx13, hx14]
        · have := n1 x o e; have := hD x hx; omega
        · have := n2 x o e; have := hD x hx; omega
        · have hb : Below h9 wr W' := ⟨hl.os, hl.tape, hl.output, hl.size, fun x hx => hl.block x (by omega) (by omega) (by omega) (by omega)⟩
          rw [HE9.out]
          exact hu.below (HWR.out.trans hb) (fun D hD => by have := hm.ge D hD; omega)
end Go.Proofs.Ytkjaddiagembaaa
