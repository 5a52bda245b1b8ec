/- The walk of PoolStores. -/
import Derived.Test.YtkbfohbpndjcpaaPoY
import Derived.Test.YtkbfohbpndjcpaaPoZ
import Derived.Deep.DeepCutAuto
namespace Go.Proofs.Ytkbfohbpndjcpaa
open Go.RowKit
set_option linter.unusedVariables false
set_option maxRecDepth 1000000
set_option linter.unusedSimpArgs false

/-- Three commands in a new block. -/
theorem vrowBox {α : Type} {L : Lay α} {w : World} {F : Nat → Prop} {g : Nat} {t : TypeId} {cells : Array Value} (xs : List α) (vss : List (List Value)) (hc : cells.toList = vss.flatten) (h : Box w g cells t) (hp : Pt L w F xs vss) (hl : xs.length ≤ 1000) : VRow w L.size (some ⟨g, 0, none⟩) xs.length xs.length vss.flatten := by
  refine ⟨?_, Nat.le_refl _, by unfold maxLen; omega, (fun h => by cases h), .inr ⟨g, 0, rfl, fun i hi => ?_⟩⟩
  · rw [flatten_length L.size vss hp.sizes, hp.1]
  · rw [Nat.zero_add, h.cell i, ← hc]; simp
theorem commandsP_named (os : List Od) (n : Nat) (ks : List Nat) : ∀ c ∈ commandsP os n ks, c.kind = 7 → c.other ∈ snapNames := by
  intro c hc _
  obtain ⟨o, _, rfl⟩ := List.mem_map.1 hc
  exact snapN_mem _
theorem storesOk (n : Int) (o : Nat) (d : List Int) (hd : 1 ≤ d.length ∧ d.length ≤ 400) (ho : o + d.length ≤ 1024) : ∀ c ∈ [ftC (objN n), stC (objN n) o d, ftC (objN n)], c.Ok := by
  intro c hc
  simp only [List.mem_cons, List.mem_nil_iff, or_false] at hc
  have hf : (ftC (objN n)).Ok := ⟨(by decide : 1 ≤ 3), (by decide : 3 ≤ 12), Nat.zero_le _, Nat.le_refl _, (fun e => absurd (show 3 = 2 from e) (by decide)), objN_len _, Nat.zero_le _⟩
  rcases hc with rfl | rfl | rfl
  · exact hf
  · exact ⟨(by decide : 1 ≤ 2), (by decide : 2 ≤ 12), (show o ≤ 2000 by omega), Nat.zero_le _, fun _ => hd, objN_len _, Nat.zero_le _⟩
  · exact hf
set_option maxHeartbeats 8000000 in
theorem poolStores (F : Nat → Prop) (a : Option Addr) (len cap : Nat) (os : List Od) (n off : Int) (ad : Option Addr) (ld0 cd0 : Nat) (data : List Int) (w : World) (ha : SRow odL w F a len cap os) (hd : Row .u8 w ad ld0 cd0 data) :
    Calls Try.prog 5 #[.slice a len cap, .int .i64 n, .int .i64 off, .slice ad ld0 cd0] w fun e w' => e = .returned (.bool true) ∧ Below w.heap.size w w' := by
  have HA := Lib.hid ha
  have HD := Lib.hid hd
  clear ha hd
  have HOK := Lib.hid (commandsP_ok os 40 ownK (by decide) ownK_ok)
  have HLC := Lib.hid (commandsP_length os 40 ownK)
  obtain ⟨N, hN⟩ : ∃ N, Hid (objN n = N) := ⟨_, rfl⟩
  have hbl := blockP_len data 400 (by decide)
  obtain ⟨D, hDd⟩ : ∃ D, Hid (blockP data 400 = D) := ⟨_, rfl⟩
  rw [hDd.out] at hbl
  obtain ⟨hbl0, hbl1⟩ := hbl
  have HPS := Lib.hid (fun o ho => pool_stores (commandsP os 40 ownK) N o D (commandsP_ok os 40 ownK (by decide) ownK_ok) ⟨hbl0, hbl1⟩ ho)
  have HSO := Lib.hid (fun o ho => storesOk n o D ⟨hbl0, hbl1⟩ ho)
  go_enter Try.func5, Try.ntmps5
  go_wp2_with fail
  refine (ownKindsW w).mono ?_
  rintro e w1 ⟨rfl, hK1, hB1⟩
  go_wp2_with fail
  refine (commandsW F a len cap os 40 w.heap.size 0 22 22 ownK w1 (HA.out.below hB1.out) (kindsRow ownK hK1.out (by decide) (by decide)) (by decide) (by decide) (by decide)).mono ?_
  rintro e w2 ⟨a2, l2, c2, rfl, hO2, hB2⟩
  have hB2' : Hid (Below w1.heap.size w1 w2) := hB2.out
  have hw1 : Hid (w.heap.size ≤ w1.heap.size) := hB1.out.size
  obtain ⟨cs, hcs⟩ : ∃ cs, commandsP os 40 ownK = cs := ⟨_, rfl⟩
  have h1 := HOK.out
  have h2 := HLC.out
  have h3 := HPS.out
  rw [hcs] at hO2 h1 h2 h3
  have HOK2 := Lib.hid h1
  have HPS2 := Lib.hid h3
  have hl2 : cs.length = l2 := hO2.out.1
  have hl2b : l2 ≤ 40 := by omega
  have HL2 := Lib.hid hl2
  have B2 : Hid (Below w.heap.size w w2) := hB1.out.trans (hB2.out.mono hB1.out.size)
  clear h1 h2 h3 hcs hl2 HOK HLC HPS hB1 hB2 hK1
  go_wp2_with fail
  refine (objectNameW n w2).mono ?_
  rintro e w3 ⟨rfl, hB3⟩
  rw [hN.out]
  have B3 : Hid (Below w.heap.size w w3) := B2.out.trans (hB3.out.mono B2.out.size)
  go_wp2_with fail
  refine (blockW ad ld0 cd0 data 400 w3 (HD.out.below B3.out) (by decide) (by decide)).mono ?_
  rintro e w4 ⟨ag, lg, cg, rfl, hNw⟩
  rw [hDd.out] at hNw
  have hlg : D.length = lg := hNw.out.row.hlen
  have hlg0 : 1 ≤ lg := by omega
  have hlg1 : lg ≤ 400 := by omega
  have B4 : Hid (Below w.heap.size w w4) := B3.out.trans (hNw.out.below.mono B3.out.size)
  have HLG := Lib.hid hlg
  have wl : IntKind.i64.wrap (IntKind.i64.wrap (1024 - (lg : Int)) + 1) = 1025 - (lg : Int) := by rw [IntWalk.i64_in (1024 - (lg : Int)) (by omega), IntWalk.i64_in _ (by omega)]; omega
  clear hlg hbl0 hbl1
  go_wp2_with fail
  refine (picked off (1024 - (lg : Int) + 1) w4 (by omega) (by omega)).mono ?_
  rintro e w' ⟨oI, hoI, ho0, ho1, rfl, rfl⟩
  obtain ⟨o, rfl⟩ := Int.eq_ofNat_of_zero_le ho0
  have hol : o + lg ≤ 1024 := by omega
  have hol2 : o + D.length ≤ 1024 := by have := HLG.out; omega
  obtain ⟨p, q, r, hE, hCs⟩ := HPS2.out o hol2
  have hso := HSO.out o hol2
  rw [hN.out] at hso
  have HOK3 : Hid (∀ c ∈ cs ++ [ftC N, stC N o D, ftC N], c.Ok) := fun c hc => by
    rcases List.mem_append.1 hc with h | h
    · exact HOK2.out c h
    · exact hso c h
  have HE := Lib.hid hE
  have HCs := Lib.hid hCs
  clear hoI ho0 ho1 wl hE hCs hso HPS2 HSO HOK2
  obtain ⟨X, hX⟩ : ∃ X, X = w4.alloc (.cells #[.int .i64 3, encStr N, .string ⟨#[]⟩, .int .i64 0, .int .i64 2000, .int .i64 0, .int .i64 0, .slice none 0 0, .int .i64 2, encStr N, .string ⟨#[]⟩, .int .i64 (o : Int), .int .i64 0, .int .i64 0, .int .i64 0, .slice ag lg cg, .int .i64 3, encStr N, .string ⟨#[]⟩, .int .i64 0, .int .i64 2000, .int .i64 0, .int .i64 0, .slice none 0 0] 30) := ⟨_, rfl⟩
  have hBX4 : Below w4.heap.size w4 X := by rw [hX]; exact Below_alloc1 _
  have BX : Hid (Below w.heap.size w X) := B4.out.trans (hBX4.mono B4.out.size)
  have hbox : Box X w4.heap.size #[.int .i64 3, encStr N, .string ⟨#[]⟩, .int .i64 0, .int .i64 2000, .int .i64 0, .int .i64 0, .slice none 0 0, .int .i64 2, encStr N, .string ⟨#[]⟩, .int .i64 (o : Int), .int .i64 0, .int .i64 0, .int .i64 0, .slice ag lg cg, .int .i64 3, encStr N, .string ⟨#[]⟩, .int .i64 0, .int .i64 2000, .int .i64 0, .int .i64 0, .slice none 0 0] 30 := by rw [hX]; exact Box.new rfl
  have hDX : SRow (Lay.int .u8) X (fun b => w3.heap.size ≤ b ∧ b < X.heap.size) ag lg cg D := (hNw.out.row.below hBX4).toS (fun x hx _ => ⟨(hNw.out.new x hx).1, Nat.lt_of_lt_of_le (hNw.out.new x hx).2 hBX4.size⟩)
  have HDX := Lib.hid hDX
  have hPt : Hid (Pt cmL X (fun b => w3.heap.size ≤ b ∧ b < X.heap.size) [ftC N, stC N o D, ftC N] [(cmV (ftC N) none 0 0).toList, (cmV (stC N o D) ag lg cg).toList, (cmV (ftC N) none 0 0).toList]) := ((Pt.single (cells1 (ftC N) rfl)).append (Pt.single (cm_at (stC N o D) hDX))).append (Pt.single (cells1 (ftC N) rfl))
  have hVR : Hid (VRow X cmL.size (some ⟨w4.heap.size, 0, none⟩) 3 3 ([(cmV (ftC N) none 0 0).toList, (cmV (stC N o D) ag lg cg).toList, (cmV (ftC N) none 0 0).toList] : List (List Value)).flatten) := vrowBox [ftC N, stC N o D, ftC N] _ (by rfl) hbox hPt.out (by simp)
  have hB24 : Below w2.heap.size w2 w4 := hB3.out.trans (hNw.out.below.mono hB3.out.size)
  have hB2X : Below w2.heap.size w2 X := hB24.trans (hBX4.mono hB24.size)
  have HOX : Hid (SOwn cmL X w1.heap.size 30 (fun _ => True) a2 l2 c2 cs) := hO2.out.below hB2X
  have hFX : Hid (∀ b, (w3.heap.size ≤ b ∧ b < X.heap.size) → True ∧ b < X.heap.size ∧ (Value.slice a2 l2 c2).ownBlock ≠ some b) := fun b hb => ⟨trivial, hb.2, fun he => by
    have h5 := (World.ownsRow.lt hO2.out.2.choose_spec.choose_spec.1 b he).2
    have h6 := hB3.out.size
    omega⟩
  have hw1X : w1.heap.size ≤ X.heap.size := by
    have h5 := hB2X.size
    have h6 := hB2'.out.size
    omega
  clear hBX4 hbox hDX hB24 hB2X
  go_wp2_with (at_builtin; rw [← hX]; refine wpList_append_data (L := cmL) rfl (.tmp 33) (.tmp 42) 23 rfl w1.heap.size 30 _ 96 Try.underlying23 info_cmd rfl (fun _ => True) a2 l2 c2 cs rfl HOX.out (some ⟨w4.heap.size, 0, none⟩) 3 3 [ftC N, stC N o D, ftC N] _ rfl hVR.out _ hPt.out rfl hFX.out (by unfold maxLen; omega) (by omega) hw1X ?_; intro a5 c5 w5 hown5 hg5; have HO5 := Lib.hid hown5; have B5 : Hid (Below w.heap.size w w5) := SOwn.grown HOX.out BX.out hw1.out BX.out.size hg5; have HD5 : Hid (SRow (Lay.int .u8) w5 (fun _ => True) ag lg cg D) := HDX.out.keep (fun _ _ => trivial) (fun b hb hlt => hg5.block b hlt (fun e => (hFX.out b hb).2.2 e.symm)); clear hown5 hg5)
  obtain ⟨m, hm⟩ : ∃ m, Hid (l2 + 3 = m) := ⟨_, rfl⟩
  rw [hm.out] at HO5 ⊢
  have hmb : m ≤ 43 := by have := hm.out; omega
  have hm3 : 3 ≤ m := by have := hm.out; omega
  clear hX
  refine (pooledW a5 m c5 _ w5 (SOwn.srowLtP HO5.out) HOK3.out (by omega)).mono ?_
  rintro e w6 ⟨a6, c6, rfl, hR6, hB6⟩
  rw [HE.out] at hR6
  go_upto_if 54 with (go_at_call 12; refine (begunW w6).mono ?_; rintro e w7 ⟨rfl, hB7⟩)
  have hR7 := hR6.out.below hB7.out
  have hlo : (outsP pl0 cs).length = l2 := by rw [outsP_length]; exact HL2.out
  have hmm := hm.out
  obtain ⟨b, off1, p1, ap, lp, cp, ap2, lp2, cp2, rfl, hb1, hp1, hrp, _, p0, px1, px2, px3, px4⟩ := tdAt hR7 l2 (by omega)
  obtain ⟨b', off', q1, aq, lq, cq, aq2, lq2, cq2, e1, hb2, hq1, hrq, _, q0, qx1, qx2, qx3, qx4⟩ := tdAt hR7 (l2 + 1) (by omega)
  obtain ⟨rfl, rfl⟩ : b = b' ∧ off1 = off' := by simpa using e1
  obtain ⟨b', off', r1, ar, lr, cr, ar2, lr2, cr2, e2, hb3, hr1, hrr, _, r0, rx1, rx2, rx3, rx4⟩ := tdAt hR7 (l2 + 2) (by omega)
  obtain ⟨rfl, rfl⟩ : b = b' ∧ off1 = off' := by simpa using e2
  obtain rfl : p = p1 := by
    have := get_at (outsP pl0 cs) [q, r] p l2 hlo.symm
    rw [this] at hp1; exact Option.some.inj hp1
  obtain rfl : q = q1 := by
    have := get_at (outsP pl0 cs ++ [p]) [r] q (l2 + 1) (by simp [hlo])
    rw [show outsP pl0 cs ++ [p] ++ q :: [r] = outsP pl0 cs ++ [p, q, r] by simp] at this
    rw [this] at hq1; exact Option.some.inj hq1
  obtain rfl : r = r1 := by
    have := get_at (outsP pl0 cs ++ [p, q]) [] r (l2 + 2) (by simp [hlo])
    rw [show outsP pl0 cs ++ [p, q] ++ r :: [] = outsP pl0 cs ++ [p, q, r] by simp] at this
    rw [this] at hr1; exact Option.some.inj hr1
  have hle6 := hR7.hle
  have hmx6 := hR7.hmax
  unfold maxLen at hmx6
  have B7 : Hid (Below w.heap.size w w7) := (B5.out.trans (hB6.out.mono B5.out.size)).trans (hB7.out.mono (Nat.le_trans B5.out.size hB6.out.size))
  have D7 : Hid (Row .u8 w7 ag lg cg D) := (HD5.out.below (hB6.out.trans (hB7.out.mono hB6.out.size))).toRow
  have P7 := Lib.hid hrp
  have R7 := Lib.hid hrr
  obtain ⟨m2, hm2⟩ : ∃ m2, l2 + 1 = m2 := ⟨_, rfl⟩
  obtain ⟨m1, hm1⟩ : ∃ m1, l2 + 2 = m1 := ⟨_, rfl⟩
  rw [hm2] at q0 qx1 qx2 qx3 qx4
  rw [hm1] at r0 rx1 rx2 rx3 rx4
  have e3 : (m : Int) - 3 = (l2 : Int) := by omega
  have e2' : (m : Int) - 2 = (m2 : Int) := by omega
  have e1' : (m : Int) - 1 = (m1 : Int) := by omega
  have w3 : IntKind.i64.wrap ((m : Int) - 3) = (l2 : Int) := by rw [e3]; exact IntWalk.i64_in _ (by omega)
  have w2' : IntKind.i64.wrap ((m : Int) - 2) = (m2 : Int) := by rw [e2']; exact IntWalk.i64_in _ (by omega)
  have w1' : IntKind.i64.wrap ((m : Int) - 1) = (m1 : Int) := by rw [e1']; exact IntWalk.i64_in _ (by omega)
  have k3 : (l2 : Int) < (m : Int) := by omega
  have k2 : (m2 : Int) < (m : Int) := by omega
  have k1 : (m1 : Int) < (m : Int) := by omega
  have l3 : l2 < m := by omega
  have l2' : m2 < m := by omega
  have l1 : m1 < m := by omega
  clear hR6 hB6 hB7 hR7 e1 e2 hp1 hq1 hr1 hlo hrp hrq hrr hb2 hb3 hm1 hm2 hmm
  go_upto_region 12 with fail
  obtain ⟨V, hV⟩ : ∃ V, V = ((w7.alloc (.cells #[.int .i64 (p.code : Int), .bool false, .int .i64 (p.size : Int), .slice ap lp cp, .slice ap2 lp2 cp2] 41)).alloc (.cells #[.int .i64 (q.code : Int), .bool false, .int .i64 (q.size : Int), .slice aq lq cq, .slice aq2 lq2 cq2] 41)).alloc (.cells #[.int .i64 (r.code : Int), .bool false, .int .i64 (r.size : Int), .slice ar lr cr, .slice ar2 lr2 cr2] 41) := ⟨_, rfl⟩
  rw [← hV]
  have hb7V : Below w7.heap.size w7 V := by rw [hV]; exact (Below_alloc2 _ _).alloc (by simp; omega) _
  have HBA : Hid (Box V w7.heap.size #[.int .i64 (p.code : Int), .bool false, .int .i64 (p.size : Int), .slice ap lp cp, .slice ap2 lp2 cp2] 41) := by rw [hV]; exact Box.alloc (Box.alloc (Box.new rfl) _) _
  have HBS : Hid (Box V (w7.heap.size + 1) #[.int .i64 (q.code : Int), .bool false, .int .i64 (q.size : Int), .slice aq lq cq, .slice aq2 lq2 cq2] 41) := by rw [hV]; exact Box.alloc (Box.new (by simp)) _
  have HBR : Hid (Box V (w7.heap.size + 1 + 1) #[.int .i64 (r.code : Int), .bool false, .int .i64 (r.size : Int), .slice ar lr cr, .slice ar2 lr2 cr2] 41) := by rw [hV]; exact Box.new (by simp)
  have BV : Hid (Below w.heap.size w V) := B7.out.trans (hb7V.mono B7.out.size)
  have DV := Lib.hid (D7.out.below hb7V)
  have PV := Lib.hid (P7.out.below hb7V)
  have RV := Lib.hid (R7.out.below hb7V)
  have x0 : V.cell? ⟨w7.heap.size, 0, none⟩ = some (.int .i64 (p.code : Int)) := HBA.out.cell 0
  have x3 : V.cell? ⟨w7.heap.size, 3, none⟩ = some (.slice ap lp cp) := HBA.out.cell 3
  have y0 : V.cell? ⟨w7.heap.size + 1, 0, none⟩ = some (.int .i64 (q.code : Int)) := HBS.out.cell 0
  have y2 : V.cell? ⟨w7.heap.size + 1, 2, none⟩ = some (.int .i64 (q.size : Int)) := HBS.out.cell 2
  have z0 : V.cell? ⟨w7.heap.size + 1 + 1, 0, none⟩ = some (.int .i64 (r.code : Int)) := HBR.out.cell 0
  have z2 : V.cell? ⟨w7.heap.size + 1 + 1, 2, none⟩ = some (.int .i64 (r.size : Int)) := HBR.out.cell 2
  have z3 : V.cell? ⟨w7.heap.size + 1 + 1, 3, none⟩ = some (.slice ar lr cr) := HBR.out.cell 3
  clear hV hb7V p0 px1 px2 px3 px4 q0 qx1 qx2 qx3 qx4 r0 rx1 rx2 rx3 rx4 B7 D7 P7 R7 e3 e2' e1' w3 w2' w1' k3 k2 k1 l3 l2' l1 hb1
  rcases HCs.out with ⟨hc1, hc2, hc3⟩ | ⟨hc1, hc2, hc3, hc4, hc5, hc6, hc7, hc8⟩
  · have HC1 := Lib.hid hc1
    rw [hc1] at x0
    rw [hc2] at y0
    rw [hc3] at z0
    clear hc1 hc2 hc3 HC1 x3 y2 z2 z3
    have x0 : V.cell? ⟨w7.heap.size, 0, none⟩ = some (.int .i64 6) := x0
    have y0 : V.cell? ⟨w7.heap.size + 1, 0, none⟩ = some (.int .i64 6) := y0
    have z0 : V.cell? ⟨w7.heap.size + 1 + 1, 0, none⟩ = some (.int .i64 6) := z0
    go_wp2_with fail
    go_ret
    exact ⟨rfl, BV.out⟩
  · have hrl : r.data.length = lr := RV.out.hlen
    have hpl : p.data.length = lp := PV.out.hlen
    have hdl : D.length = lg := HLG.out
    rw [hrl, hpl, hdl] at hc4
    rw [hrl] at hc5 hc6 hc7 hc8
    rw [hpl, hdl] at hc8
    rw [hc1] at x0
    rw [hc2] at y0
    rw [hc3] at z0
    rw [hc5] at y2
    rw [hc6] at z2
    have x0 : V.cell? ⟨w7.heap.size, 0, none⟩ = some (.int .i64 0) := x0
    have y0 : V.cell? ⟨w7.heap.size + 1, 0, none⟩ = some (.int .i64 0) := y0
    have z0 : V.cell? ⟨w7.heap.size + 1 + 1, 0, none⟩ = some (.int .i64 0) := z0
    have HC8 := Lib.hid hc8
    have HC4 := Lib.hid hc4
    have hr1 : 1 ≤ lr := by omega
    have hlpb : lp ≤ 1024 := by omega
    have hAat : Hid (0 < lp → ∃ b off, ap = some ⟨b, off, none⟩ ∧ ∀ i, i < lp → V.cell? ⟨b, off + i, none⟩ = some (.int .u8 (p.data.getD i 0))) := fun h => by
      rcases PV.out.hat with h0 | ⟨b, off, e, hc⟩
      · omega
      · exact ⟨b, off, e, hc⟩
    obtain ⟨bD, oD, rfl, hDat⟩ : ∃ b off, ag = some ⟨b, off, none⟩ ∧ ∀ i, i < lg → V.cell? ⟨b, off + i, none⟩ = some (.int .u8 (D.getD i 0)) := by
      rcases DV.out.hat with h0 | ⟨b, off, e, hc⟩
      · omega
      · exact ⟨b, off, e, hc⟩
    obtain ⟨bB, oB, rfl, hBat⟩ : ∃ b off, ar = some ⟨b, off, none⟩ ∧ ∀ i, i < lr → V.cell? ⟨b, off + i, none⟩ = some (.int .u8 (r.data.getD i 0)) := by
      rcases RV.out.hat with h0 | ⟨b, off, e, hc⟩
      · omega
      · exact ⟨b, off, e, hc⟩
    have HDat := Lib.hid hDat
    have HBat := Lib.hid hBat
    have hcl : lg ≤ cg := DV.out.hle
    have hcr : lr ≤ cr := RV.out.hle
    have wol : IntKind.i64.wrap ((o : Int) + (lg : Int)) = (o : Int) + (lg : Int) := IntWalk.i64_in _ (by omega)
    clear hc1 hc2 hc3 hc4 hc5 hc6 hc8 hrl hpl hdl hDat hBat
    have HQ : Hid ((lr : Int) = max (lp : Int) ((o : Int) + (lg : Int))) := by show _ = _; have := HC4.out; omega
    by_cases hmx : lp < o + lg
    · have q1 : (lp : Int) < (o : Int) + (lg : Int) := by omega
      have q2 : ¬ ((o : Int) + (lg : Int) ≤ (lp : Int)) := by omega
      have q4 : ((lr : Int) == (o : Int) + (lg : Int)) = true := by have := HQ.out; simp; omega
      have q5 : ((lr : Int) != (o : Int) + (lg : Int)) = false := by have := HQ.out; simp; omega
      have q6 : max (lp : Int) ((o : Int) + (lg : Int)) = (o : Int) + (lg : Int) := by omega
      clear hmx
      go_upto_region 16 with fail
      clear q1 q2 q4 q5 q6
      go_wp2_with fail
      go_loop [18] (fun iv => ∃ i : Nat, i ≤ lr ∧ iv = .int .i64 i) (fun iv => lr - (intOf iv).toNat)
      case atStart => exact ⟨0, by omega, rfl⟩
      case round =>
        obtain ⟨i, hi, rfl⟩ := hrel
        by_cases hlt : i < lr
        · have ii : (i : Int) < (lr : Int) := by omega
          have cB := HBat.out i hlt
          by_cases hw : o ≤ i ∧ i < o + lg
          · by_cases h5 : i < lp
            · have e1 := HC8.out i hlt
              rw [if_pos hw] at e1
              rw [e1] at cB
              obtain ⟨bA, oA, rfl, cAf⟩ := hAat.out (by omega)
              have cA := cAf i h5
              obtain ⟨va, hva⟩ : ∃ va, p.data.getD i 0 = va := ⟨_, rfl⟩
              rw [hva] at cA
              have h5i : (i : Int) < (lp : Int) := by omega
              obtain ⟨kk, hkk⟩ : ∃ kk, i - o = kk := ⟨_, rfl⟩
              rw [hkk] at cB
              have cD := HDat.out kk (by omega)
              have wk : IntKind.i64.wrap ((i : Int) - (o : Int)) = (kk : Int) := by rw [IntWalk.i64_in _ (by omega)]; omega
              have hk0 : (0 : Int) ≤ (kk : Int) := by omega
              have hkl : (kk : Int) < (lg : Int) := by omega
              have ho1 : (o : Int) ≤ (i : Int) := by omega
              have ho2 : (i : Int) < (o : Int) + (lg : Int) := by omega
              obtain ⟨vd, hvd⟩ : ∃ vd, D.getD kk 0 = vd := ⟨_, rfl⟩
              rw [hvd] at cB cD
              clear hw h5 e1 cAf hva hkk hvd
              go_wp2_with fail
              go_round
              case rel => exact ⟨i + 1, by omega, by go_num⟩
              case measure => (simp [intOf]; try omega)
            · have e1 := HC8.out i hlt
              rw [if_pos hw] at e1
              rw [e1] at cB
              have h5i : ¬ ((i : Int) < (lp : Int)) := by omega
              obtain ⟨kk, hkk⟩ : ∃ kk, i - o = kk := ⟨_, rfl⟩
              rw [hkk] at cB
              have cD := HDat.out kk (by omega)
              have wk : IntKind.i64.wrap ((i : Int) - (o : Int)) = (kk : Int) := by rw [IntWalk.i64_in _ (by omega)]; omega
              have hk0 : (0 : Int) ≤ (kk : Int) := by omega
              have hkl : (kk : Int) < (lg : Int) := by omega
              have ho1 : (o : Int) ≤ (i : Int) := by omega
              have ho2 : (i : Int) < (o : Int) + (lg : Int) := by omega
              obtain ⟨vd, hvd⟩ : ∃ vd, D.getD kk 0 = vd := ⟨_, rfl⟩
              rw [hvd] at cB cD
              clear hw h5 e1 hkk hvd
              go_wp2_with fail
              go_round
              case rel => exact ⟨i + 1, by omega, by go_num⟩
              case measure => (simp [intOf]; try omega)
          · by_cases h5 : i < lp
            · by_cases hlo : o ≤ i
              · have e1 := HC8.out i hlt
                rw [if_neg hw] at e1
                rw [if_pos h5] at e1
                rw [e1] at cB
                obtain ⟨bA, oA, rfl, cAf⟩ := hAat.out (by omega)
                have cA := cAf i h5
                obtain ⟨va, hva⟩ : ∃ va, p.data.getD i 0 = va := ⟨_, rfl⟩
                rw [hva] at cA
                rw [hva] at cB
                have h5i : (i : Int) < (lp : Int) := by omega
                have ho1 : (o : Int) ≤ (i : Int) := by omega
                have ho2 : ¬ ((i : Int) < (o : Int) + (lg : Int)) := by omega
                clear hw h5 e1 cAf hva
                go_wp2_with fail
                go_round
                case rel => exact ⟨i + 1, by omega, by go_num⟩
                case measure => (simp [intOf]; try omega)
              · have e1 := HC8.out i hlt
                rw [if_neg hw] at e1
                rw [if_pos h5] at e1
                rw [e1] at cB
                obtain ⟨bA, oA, rfl, cAf⟩ := hAat.out (by omega)
                have cA := cAf i h5
                obtain ⟨va, hva⟩ : ∃ va, p.data.getD i 0 = va := ⟨_, rfl⟩
                rw [hva] at cA
                rw [hva] at cB
                have h5i : (i : Int) < (lp : Int) := by omega
                have ho1 : ¬ ((o : Int) ≤ (i : Int)) := by omega
                clear hw h5 e1 cAf hva
                go_wp2_with fail
                go_round
                case rel => exact ⟨i + 1, by omega, by go_num⟩
                case measure => (simp [intOf]; try omega)
            · by_cases hlo : o ≤ i
              · have e1 := HC8.out i hlt
                rw [if_neg hw] at e1
                rw [if_neg h5] at e1
                rw [e1] at cB
                have h5i : ¬ ((i : Int) < (lp : Int)) := by omega
                have ho1 : (o : Int) ≤ (i : Int) := by omega
                have ho2 : ¬ ((i : Int) < (o : Int) + (lg : Int)) := by omega
                clear hw h5 e1
                go_wp2_with fail
                go_round
                case rel => exact ⟨i + 1, by omega, by go_num⟩
                case measure => (simp [intOf]; try omega)
              · have e1 := HC8.out i hlt
                rw [if_neg hw] at e1
                rw [if_neg h5] at e1
                rw [e1] at cB
                have h5i : ¬ ((i : Int) < (lp : Int)) := by omega
                have ho1 : ¬ ((o : Int) ≤ (i : Int)) := by omega
                clear hw h5 e1
                go_wp2_with fail
                go_round
                case rel => exact ⟨i + 1, by omega, by go_num⟩
                case measure => (simp [intOf]; try omega)
        · obtain rfl : i = lr := by omega
          go_wp2_with fail
          go_ret
          exact ⟨rfl, BV.out⟩
    · have q1 : ¬ ((lp : Int) < (o : Int) + (lg : Int)) := by omega
      have q2 : (o : Int) + (lg : Int) ≤ (lp : Int) := by omega
      have q4 : ((lr : Int) == (lp : Int)) = true := by have := HQ.out; simp; omega
      have q5 : ((lr : Int) != (lp : Int)) = false := by have := HQ.out; simp; omega
      have q6 : max (lp : Int) ((o : Int) + (lg : Int)) = (lp : Int) := by omega
      clear hmx
      go_upto_region 16 with fail
      clear q1 q2 q4 q5 q6
      go_wp2_with fail
      go_loop [18] (fun iv => ∃ i : Nat, i ≤ lr ∧ iv = .int .i64 i) (fun iv => lr - (intOf iv).toNat)
      case atStart => exact ⟨0, by omega, rfl⟩
      case round =>
        obtain ⟨i, hi, rfl⟩ := hrel
        by_cases hlt : i < lr
        · have ii : (i : Int) < (lr : Int) := by omega
          have cB := HBat.out i hlt
          by_cases hw : o ≤ i ∧ i < o + lg
          · by_cases h5 : i < lp
            · have e1 := HC8.out i hlt
              rw [if_pos hw] at e1
              rw [e1] at cB
              obtain ⟨bA, oA, rfl, cAf⟩ := hAat.out (by omega)
              have cA := cAf i h5
              obtain ⟨va, hva⟩ : ∃ va, p.data.getD i 0 = va := ⟨_, rfl⟩
              rw [hva] at cA
              have h5i : (i : Int) < (lp : Int) := by omega
              obtain ⟨kk, hkk⟩ : ∃ kk, i - o = kk := ⟨_, rfl⟩
              rw [hkk] at cB
              have cD := HDat.out kk (by omega)
              have wk : IntKind.i64.wrap ((i : Int) - (o : Int)) = (kk : Int) := by rw [IntWalk.i64_in _ (by omega)]; omega
              have hk0 : (0 : Int) ≤ (kk : Int) := by omega
              have hkl : (kk : Int) < (lg : Int) := by omega
              have ho1 : (o : Int) ≤ (i : Int) := by omega
              have ho2 : (i : Int) < (o : Int) + (lg : Int) := by omega
              obtain ⟨vd, hvd⟩ : ∃ vd, D.getD kk 0 = vd := ⟨_, rfl⟩
              rw [hvd] at cB cD
              clear hw h5 e1 cAf hva hkk hvd
              go_wp2_with fail
              go_round
              case rel => exact ⟨i + 1, by omega, by go_num⟩
              case measure => (simp [intOf]; try omega)
            · have e1 := HC8.out i hlt
              rw [if_pos hw] at e1
              rw [e1] at cB
              have h5i : ¬ ((i : Int) < (lp : Int)) := by omega
              obtain ⟨kk, hkk⟩ : ∃ kk, i - o = kk := ⟨_, rfl⟩
              rw [hkk] at cB
              have cD := HDat.out kk (by omega)
              have wk : IntKind.i64.wrap ((i : Int) - (o : Int)) = (kk : Int) := by rw [IntWalk.i64_in _ (by omega)]; omega
              have hk0 : (0 : Int) ≤ (kk : Int) := by omega
              have hkl : (kk : Int) < (lg : Int) := by omega
              have ho1 : (o : Int) ≤ (i : Int) := by omega
              have ho2 : (i : Int) < (o : Int) + (lg : Int) := by omega
              obtain ⟨vd, hvd⟩ : ∃ vd, D.getD kk 0 = vd := ⟨_, rfl⟩
              rw [hvd] at cB cD
              clear hw h5 e1 hkk hvd
              go_wp2_with fail
              go_round
              case rel => exact ⟨i + 1, by omega, by go_num⟩
              case measure => (simp [intOf]; try omega)
          · by_cases h5 : i < lp
            · by_cases hlo : o ≤ i
              · have e1 := HC8.out i hlt
                rw [if_neg hw] at e1
                rw [if_pos h5] at e1
                rw [e1] at cB
                obtain ⟨bA, oA, rfl, cAf⟩ := hAat.out (by omega)
                have cA := cAf i h5
                obtain ⟨va, hva⟩ : ∃ va, p.data.getD i 0 = va := ⟨_, rfl⟩
                rw [hva] at cA
                rw [hva] at cB
                have h5i : (i : Int) < (lp : Int) := by omega
                have ho1 : (o : Int) ≤ (i : Int) := by omega
                have ho2 : ¬ ((i : Int) < (o : Int) + (lg : Int)) := by omega
                clear hw h5 e1 cAf hva
                go_wp2_with fail
                go_round
                case rel => exact ⟨i + 1, by omega, by go_num⟩
                case measure => (simp [intOf]; try omega)
              · have e1 := HC8.out i hlt
                rw [if_neg hw] at e1
                rw [if_pos h5] at e1
                rw [e1] at cB
                obtain ⟨bA, oA, rfl, cAf⟩ := hAat.out (by omega)
                have cA := cAf i h5
                obtain ⟨va, hva⟩ : ∃ va, p.data.getD i 0 = va := ⟨_, rfl⟩
                rw [hva] at cA
                rw [hva] at cB
                have h5i : (i : Int) < (lp : Int) := by omega
                have ho1 : ¬ ((o : Int) ≤ (i : Int)) := by omega
                clear hw h5 e1 cAf hva
                go_wp2_with fail
                go_round
                case rel => exact ⟨i + 1, by omega, by go_num⟩
                case measure => (simp [intOf]; try omega)
            · by_cases hlo : o ≤ i
              · have e1 := HC8.out i hlt
                rw [if_neg hw] at e1
                rw [if_neg h5] at e1
                rw [e1] at cB
                have h5i : ¬ ((i : Int) < (lp : Int)) := by omega
                have ho1 : (o : Int) ≤ (i : Int) := by omega
                have ho2 : ¬ ((i : Int) < (o : Int) + (lg : Int)) := by omega
                clear hw h5 e1
                go_wp2_with fail
                go_round
                case rel => exact ⟨i + 1, by omega, by go_num⟩
                case measure => (simp [intOf]; try omega)
              · have e1 := HC8.out i hlt
                rw [if_neg hw] at e1
                rw [if_neg h5] at e1
                rw [e1] at cB
                have h5i : ¬ ((i : Int) < (lp : Int)) := by omega
                have ho1 : ¬ ((o : Int) ≤ (i : Int)) := by omega
                clear hw h5 e1
                go_wp2_with fail
                go_round
                case rel => exact ⟨i + 1, by omega, by go_num⟩
                case measure => (simp [intOf]; try omega)
        · obtain rfl : i = lr := by omega
          go_wp2_with fail
          go_ret
          exact ⟨rfl, BV.out⟩
end Go.Proofs.Ytkbfohbpndjcpaa
