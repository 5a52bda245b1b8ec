/- The walk of PoolBack. -/
import Derived.Test.YtkbfohbpndjcpaaPoQ
import Derived.Lib.QuietBelow
namespace Go.Proofs.Ytkbfohbpndjcpaa
open Go.RowKit Go.Sort
set_option linter.unusedVariables false
set_option maxRecDepth 1000000
set_option linter.unusedSimpArgs false

/-- Literal commands that reach nothing. -/
theorem lits {w : World} {F : Nat → Prop} : ∀ (cs : List Cm), (∀ c ∈ cs, c.data = []) → Pt cmL w F cs (cs.map fun c => (cmV c none 0 0).toList)
  | [], _ => Pt.nil ..
  | c :: cs, h => (Pt.single (cells1 c (h c (List.mem_cons_self ..)))).append (lits cs (fun x hx => h x (List.mem_cons_of_mem _ hx)))
theorem litOk (n : Int) : (∀ c ∈ [unS, unT, snS], c.Ok) ∧ (ftC (objN n)).Ok ∧ (lkC (objN n)).Ok ∧ lsC.Ok ∧ bkC.Ok := by
  have hf : (ftC (objN n)).Ok := ⟨(by decide : 1 ≤ 3), (by decide : 3 ≤ 12), Nat.zero_le _, Nat.le_refl _, (fun e => absurd (show 3 = 2 from e) (by decide)), objN_len _, Nat.zero_le _⟩
  have hl : (lkC (objN n)).Ok := ⟨(by decide : 1 ≤ 8), (by decide : 8 ≤ 12), Nat.zero_le _, Nat.le_refl _, (fun e => absurd (show 8 = 2 from e) (by decide)), objN_len _, (by decide : 1 ≤ 100)⟩
  refine ⟨fun c hc => ?_, hf, hl, ⟨by decide, by decide, by decide, by decide, by decide, by decide, by decide⟩, ⟨by decide, by decide, by decide, by decide, by decide, by decide, by decide⟩⟩
  simp only [List.mem_cons, List.mem_nil_iff, or_false] at hc
  rcases hc with rfl | rfl | rfl <;> exact ⟨by decide, by decide, by decide, by decide, by decide, by decide, by decide⟩
def moreK : List Nat := [1, 2, 4, 5, 12]
theorem moreK_kind (os : List Od) (n : Nat) : ∀ c ∈ commandsP os n moreK, c.kind ≠ 7 ∧ c.kind ≠ 10 := by
  intro c hc
  obtain ⟨o, _, rfl⟩ := List.mem_map.1 hc
  have hk : kindP o moreK ∈ moreK := by
    unfold kindP
    have h1 := Int.emod_nonneg o.kind (b := (moreK.length : Int)) (by decide)
    have h2 := Int.emod_lt_of_pos o.kind (b := (moreK.length : Int)) (by decide)
    rw [List.getD_eq_getElem?_getD, List.getElem?_eq_getElem (by omega)]
    exact List.getElem_mem _
  have : ∀ k ∈ moreK, k ≠ 7 ∧ k ≠ 10 := by decide
  exact this _ hk
set_option maxHeartbeats 8000000 in
theorem poolBack (F : Nat → Prop) (a : Option Addr) (len cap : Nat) (os : List Od) (F2 : Nat → Prop) (am : Option Addr) (lm cm : Nat) (os2 : List Od) (n : Int) (w : World) (ha : SRow odL w F a len cap os) (hm : SRow odL w F2 am lm cm os2) :
    Calls Try.prog 4 #[.slice a len cap, .slice am lm cm, .int .i64 n] w fun e w' => e = .returned (.bool true) ∧ Below w.heap.size w w' := by
  have HA := Lib.hid ha
  have HM := Lib.hid hm
  clear ha hm
  have HOK := Lib.hid (commandsP_ok os 40 ownK (by decide) ownK_ok)
  have HOKm := Lib.hid (commandsP_ok os2 40 moreK (by decide) (by decide))
  have HLC := Lib.hid (commandsP_length os 40 ownK)
  have HLM := Lib.hid (commandsP_length os2 40 moreK)
  have HLT := Lib.hid (litOk n)
  obtain ⟨N, hN⟩ : ∃ N, Hid (objN n = N) := ⟨_, rfl⟩
  rw [hN.out] at HLT
  have HPB := Lib.hid (pool_back (commandsP os 40 ownK) (commandsP os2 40 moreK) N (commandsP_named os 40 ownK) (moreK_kind os2 40))
  go_enter Try.func4, Try.ntmps4
  go_wp2_with fail
  refine (ownKindsW w).mono ?_
  rintro e w1 ⟨rfl, hK1, hB1⟩
  go_wp2_with fail
  refine (commandsW F a len cap os 40 w.heap.size 0 22 22 ownK w1 (HA.out.below hB1.out) (kindsRow ownK hK1.out (by decide) (by decide)) (by decide) (by decide) (by decide)).mono ?_
  rintro e w2 ⟨a2, l2, c2, rfl, hO2, hB2⟩
  have hw1 : Hid (w.heap.size ≤ w1.heap.size ∧ w1.heap.size ≤ w2.heap.size) := ⟨hB1.out.size, hB2.out.size⟩
  obtain ⟨cs, hcs⟩ : ∃ cs, commandsP os 40 ownK = cs := ⟨_, rfl⟩
  obtain ⟨ms, hms⟩ : ∃ ms, commandsP os2 40 moreK = ms := ⟨_, rfl⟩
  have h1 := HOK.out
  have h2 := HLC.out
  have h3 := HPB.out
  have h4 := HOKm.out
  have h5 := HLM.out
  rw [hcs] at hO2 h1 h2 h3
  rw [hms] at h3 h4 h5
  have HMS := Lib.hid hms
  have HOK2 := Lib.hid h1
  have HOKm2 := Lib.hid h4
  have HPB2 := Lib.hid h3
  have hl2 : cs.length = l2 := hO2.out.1
  have hl2b : l2 ≤ 40 := by omega
  have HL2 := Lib.hid hl2
  have hlmb : ms.length ≤ 40 := by omega
  have HLM2 := Lib.hid hlmb
  have B2 : Hid (Below w.heap.size w w2) := hB1.out.trans (hB2.out.mono hB1.out.size)
  clear h1 h2 h3 h4 h5 hcs hms hl2 hlmb HOK HLC HPB HOKm HLM hB1 hB2 hK1
  go_wp2_with fail
  refine (objectNameW n w2).mono ?_
  rintro e w3 ⟨rfl, hB3⟩
  rw [hN.out]
  have B3 : Hid (Below w.heap.size w w3) := B2.out.trans (hB3.out.mono B2.out.size)
  obtain ⟨X, hX⟩ : ∃ X, X = w3.alloc (.cells #[.int .i64 10, .string ⟨#[]⟩, .string ⟨#[115]⟩, .int .i64 0, .int .i64 0, .int .i64 0, .int .i64 0, .slice none 0 0, .int .i64 10, .string ⟨#[]⟩, .string ⟨#[116]⟩, .int .i64 0, .int .i64 0, .int .i64 0, .int .i64 0, .slice none 0 0, .int .i64 7, .string ⟨#[]⟩, .string ⟨#[115]⟩, .int .i64 0, .int .i64 0, .int .i64 0, .int .i64 0, .slice none 0 0, .int .i64 6, .string ⟨#[]⟩, .string ⟨#[]⟩, .int .i64 0, .int .i64 0, .int .i64 0, .int .i64 0, .slice none 0 0, .int .i64 3, encStr N, .string ⟨#[]⟩, .int .i64 0, .int .i64 2000, .int .i64 0, .int .i64 0, .slice none 0 0] 30) := ⟨_, rfl⟩
  have hBX3 : Below w3.heap.size w3 X := by rw [hX]; exact Below_alloc1 _
  have BX : Hid (Below w.heap.size w X) := B3.out.trans (hBX3.mono B3.out.size)
  have hbox : Box X w3.heap.size #[.int .i64 10, .string ⟨#[]⟩, .string ⟨#[115]⟩, .int .i64 0, .int .i64 0, .int .i64 0, .int .i64 0, .slice none 0 0, .int .i64 10, .string ⟨#[]⟩, .string ⟨#[116]⟩, .int .i64 0, .int .i64 0, .int .i64 0, .int .i64 0, .slice none 0 0, .int .i64 7, .string ⟨#[]⟩, .string ⟨#[115]⟩, .int .i64 0, .int .i64 0, .int .i64 0, .int .i64 0, .slice none 0 0, .int .i64 6, .string ⟨#[]⟩, .string ⟨#[]⟩, .int .i64 0, .int .i64 0, .int .i64 0, .int .i64 0, .slice none 0 0, .int .i64 3, encStr N, .string ⟨#[]⟩, .int .i64 0, .int .i64 2000, .int .i64 0, .int .i64 0, .slice none 0 0] 30 := by rw [hX]; exact Box.new rfl
  have hPt : Hid (Pt cmL X (fun _ => False) [unS, unT, snS, lsC, ftC N] _) := lits [unS, unT, snS, lsC, ftC N] (by intro c hc; simp only [List.mem_cons, List.mem_nil_iff, or_false] at hc; rcases hc with rfl | rfl | rfl | rfl | rfl <;> rfl)
  have hVR := Lib.hid (vrowBox [unS, unT, snS, lsC, ftC N] _ (by rfl) hbox hPt.out (by simp))
  have hB2X : Below w2.heap.size w2 X := hB3.out.trans (hBX3.mono hB3.out.size)
  have HOX : Hid (SOwn cmL X w1.heap.size 30 (fun _ => True) a2 l2 c2 cs) := hO2.out.below hB2X
  have hFX : Hid (∀ b, False → True ∧ b < X.heap.size ∧ (Value.slice a2 l2 c2).ownBlock ≠ some b) := fun b hb => hb.elim
  have hw1X : w1.heap.size ≤ X.heap.size := by have h5 := hB2X.size; have h6 := hw1.out.2; omega
  clear hBX3 hbox hB2X hB3
  go_upto_region 2 with (at_builtin; rw [← hX]; refine wpList_append_data (L := cmL) rfl (.tmp 14) (.tmp 22) 23 rfl w1.heap.size 30 _ 96 Try.underlying23 info_cmd rfl (fun _ => True) a2 l2 c2 cs rfl HOX.out (some ⟨w3.heap.size, 0, none⟩) 5 5 [unS, unT, snS, lsC, ftC N] _ rfl hVR.out _ hPt.out rfl hFX.out (by unfold maxLen; omega) (by omega) hw1X ?_; intro a5 c5 w5 hown5 hg5; have HO5 := Lib.hid hown5; have B5 : Hid (Below w.heap.size w w5) := SOwn.grown HOX.out BX.out hw1.out.1 BX.out.size hg5; have HW5 : Hid (X.heap.size ≤ w5.heap.size) := hg5.size; have HWX : Hid (w1.heap.size ≤ X.heap.size) := hw1X; clear hown5 hg5)
  obtain ⟨m5, hm5⟩ : ∃ m5, Hid (l2 + 5 = m5) := ⟨_, rfl⟩
  rw [hm5.out] at HO5 ⊢
  have hm5b : m5 ≤ 45 := by have := hm5.out; omega
  clear hX HOX hFX hw1X hVR hPt BX
  go_wp2_with fail
  obtain ⟨Y, hY⟩ : ∃ Y, Y = w5.alloc (.cells #[.int .i64 1, .int .i64 2, .int .i64 4, .int .i64 5, .int .i64 12] 3) := ⟨_, rfl⟩
  rw [← hY]
  have hBY5 : Hid (Below w5.heap.size w5 Y) := by rw [hY]; exact Below_alloc1 _
  have hKY : Box Y w5.heap.size (intsA moreK) 3 := by rw [hY]; exact Box.new rfl
  have BY : Hid (Below w.heap.size w Y) := B5.out.trans (hBY5.out.mono B5.out.size)
  refine (commandsG F2 am lm cm os2 40 w5.heap.size 0 5 5 moreK Y (HM.out.below BY.out) (kindsRow moreK hKY (by decide) (by decide)) (by decide) (by decide) (by decide)).mono ?_
  rintro e w6 ⟨a6, l6, c6, rfl, hO6, hB6⟩
  rw [HMS.out] at hO6
  have hl6 : ms.length = l6 := hO6.out.1
  have hl6b : l6 ≤ 40 := by have := HLM2.out; omega
  have HL6 := Lib.hid hl6
  have HO6 : Hid (SOwn cmL w6 w1.heap.size 30 (fun _ => True) a5 m5 c5 _) := (HO5.out.below hBY5.out).below hB6.out
  have B6 : Hid (Below w.heap.size w w6) := BY.out.trans (hB6.out.mono BY.out.size)
  obtain ⟨uss, hV6, hP6, hF6⟩ : ∃ uss : List (List Value), VRow w6 cmL.size a6 l6 c6 uss.flatten ∧ Pt cmL w6 (fun b => Y.heap.size ≤ b ∧ b < w6.heap.size) ms uss ∧ ∀ b, (Y.heap.size ≤ b ∧ b < w6.heap.size) → True ∧ b < w6.heap.size ∧ (Value.slice a5 m5 c5).ownBlock ≠ some b := by
    obtain ⟨_, vss, F9, ho, hp, hF9⟩ := hO6.out
    refine ⟨vss, ho.row, hp.keep (fun b hb => ⟨(hF9 b hb).1, (hF9 b hb).2.1⟩) (fun _ _ _ => rfl), fun b hb => ⟨trivial, hb.2, fun he => ?_⟩⟩
    have h7 := (World.ownsRow.lt HO5.out.2.choose_spec.choose_spec.1 b he).2
    have h8 := hBY5.out.size
    omega
  have HV6 := Lib.hid hV6
  have HP6 := Lib.hid hP6
  have HF6 := Lib.hid hF6
  have HLms : Hid (ms.length = l6) := hl6
  have hle6 := hV6.hle
  have hmx6 := hV6.hmax
  unfold maxLen at hmx6
  have hw16 : w1.heap.size ≤ w6.heap.size := by
    have h1 := hw1.out.2
    have h2 := HW5.out
    have h3 := hBY5.out.size
    have h4 := hB6.out.size
    have h5 := HWX.out
    omega
  clear hV6 hP6 hF6 hl6 hKY hY BY hO6
  go_upto_region 4 with (at_builtin; refine wpList_append_data (L := cmL) rfl (.tmp 26) (.tmp 29) 23 rfl w1.heap.size 30 _ 96 Try.underlying23 info_cmd rfl (fun _ => True) a5 m5 c5 _ rfl HO6.out a6 l6 c6 ms uss rfl HV6.out _ HP6.out HLms.out HF6.out (by unfold maxLen; omega) (by omega) hw16 ?_; intro a7 c7 w7 hown7 hg7; have HO7 := Lib.hid hown7; have B7 : Hid (Below w.heap.size w w7) := SOwn.grown HO6.out B6.out hw1.out.1 B6.out.size hg7; have HW7 : Hid (w1.heap.size ≤ w7.heap.size) := Nat.le_trans hw16 hg7.size; clear hown7 hg7)
  obtain ⟨m7, hm7⟩ : ∃ m7, Hid (m5 + l6 = m7) := ⟨_, rfl⟩
  rw [hm7.out] at HO7 ⊢
  have hm7b : m7 ≤ 85 := by have := hm7.out; omega
  clear HO6 HV6 HP6 HF6 HO5 hw16
  go_wp2_with fail
  refine (objectNameW n w7).mono ?_
  rintro e w8 ⟨rfl, hB8⟩
  rw [hN.out]
  have B8 : Hid (Below w.heap.size w w8) := B7.out.trans (hB8.out.mono B7.out.size)
  obtain ⟨Z, hZ⟩ : ∃ Z, Z = w8.alloc (.cells #[.int .i64 9, .string ⟨#[]⟩, .string ⟨#[115]⟩, .int .i64 0, .int .i64 0, .int .i64 0, .int .i64 0, .slice none 0 0, .int .i64 6, .string ⟨#[]⟩, .string ⟨#[]⟩, .int .i64 0, .int .i64 0, .int .i64 0, .int .i64 0, .slice none 0 0, .int .i64 3, encStr N, .string ⟨#[]⟩, .int .i64 0, .int .i64 2000, .int .i64 0, .int .i64 0, .slice none 0 0] 30) := ⟨_, rfl⟩
  have hBZ8 : Below w8.heap.size w8 Z := by rw [hZ]; exact Below_alloc1 _
  have BZ : Hid (Below w.heap.size w Z) := B8.out.trans (hBZ8.mono B8.out.size)
  have hboxZ : Box Z w8.heap.size #[.int .i64 9, .string ⟨#[]⟩, .string ⟨#[115]⟩, .int .i64 0, .int .i64 0, .int .i64 0, .int .i64 0, .slice none 0 0, .int .i64 6, .string ⟨#[]⟩, .string ⟨#[]⟩, .int .i64 0, .int .i64 0, .int .i64 0, .int .i64 0, .slice none 0 0, .int .i64 3, encStr N, .string ⟨#[]⟩, .int .i64 0, .int .i64 2000, .int .i64 0, .int .i64 0, .slice none 0 0] 30 := by rw [hZ]; exact Box.new rfl
  have hPtZ : Hid (Pt cmL Z (fun _ => False) [bkC, lsC, ftC N] _) := lits [bkC, lsC, ftC N] (by intro c hc; simp only [List.mem_cons, List.mem_nil_iff, or_false] at hc; rcases hc with rfl | rfl | rfl <;> rfl)
  have hVRZ := Lib.hid (vrowBox [bkC, lsC, ftC N] _ (by rfl) hboxZ hPtZ.out (by simp))
  have hB7Z : Below w7.heap.size w7 Z := hB8.out.trans (hBZ8.mono hB8.out.size)
  have HOZ : Hid (SOwn cmL Z w1.heap.size 30 (fun _ => True) a7 m7 c7 _) := HO7.out.below hB7Z
  have hFZ : Hid (∀ b, False → True ∧ b < Z.heap.size ∧ (Value.slice a7 m7 c7).ownBlock ≠ some b) := fun b hb => hb.elim
  have hw1Z : w1.heap.size ≤ Z.heap.size := by have h5 := hB7Z.size; have h6 := HW7.out; omega
  clear hBZ8 hboxZ hB7Z hB8
  go_wp2_with (at_builtin; rw [← hZ]; refine wpList_append_data (L := cmL) rfl (.tmp 31) (.tmp 37) 23 rfl w1.heap.size 30 _ 96 Try.underlying23 info_cmd rfl (fun _ => True) a7 m7 c7 _ rfl HOZ.out (some ⟨w8.heap.size, 0, none⟩) 3 3 [bkC, lsC, ftC N] _ rfl hVRZ.out _ hPtZ.out rfl hFZ.out (by unfold maxLen; omega) (by omega) hw1Z ?_; intro a9 c9 w9 hown9 hg9; have HO9 := Lib.hid hown9; have B9 : Hid (Below w.heap.size w w9) := SOwn.grown HOZ.out BZ.out hw1.out.1 BZ.out.size hg9; clear hown9 hg9)
  obtain ⟨m, hm⟩ : ∃ m, Hid (m7 + 3 = m) := ⟨_, rfl⟩
  rw [hm.out] at HO9 ⊢
  have hmb : m ≤ 88 := by have := hm.out; omega
  clear hZ HOZ hFZ hw1Z hVRZ hPtZ BZ HO7
  have eL : cs ++ [unS, unT, snS, lsC, ftC N] ++ ms ++ [bkC, lsC, ftC N] = cs ++ [unS, unT, snS] ++ [lsC, ftC N] ++ ms ++ [bkC, lsC, ftC N] := by simp
  have hO9 := HO9.out
  rw [eL] at hO9
  have HOall : ∀ c ∈ cs ++ [unS, unT, snS] ++ [lsC, ftC N] ++ ms ++ [bkC, lsC, ftC N], c.Ok := by
    obtain ⟨k1, k2, k3, k4, k5⟩ := HLT.out
    intro c hc
    simp only [List.mem_append, List.mem_cons, List.mem_nil_iff, or_false] at hc
    rcases hc with (((h | h) | h) | h) | h
    · exact HOK2.out c h
    · exact k1 c (by simpa using h)
    · rcases h with rfl | rfl
      · exact k4
      · exact k2
    · exact HOKm2.out c h
    · rcases h with rfl | rfl | rfl
      · exact k5
      · exact k4
      · exact k2
  refine (pooledW a9 m c9 _ w9 (SOwn.srowLtP hO9) HOall (by omega)).mono ?_
  rintro e wa ⟨aa, ca, rfl, hRa, hBa⟩
  clear eL hO9 HOall
  obtain ⟨r, q, r0, g1, g2, g3, g4, g5, g6⟩ := HPB2.out
  have Ba : Hid (Below w.heap.size w wa) := B9.out.trans (hBa.out.mono B9.out.size)
  go_upto_region 7 with fail
  have hl2' := HL2.out
  have hl6' := HLms.out
  have hm' := hm.out
  have hm7' := hm7.out
  have hm5' := hm5.out
  obtain ⟨j4, hj4⟩ : ∃ j4, cs.length + 4 = j4 := ⟨_, rfl⟩
  obtain ⟨j3, hj3⟩ : ∃ j3, cs.length + 3 = j3 := ⟨_, rfl⟩
  obtain ⟨n3, hn3⟩ : ∃ n3, cs.length + 5 + ms.length = n3 := ⟨_, rfl⟩
  obtain ⟨n2, hn2⟩ : ∃ n2, cs.length + 6 + ms.length = n2 := ⟨_, rfl⟩
  obtain ⟨n1, hn1⟩ : ∃ n1, cs.length + 7 + ms.length = n1 := ⟨_, rfl⟩
  rw [hj3] at g1
  rw [hj4] at g2
  rw [hn3] at g4
  rw [hn2] at g5
  rw [hn1] at g6
  have lj4 : j4 < m := by omega
  have lj3 : j3 < m := by omega
  have ln3 : n3 < m := by omega
  have ln2 : n2 < m := by omega
  have ln1 : n1 < m := by omega
  have ij4 : (j4 : Int) < (m : Int) := by omega
  have ij3 : (j3 : Int) < (m : Int) := by omega
  have in3 : (n3 : Int) < (m : Int) := by omega
  have in2 : (n2 : Int) < (m : Int) := by omega
  have in1 : (n1 : Int) < (m : Int) := by omega
  have wj4 : IntKind.i64.wrap ((m5 : Int) - 1) = (j4 : Int) := by rw [IntWalk.i64_in _ (by omega)]; omega
  have wj3 : IntKind.i64.wrap ((m5 : Int) - 2) = (j3 : Int) := by rw [IntWalk.i64_in _ (by omega)]; omega
  have wn3 : IntKind.i64.wrap ((m : Int) - 3) = (n3 : Int) := by rw [IntWalk.i64_in _ (by omega)]; omega
  have wn2 : IntKind.i64.wrap ((m : Int) - 2) = (n2 : Int) := by rw [IntWalk.i64_in _ (by omega)]; omega
  have wn1 : IntKind.i64.wrap ((m : Int) - 1) = (n1 : Int) := by rw [IntWalk.i64_in _ (by omega)]; omega
  have hmxa := hRa.out.hmax
  have hlea := hRa.out.hle
  unfold maxLen at hmxa
  obtain ⟨b, off, rA, aA, lA, cA, aA2, lA2, cA2, rfl, hb1, hA, hrA, hsA, zA0, zA1, zA2, zA3, zA4⟩ := tdAt hRa.out n3 (by omega)
  obtain rfl : r0 = rA := by rw [g4] at hA; exact Option.some.inj hA
  obtain ⟨b', off', rB, aB, lB, cB, aB2, lB2, cB2, e1, _, hB, hrB, hsB, zB0, zB1, zB2, zB3, zB4⟩ := tdAt hRa.out j4 (by omega)
  obtain ⟨rfl, rfl⟩ : b = b' ∧ off = off' := by simpa using e1
  clear e1
  obtain rfl : r = rB := by rw [g2] at hB; exact Option.some.inj hB
  obtain ⟨b', off', rC, aC, lC, cC, aC2, lC2, cC2, e1, _, hC, hrC, hsC, zC0, zC1, zC2, zC3, zC4⟩ := tdAt hRa.out n1 (by omega)
  obtain ⟨rfl, rfl⟩ : b = b' ∧ off = off' := by simpa using e1
  clear e1
  obtain rfl : r = rC := by rw [g6] at hC; exact Option.some.inj hC
  obtain ⟨b', off', rD, aD, lD, cD, aD2, lD2, cD2, e1, _, hD, hrD, hsD, zD0, zD1, zD2, zD3, zD4⟩ := tdAt hRa.out j3 (by omega)
  obtain ⟨rfl, rfl⟩ : b = b' ∧ off = off' := by simpa using e1
  clear e1
  obtain rfl : q = rD := by rw [g1] at hD; exact Option.some.inj hD
  obtain ⟨b', off', rE, aE, lE, cE, aE2, lE2, cE2, e1, _, hE, hrE, hsE, zE0, zE1, zE2, zE3, zE4⟩ := tdAt hRa.out n2 (by omega)
  obtain ⟨rfl, rfl⟩ : b = b' ∧ off = off' := by simpa using e1
  clear e1
  obtain rfl : q = rE := by rw [g5] at hE; exact Option.some.inj hE
  rw [g3] at zA0
  have zA0 : wa.cell? ⟨b, off + n3 * 5, none⟩ = some (.int .i64 0) := zA0
  have kA0 := cell_regrown zA0
  have kB0 := cell_regrown zB0
  have kB1 := cell_regrown zB1
  have kB2 := cell_regrown zB2
  have kB3 := cell_regrown zB3
  have kB4 := cell_regrown zB4
  have kC0 := cell_regrown zC0
  have kC1 := cell_regrown zC1
  have kC2 := cell_regrown zC2
  have kC3 := cell_regrown zC3
  have kC4 := cell_regrown zC4
  have kD0 := cell_regrown zD0
  have kD1 := cell_regrown zD1
  have kD2 := cell_regrown zD2
  have kD3 := cell_regrown zD3
  have kD4 := cell_regrown zD4
  have kE0 := cell_regrown zE0
  have kE1 := cell_regrown zE1
  have kE2 := cell_regrown zE2
  have kE3 := cell_regrown zE3
  have kE4 := cell_regrown zE4
  have CB : Hid (∀ d os, Calls Try.prog 12 #[] (grow (redrawn wa d) os) fun e w'' => e = .returned (.bool true) ∧ ∃ p : Regrown, w'' = grow (redrawn wa p.d) p.os) := fun d os => Calls.regrown_of ((begunW _).mono fun _ _ ⟨h1, h2⟩ => ⟨h1, h2.out⟩)
  have K1 : Hid (∀ d os, Calls Try.prog 13 #[.agg (tdV r.code r.size aB lB cB aB2 lB2 cB2), .agg (tdV r.code r.size aC lC cC aC2 lC2 cC2)] (grow (redrawn wa d) os) fun e w'' => e = .returned (.bool true) ∧ ∃ p : Regrown, w'' = grow (redrawn wa p.d) p.os) := fun d os => Calls.regrown_of ((sameToldW r _ _ aB lB cB aB2 lB2 cB2 aC lC cC aC2 lC2 cC2 _ (hrB.below (below_regrown wa d os)) (hsB.below (below_regrown wa d os)) (hrC.below (below_regrown wa d os)) (hsC.below (below_regrown wa d os))).mono fun _ _ ⟨h1, h2⟩ => ⟨h1, h2.out⟩)
  have K2 : Hid (∀ d os, Calls Try.prog 13 #[.agg (tdV q.code q.size aD lD cD aD2 lD2 cD2), .agg (tdV q.code q.size aE lE cE aE2 lE2 cE2)] (grow (redrawn wa d) os) fun e w'' => e = .returned (.bool true) ∧ ∃ p : Regrown, w'' = grow (redrawn wa p.d) p.os) := fun d os => Calls.regrown_of ((sameToldW q _ _ aD lD cD aD2 lD2 cD2 aE lE cE aE2 lE2 cE2 _ (hrD.below (below_regrown wa d os)) (hsD.below (below_regrown wa d os)) (hrE.below (below_regrown wa d os)) (hsE.below (below_regrown wa d os))).mono fun _ _ ⟨h1, h2⟩ => ⟨h1, h2.out⟩)
  unfold tdV at K1 K2
  clear g1 g2 g3 g4 g5 g6 hA hB hC hD hE hrA hsA hrB hsB hrC hsC hrD hsD hrE hsE zA1 zA2 zA3 zA4 hj4 hj3 hn3 hn2 hn1 hl2' hl6' hm' hm7' hm5' hRa hBa HPB2 hb1
  clear zA0 zB0 zB1 zB2 zB3 zB4 zC0 zC1 zC2 zC3 zC4 zD0 zD1 zD2 zD3 zD4 zE0 zE1 zE2 zE3 zE4
  refine wp_region_quiet_below (by kernel_rfl) (by kernel_rfl) ?_
  repeat (go_big_quiet_step (first | (go_at_call 12; exact CB.out _ _) | (go_at_call 13; first | (with_reducible exact K1.out _ _) | (with_reducible exact K2.out _ _))))
  refine wpQuiet_nil ?_
  intro _ hw'
  obtain ⟨⟨dq, osq⟩, hw''⟩ := hw'
  subst hw''
  have hbq := below_regrown wa dq osq
  obtain ⟨W2, hW2⟩ : ∃ V, V = grow (redrawn wa dq) osq := ⟨_, rfl⟩
  change Exit.then _ _ _ _ (grow (redrawn wa dq) osq)
  rw [← hW2] at hbq ⊢
  go_wp2_with fail
  go_ret
  exact ⟨rfl, Ba.out.trans (hbq.mono Ba.out.size)⟩
end Go.Proofs.Ytkbfohbpndjcpaa
