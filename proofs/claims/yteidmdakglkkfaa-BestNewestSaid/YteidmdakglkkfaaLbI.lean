/- The walk of label.Best. -/
import Derived.Test.YteidmdakglkkfaaLbZ
namespace Go.Proofs.Yteidmdakglkkfaa
open Go.RowKit Go.ChangeShapes Go.WideShapes Go.Deep
set_option linter.unusedVariables false
set_option maxRecDepth 100000

noncomputable def bestStep (s : Lab × Int) (i : Nat) (b : List Int) : Lab × Int := if (dec b).2 = 0 ∧ s.1.time < (dec b).1.time then ((dec b).1, (i : Int)) else s
noncomputable def bestN (L : List (List Int)) : Nat → Lab × Int
  | 0 => (⟨0, 0, 0, 0, -1, 0, 0, 0, 0, 0, 0, 0, 0⟩, -1)
  | n + 1 => bestStep (bestN L n) n (L.getD n [])
noncomputable def bestOf (L : List (List Int)) : Lab × Int := bestN L L.length
theorem bestN_append (L : List (List Int)) (b : List Int) : ∀ n, n ≤ L.length → bestN (L ++ [b]) n = bestN L n
  | 0, _ => rfl
  | n + 1, h => by
    unfold bestN
    rw [bestN_append L b n (by omega)]
    congr 1
    simp [List.getD, List.getElem?_append_left (show n < L.length by omega)]
theorem bestOf_append (L : List (List Int)) (b : List Int) : bestOf (L ++ [b]) = bestStep (bestOf L) L.length b := by
  unfold bestOf
  rw [List.length_append, List.length_singleton]
  show bestStep (bestN (L ++ [b]) L.length) L.length ((L ++ [b]).getD L.length []) = _
  rw [bestN_append L b _ (Nat.le_refl _)]
  congr 1
  simp [List.getD]
noncomputable def bestRes (L : List (List Int)) : Array Value := if (bestOf L).2 < 0 then #[Lab.none.val, .int .i64 0, .int .i64 6] else #[(bestOf L).1.val, .int .i64 (bestOf L).2, .int .i64 0]
theorem results_box_tmps {P : Program} {fn : Func} {p q r : Tmp} {ty : TypeId} (h : fn.results = #[.cell p ty, .tmp q, .tmp r]) (tmps : Array Value) (w : World) (g : Nat) (t : TypeId) (cs : Array Value) (hg : Box w g cs t) (d : TypeDesc)
    (hp : tmps.getD p undef = .pointer (some ⟨g, 0, none⟩))
    (hu : P.underlying ty = some d) (hd : (match d with | .struct _ | .array _ _ => true | _ => false) = true) (hi : (P.info? ty).map (·.size) = some cs.size) :
    (results fn tmps).run P w = .ok (.tuple #[.agg cs, tmps.getD q undef, tmps.getD r undef]) w := by
  have hp' : tmps[p]?.getD undef = .pointer (some ⟨g, 0, none⟩) := by simpa using hp
  simp [results, h, hp', asAddr, run_loadVar_row w g t ty cs (0, 0) d hg hu hd hi]
theorem elem {w : World} {F : Nat → Prop} {a : Option Addr} {len cap : Nat} {L : List (List Int)} (h : SRow (Lay.int .u8).slice w F a len cap L) (i : Nat) (hi : i < len) :
    ∃ b off a' l' c', a = some ⟨b, off, none⟩ ∧ w.cell? ⟨b, off + i, none⟩ = some (.slice a' l' c') ∧ Row .u8 w a' l' c' (L.getD i []) := by
  obtain ⟨b, off, vs, rfl, _, _, hx, hc⟩ := h.get i hi
  have hl : i < L.length := by rw [h.1]; exact hi
  obtain ⟨a', l', c', rfl, hr⟩ := hx _ (List.getElem?_eq_getElem hl)
  refine ⟨b, off, a', l', c', rfl, ?_, ?_⟩
  · have := hc 0 (by decide)
    simpa [Lay.slice] using this
  · rw [show L.getD i [] = L[i] by simp [List.getD, hl]]
    exact hr.ints
set_option maxHeartbeats 4000000 in
theorem best (a : Option Addr) (len cap : Nat) (L : List (List Int)) (w : World) {F : Nat → Prop} (h : SRow (Lay.int .u8).slice w F a len cap L) :
    Calls Try.prog 29 #[.slice a len cap] w fun e w' => e = .returned (.tuple (bestRes L)) ∧ Below w.heap.size w w' := by
  have hle := h.hle
  have hmx := h.hmax
  have hln := h.1
  unfold maxLen at hmx
  have RS := Lib.hid h
  clear h
  go_enter Try.func29, Try.ntmps29
  go_wp2_with fail
  obtain ⟨V, hV⟩ : ∃ V, V = (w.alloc (.cells #[.int .i64 0, .int .i64 0, .int .i64 0, .int .i64 0, .int .i64 0, .int .i64 0, .int .i64 0, .int .i64 0, .int .i64 0, .int .i64 0, .int .i64 0, .int .i64 0, .int .i64 0] 57)).alloc (.cells #[.int .i64 0, .int .i64 0, .int .i64 0, .int .i64 0, .int .i64 (-1), .int .i64 0, .int .i64 0, .int .i64 0, .int .i64 0, .int .i64 0, .int .i64 0, .int .i64 0, .int .i64 0] 57) := ⟨_, rfl⟩
  have BT : Box V w.heap.size #[.int .i64 0, .int .i64 0, .int .i64 0, .int .i64 0, .int .i64 0, .int .i64 0, .int .i64 0, .int .i64 0, .int .i64 0, .int .i64 0, .int .i64 0, .int .i64 0, .int .i64 0] 57 := by rw [hV]; exact (Box.new rfl).alloc _
  have BB : Box V (w.heap.size + 1) #[.int .i64 0, .int .i64 0, .int .i64 0, .int .i64 0, .int .i64 (-1), .int .i64 0, .int .i64 0, .int .i64 0, .int .i64 0, .int .i64 0, .int .i64 0, .int .i64 0, .int .i64 0] 57 := by rw [hV]; exact Box.new (by simp)
  have LB : Hid (Below w.heap.size w V) := by rw [hV]; exact ((Below.refl _ _).alloc (Nat.le_refl _) _).alloc (by simp) _
  rw [← hV]
  clear hV
  obtain ⟨gb, hgb⟩ : ∃ gb, w.heap.size + 1 = gb := ⟨_, rfl⟩
  obtain ⟨gz, hgz⟩ : ∃ gz, Hid (w.heap.size = gz) := ⟨_, rfl⟩
  rw [hgb] at BB ⊢
  rw [hgz.out] at BT ⊢
  have hgb1 : w.heap.size ≤ gb := by omega
  have hgz1 : w.heap.size ≤ gz := by rw [← hgz.out]; exact Nat.le_refl _
  have hne : gb ≠ gz := by rw [← hgz.out]; omega
  clear hgz hgb
  have HBT := Lib.hid BT
  have HBB := Lib.hid BB
  clear BT BB
  go_loopw [6, 14] (fun v i wr => ∃ n : Nat, n ≤ len ∧ i = .int .i64 n ∧ v = .int .i64 (bestN L n).2 ∧ Hid (Box wr gb (bestN L n).1.cells 57) ∧ Hid (Box wr gz #[.int .i64 0, .int .i64 0, .int .i64 0, .int .i64 0, .int .i64 0, .int .i64 0, .int .i64 0, .int .i64 0, .int .i64 0, .int .i64 0, .int .i64 0, .int .i64 0, .int .i64 0] 57) ∧ Hid (Below w.heap.size w wr)) (fun v i _ => len - (intOf i).toNat)
  case atStart => exact ⟨0, by omega, rfl, rfl, HBB, HBT, LB⟩
  case round =>
    obtain ⟨n, hn, rfl, rfl, B1, Z1, L1⟩ := hrel
    obtain ⟨bst, hbst⟩ : ∃ b, Hid (bestN L n = b) := ⟨_, rfl⟩
    rw [hbst.out] at B1 ⊢
    obtain ⟨bl, ba⟩ := bst
    by_cases hlt : n < len
    · obtain ⟨b, off, a', l', c', rfl, hc, hr⟩ := elem (RS.out.below L1.out) n hlt
      have HR := Lib.hid hr
      have hstep : bestN L (n + 1) = bestStep (bl, ba) n (L.getD n []) := by rw [← hbst.out]; rfl
      obtain ⟨xs, hxs⟩ : ∃ xs, Hid (L.getD n [] = xs) := ⟨_, rfl⟩
      rw [hxs.out] at hstep HR
      have hw1 := L1.out.size
      clear hr hbst
      go_wp2_with fail
      refine (decode_any _ _ _ xs wr HR.out).mono ?_
      rintro e w2 ⟨rfl, hle2⟩
      have B2 := Lib.hid (B1.out.below hle2 B1.out.lt)
      have Z2 := Lib.hid (Z1.out.below hle2 Z1.out.lt)
      have L2 := Lib.hid (stepB L1.out (Nat.le_refl _) hle2)
      have hw2 := L2.out.size
      clear HR hle2 B1 Z1 L1 hc
      obtain ⟨r, hr⟩ : ∃ r, dec xs = r := ⟨_, rfl⟩
      rw [hr]
      unfold bestStep at hstep
      rw [hr] at hstep
      clear hr
      obtain ⟨x, ec⟩ := r
      go_wp2_with (refine wpList_store_box rfl 57 (.tmp 9) (.tmp 22) rfl w2.heap.size x.cells rfl rfl 57 _ (Box.new rfl) (by kernel_rfl) rfl rfl ?_)
      intro w3 hb3 hg3
      have hlt2 := B2.out.lt
      have hltz := Z2.out.lt
      have B3 := Lib.hid ((B2.out.alloc _).grown hg3 (by intro h; injection h; omega))
      have Z3 := Lib.hid ((Z2.out.alloc _).grown hg3 (by intro h; injection h; omega))
      have X3 := Lib.hid hb3
      have L3 : Hid (Below w.heap.size w w3) := stepG (L2.out.alloc hw2 _) (Nat.le_refl _) hg3 hw2
      obtain ⟨gx, hgx⟩ : ∃ g, w2.heap.size = g := ⟨_, rfl⟩
      rw [hgx] at X3 hlt2 hltz ⊢
      have hnx : gb ≠ gx := by omega
      clear hb3 hg3 B2 Z2 L2 hgx
      have q1 : w3.cell? ⟨gx, 4, none⟩ = some (.int .i64 x.time) := X3.out.cell 4
      have q2 : w3.cell? ⟨gb, 4, none⟩ = some (.int .i64 bl.time) := B3.out.cell 4
      by_cases hec : ec = 0
      · subst hec
        by_cases htm : bl.time < x.time
        · rw [if_pos ⟨rfl, htm⟩] at hstep
          go_wp2_with (first | (refine wpList_load_box rfl 57 (.tmp 9) rfl gx rfl 57 x.cells X3.out _ Try.underlying57 rfl (by kernel_rfl) ?_) | (refine wpList_store_box rfl 57 (.tmp 5) (.tmp 33) rfl gb x.cells rfl rfl 57 _ B3.out (by kernel_rfl) rfl rfl ?_))
          intro w4 hb4 hg4
          have B4 := Lib.hid hb4
          have Z4 := Lib.hid (Z3.out.grown hg4 (by intro h; injection h; omega))
          have L4 : Hid (Below w.heap.size w w4) := stepG L3.out (Nat.le_refl _) hg4 hgb1
          clear hb4 hg4 X3 B3 Z3 L3 q1 q2
          go_wp2
          go_roundw
          case rel => exact ⟨n + 1, by omega, by go_num, by rw [hstep], by rw [hstep]; exact B4, Z4, L4⟩
          case measure => simp [intOf]; omega
        · rw [if_neg (fun h => htm h.2)] at hstep
          go_wp2
          go_roundw
          case rel => exact ⟨n + 1, by omega, by go_num, by rw [hstep], by rw [hstep]; exact B3, Z3, L3⟩
          case measure => simp [intOf]; omega
      · rw [if_neg (fun h => hec h.1)] at hstep
        have hec' : (ec == 0) = false := by simpa using hec
        go_wp2
        go_roundw
        case rel => exact ⟨n + 1, by omega, by go_num, by rw [hstep], by rw [hstep]; exact B3, Z3, L3⟩
        case measure => simp [intOf]; omega
    · have hn' : n = L.length := by omega
      have hres : bestRes L = if ba < 0 then #[Lab.none.val, .int .i64 0, .int .i64 6] else #[bl.val, .int .i64 ba, .int .i64 0] := by
        unfold bestRes bestOf
        rw [← hn', hbst.out]
      have HRES := Lib.hid hres
      clear hres hbst
      by_cases hneg : ba < 0
      · go_wp2_with (refine wpList_store_box rfl 57 (.tmp 2) (.tmp 38) rfl gz #[.int .i64 0, .int .i64 0, .int .i64 0, .int .i64 0, .int .i64 0, .int .i64 0, .int .i64 0, .int .i64 0, .int .i64 0, .int .i64 0, .int .i64 0, .int .i64 0, .int .i64 0] rfl rfl 57 _ Z1.out (by kernel_rfl) rfl rfl ?_)
        intro w4 hb4 hg4
        have L4 : Hid (Below w.heap.size w w4) := stepG L1.out (Nat.le_refl _) hg4 hgz1
        go_wp2_with (refine bodyPost_ret (results_box_tmps Try.results29 _ _ gz _ _ hb4 _ rfl Try.underlying57 rfl (by kernel_rfl)) rfl ?_)
        exact ⟨by rw [HRES.out, if_pos (by omega)]; rfl, L4.out⟩
      · go_wp2_with (first | (refine wpList_load_box rfl 57 (.tmp 5) rfl gb rfl 57 bl.cells B1.out _ Try.underlying57 rfl (by kernel_rfl) ?_) | (refine wpList_store_box rfl 57 (.tmp 2) (.tmp 39) rfl gz bl.cells rfl rfl 57 _ Z1.out (by kernel_rfl) rfl rfl ?_))
        intro w4 hb4 hg4
        have L4 : Hid (Below w.heap.size w w4) := stepG L1.out (Nat.le_refl _) hg4 hgz1
        go_wp2_with (refine bodyPost_ret (results_box_tmps Try.results29 _ _ gz _ _ hb4 _ rfl Try.underlying57 rfl (by kernel_rfl)) rfl ?_)
        exact ⟨by rw [HRES.out, if_neg (by omega)]; rfl, L4.out⟩
end Go.Proofs.Yteidmdakglkkfaa
