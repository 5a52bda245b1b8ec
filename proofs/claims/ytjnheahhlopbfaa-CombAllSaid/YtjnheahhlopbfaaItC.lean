/- slices.Collect of slices of numbers, over an iterator that keeps a state of its own. -/
import Derived.Test.YtjnheahhlopbfaaItE
namespace Go.Proofs.Ytjnheahhlopbfaa
open Go.RowKit Go.Shelf
set_option linter.unusedVariables false
set_option maxRecDepth 100000

attribute [local go_sem] Oper.semAt_some

theorem wpListIn_append_data {α : Type} {L : Lay α} {F : Fence} {n : Nat} {P : Program} {w : World} {ops : Array Oper} {rest : List Oper} {o : Oper} {act : Act} {Q : Exit → Act → World → Prop} (hgd : o.guard = none) (s x : Operand) (t : TypeId)
    (ho : o.op = .call { callee := .builtin .append, args := #[s, x], argTypes := #[t, t] })
    (base : Nat) (e : TypeId) (z : Value) (bytes : Nat) (ht : P.underlying t = some (.slice e)) (hi : (P.info? e).map (fun i => (i.zero, i.size, i.bytes)) = some (some z, L.size, bytes)) (hzs : z.cells.size = L.size)
    (G : Nat → Prop) (a : Option Addr) (len cap : Nat) (xs : List α) (hs : act.eval s = .slice a len cap) (hown : SOwn L w base e G a len cap xs)
    (a2 : Option Addr) (len2 cap2 : Nat) (ys : List α) (uss : List (List Value)) (hx : act.eval x = .slice a2 len2 cap2) (hrow : VRow w L.size a2 len2 cap2 uss.flatten) (F2 : Nat → Prop) (hp2 : Pt L w F2 ys uss)
    (hl2 : ys.length = len2) (hF2 : ∀ b, F2 b → G b ∧ b < w.heap.size ∧ (Value.slice a len cap).ownBlock ≠ some b)
    (h63 : len + len2 ≤ maxLen) (hbytes : (len + len2) * bytes ≤ 140737488355328) (hbase : base ≤ w.heap.size)
    (h : ∀ a' cap' w', SOwn L w' base e G a' (len + len2) cap' (xs ++ ys) → w.grownBy w' (Value.slice a len cap).ownBlock → wpListIn F n P ops Q rest (act.put o.dst (.slice a' (len + len2) cap')) w') : wpListIn F n P ops Q (o :: rest) act w := by
  refine wpListIn_plain hgd fun K hK => ?_
  obtain ⟨a', cap', w', hrun, r1, r2⟩ := run_append_data (P := P) w base t o.type e z bytes ht hi hzs G a len cap xs hown a2 len2 cap2 ys uss hrow F2 hp2 hl2 hF2 h63 hbytes hbase
  unfold Oper.wpIn
  refine ⟨?_, ?_⟩
  · simp [Oper.about, ho, resolve, Target.leads, Sem.run_pure]
  · rw [Oper.semAt_plain F _ _ (by rw [ho]; intro c hc'; cases hc')]
    simp [execOp, ho, resolve, invoke, builtin, hs, hx, hrun, Result.andThen]
    exact hK _ _ (h a' cap' w' r1 r2)
theorem info_row : (Try.prog.info? 51).map (fun i => (i.zero, i.size, i.bytes)) = some (some (.slice none 0 0), 1, 24) := by kernel_rfl
theorem SOwn.off {α : Type} {L : Lay α} {X Y : World} {B A : Nat} {e : TypeId} {G : Nat → Prop} {a : Option Addr} {len cap : Nat} {xs : List α} (h : SOwn L X B e G a len cap xs) (hG : ∀ b, G b → B ≤ b) (ho : Off A B X Y) : SOwn L Y B e G a len cap xs :=
  h.keep ho.size (fun b hlt hb => ho.block b hlt (.inr (hb.elim (hG b) id)))
theorem Own.off {X Y : World} {B A : Nat} {e : TypeId} {size : Nat} {a : Option Addr} {len cap : Nat} {vs : List Value} (h : Own X B e size a len cap vs) (ho : Off A B X Y) : Own Y B e size a len cap vs := by
  refine ⟨h.1, ?_⟩
  rcases h.2 with h0 | ⟨g, c, cur, hv, hbg, hg, r⟩
  · exact .inl h0
  · exact .inr ⟨g, c, cur, hv, hbg, by rw [ho.block g (Array.getElem?_eq_some_iff.1 hg).1 (.inr hbg)]; exact hg, r⟩
theorem own_kind {w : World} {base : Nat} {e : TypeId} {size : Nat} {a : Option Addr} {len cap : Nat} {vs : List Value} (h : Own w base e size a len cap vs) (b : Nat) (hb : (Value.slice a len cap).ownBlock = some b) : ∃ cur, w.heap[b]? = some (.cells cur e (0, 0)) := by
  rcases h.form with ⟨rfl, _⟩ | ⟨g, cur, rfl, _, hg, _⟩
  · cases hb
  · obtain rfl : g = b := by simpa [Value.ownBlock] using hb
    exact ⟨cur, hg⟩
/-- What has been collected: rows j of ps. -/
def CollSt (w0 : World) (h B : Nat) (ps : List (List Nat)) (j : Nat) (W : World) : Prop := ∃ a c, Box W h #[.slice a j c] 58 ∧ SOwn (Lay.int .i64).slice W B 51 (fun b => B ≤ b) a j c ((ps.take j).map ints) ∧ Below h w0 W
set_option maxHeartbeats 4000000 in
theorem appendSeqW (k gf : Nat) (lb : Array Value) (ps : List (List Nat)) (hs : List Nat) (w : World) (hseq : ItGives Try.prog gf lb ps.length 4 hs (PickEl k ps) w) (hhs : ∀ b ∈ hs, b < w.heap.size) (hlen : ps.length ≤ 4096) (eg : ∀ args w, (callFunc gf args).run Try.prog w = .ok (.enter gf args) w)
    (hpk : ∀ p ∈ ps, p.length = k ∧ ∀ x ∈ ints p, (Lit.int .i64 x).wf = true) :
    Calls Try.prog 43 #[.slice none 0 0, .func (.func gf) #[] lb] w fun e w' => ∃ a c B, e = .returned (.slice a ps.length c) ∧ w.heap.size ≤ B ∧ Hid (SOwn (Lay.int .i64).slice w' B 51 (fun b => B ≤ b) a ps.length c (ps.map ints)) ∧ Below w.heap.size w w' := by
  refine (callsIn_wide (n := 3)).1 ?_
  refine callsIn_of_wp_marks Try.func43 rfl trivial ?_ rfl
  simp only [Try.ntmps43, List.size_toArray, List.length_cons, List.length_nil, Nat.reduceAdd, Nat.reduceSub, Array.replicate_succ, Array.replicate_zero, List.push_toArray, List.append_toArray, List.nil_append, List.cons_append]
  gi_wp2
  obtain ⟨h, hh⟩ : ∃ h, w.heap.size = h := ⟨_, rfl⟩
  obtain ⟨V, hV⟩ : ∃ V, V = w.alloc (.cells #[.slice none 0 0] 58) := ⟨_, rfl⟩
  rw [← hV]
  have hsV : V.heap.size = h + 1 := by rw [hV]; simp [hh]
  have bV : Box V h #[.slice none 0 0] 58 := by rw [hV]; exact Box.new hh.symm
  have lV : Below h w V := by rw [hV, ← hh]; exact Below_alloc1 _
  rw [hh]
  refine wp_range (gf := gf) (lb := lb) rfl eg hseq (by omega) (Held.below lV (fun b hb => by have := hhs b hb; omega)) hhs rfl
    (fun j W => CollSt w h (h + 7) ps j W) (fun _ _ _ => False)
    (fun j a' W => ∃ p a c, ps[j]? = some p ∧ Own W (h + 7) 3 1 a k c ((ints p).map (.int .i64)) ∧ a' = { tmps := #[.slice none 0 0, .func (.func gf) #[] lb, .pointer (some ⟨h, 0, none⟩), undef, .slice none 0 0, .slice a k c, .func (.func gf) #[] lb, .slice a k c, undef, undef, undef, undef, undef], defers := [] })
    ?hi ?hix ?hax ?h0 ?assign ?body ?done ?stop
  case hi =>
    rintro j X Y ⟨a, c, hb, hs, hbl⟩ hoff
    rw [hsV] at hoff
    have hlt := hb.lt
    exact ⟨a, c, (hoff.block h hlt (.inl (by omega))).trans hb, SOwn.off hs (fun _ h => h) hoff, hoff.below_of hbl (by omega) (by omega)⟩
  case hix => exact fun _ _ _ _ h _ => h.elim
  case hax =>
    rintro j a' X Y ⟨p, a, c, h1, h2, h3⟩ hoff
    rw [hsV] at hoff
    exact ⟨p, a, c, h1, h2.off hoff, h3⟩
  case h0 => exact ⟨none, 0, bV, SOwn.nil .., lV⟩
  case assign =>
    rintro l j x W K hj hst hsz ⟨p, a, c, hp, rfl, ho⟩ hK
    rw [hsV] at hsz ho
    gi_wp2
    exact hK _ _ (RoundKeeps.refl ..) hst ⟨p, a, c, hp, ho, rfl⟩
  case body =>
    rintro l j a' W hj ⟨ao, co, hb, hso, hbl⟩ hsz ⟨p, a, c, hp, ho, rfl⟩
    rw [hsV] at hsz
    have c1 : W.cell? ⟨h, 0, none⟩ = some (.slice ao j co) := hb.cell 0
    have HB := Lib.hid hb
    have HS := Lib.hid hso
    have HL := Lib.hid hbl
    have HO := Lib.hid ho
    clear hb hso hbl ho
    have hpl := hpk p (List.mem_of_getElem? hp)
    have hRP : Row .i64 W a k c (ints p) := (HO.out.row).toRow hpl.2
    have hjN : ((ps.take j).map ints).length = j := by rw [List.length_map, List.length_take]; omega
    have hAt : (Lay.int .i64).slice.at_ W (fun b => (Value.slice a k c).ownBlock = some b) (ints p) [.slice a k c] := ⟨a, k, c, rfl, hRP.toS (fun x hx _ => by rw [hx]; rfl)⟩
    have HV1 : Hid (VRow (W.alloc (.cells #[.slice a k c] 51)) (Lay.int .i64).slice.size (some ⟨W.heap.size, 0, none⟩) 1 1 ([[.slice a k c]] : List (List Value)).flatten) := VRow.single hAt 51 #[.slice a k c] rfl rfl
    have HP1 : Hid (Pt (Lay.int .i64).slice (W.alloc (.cells #[.slice a k c] 51)) (fun b => (Value.slice a k c).ownBlock = some b) [ints p] [[.slice a k c]]) := Pt.single ((Lay.int .i64).slice.keep hAt (fun _ hb => hb) (fun b _ hlt => Below.heap_alloc _ _ _ hlt))
    have HS1 : Hid (SOwn (Lay.int .i64).slice (W.alloc (.cells #[.slice a k c] 51)) (h + 7) 51 (fun b => h + 7 ≤ b) ao j co ((ps.take j).map ints)) := HS.out.alloc _
    have hF2 : Hid (∀ b, (Value.slice a k c).ownBlock = some b → h + 7 ≤ b ∧ b < (W.alloc (.cells #[.slice a k c] 51)).heap.size ∧ (Value.slice ao j co).ownBlock ≠ some b) := by
      intro b hb
      obtain ⟨h1, h2⟩ := World.ownsRow.lt HO.out b hb
      refine ⟨h1, by simp; omega, fun e => ?_⟩
      obtain ⟨_, vss, F, hown, _, _⟩ := HS.out
      have k1 := own_kind hown b e
      have k2 := own_kind HO.out b hb
      obtain ⟨x1, e1⟩ := k1
      obtain ⟨x2, e2⟩ := k2
      rw [e1] at e2
      simp at e2
    have hsz1 : h + 7 ≤ (W.alloc (.cells #[.slice a k c] 51)).heap.size := by simp; omega
    have HB1 : Hid (Box (W.alloc (.cells #[.slice a k c] 51)) h #[.slice ao j co] 58) := HB.out.alloc _
    gi_wp2_with (gi_at_builtin; refine wpListIn_append_data (L := (Lay.int .i64).slice) rfl (.tmp 8) (.tmp 10) 58 rfl (h + 7) 51 _ 24 Try.underlying58 info_row rfl (fun b => h + 7 ≤ b) ao j co _ rfl HS1.out (some ⟨W.heap.size, 0, none⟩) 1 1 [ints p] [[.slice a k c]] rfl HV1.out _ HP1.out rfl hF2.out (by unfold maxLen; omega) (by omega) hsz1 ?_; intro a1 c2 w1 hown hg; have hne : ∀ r, (Value.slice ao j co).ownBlock = some r → h + 7 ≤ r := (fun r hr => (SOwn.lt HS.out r hr).1); have HN := Lib.hid hne; have HB2 : Hid (Box w1 h #[.slice ao j co] 58) := (hg.block h (by omega) (fun e => by have := HN.out h e.symm; omega)).trans HB1.out; have HOW := Lib.hid hown; have HG := Lib.hid hg; have q1 := HB2.out.cell 0; have q2 := HB2.out.free 0; clear hown hg hne)
    have hgs := HG.out.size
    have hal : (W.alloc (.cells #[.slice a k c] 51)).heap.size = W.heap.size + 1 := by simp
    have htk : (ps.take (j + 1)).map ints = (ps.take j).map ints ++ [ints p] := by
      rw [List.take_add_one, hp, List.map_append]; rfl
    have hset : ∀ b, b ≠ h → (w1.setCell ⟨h, 0, none⟩ (.slice a1 (j + 1) c2)).heap[b]? = w1.heap[b]? := fun b hb => Below.heap_setCell _ _ _ _ hb
    have hssz : (w1.setCell ⟨h, 0, none⟩ (.slice a1 (j + 1) c2)).heap.size = w1.heap.size := by simp [World.setCell]
    refine ⟨⟨⟨?_, ?_⟩, ?_⟩, a1, c2, HB2.out.set 0 _, ?_, ?_⟩
    · rw [hssz]; omega
    · intro b h1 h2
      rw [hsV] at h1 h2
      rw [hset b (by omega), HG.out.block b (by omega) (fun e => by have := HN.out b e.symm; omega)]
      exact Below.heap_alloc _ _ _ (by omega)
    · intro b hb
      have h1 := hhs b hb
      rw [hset b (by omega), HG.out.block b (by omega) (fun e => by have := HN.out b e.symm; omega)]
      exact Below.heap_alloc _ _ _ (by omega)
    · rw [htk]
      exact HOW.out.keep (by omega) (fun b hlt hb => hset b (by rcases hb with hb | hb <;> omega))
    · have h1 : Below h w w1 := (HL.out.alloc (by omega) _).grown HG.out (by omega) (fun r hr => by have := HN.out r hr; omega)
      exact h1.setCell (Nat.le_refl _) _
  case done =>
    rintro D W h1 h2 ⟨a, c, hb, hso, hbl⟩ hK
    rw [hsV] at h1 h2
    have c1 : W.cell? ⟨h, 0, none⟩ = some (.slice a ps.length c) := hb.cell 0
    have HS := Lib.hid hso
    have HL := Lib.hid hbl
    clear hb hso hbl
    gi_wp2
    refine ⟨by simp, .inl ⟨_, _, rfl, run_takeDeferred hK, ?_⟩⟩
    have hoff : Off (h + 1) (h + 7) W (W.putObj D (.deferred none)) := Off.putObj _ _ _ (by omega)
    have hlt := (Array.getElem?_eq_some_iff.1 hK).1
    refine ⟨_, results_tmp rfl _ _ _, a, c, h + 7, rfl, by omega, ?_, by rw [hh]; exact hoff.below_of HL.out (by omega) (by omega)⟩
    have h3 := SOwn.off HS.out (fun _ h => h) hoff
    rw [List.take_length] at h3
    exact h3
  case stop =>
    rintro D k j W _ _ _ h _
    exact h.elim
set_option maxHeartbeats 1000000 in
theorem collectW (k gf : Nat) (lb : Array Value) (ps : List (List Nat)) (hs : List Nat) (w : World) (hseq : ItGives Try.prog gf lb ps.length 4 hs (PickEl k ps) w) (hhs : ∀ b ∈ hs, b < w.heap.size) (hlen : ps.length ≤ 4096) (eg : ∀ args w, (callFunc gf args).run Try.prog w = .ok (.enter gf args) w)
    (hpk : ∀ p ∈ ps, p.length = k ∧ ∀ x ∈ ints p, (Lit.int .i64 x).wf = true) :
    Calls Try.prog 41 #[.func (.func gf) #[] lb] w fun e w' => ∃ a c B, e = .returned (.slice a ps.length c) ∧ w.heap.size ≤ B ∧ Hid (SOwn (Lay.int .i64).slice w' B 51 (fun b => B ≤ b) a ps.length c (ps.map ints)) ∧ Below w.heap.size w w' := by
  have HA := Lib.hid (appendSeqW k gf lb ps hs w hseq hhs hlen eg hpk)
  clear hseq hhs hpk
  go_enter Try.func41, Try.ntmps41
  go_wp2_with (refine HA.out.mono ?_; rintro e w1 ⟨a, c, B, rfl, hB, hO, hb⟩)
  go_ret
  exact ⟨a, c, B, rfl, hB, hO, hb⟩
set_option maxHeartbeats 1000000 in
theorem allW (n k : Nat) (hkn : k ≤ n) (hn : n ≤ 12) (w : World) :
    Calls Try.prog 30 #[.int .i64 n, .int .i64 k] w fun e w' => ∃ a c B, e = .returned (.tuple #[.slice a (picks n k).length c, .int .i64 0]) ∧ w.heap.size ≤ B ∧ Hid (SOwn (Lay.int .i64).slice w' B 51 (fun b => B ≤ b) a (picks n k).length c ((picks n k).map ints)) ∧ Below w.heap.size w w' := by
  have hg := each_gives n k hkn hn w
  obtain ⟨W, hW⟩ : ∃ W, W = (w.alloc (.cells #[.int .i64 (n : Int)] 3)).alloc (.cells #[.int .i64 (k : Int)] 3) := ⟨_, rfl⟩
  rw [← hW] at hg
  have hsW : W.heap.size = w.heap.size + 2 := by rw [hW]; simp
  have hLW : Below w.heap.size w W := by rw [hW]; exact ((Below.refl _ w).alloc (Nat.le_refl _) _).alloc (by simp) _
  have hpl := picks_length (n := n) (k := k) hn (by omega)
  have HC := Lib.hid (collectW k 44 _ (picks n k) _ W hg (by intro b hb; simp at hb; omega) (by rw [hpl]; exact pas_le hn (by omega)) (enters_of Try.func44 (by kernel_rfl) rfl) (fun p hp => by
    obtain ⟨j, hj⟩ := List.getElem?_of_mem hp
    obtain ⟨h1, h2, _⟩ := picks_at hn (by omega) hj
    exact ⟨h2, ints_wf (fun x hx => (h1.mem x hx).2) hn⟩))
  have HF := Lib.hid (fine_yes (n : Int) (k : Int) w (by omega) (by omega) (by omega))
  have HE := Lib.hid (eachW (n : Int) (k : Int) w)
  have HL := Lib.hid hLW
  rw [← hW] at HE
  clear hg hW hpl hLW
  go_enter Try.func30, Try.ntmps30
  go_wp2_with (first
    | (go_at_call 39; refine HF.out.mono ?_; rintro e w' ⟨rfl, rfl⟩)
    | (go_at_call 42; refine HE.out.mono ?_; rintro e w' ⟨rfl, rfl⟩)
    | (go_at_call 41; refine HC.out.mono ?_; rintro e w1 ⟨a, c, B, rfl, hB, hO, hb⟩))

  go_ret2
  exact ⟨a, c, B, rfl, by omega, hO, HL.out.trans (hb.mono (by omega))⟩
end Go.Proofs.Ytjnheahhlopbfaa
