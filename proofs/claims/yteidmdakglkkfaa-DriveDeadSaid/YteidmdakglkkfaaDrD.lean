/- The drive: Do, whatever the job; jobs and replies as data; Play. -/
import Derived.Test.YteidmdakglkkfaaDrDa
import Derived.Test.YteidmdakglkkfaaDrDb
import Derived.Test.YteidmdakglkkfaaDrDc
import Derived.Test.YteidmdakglkkfaaDrDd
import Derived.Test.YteidmdakglkkfaaLay2
namespace Go.Proofs.Yteidmdakglkkfaa
open Go.RowKit
set_option linter.unusedVariables false
set_option maxRecDepth 100000

/-- A job. -/
structure JobV where
  kind : Int
  at_ : Nat
  keep : Int
  data : Option (List Int)
instance : Inhabited JobV := ⟨⟨0, 0, 0, none⟩⟩
def JobV.ok (j : JobV) : Prop := 1 ≤ j.kind ∧ j.kind ≤ 8 ∧ j.at_ < 8 ∧ (j.kind = 1 ∨ j.kind = 6 → ∃ d, j.data = some d ∧ d.length = 128)
def DatAt (w : World) (F : Nat → Prop) (x : Option (List Int)) (a : Option Addr) (l c : Nat) : Prop :=
  x = none ∧ a = none ∧ l = 0 ∧ c = 0 ∨ ∃ d, x = some d ∧ l = 128 ∧ d.length = 128 ∧ SRow (Lay.int .u8) w F a l c d
theorem DatAt.keep {w w' : World} {F G : Nat → Prop} {x : Option (List Int)} {a : Option Addr} {l c : Nat} (h : DatAt w F x a l c) (hF : ∀ b, F b → G b) (hw : ∀ b, F b → b < w.heap.size → w'.heap[b]? = w.heap[b]?) : DatAt w' G x a l c := by
  rcases h with h | ⟨d, h1, h2, h3, h4⟩
  · exact .inl h
  · exact .inr ⟨d, h1, h2, h3, h4.keep hF hw⟩
def jobL : Lay JobV where
  size := 4
  pos := by decide
  at_ := fun w F x vs => ∃ a l c, vs = [.int .i64 x.kind, .int .i64 (x.at_ : Int), .int .i64 x.keep, .slice a l c] ∧ DatAt w F x.data a l c
  len := fun ⟨a, l, c, h, _⟩ => by rw [h]; rfl
  one := fun ⟨a, l, c, h, _⟩ v hv => by
    rw [h] at hv
    simp only [List.mem_cons, List.not_mem_nil, or_false] at hv
    rcases hv with rfl | rfl | rfl | rfl <;> rfl
  keep := fun ⟨a, l, c, h, hd⟩ hF hw => ⟨a, l, c, h, hd.keep hF hw⟩
abbrev RepV := Int × Option (List Int)
def repL : Lay RepV where
  size := 2
  pos := by decide
  at_ := fun w F x vs => ∃ a l c, vs = [.int .i64 x.1, .slice a l c] ∧ DatAt w F x.2 a l c
  len := fun ⟨a, l, c, h, _⟩ => by rw [h]; rfl
  one := fun ⟨a, l, c, h, _⟩ v hv => by
    rw [h] at hv
    simp only [List.mem_cons, List.not_mem_nil, or_false] at hv
    rcases hv with rfl | rfl <;> rfl
  keep := fun ⟨a, l, c, h, hd⟩ hF hw => ⟨a, l, c, h, hd.keep hF hw⟩
/-- One job: what it says, and what it leaves. -/
def stepD (s : DS) (j : JobV) : RepV × DS :=
  if s.dead = true ∧ j.kind ≠ 8 then ((13, none), s) else
  if j.kind = 1 then ((0, none), { s with waits := s.waits ++ [⟨j.at_, j.data.getD []⟩] }) else
  if j.kind = 2 then (lookD s j.at_, s) else
  if j.kind = 3 then ((0, none), ⟨settleN (fun _ => true) s.plate s.waits s.waits.length, [], s.dead⟩) else
  if j.kind = 4 then ((0, none), ⟨settleN (bitSet j.keep) s.plate s.waits s.waits.length, [], s.dead⟩) else
  if j.kind = 5 then ((0, none), { s with plate := s.plate.set j.at_ ⟨(s.plate.getD j.at_ default).data, true⟩ }) else
  if j.kind = 6 then ((0, none), { s with plate := s.plate.set j.at_ ⟨some (j.data.getD []), false⟩ }) else
  if j.kind = 7 then ((0, none), { s with dead := true }) else ((0, none), DS.new)
theorem stepD_waits (s : DS) (j : JobV) : (stepD s j).2.waits.length ≤ s.waits.length + 1 := by
  unfold stepD
  repeat' split
  all_goals simp [DS.new]
theorem doD (B hd : Nat) (s : DS) (w : World) (h : Dr w B hd s) (hBw : B ≤ w.heap.size) (j : JobV) (hj : j.ok) (hlw : s.waits.length < 1000) (F : Nat → Prop) (a : Option Addr) (l c : Nat) (hd0 : DatAt w F j.data a l c) :
    Calls Try.prog 50 #[.pointer (some ⟨hd, 0, none⟩), .agg #[.int .i64 j.kind, .int .i64 j.at_, .int .i64 j.keep, .slice a l c]] w (DoPost B hd (stepD s j).1 (stepD s j).2 w) := by
  obtain ⟨k, at_, keep, data⟩ := j
  obtain ⟨h1, h2, h3, h4⟩ := hj
  simp only at h1 h2 h3 h4 hd0 ⊢
  have hrow : k = 1 ∨ k = 6 → ∃ d, data = some d ∧ Row .u8 w a l c d ∧ l = 128 := fun hk => by
    obtain ⟨d, hd1, hd2⟩ := h4 hk
    rcases hd0 with ⟨e, _⟩ | ⟨d', e, e1, e2, e3⟩
    · rw [hd1] at e; cases e
    · rw [hd1] at e; injection e with e; subst e
      exact ⟨d, hd1, e3.toRow, e1⟩
  unfold stepD
  simp only
  cases hdd : s.dead with
  | true =>
    by_cases h8 : k = 8
    · subst h8
      rw [if_neg (by simp)]
      simp only [show (8 : Int) ≠ 1 by decide, show (8 : Int) ≠ 2 by decide, show (8 : Int) ≠ 3 by decide, show (8 : Int) ≠ 4 by decide, show (8 : Int) ≠ 5 by decide, show (8 : Int) ≠ 6 by decide, show (8 : Int) ≠ 7 by decide, if_false]
      exact do_renew B hd s w h hBw at_ keep a l c h3
    · rw [if_pos ⟨rfl, h8⟩]
      exact do_dead B hd s w h hBw at_ keep a l c h3 k ⟨h1, by omega⟩ (fun hk => (hrow hk).choose_spec.2.2) hdd
  | false =>
    rw [if_neg (by simp)]
    have hc : k = 1 ∨ k = 2 ∨ k = 3 ∨ k = 4 ∨ k = 5 ∨ k = 6 ∨ k = 7 ∨ k = 8 := by omega
    rcases hc with rfl | rfl | rfl | rfl | rfl | rfl | rfl | rfl
    · obtain ⟨d, rfl, hr, hl⟩ := hrow (.inl rfl)
      have := do_put B hd s w h hBw at_ keep a l c h3 d hr hl hlw hdd
      simpa [hdd] using this
    · have := do_get B hd s w h hBw at_ keep a l c h3 hdd
      simpa [hdd] using this
    · have := do_flush B hd s w h hBw at_ keep a l c h3 hdd
      simpa [hdd] using this
    · have := do_crash B hd s w h hBw at_ keep a l c h3 hdd
      simpa [hdd] using this
    · have := do_break B hd s w h hBw at_ keep a l c h3 hdd
      simpa [hdd] using this
    · obtain ⟨d, rfl, hr, hl⟩ := hrow (.inr rfl)
      have := do_rot B hd s w h hBw at_ keep a l c h3 d hr hl hdd
      simpa [hdd] using this
    · have := do_fail B hd s w h hBw at_ keep a l c h3 hdd
      simpa [hdd] using this
    · have := do_renew B hd s w h hBw at_ keep a l c h3
      simpa [hdd] using this
def runS (s : DS) (js : List JobV) : DS := js.foldl (fun s j => (stepD s j).2) s
def runR (s : DS) : List JobV → List RepV
  | [] => []
  | j :: js => (stepD s j).1 :: runR (stepD s j).2 js
theorem runS_append (s : DS) (js ks : List JobV) : runS s (js ++ ks) = runS (runS s js) ks := List.foldl_append ..
theorem runS_cons (s : DS) (j : JobV) (js : List JobV) : runS s (j :: js) = runS (stepD s j).2 js := rfl
theorem runR_append (s : DS) (js ks : List JobV) : runR s (js ++ ks) = runR s js ++ runR (runS s js) ks := by
  induction js generalizing s with
  | nil => rfl
  | cons j js ih => simp only [List.cons_append, runR]; rw [ih]; rfl
theorem runR_length (s : DS) (js : List JobV) : (runR s js).length = js.length := by
  induction js generalizing s with
  | nil => rfl
  | cons j js ih => show (_ :: _).length = _; rw [List.length_cons, ih]; rfl
theorem runS_waits (s : DS) (js : List JobV) : (runS s js).waits.length ≤ s.waits.length + js.length := by
  induction js generalizing s with
  | nil => simp [runS]
  | cons j js ih =>
    rw [runS_cons]
    have h1 := ih (stepD s j).2
    have h2 := stepD_waits s j
    simp only [List.length_cons]
    omega
theorem info_reply : (Try.prog.info? 90).map (fun i => (i.zero, i.size, i.bytes)) = some (some (.agg #[.int .i64 0, .slice none 0 0]), 2, 32) := by kernel_rfl
def Played (js : List JobV) (len : Nat) (w : World) (e : Ending) (w' : World) : Prop := ∃ ao co, e = .returned (.tuple #[.slice ao len co, .int .i64 0]) ∧ SOwn repL w' w.heap.size 90 (Kind w' 5) ao len co (runR DS.new js) ∧ Below w.heap.size w w'
set_option maxHeartbeats 4000000 in
theorem playD {F : Nat → Prop} (a : Option Addr) (len cap : Nat) (js : List JobV) (w : World) (h : SRow jobL w F a len cap js) (hlen : len ≤ 300) (hok : ∀ j ∈ js, j.ok) :
    Calls Try.prog 34 #[.int .i64 8, .slice a len cap] w (Played js len w) := by
  obtain ⟨B, hB⟩ : ∃ B, Hid (w.heap.size = B) := ⟨_, rfl⟩
  have hjl := h.1
  have hle := h.hle
  have hmx := h.hmax
  unfold maxLen at hmx
  have HJ := Lib.hid h
  have l300 : (len : Int) ≤ 300 := by omega
  have HOK := Lib.hid hok
  clear h hok
  go_enter Try.func34, Try.ntmps34
  go_wp2_with fail
  refine (newD w).mono ?_
  rintro e w1 ⟨hd, rfl, hdr, hb1⟩
  have D1 : Hid (Dr w1 B hd DS.new) := by show Dr _ _ _ _; rw [← hB.out]; exact hdr
  have L1 : Hid (Below B w w1) := by show Below _ _ _; rw [← hB.out]; exact hb1
  clear hdr hb1
  go_wp2_with fail
  go_loopw [7, 23] (fun ov kv wr => ∃ (k : Nat) (ao : Option Addr) (co : Nat), k ≤ len ∧ kv = .int .i64 k ∧ ov = .slice ao k co ∧ Hid (Dr wr B hd (runS DS.new (js.take k))) ∧ Hid (SOwn repL wr B 90 (Kind wr 5) ao k co (runR DS.new (js.take k))) ∧ Hid (Below B w wr)) (fun _ kv _ => len - (intOf kv).toNat)
  case atStart => exact ⟨0, none, 0, by omega, rfl, rfl, D1, SOwn.nil .., L1⟩
  case round =>
    obtain ⟨k, ao, co, hk, rfl, rfl, hdr, hout, hL⟩ := hrel
    have hBr : B ≤ wr.heap.size := by have := hL.out.size; have := hB.out; omega
    by_cases hlt : k < len
    · have hJr := HJ.out.below (show Below w.heap.size w wr by rw [hB.out]; exact hL.out)
      obtain ⟨b, off, vs, rfl, _, hbl, hat, hc⟩ := hJr.get k hlt
      have hjk : js[k]? = some (js.getD k default) := by simp [List.getD, List.getElem?_eq_getElem (show k < js.length by omega)]
      obtain ⟨ax, lx, cx, rfl, hdat⟩ := hat _ hjk
      obtain ⟨j, hj⟩ : ∃ j, js.getD k default = j := ⟨_, rfl⟩
      rw [hj] at hjk hdat hc
      have hjok : Hid j.ok := HOK.out j (List.mem_of_getElem? hjk)
      have htake : js.take (k + 1) = js.take k ++ [j] := by rw [List.take_add_one, hjk]; rfl
      have hnS : Hid (runS DS.new (js.take (k + 1)) = (stepD (runS DS.new (js.take k)) j).2) := by show _ = _; rw [htake, runS_append]; rfl
      have hnR : Hid (runR DS.new (js.take (k + 1)) = runR DS.new (js.take k) ++ [(stepD (runS DS.new (js.take k)) j).1]) := by show _ = _; rw [htake, runR_append]; rfl
      have hwl : (runS DS.new (js.take k)).waits.length < 1000 := by
        have := runS_waits DS.new (js.take k)
        rw [List.length_take, show DS.new.waits.length = 0 from rfl] at this
        omega
      have c0 : wr.cell? ⟨b, off + k * 4, none⟩ = some (.int .i64 j.kind) := hc 0 (by decide)
      have c1 : wr.cell? ⟨b, off + k * 4 + 1, none⟩ = some (.int .i64 (j.at_ : Int)) := hc 1 (by decide)
      have c2 : wr.cell? ⟨b, off + k * 4 + 2, none⟩ = some (.int .i64 j.keep) := hc 2 (by decide)
      have c3 : wr.cell? ⟨b, off + k * 4 + 3, none⟩ = some (.slice ax lx cx) := hc 3 (by decide)
      have HDAT := Lib.hid hdat
      clear hc hdat hat hJr
      go_wp2_with fail
      obtain ⟨V, hV⟩ : ∃ V, V = wr.alloc (.cells #[.int .i64 j.kind, .int .i64 j.at_, .int .i64 j.keep, .slice ax lx cx] 78) := ⟨_, rfl⟩
      have LA : Below wr.heap.size wr V := by rw [hV]; exact Below_alloc1 _
      rw [← hV]
      clear hV c0 c1 c2 c3
      have D2 := hdr.out.keeps (Keeps.below _ LA)
      have O2 := Lib.hid (hout.out.keeps (Keeps.below [5, 90] LA) (by simp) (by simp))
      have HDV := HDAT.out.keep (fun _ h => h) (fun b _ hlt => LA.block b hlt)
      have hBV : B ≤ V.heap.size := by have := LA.size; omega
      refine (doD B hd _ V D2 hBV j hjok.out hwl _ ax lx cx HDV).mono ?_
      rintro e w2 ⟨ar, lr, cr, rfl, hrep, hdr2, hsp⟩
      have O3 := O2.out.keeps (hsp.2 [5, 90] (by decide) (by decide) (by decide)) (by simp) (by simp)
      have hB2 : B ≤ w2.heap.size := by have := hsp.1.size; omega
      have L2 : Hid (Below B w w2) := (hL.out.trans (LA.mono hBr)).trans hsp.1
      have HO3 := Lib.hid O3
      have HD2 := Lib.hid hdr2
      have HREP := Lib.hid hrep
      obtain ⟨R, hR⟩ : ∃ R, Hid ((stepD (runS DS.new (js.take k)) j).1 = R) := ⟨_, rfl⟩
      rw [hR.out] at HREP ⊢
      clear hrep hdr2 O3 hsp D2 LA HDV HDAT hdr hout O2 hL hwl
      go_wp2_with (at_builtin; refine wpList_append_one (L := repL) (wr := w2) rfl (.tmp 27) (.tmp 31) 86 rfl B 90 _ 32 Try.underlying86 info_reply rfl (Kind w2 5) ao k co _ rfl HO3.out #[.int .i64 R.1, .slice ar lr cr] R rfl (Kind w2 5) ⟨_, _, _, rfl, HREP.out⟩ (fun b hb => ⟨hb, hb.lt, fun e => absurd (hb.ne (HO3.out.kind b e)) (by decide)⟩) (by unfold maxLen; omega) (by omega) hB2 ?_)
      intro a5 c5 w5 hown5 hg5
      have K5 : ∀ ts : List TypeId, 90 ∉ ts → Keeps ts w2 w5 := fun ts hts => Keeps.grown hg5 (fun k hk t ht hkk => hts (by rw [← hkk.ne (HO3.out.kind k hk)]; exact ht))
      have D5 := Lib.hid (HD2.out.keeps (K5 _ (by decide)))
      have L5 := Lib.hid (HO3.out.grown L2.out (Nat.le_refl _) hB2 hg5)
      have O5 := Lib.hid (hown5.mono (Nat.le_refl _) (fun b hb => (K5 [5] (by decide)).kind (by simp) hb))
      clear K5 hown5 hg5 HO3 HD2 L2 HREP
      go_wp2_with fail
      go_roundw
      case rel => exact ⟨k + 1, a5, c5, by omega, by go_num, rfl, by rw [hnS.out]; exact D5, by rw [hnR.out, hR.out]; exact O5, L5⟩
      case measure => simp [intOf]; omega
    · obtain rfl : k = len := by omega
      have hfin : js.take k = js := List.take_of_length_le (by omega)
      rw [hfin] at hout
      go_wp2_with fail
      go_ret2
      exact ⟨_, _, rfl, by rw [hB.out]; exact hout.out, by rw [hB.out]; exact hL.out⟩
end Go.Proofs.Yteidmdakglkkfaa
