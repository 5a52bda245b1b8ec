/- The walk of SnapSafe. -/
import Derived.Test.YthjjfmnipemakaaKpI
import Derived.Test.YthjjfmnipemakaaKpV
namespace Go.Proofs.Ythjjfmnipemakaa
open Go.RowKit
set_option linter.unusedVariables false
set_option maxRecDepth 100000

theorem info_bools : (Try.prog.info? 55).map (fun i => (i.zero, i.size, i.bytes)) = some (some (.slice none 0 0), 1, 24) := by kernel_rfl
theorem inK {l : List Thing} {r : Thing} {w w' : World} {j : Nat} {t t' : Thing} (h : Apt [thAll l, r] w) (hj : l[j]? = some t) (ht : Turns t t' w w') : Apt [thAll (l.set j t'), r] w' :=
  Apt.set (i := 0) h rfl (Turns.inside (i := j) (h.all 0 _ rfl) hj ht)
theorem startJ {w w' : World} (h : Own w' w.heap.size 55 1 (some ⟨w.heap.size, 0, none⟩) 0 0 []) (hb : Below w.heap.size w w') :
    Apt [thAll [thSince w, thOwn boolL w.heap.size 4 none 0 0 [], thOwn boolL w.heap.size 4 none 0 0 [], thOwn boolL w.heap.size 4 none 0 0 []], thRow boolL.slice w.heap.size 55 (fun _ => False) (some ⟨w.heap.size, 0, none⟩) 0 0 []] w' := by
  have f : ∀ b, ¬ (thOwn boolL w.heap.size 4 none 0 0 []).foot b := fun b hb => by cases (show (none : Option Nat) = some b from hb)
  have h1 : Apt [thSince w, thOwn boolL w.heap.size 4 none 0 0 [], thOwn boolL w.heap.size 4 none 0 0 [], thOwn boolL w.heap.size 4 none 0 0 []] w' := by
    refine ((((Apt.nil w').cons (SOwn.nil ..) (fun s hs b hb => absurd hb (f b))).cons (SOwn.nil ..) (fun s hs b hb => absurd hb (f b))).cons (SOwn.nil ..) (fun s hs b hb => absurd hb (f b))).cons hb (fun s hs b hb hs' => ?_)
    rcases List.mem_cons.1 hs with rfl | hs
    · exact f b hs'
    · rcases List.mem_cons.1 hs with rfl | hs
      · exact f b hs'
      · obtain rfl := List.mem_singleton.1 hs; exact f b hs'
  refine ((Apt.nil w').cons (t := thRow boolL.slice w.heap.size 55 (fun _ => False) (some ⟨w.heap.size, 0, none⟩) 0 0 []) ⟨⟨rfl, [], fun _ => False, h, Pt.nil .., fun b hb => hb.elim⟩, fun b hb => hb.elim⟩ (fun s hs => by cases hs)).cons h1 (fun s hs b hb hs' => ?_)
  obtain rfl := List.mem_singleton.1 hs
  rcases hs' with h2 | h2
  · exact h2
  · have h3 : w.heap.size = b := by simpa using (show (some w.heap.size : Option Nat) = some b from h2)
    obtain ⟨t, ht, htb⟩ := hb
    rcases List.mem_cons.1 ht with rfl | ht
    · have : b < w.heap.size := htb; omega
    · rcases List.mem_cons.1 ht with rfl | ht
      · exact f b htb
      · rcases List.mem_cons.1 ht with rfl | ht
        · exact f b htb
        · obtain rfl := List.mem_singleton.1 ht; exact f b htb
/-- A row of the snapshots' lists. -/
theorem rowAt {w : World} {B : Nat} {G : Nat → Prop} {a : Option Addr} {n c : Nat} {ls : List (List Bool)} (h : (thRow boolL.slice B 55 G a n c ls).holds w) (j : Nat) (hj : j < n) :
    ∃ g ar lr cr, a = some ⟨g, 0, none⟩ ∧ g < w.heap.size ∧ w.cell? ⟨g, j, none⟩ = some (.slice ar lr cr) ∧ SRow boolL w G ar lr cr (ls.getD j []) := by
  obtain ⟨g, vs, ha, hB, hg, ⟨x, hx, hv⟩, hc⟩ := SOwn.get h.1 j hj
  obtain ⟨ar, lr, cr, rfl, hr⟩ := hv
  have := hc 0 (by decide)
  have e2 : j * boolL.slice.size + 0 = j := by show j * 1 + 0 = j; omega
  rw [e2] at this
  exact ⟨g, ar, lr, cr, ha, hg, this, by simp only [List.getD, hx]; exact hr⟩
theorem sboolAt {w : World} {F : Nat → Prop} {a : Option Addr} {n c : Nat} {bs : List Bool} (h : SRow boolL w F a n c bs) (j : Nat) (hj : j < n) : ∃ g off, a = some ⟨g, off, none⟩ ∧ g < w.heap.size ∧ w.cell? ⟨g, off + j, none⟩ = some (.bool (bs.getD j false)) := by
  obtain ⟨g, off, vs, ha, _, hg, hv, hc⟩ := h.get j hj
  have hx := List.getElem?_eq_getElem (show j < bs.length by rw [h.1]; exact hj)
  have e : vs = [.bool (bs[j]'(by rw [h.1]; exact hj))] := hv _ hx
  subst e
  have := hc 0 (by decide)
  have e2 : off + (j * boolL.size + 0) = off + j := by show off + (j * 1 + 0) = off + j; omega
  rw [e2] at this
  exact ⟨g, off, ha, hg, by rw [this]; simp [List.getD, hx]⟩
def twoM : List (Int × Nat) := [(1, 0), (2, 0)]
theorem two1 : (kp0.outs twoM)[1]? = some (0, [0]) := by rfl
set_option maxHeartbeats 16000000 in
theorem snapSafe (F : Nat → Prop) (a : Option Addr) (len cap : Nat) (xs : List (Int × Int)) (w : World) (ha : SRow turnL w F a len cap xs) :
    Calls Try.prog 7 #[.slice a len cap] w fun e w' => e = .returned (.bool true) ∧ Below w.heap.size w w' := by
  have hM := Lib.hid (movesOf F a len cap xs 150 w ha (by omega))
  obtain ⟨ms, hms⟩ : ∃ ms, Hid ((xs.take 150).map mvOf = ms) := ⟨_, rfl⟩
  have hok : Hid (∀ m ∈ ms, MoveOk m) := by
    show ∀ m ∈ ms, MoveOk m
    rw [← hms.out]; intro m hm
    obtain ⟨x, _, rfl⟩ := List.mem_map.1 hm
    exact mvOf_ok x
  have hml : ms.length ≤ 150 := by rw [← hms.out, List.length_map, List.length_take]; omega
  rw [hms.out] at hM
  clear ha hms
  go_enter Try.func7, Try.ntmps7
  go_wp2_with fail
  refine hM.out.mono ?_
  rintro e w1 ⟨ao, L, co, rfl, hT⟩
  have hmL : Hid (ms.length = L) := hT.out.now.1
  have hLb : L ≤ 150 := by have := hmL.out; omega
  have hS := Lib.hid (snappedW (fun _ => True) ao L co ms w1 (SOwn.sRow hT.out.now) hok.out (by omega))
  clear hM hml
  go_wp2_with fail
  refine hS.out.mono ?_
  rintro e w3 ⟨a3, c3, rfl, hr3, hb3⟩
  have hm3 := Lib.hid (SRow.below (SOwn.sRow hT.out.now : SRow moveL w1 (fun _ => True) ao L co ms) hb3)
  have hB3 := Lib.hid (hT.out.nilBelow.trans (hb3.mono hT.out.nilBelow.size))
  clear hb3 hS hT
  go_wp2_with (refine wpList_make_zeros rfl _ _ 56 rfl 55 _ 24 Try.underlying56 info_bools rfl _ _ _ _ 0 rfl rfl rfl rfl (by omega) (by unfold maxLen; omega) ?_; intro w4 hO4 hb4; have S4 := Lib.hid (startJ hO4 hb4); clear hO4 hb4)
  obtain ⟨B, hB⟩ : ∃ B, Hid (w3.heap.size = B) := ⟨_, rfl⟩
  rw [hB.out] at S4 ⊢
  go_loopw [6, 7, 8, 9, 10] (fun lv gv sv tv iv wx => ∃ (i : Nat) (a6 : Option Addr) (n6 c6 : Nat) (a7 : Option Addr) (n7 c7 : Nat) (a8 : Option Addr) (n8 c8 : Nat) (a9 : Option Addr) (n9 c9 : Nat) (G : Nat → Prop), i ≤ L ∧ iv = .int .i64 i ∧ lv = .slice a6 n6 c6 ∧ gv = .slice a7 n7 c7 ∧ sv = .slice a8 n8 c8 ∧ tv = .slice a9 n9 c9 ∧
    Hid (Apt [thAll [thSince w3, thOwn boolL B 4 a6 n6 c6 (ghAt ms i).lives, thOwn boolL B 4 a7 n7 c7 (ghAt ms i).gone, thOwn boolL B 4 a9 n9 c9 (bT ms i)], thRow boolL.slice B 55 G a8 n8 c8 (ghAt ms i).shots] wx)) (fun _ _ _ _ iv _ => L - (intOf iv).toNat)
  case atStart => exact ⟨0, none, 0, 0, none, 0, 0, _, 0, 0, none, 0, 0, _, by omega, rfl, rfl, rfl, rfl, rfl, S4.out⟩
  case round =>
    obtain ⟨i, a6, n6, c6, a7, n7, c7, a8, n8, c8, a9, n9, c9, G, hi, rfl, rfl, rfl, rfl, rfl, hS⟩ := hrel
    have HBi : Hid (Below w3.heap.size w3 wr) := (hS.out.all 0 _ rfl : Apt [thSince w3, _, _, _] wr).head
    by_cases hlt : i < L
    · have il : (i : Int) < L := by omega
      obtain ⟨mb, mo, m, hao, hmb, hmi, c0, c1⟩ := moveAt (hm3.out.below HBi.out) i hlt
      subst hao
      have hx := outs_get ms kp0 i m hmi
      have hask := asked hok.out (by have := hmL.out; omega) i m hmi
      have hmo := hok.out m (List.mem_of_getElem? hmi)
      have hbT : Hid (bT ms (i + 1) = if ((kp0.fin (ms.take i)).step m).2.1 = 0 then nextT (bT ms i) m.1 m.2 else bT ms i) := by show _ = _; rw [bT, hmi]
      obtain ⟨x, hxx⟩ : ∃ x, ((kp0.fin (ms.take i)).step m).2 = x := ⟨_, rfl⟩
      obtain ⟨LL, hLL⟩ : ∃ LL, (kp0.fin (ms.take (i + 1))).blocks.length = LL := ⟨_, rfl⟩
      rw [hxx, hLL] at hask
      rw [hxx] at hx hbT
      have HX := Lib.hid hx
      have l6 : (ghAt ms i).lives.length = n6 := ((hS.out.all 0 _ rfl : Apt [thSince w3, thOwn boolL B 4 a6 n6 c6 (ghAt ms i).lives, _, _] wr).all 1 _ rfl : (thOwn boolL B 4 a6 n6 c6 (ghAt ms i).lives).holds wr).1
      have l7 : (ghAt ms i).gone.length = n7 := ((hS.out.all 0 _ rfl : Apt [thSince w3, _, thOwn boolL B 4 a7 n7 c7 (ghAt ms i).gone, _] wr).all 2 _ rfl : (thOwn boolL B 4 a7 n7 c7 (ghAt ms i).gone).holds wr).1
      have l9 : (bT ms i).length = n9 := ((hS.out.all 0 _ rfl : Apt [thSince w3, _, _, thOwn boolL B 4 a9 n9 c9 (bT ms i)] wr).all 3 _ rfl : (thOwn boolL B 4 a9 n9 c9 (bT ms i)).holds wr).1
      have l8 : (ghAt ms i).shots.length = n8 := (hS.out.all 1 _ rfl : (thRow boolL.slice B 55 G a8 n8 c8 (ghAt ms i).shots).holds wr).1.1
      have n6b : n6 ≤ 1000 := by have := hask.old.1; omega
      have n7b : n7 ≤ 1000 := by have := hask.old.2.1; omega
      have n8b : n8 ≤ 1000 := by have := hask.old.2.2.1; omega
      have n9b : n9 ≤ 1000 := by have := hask.old.2.2.2; omega
      have HA := Lib.hid hask
      have hBw : B ≤ wr.heap.size := by have := HBi.out.size; have := hB.out; omega
      have L6 := Lib.hid l6
      have L9 := Lib.hid l9
      obtain ⟨gb, go_, ag, ng, cg, hga, hgb, d0, d1, dr⟩ := goneAt (hr3.out.below HBi.out) i hlt x hx
      subst hga
      have HNG : Hid (x.2.length = ng) := dr.1
      have hngb : ng ≤ 1000 := by have := HNG.out; have := hask.few; omega
      have hgb3 : gb < w3.heap.size := by
        obtain ⟨b', o', vs', e', _, hb', _⟩ := hr3.out.get i hlt
        obtain ⟨rfl, _⟩ : gb = b' ∧ go_ = o' := by simpa using e'
        exact hb'
      have D1 : Hid (w3.cell? ⟨gb, go_ + i * 2 + 1, none⟩ = some (.slice ag ng cg)) := (HBi.out.cell (p := ⟨gb, go_ + i * 2 + 1, none⟩) hgb3).symm.trans d1
      have hmk : m.1 = 1 ∨ m.1 = 2 ∨ m.1 = 3 ∨ m.1 = 4 := by have := hmo.1; have := hmo.2.1; omega
      have hmw : m.2 ≤ 1000 := hmo.2.2
      clear hx hask hmo hmi hxx hLL l6 l7 l8 l9 d1 dr
      obtain ⟨mk, mw⟩ := m
      simp only at hmk hmw c0 c1 hbT
      go_upto_block 1 with fail
      refine wp_block ?_
      refine wp_seq_k ?_
      intro KK hKK
      go_cut [6, 7, 8, 9] (fun lv gv sv tv wx => ∃ (b6 : Option Addr) (k6 d6 : Nat) (b7 : Option Addr) (k7 d7 : Nat) (b8 : Option Addr) (k8 d8 : Nat) (b9 : Option Addr) (k9 d9 : Nat) (G' : Nat → Prop), lv = .slice b6 k6 d6 ∧ gv = .slice b7 k7 d7 ∧ sv = .slice b8 k8 d8 ∧ tv = .slice b9 k9 d9 ∧
        Hid (Apt [thAll [thSince w3, thOwn boolL B 4 b6 k6 d6 (ghMid ms i (mk, mw) x).lives, thOwn boolL B 4 b7 k7 d7 (ghMid ms i (mk, mw) x).gone, thOwn boolL B 4 b9 k9 d9 (bT ms (i + 1))], thRow boolL.slice B 55 G' b8 k8 d8 (ghMid ms i (mk, mw) x).shots] wx))
      case first =>
        have eM : x.1 = 0 → ghMid ms i (mk, mw) x = (ghAt ms i).move mk mw := fun hc => by unfold ghMid; rw [if_pos hc]
        by_cases hc : x.1 = 0
        · rw [hc] at d0
          have eMM := eM hc
          rw [if_pos hc] at hbT
          obtain ⟨g0, hg0⟩ : ∃ g0, ghAt ms i = g0 := ⟨_, rfl⟩
          have hkl := HA.out.kill hc
          have hdp := HA.out.drop hc
          rw [hg0] at eMM hS L6 hkl
          obtain ⟨th, hth⟩ : ∃ th, bT ms i = th := ⟨_, rfl⟩
          rw [hth] at hS L9 hdp hbT
          simp only at hkl hdp
          rcases hmk with rfl | rfl | rfl | rfl
          · have e6 : Hid ((ghMid ms i (1, mw) x).lives = g0.lives ++ [true]) := by show _ = _; rw [eMM]; rfl
            have e7 : Hid ((ghMid ms i (1, mw) x).gone = g0.gone ++ [false]) := by show _ = _; rw [eMM]; rfl
            have e8 : Hid ((ghMid ms i (1, mw) x).shots = g0.shots) := by show _ = _; rw [eMM]; rfl
            have e9 : Hid (bT ms (i + 1) = th) := hbT.out
            have O := Lib.hid ((hS.out.all 0 _ rfl : Apt [thSince w3, thOwn boolL B 4 a6 n6 c6 g0.lives, _, _] wr).all 1 _ rfl : (thOwn boolL B 4 a6 n6 c6 g0.lives).holds wr)
            clear hkl hdp eM eMM hbT
            go_wp2_with (first | (at_builtin; refine wpList_append_T1 (L := boolL) rfl (.tmp 45) (.tmp 46) 55 rfl B 4 _ 1 Try.underlying55 info_bool rfl a6 n6 c6 g0.lives rfl O.out #[.bool true] true rfl rfl (by unfold maxLen; omega) (by omega) hBw ?_; intro a5 c5 w5 T5; have S5 := Lib.hid (inK hS.out (j := 1) rfl T5); have hB5 : B ≤ w5.heap.size := (Nat.le_trans hBw T5.mv.size); have O5 := Lib.hid ((S5.out.all 0 _ rfl : Apt _ w5).all 2 _ rfl : (thOwn boolL B 4 a7 n7 c7 g0.gone).holds w5); clear T5) | (at_builtin; refine wpList_append_T1 (L := boolL) rfl (.tmp 48) (.tmp 49) 55 rfl B 4 _ 1 Try.underlying55 info_bool rfl a7 n7 c7 g0.gone rfl O5.out #[.bool false] false rfl rfl (by unfold maxLen; omega) (by omega) hB5 ?_; intro a10 c10 w10 T10; have S10 := Lib.hid (inK S5.out (j := 2) rfl T10); clear T10))
            go_meet
            exact ⟨a5, n6 + 1, c5, a10, n7 + 1, c10, a8, n8, c8, a9, n9, c9, G, rfl, rfl, rfl, rfl, by show Apt _ _; rw [e6.out, e7.out, e8.out, e9.out]; exact S10.out⟩
          · have e6 : Hid ((ghMid ms i (2, mw) x).lives = g0.lives.set mw false) := by show _ = _; rw [eMM]; rfl
            have e7 : Hid ((ghMid ms i (2, mw) x).gone = g0.gone) := by show _ = _; rw [eMM]; rfl
            have e8 : Hid ((ghMid ms i (2, mw) x).shots = g0.shots) := by show _ = _; rw [eMM]; rfl
            have e9 : Hid (bT ms (i + 1) = th) := hbT.out
            obtain ⟨q1, q2⟩ := hkl rfl
            have hwl : mw < n6 := by have := L6.out; omega
            have O := Lib.hid ((hS.out.all 0 _ rfl : Apt [thSince w3, thOwn boolL B 4 a6 n6 c6 g0.lives, _, _] wr).all 1 _ rfl : (thOwn boolL B 4 a6 n6 c6 g0.lives).holds wr)
            obtain ⟨g6, rfl, hg6, cb⟩ := boolAt O.out mw hwl
            rw [q2] at cb
            have cf : wr.frozen? ⟨g6, mw, none⟩ = false := frozen_own O.out _
            have S5 := Lib.hid (inK hS.out (j := 1) rfl (Turns.putB O.out mw false hwl))
            have wi : (mw : Int) < n6 := by omega
            clear hdp eM eMM hbT q1 q2 hkl
            go_wp2_with fail
            go_meet
            exact ⟨some ⟨g6, 0, none⟩, n6, c6, a7, n7, c7, a8, n8, c8, a9, n9, c9, G, rfl, rfl, rfl, rfl, by show Apt _ _; rw [e6.out, e7.out, e8.out, e9.out]; exact S5.out⟩
          · have e6 : Hid ((ghMid ms i (3, mw) x).lives = g0.lives) := by show _ = _; rw [eMM]; rfl
            have e7 : Hid ((ghMid ms i (3, mw) x).gone = g0.gone) := by show _ = _; rw [eMM]; rfl
            have e8 : Hid ((ghMid ms i (3, mw) x).shots = g0.shots ++ [g0.lives]) := by show _ = _; rw [eMM]; rfl
            have e9 : Hid (bT ms (i + 1) = th ++ [true]) := hbT.out
            have O := Lib.hid ((hS.out.all 0 _ rfl : Apt [thSince w3, thOwn boolL B 4 a6 n6 c6 g0.lives, _, _] wr).all 1 _ rfl : (thOwn boolL B 4 a6 n6 c6 g0.lives).holds wr)
            obtain ⟨uss, _, hv, hp, hl, _⟩ := SOwn.whole O.out
            have HV := Lib.hid hv
            have HP := Lib.hid (show Pt boolL wr (fun _ => False) g0.lives uss from flatPt hp)
            have HL := Lib.hid hl
            have SN := Lib.hid (Apt.set (i := 0) hS.out rfl (Turns.withNil (L := boolL) (B := B) (e := 4) (Turns.refl (hS.out.all 0 _ rfl))))
            clear hkl hdp eM eMM hbT hv hp hl
            go_wp2_with (first | (at_builtin; refine wpList_append_T (L := boolL) rfl (.const (.slice none 0 0)) (.tmp 82) 55 rfl B 4 _ 1 Try.underlying55 info_bool rfl none 0 0 [] rfl (SOwn.nil ..) a6 n6 c6 g0.lives uss rfl HV.out HP.out HL.out (by unfold maxLen; omega) (by omega) hBw ?_; intro a5 c5 w5 T5; rw [Nat.zero_add, List.nil_append] at T5; have S5 := Lib.hid (inK SN.out (j := 1) rfl T5); have hB5 : B ≤ w5.heap.size := (Nat.le_trans hBw T5.mv.size); have O5 := Lib.hid T5.now; clear T5) | (at_builtin; refine wpList_append_R1 (L := boolL.slice) (wr := w5) rfl (.tmp 81) (.tmp 84) 56 rfl B 55 _ 24 Try.underlying56 info_bools rfl G a8 n8 c8 g0.shots rfl _ _ S5.out #[.slice a5 n6 c5] g0.lives rfl ⟨a5, n6, c5, rfl, own_srow O5.out⟩ (by unfold maxLen; omega) (by omega) hB5 ?_; intro a10 c10 w10 G10 T10; have S10 := Lib.hid T10.now; have hB10 : B ≤ w10.heap.size := (Nat.le_trans hB5 T10.mv.size); have O10 := Lib.hid ((S10.out.all 0 _ rfl : Apt _ w10).all 3 _ rfl : (thOwn boolL B 4 a9 n9 c9 th).holds w10); clear T10) | (at_builtin; refine wpList_append_T1 (L := boolL) rfl (.tmp 86) (.tmp 87) 55 rfl B 4 _ 1 Try.underlying55 info_bool rfl a9 n9 c9 th rfl O10.out #[.bool true] true rfl rfl (by unfold maxLen; omega) (by omega) hB10 ?_; intro a11 c11 w11 T11; have S11 := Lib.hid (inK S10.out (j := 3) rfl T11); clear T11))
            go_meet
            exact ⟨a6, n6, c6, a7, n7, c7, a10, n8 + 1, c10, a11, n9 + 1, c11, G10, rfl, rfl, rfl, rfl, by show Apt _ _; rw [e6.out, e7.out, e8.out, e9.out]; exact S11.out⟩
          · have e6 : Hid ((ghMid ms i (4, mw) x).lives = g0.lives) := by show _ = _; rw [eMM]; rfl
            have e7 : Hid ((ghMid ms i (4, mw) x).gone = g0.gone) := by show _ = _; rw [eMM]; rfl
            have e8 : Hid ((ghMid ms i (4, mw) x).shots = g0.shots) := by show _ = _; rw [eMM]; rfl
            have e9 : Hid (bT ms (i + 1) = th.set mw false) := hbT.out
            obtain ⟨q1, q2⟩ := hdp rfl
            have hwl : mw < n9 := by have := L9.out; omega
            have O := Lib.hid ((hS.out.all 0 _ rfl : Apt [thSince w3, _, _, thOwn boolL B 4 a9 n9 c9 th] wr).all 3 _ rfl : (thOwn boolL B 4 a9 n9 c9 th).holds wr)
            obtain ⟨g9, rfl, hg9, cb⟩ := boolAt O.out mw hwl
            rw [q2] at cb
            have cf : wr.frozen? ⟨g9, mw, none⟩ = false := frozen_own O.out _
            have S5 := Lib.hid (inK hS.out (j := 3) rfl (Turns.putB O.out mw false hwl))
            have wi : (mw : Int) < n9 := by omega
            clear hdp eM eMM hbT q1 q2 hkl
            go_wp2_with fail
            go_meet
            exact ⟨a6, n6, c6, a7, n7, c7, a8, n8, c8, some ⟨g9, 0, none⟩, n9, c9, G, rfl, rfl, rfl, rfl, by show Apt _ _; rw [e6.out, e7.out, e8.out, e9.out]; exact S5.out⟩
        · have hq : (x.1 == 0) = false := by simp [hc]
          have eMM : ghMid ms i (mk, mw) x = ghAt ms i := by unfold ghMid; rw [if_neg hc]
          rw [if_neg hc] at hbT
          have e9 : Hid (bT ms (i + 1) = bT ms i) := hbT.out
          have HMM := Lib.hid eMM
          clear hbT eM eMM
          go_wp2_with fail
          go_meet
          exact ⟨a6, n6, c6, a7, n7, c7, a8, n8, c8, a9, n9, c9, G, rfl, rfl, rfl, rfl, by show Apt _ _; rw [HMM.out, e9.out]; exact hS.out⟩
      case rest =>
        obtain ⟨b6, k6, d6, b7, k7, d7, b8, k8, d8, b9, k9, d9, G', rfl, rfl, rfl, rfl, hC⟩ := hcut
        obtain ⟨gm, hgm⟩ : ∃ gm, ghMid ms i (mk, mw) x = gm := ⟨_, rfl⟩
        obtain ⟨t1, ht1⟩ : ∃ t1, bT ms (i + 1) = t1 := ⟨_, rfl⟩
        have hA := HA.out
        have hnx : Hid (ghAt ms (i + 1) = { gm with gone := markG gm.gone x.2 }) := by have h := hA.next; rw [hgm] at h; exact h
        have hll := hA.ll; have hgl := hA.gl; have hsl := hA.sl; have hlb := hA.lb
        have heach := Lib.hid hA.each
        rw [hgm] at hll hgl hsl heach hC
        rw [ht1] at hsl hlb heach hC
        have K1 : Apt [thSince w3, thOwn boolL B 4 b6 k6 d6 gm.lives, thOwn boolL B 4 b7 k7 d7 gm.gone, thOwn boolL B 4 b9 k9 d9 t1] wc := hC.out.all 0 _ rfl
        have m6 : gm.lives.length = k6 := (K1.all 1 _ rfl : (thOwn boolL B 4 b6 k6 d6 gm.lives).holds wc).1
        have m7 : gm.gone.length = k7 := (K1.all 2 _ rfl : (thOwn boolL B 4 b7 k7 d7 gm.gone).holds wc).1
        have m9 : t1.length = k9 := (K1.all 3 _ rfl : (thOwn boolL B 4 b9 k9 d9 t1).holds wc).1
        have m8 : gm.shots.length = k8 := (hC.out.all 1 _ rfl : (thRow boolL.slice B 55 G' b8 k8 d8 gm.shots).holds wc).1.1
        have M67 : Hid (k6 = LL ∧ k7 = LL ∧ k9 = k8 ∧ LL ≤ 1000 ∧ k9 ≤ 1000) := ⟨by omega, by omega, by omega, by omega, by omega⟩
        have HT1 := Lib.hid ht1
        have k8b : k8 ≤ 1000 := by omega
        clear hA hll hgl hsl hlb K1 m6 m7 m8 m9 hgm ht1 hS hbT c0 c1 d0 HA n6b n7b n8b n9b
        go_wp2_with fail
        go_loopw [11] (fun kv wx => ∃ k : Nat, k ≤ ng ∧ kv = .int .i64 k ∧ Hid (Apt [thAll [thSince w3, thOwn boolL B 4 b6 k6 d6 gm.lives, thOwn boolL B 4 b7 k7 d7 (markG gm.gone (x.2.take k)), thOwn boolL B 4 b9 k9 d9 t1], thRow boolL.slice B 55 G' b8 k8 d8 gm.shots] wx)) (fun kv _ => ng - (intOf kv).toNat)
        case atStart => exact ⟨0, by omega, rfl, by show Apt _ _; rw [List.take_zero]; exact hC.out⟩
        case round =>
          obtain ⟨k, hk, rfl, hSk⟩ := hrel
          have Kk := Lib.hid (hSk.out.all 0 _ rfl : Apt [thSince w3, thOwn boolL B 4 b6 k6 d6 gm.lives, thOwn boolL B 4 b7 k7 d7 (markG gm.gone (x.2.take k)), thOwn boolL B 4 b9 k9 d9 t1] wr)
          have HBk : Hid (Below w3.heap.size w3 wr) := Kk.out.head
          obtain ⟨gb', go', ag', ng', cg', hga', hgb', d0', d1', dr'⟩ := goneAt (hr3.out.below HBk.out) i hlt x HX.out
          obtain ⟨rfl, rfl⟩ : gb = gb' ∧ go_ = go' := by simpa using hga'
          obtain ⟨rfl, rfl, rfl⟩ : ag = ag' ∧ ng = ng' ∧ cg = cg' := by
            have h1 := d1'
            have h2 := (HBk.out.cell (p := ⟨gb, go_ + i * 2 + 1, none⟩) hgb3).trans D1.out
            rw [h1] at h2
            simp at h2
            exact ⟨h2.1.symm, h2.2.1.symm, h2.2.2.symm⟩
          have DR := Lib.hid dr'
          clear hga' dr' d0'
          by_cases hlk : k < ng
          · have kl : (k : Int) < ng := by omega
            obtain ⟨bb, bo, v, hag, hbb, hxk, cv⟩ := intRow_at DR.out k hlk
            subst hag
            obtain ⟨v0, v1, v2, v3, v4⟩ := heach.out k v hxk
            obtain ⟨vn, rfl⟩ := Int.eq_ofNat_of_zero_le v0
            rw [Int.toNat_natCast] at v2 v3 v4
            have vl6 : vn < k6 := by have := M67.out.1; omega
            have vl7 : vn < k7 := by have := M67.out.2.1; omega
            have vi6 : (vn : Int) < k6 := by omega
            have vi7 : (vn : Int) < k7 := by omega
            have O6 := Lib.hid (Kk.out.all 1 _ rfl : (thOwn boolL B 4 b6 k6 d6 gm.lives).holds wr)
            have O7 := Lib.hid (Kk.out.all 2 _ rfl : (thOwn boolL B 4 b7 k7 d7 (markG gm.gone (x.2.take k))).holds wr)
            obtain ⟨g6, rfl, hg6, cl⟩ := boolAt O6.out vn vl6
            obtain ⟨g7, rfl, hg7, cgn⟩ := boolAt O7.out vn vl7
            rw [v2] at cl
            rw [v3] at cgn
            have cf : wr.frozen? ⟨g7, vn, none⟩ = false := frozen_own O7.out _
            have S5 := Lib.hid (inK hSk.out (j := 2) rfl (Turns.putB O7.out vn true vl7))
            have hmk1 : Hid ((markG gm.gone (x.2.take k)).set vn true = markG gm.gone (x.2.take (k + 1))) := by
              have h := List.getElem?_eq_some_iff.1 hxk
              show _ = _
              rw [List.take_succ_eq_append_getElem h.1, h.2]
              unfold markG
              rw [List.foldl_append]; rfl
            have V4 := Lib.hid v4
            obtain ⟨W5, hW5⟩ : ∃ V, V = wr.setCell ⟨g7, vn, none⟩ (.bool true) := ⟨_, rfl⟩
            rw [← hW5] at S5
            clear hxk v0 v1 v2 v3 v4 hk
            go_wp2_with fail
            rw [← hW5]
            clear cl cgn cf cv d1' hW5
            go_loop [13] (fun sv => ∃ sn : Nat, sn ≤ k8 ∧ sv = .int .i64 sn) (fun sv => k8 - (intOf sv).toNat)
            case atStart => exact ⟨0, by omega, rfl⟩
            case round =>
              obtain ⟨sn, hsn, rfl⟩ := hrel
              by_cases hls : sn < k8
              · have si8 : (sn : Int) < k8 := by omega
                have sl9 : sn < k9 := by have := M67.out.2.2.1; omega
                have si9 : (sn : Int) < k9 := by omega
                obtain ⟨g9, rfl, hg9, ct⟩ := boolAt ((S5.out.all 0 _ rfl : Apt _ W5).all 3 _ rfl : (thOwn boolL B 4 b9 k9 d9 t1).holds W5) sn sl9
                cases htb : t1.getD sn false with
                | false =>
                  rw [htb] at ct
                  clear htb
                  go_wp2_with fail
                  go_round
                  case rel => exact ⟨sn + 1, by omega, by go_num⟩
                  case measure => (simp [intOf]; try omega)
                | true =>
                  rw [htb] at ct
                  have hno := V4.out sn htb
                  obtain ⟨g8, ar, lr, cr, rfl, hg8, cs, hrow⟩ := rowAt (S5.out.all 1 _ rfl : (thRow boolL.slice B 55 G' b8 k8 d8 gm.shots).holds W5) sn hls
                  have HROW := Lib.hid hrow
                  clear htb hrow
                  by_cases hvr : vn < lr
                  · obtain ⟨gr, or_, rfl, hgr, cvr⟩ := sboolAt HROW.out vn hvr
                    rw [hno] at cvr
                    have vir : (vn : Int) < lr := by omega
                    clear hno
                    go_wp2_with fail
                    go_round
                    case rel => exact ⟨sn + 1, by omega, by go_num⟩
                    case measure => (simp [intOf]; try omega)
                  · have vir : decide ((vn : Int) < (lr : Int)) = false := by simp; omega
                    clear hno
                    go_wp2_with fail
                    go_round
                    case rel => exact ⟨sn + 1, by omega, by go_num⟩
                    case measure => (simp [intOf]; try omega)
              · obtain rfl : sn = k8 := by omega
                go_wp2_with fail
                go_roundw
                case rel => exact ⟨k + 1, by omega, by go_num, by show Apt _ _; rw [← hmk1.out]; exact S5.out⟩
                case measure => (simp [intOf]; try omega)
          · obtain rfl : k = ng := by omega
            have eT : x.2.take k = x.2 := List.take_of_length_le (by have := HNG.out; omega)
            rw [eT] at hSk
            clear hk DR Kk
            go_wp2_with fail
            go_roundw
            case rel => exact ⟨i + 1, b6, k6, d6, b7, k7, d7, b8, k8, d8, b9, k9, d9, G', by omega, by go_num, rfl, rfl, rfl, rfl, by show Apt _ _; rw [hnx.out, HT1.out]; exact hSk.out⟩
            case measure => (simp [intOf]; try omega)
    · obtain rfl : i = L := by omega
      have HBW := Lib.hid (hB3.out.trans (HBi.out.mono hB3.out.size))
      clear hS S4 hi
      have hR1 : Hid (SRow moveL (wr.alloc (.cells #[.int .i64 1, .int .i64 0, .int .i64 2, .int .i64 0] 60)) (fun _ => True) (some ⟨wr.heap.size, 0, none⟩) 2 2 twoM) :=
        ⟨rfl, fun _ _ _ => trivial, [[.int .i64 1, .int .i64 0], [.int .i64 2, .int .i64 0]], vrow_pair _ _ _ _ _ rfl, flatMk _ _ twoM⟩
      have hS1 := Lib.hid (snappedW (fun _ => True) (some ⟨wr.heap.size, 0, none⟩) 2 2 twoM _ hR1.out (fun m hm => by
        rcases List.mem_cons.1 hm with rfl | hm
        · exact ⟨by decide, by decide, by decide⟩
        obtain rfl := List.mem_singleton.1 hm
        exact ⟨by decide, by decide, by decide⟩) (by omega))
      have HBa := Lib.hid (HBW.out.trans ((Below_alloc1 (.cells #[.int .i64 1, .int .i64 0, .int .i64 2, .int .i64 0] 60)).mono HBW.out.size))
      go_wp2_with fail
      refine hS1.out.mono ?_
      rintro e w6 ⟨a6', c6', rfl, hr6, hb6'⟩
      obtain ⟨g6, o6, ag6, ng6, cg6, rfl, hg6, _, d6, dr6⟩ := goneAt hr6.out 1 (by omega) (0, [0]) two1
      obtain rfl : 1 = ng6 := dr6.1
      obtain ⟨g7, o7, v, rfl, hg7, hv7, c7'⟩ := intRow_at dr6 0 (by omega)
      obtain rfl : (0 : Int) = v := by simpa using hv7
      simp only [Nat.add_zero] at c7'
      have HB6 := Lib.hid (HBa.out.trans (hb6'.mono HBa.out.size))
      clear hb6' hv7 dr6
      go_wp2_with fail
      go_ret
      exact ⟨rfl, HB6.out⟩
end Go.Proofs.Ythjjfmnipemakaa
