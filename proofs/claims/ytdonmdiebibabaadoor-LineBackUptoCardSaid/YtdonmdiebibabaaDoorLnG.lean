/- The walk of ToldBack. -/
import Derived.Test.YtdonmdiebibabaaDoorLnF
import Derived.Test.YtdonmdiebibabaaDoorRegL
import Derived.Deep.DeepCutAuto
import Derived.Great.Walk
import Derived.Laws.Concat
namespace Go.Proofs.YtdonmdiebibabaaDoor
open Go.RowKit Go.Sort
set_option linter.unusedVariables false
set_option maxRecDepth 100000
set_option linter.unusedSimpArgs false

theorem namesP_take (ns : List Int) (k : Nat) (h6 : k < 6) (hk : k < ns.length) : (namesP ns).take (k + 1) = (namesP ns).take k ++ [objN ns[k]] := by
  unfold namesP
  have h1 : k < ((ns.take 6).map objN).length := by simp; omega
  rw [List.take_succ_eq_append_getElem h1]
  simp
theorem wpList_concat {P : Program} {ops : Array Oper} {rest : List Oper} {o : Oper} {a : Act} {w : World} {Q : Exit → Act → World → Prop} (hgd : o.guard = none) (x y : Operand) (t u : TypeId) (ho : o.op = .binOp .add t x y u)
    (s l : Nm) (hx : a.eval x = encStr s) (hy : a.eval y = .string ⟨l.toArray⟩) (hl : s.length + l.length ≤ 9223372036854775807)
    (h : wpList P ops Q rest (a.put o.dst (encStr (s ++ l))) w) : wpList P ops Q (o :: rest) a w := by
  refine Go.Great.wpList_runTo hgd _ rfl (encStr (s ++ l)) w ?_ h
  have e : (binOp .add t (encStr s) (.string ⟨l.toArray⟩)).run P w = .ok (encStr (s ++ l)) w := by
    unfold encStr
    rw [binOp_string_add, run_string_add_sum w _ _ (by rw [strLen, strLen]; exact hl), ByteArray.mk_append_mk]
  simp only [execOp, ho, hx, hy]
  simp [eqGuard, e]
theorem load_box_w {P : Program} {ops : Array Oper} {rest : List Oper} {o : Oper} {a : Act} {w : World} {Q : Exit → Act → World → Prop} (hw : Region.wanted o (yielded ops a.tmps) = true) (ty : TypeId) (x : Operand) (ho : o.op = .load ty x)
    (g : Nat) (hx : a.eval x = .pointer (some ⟨g, 0, none⟩)) (t : TypeId) (cs : Array Value) (hg : Box w g cs t)
    (d : TypeDesc) (hu : P.underlying ty = some d) (hd : (match d with | .struct _ | .array _ _ => true | _ => false) = true) (hi : (P.info? ty).map (·.size) = some cs.size)
    (h : wpList P ops Q rest (a.put o.dst (.agg cs)) w) : wpList P ops Q (o :: rest) a w :=
  wpList_step fun K hK => by simp only [hw, if_true]; exact wp_load_row ty x ho g hx t cs (0, 0) d hg hu hd hi (hK _ _ h)
theorem names_len (ns : List Int) : (namesP ns).length ≤ 6 := by unfold namesP; simp; omega
theorem namesP_of {x : Nm} {ns : List Int} (h : x ∈ namesP ns) : ∃ n, x = objN n := by
  obtain ⟨n, _, rfl⟩ := List.mem_map.1 h
  exact ⟨n, rfl⟩
/-- An answer as ToldBack makes it. -/
structure Fit (t : Tl) (ns : List Int) : Prop where
  nm : t.names = namesP ns
  cd : t.code ≤ 14
  sz : t.size ≤ 1099511627776
  len : t.data.length ≤ 2000000
  by_ : ∀ x ∈ t.data, 0 ≤ x ∧ x < 256
theorem hear_told (t : Tl) (ns : List Int) (w : World) (h : Fit t ns) (hE : Env w) : Calls Tryd.prog 9 #[encStr (joinP (partsT t))] w fun e w' =>
    ∃ (ad : Option Addr) (ld cd : Nat) (an : Option Addr) (ln cn : Nat), e = .returned (.tuple #[.agg (tlV t ad ld cd an ln cn), .int .i64 0]) ∧ Hid (Row .u8 w' ad ld cd t.data) ∧ Hid (SRow strL w' (fun _ => True) an ln cn t.names) ∧ Hid (Below w.heap.size w w') := by
  have hn : ∀ x ∈ t.names, x.length ≤ 100 ∧ ∀ c ∈ x, c ≠ 32 := fun x hx => by
    rw [h.nm] at hx
    obtain ⟨n, rfl⟩ := namesP_of hx
    exact ⟨(objN_ok n).2.1, (objN_ok n).2.2.1⟩
  have hl : t.names.length ≤ 6 := by rw [h.nm]; exact names_len ns
  have hz := h.sz
  have hcd := h.cd
  refine (hearW t w hE h.by_ hn (fun _ => ?_) (by omega) (by omega) h.len (by omega) (partsT_len t (by omega) (by omega) h.len (fun x hx => (hn x hx).1) (by omega))).mono ?_
  · rw [h.nm]
    cases hq : (namesP ns).head? with
    | none => simp
    | some x =>
      obtain ⟨n, rfl⟩ := namesP_of (List.mem_of_head? hq)
      intro e
      exact (objN_ok n).2.2.2 (Option.some.inj e)
  · intro e w' hh
    unfold Heard at hh
    rw [h.nm, namesP_any] at hh
    rw [if_neg (by decide)] at hh
    obtain ⟨ad, ld, cd, an, ln, cn, h1, h2, h3, h4⟩ := hh
    rw [← h.nm] at h3
    exact ⟨ad, ld, cd, an, ln, cn, h1, h2, h3, h4⟩
def moreC (t : Tl) : Int := if t.done = false ∧ t.names = [] then 0 else 4
theorem hear_more (t : Tl) (ns : List Int) (w : World) (h : Fit t ns) (hE : Env w) : Calls Tryd.prog 9 #[encStr (joinP (partsT t) ++ 32 :: doneN)] w fun e w' =>
    (∃ (r : Tl) (ad : Option Addr) (ld cd : Nat) (an : Option Addr) (ln cn : Nat), e = .returned (.tuple #[.agg (tlV r ad ld cd an ln cn), .int .i64 (moreC t)])) ∧ Hid (Below w.heap.size w w') := by
  have hl : t.names.length ≤ 6 := by rw [h.nm]; exact names_len ns
  have hz := h.sz
  have hcd := h.cd
  have hn : ∀ x ∈ t.names, x.length ≤ 100 ∧ ∀ c ∈ x, c ≠ 32 := fun x hx => by
    rw [h.nm] at hx
    obtain ⟨n, rfl⟩ := namesP_of hx
    exact ⟨(objN_ok n).2.1, (objN_ok n).2.2.1⟩
  rw [moreT_line]
  by_cases hc : t.done = false ∧ t.names = []
  · have hm : moreT t = { t with done := true } := by unfold moreT; rw [if_pos hc]
    rw [hm]
    have hn' : ∀ x ∈ ({ t with done := true } : Tl).names, x.length ≤ 100 ∧ ∀ c ∈ x, c ≠ 32 := hn
    refine (hearW { t with done := true } w hE h.by_ hn' (fun hh => by cases hh) (by show t.code ≤ _; omega) (by show t.size ≤ _; omega) h.len (by show t.names.length ≤ _; omega) (partsT_len _ (by show t.code ≤ _; omega) (by show t.size ≤ _; omega) h.len (fun x hx => (hn x hx).1) (by show t.names.length ≤ _; omega))).mono ?_
    intro e w' hh
    unfold Heard at hh
    rw [show ({ t with done := true } : Tl).names = [] from hc.2] at hh
    rw [if_neg (by decide)] at hh
    obtain ⟨ad, ld, cd, an, ln, cn, h1, h2, h3, h4⟩ := hh
    exact ⟨⟨_, ad, ld, cd, an, ln, cn, by rw [h1]; unfold moreC; rw [if_pos hc]⟩, h4⟩
  · have hm : moreT t = { t with names := t.names ++ [doneN] } := by unfold moreT; rw [if_neg hc]
    rw [hm]
    have hn' : ∀ x ∈ ({ t with names := t.names ++ [doneN] } : Tl).names, x.length ≤ 100 ∧ ∀ c ∈ x, c ≠ 32 := fun x hx => by
      rcases List.mem_append.1 hx with hx | hx
      · exact hn x hx
      · obtain rfl := List.mem_singleton.1 hx
        decide
    have hl' : ({ t with names := t.names ++ [doneN] } : Tl).names.length ≤ 100 := by simp; omega
    refine (hearW { t with names := t.names ++ [doneN] } w hE h.by_ hn' (fun hh => ?_) (by show t.code ≤ _; omega) (by show t.size ≤ _; omega) h.len (by omega) (partsT_len _ (by show t.code ≤ _; omega) (by show t.size ≤ _; omega) h.len (fun x hx => (hn' x hx).1) hl')).mono ?_
    · have hne : t.names ≠ [] := fun e => hc ⟨hh, e⟩
      show (t.names ++ [doneN]).head? ≠ _
      obtain ⟨y, r, e⟩ := List.exists_cons_of_ne_nil hne
      have hy : y ∈ namesP ns := by rw [← h.nm, e]; exact List.mem_cons_self ..
      obtain ⟨n, rfl⟩ := namesP_of hy
      rw [e]
      intro e'
      exact (objN_ok n).2.2.2 (Option.some.inj e')
    · intro e w' hh
      unfold Heard at hh
      rw [if_pos (by show (t.names ++ [doneN]).any oddP = true; rw [List.any_append]; simp [oddP])] at hh
      exact ⟨⟨⟨0, false, 0, [], []⟩, none, 0, 0, none, 0, 0, by rw [hh.1]; unfold moreC; rw [if_neg hc]; rfl⟩, hh.2⟩
set_option maxHeartbeats 8000000 in
theorem toldBackW (code size : Int) (a : Option Addr) (len cap : Nat) (xs : List Int) (done : Bool) (an : Option Addr) (ln cn : Nat) (ns : List Int) (w : World)
    (hE : Env w) (hd : Row .u8 w a len cap xs) (hn : Row .i64 w an ln cn ns) (hl : len ≤ 2000000) (hln : ln ≤ 4611686018427387904) :
    Calls Tryd.prog 3 #[.int .i64 code, .int .i64 size, .slice a len cap, .bool done, .slice an ln cn] w fun e w' => e = .returned (.bool true) ∧ Hid (Below w.heap.size w w') := by
  have HE := Lib.hid hE
  have HD := Lib.hid hd
  have HNS := Lib.hid hn
  have HLN : Hid (ns.length = ln) := hn.hlen
  have HLD : Hid (xs.length = len) := hd.hlen
  have hd1 := hd.hle
  have hd2 := hd.hmax
  have hn1 := hn.hle
  have hn2 := hn.hmax
  unfold maxLen at hd2 hn2
  clear hE hd hn
  go_enter Tryd.func3, Tryd.ntmps3
  have mk1 : True := trivial
  go_wp2_with (first
    | (go_at_call 6; clear mk1; refine (pickedBig code 14 _ (by omega) (by omega)).mono ?_; rintro e w' ⟨c, hc, hc0, hc1, rfl, rfl⟩; clear hc; obtain ⟨kc, rfl⟩ := Int.eq_ofNat_of_zero_le hc0)
    | (go_at_call 6; refine (pickedBig size 1099511627776 _ (by omega) (by omega)).mono ?_; rintro e w' ⟨s, hs, hs0, hs1, rfl, rfl⟩; clear hs; obtain ⟨ks, rfl⟩ := Int.eq_ofNat_of_zero_le hs0)
    | (at_builtin; refine wpList_append_data (L := Lay.int .u8) rfl (.const (.slice none 0 0)) (.tmp 23) 22 rfl w.heap.size 5 (.int .u8 0) 1 Tryd.underlying22 info_byteC rfl (fun _ => True) none 0 0 [] rfl (SOwn.nil ..) a len cap xs (xs.map fun x => [Value.int .u8 x]) rfl (by rw [flatten_ints]; exact HD.out.toV) (fun _ => False) (Pt.ints HD.out.hwf) HLD.out (fun b h => h.elim) (by unfold maxLen; omega) (by omega) (Nat.le_refl _) ?_; intro a1 c1 w1 hown1 hg1; have hb1 : Hid (Below w.heap.size w w1) := (SOwn.nil (Lay.int .u8) w w.heap.size 5 (fun _ => True)).grown (Below.refl _ _) (Nat.le_refl _) (Nat.le_refl _) hg1; have R1 : Hid (Row .u8 w1 a1 len c1 xs) := by { have := hown1.ints; simpa [Hid] using this }; clear hown1 hg1)
    | fail)
  obtain ⟨g, hg⟩ : ∃ g, g = w1.heap.size := ⟨_, rfl⟩
  obtain ⟨V, hV⟩ : ∃ V, V = w1.alloc (.cells (tlV ⟨kc, done, ks, xs, []⟩ a1 len c1 none 0 0) 28) := ⟨_, rfl⟩
  have HG1 : Hid (w.heap.size ≤ g) := by rw [hg]; exact hb1.out.size
  have HBV : Hid (Below g w1 V) := by rw [hV, hg]; exact Below_alloc1 _
  have HXV : Hid (Box V g (tlV ⟨kc, done, ks, xs, []⟩ a1 len c1 none 0 0) 28) := by rw [hV]; exact Box.new hg
  have hgV : g < V.heap.size := HXV.out.lt
  unfold tlV at hV
  simp only at hV
  rw [← hg]
  rw [← hV]
  clear hV
  have HG := Lib.hid hg
  clear hg
  go_loopw [12] (fun iv wr => ∃ (k : Nat) (aq : Option Addr) (cq : Nat), k ≤ 6 ∧ k ≤ ln ∧ iv = .int .i64 k ∧ Hid (SOwn strL wr (g + 1) 9 (fun _ => False) aq k cq ((namesP ns).take k)) ∧ Hid (Box wr g (tlV ⟨kc, done, ks, xs, []⟩ a1 len c1 aq k cq) 28) ∧ Hid (Below g w1 wr)) (fun iv _ => 6 - (intOf iv).toNat)
  case atStart => exact ⟨0, none, 0, by omega, by omega, rfl, SOwn.nil .., HXV, HBV⟩
  case round =>
    obtain ⟨k, aq, cq, hk6, hkl, rfl, HO, HX, HB⟩ := hrel
    by_cases hlt : k < ln ∧ k < 6
    · obtain ⟨hlt, hlt6⟩ := hlt
      have q1 : (k : Int) < (ln : Int) := by omega
      have q2 : (k : Int) < 6 := by omega
      have hgr : g < wr.heap.size := HX.out.lt
      have HNr : Hid (Row .i64 wr an ln cn ns) := HNS.out.below (by have h1 := hb1.out; have h2 := HB.out; rw [HG.out] at h2; exact h1.trans (h2.mono h1.size))
      have hin : k < ns.length := by rw [HLN.out]; exact hlt
      obtain ⟨nk, hnk⟩ : ∃ nk, Hid (ns[k] = nk) := ⟨ns[k], rfl⟩
      obtain ⟨bn, on, rfl, hcn⟩ : ∃ bn on, an = some ⟨bn, on, none⟩ ∧ wr.cell? ⟨bn, on + k, none⟩ = some (.int .i64 nk) := by
        rcases HNr.out.hat with h0 | ⟨bn, on, e, hc⟩
        · omega
        · refine ⟨bn, on, e, ?_⟩
          rw [hc k hlt, ← hnk.out, List.getD_eq_getElem?_getD, List.getElem?_eq_getElem hin]; rfl
      have hbr : bn < wr.heap.size := World.block_lt_of_cell? _ _ hcn
      have HCN := Lib.hid hcn
      clear hcn
      go_upto_region 5 with fail
      refine wp_region_noPanic ?_
      have hL0 : Below wr.heap.size wr wr.drew := (Below.refl _ _).drew
      have hbg : bn < g := by
        rcases HNS.out.hat with h0 | ⟨b', o', e, hc⟩
        · omega
        · obtain ⟨rfl, rfl⟩ : bn = b' ∧ on = o' := by simpa using e
          exact Nat.lt_of_lt_of_le (World.block_lt_of_cell? _ _ (hc k hlt)) HG1.out
      have HT : Hid (∀ w', Below wr.heap.size wr w' → w'.cell? ⟨g, 4, none⟩ = some (.slice aq k cq) ∧ w'.cell? ⟨bn, on + k, none⟩ = some (.int .i64 nk)) := fun w' hS => ⟨(HX.out.below hS hgr).cell 4, (hS.cell (p := ⟨bn, on + k, none⟩) hbr).trans HCN.out⟩
      refine wp_region_N [10] (fun w' => w'.cell? ⟨g, 4, none⟩ = some (.slice aq k cq) ∧ w'.cell? ⟨bn, on + k, none⟩ = some (.int .i64 nk)) (by kernel_rfl) (HT.out _ hL0) (fun hHeld => ?_)
      refine anyN_take (i := 0) (v := .pointer (some ⟨g, 4, none⟩)) rfl (by kernel_rfl) (by kernel_rfl) (by kernel_rfl) (by kernel_rfl) (by decide) (fun _ _ _ h => h) (fun L hL h d hd => by obtain rfl := List.mem_singleton.1 hd; exact (hL.back 10 8 (by kernel_rfl) (hL.back 8 1 (by kernel_rfl) (hL.back 1 0 (by kernel_rfl) h)))) (Or.inl ⟨by rfl, ?_⟩) (by assumption) ?_
      · intro w' hS
        go_simp
        done
      try simp only [Act.put, List.getElem_toArray, List.getElem_cons_zero, List.getElem_cons_succ, List.setIfInBounds_toArray, List.set_cons_zero, List.set_cons_succ]
      refine anyN_take (i := 1) (v := .slice aq k cq) rfl (by kernel_rfl) (by kernel_rfl) (by kernel_rfl) (by kernel_rfl) (by decide) (fun _ _ _ h => h) (fun L hL h d hd => by obtain rfl := List.mem_singleton.1 hd; exact (hL.back 10 8 (by kernel_rfl) (hL.back 8 1 (by kernel_rfl) h))) (Or.inl ⟨by rfl, ?_⟩) (by assumption) ?_
      · intro w' hS
        have q0 := hS.1
        go_simp
        done
      try simp only [Act.put, List.getElem_toArray, List.getElem_cons_zero, List.getElem_cons_succ, List.setIfInBounds_toArray, List.set_cons_zero, List.set_cons_succ]
      refine anyN_take (i := 2) (v := .slice (some ⟨bn, on, none⟩) ln cn) rfl (by kernel_rfl) (by kernel_rfl) (by kernel_rfl) (by kernel_rfl) (by decide) (fun _ _ _ h => h) (fun L hL h d hd => by obtain rfl := List.mem_singleton.1 hd; exact (hL.back 10 8 (by kernel_rfl) (hL.back 8 7 (by kernel_rfl) (hL.back 7 6 (by kernel_rfl) (hL.back 6 5 (by kernel_rfl) (hL.back 5 4 (by kernel_rfl) (hL.back 4 2 (by kernel_rfl) h))))))) (Or.inl ⟨by rfl, ?_⟩) (by assumption) ?_
      · intro w' hS
        go_simp
        done
      try simp only [Act.put, List.getElem_toArray, List.getElem_cons_zero, List.getElem_cons_succ, List.setIfInBounds_toArray, List.set_cons_zero, List.set_cons_succ]
      refine anyN_take (i := 3) (v := .int .i64 (k : Int)) rfl (by kernel_rfl) (by kernel_rfl) (by kernel_rfl) (by kernel_rfl) (by decide) (fun _ _ _ h => h) (fun L hL h d hd => by obtain rfl := List.mem_singleton.1 hd; exact (hL.back 10 8 (by kernel_rfl) (hL.back 8 7 (by kernel_rfl) (hL.back 7 6 (by kernel_rfl) (hL.back 6 5 (by kernel_rfl) (hL.back 5 4 (by kernel_rfl) (hL.back 4 3 (by kernel_rfl) h))))))) (Or.inl ⟨by rfl, ?_⟩) (by assumption) ?_
      · intro w' hS
        go_simp
        done
      try simp only [Act.put, List.getElem_toArray, List.getElem_cons_zero, List.getElem_cons_succ, List.setIfInBounds_toArray, List.set_cons_zero, List.set_cons_succ]
      refine anyN_take (i := 4) (v := .pointer (some ⟨bn, on + k, none⟩)) rfl (by kernel_rfl) (by kernel_rfl) (by kernel_rfl) (by kernel_rfl) (by decide) (fun _ _ _ h => h) (fun L hL h d hd => by obtain rfl := List.mem_singleton.1 hd; exact (hL.back 10 8 (by kernel_rfl) (hL.back 8 7 (by kernel_rfl) (hL.back 7 6 (by kernel_rfl) (hL.back 6 5 (by kernel_rfl) (hL.back 5 4 (by kernel_rfl) h)))))) (Or.inl ⟨by rfl, ?_⟩) (by assumption) ?_
      · intro w' hS
        go_simp
        done
      try simp only [Act.put, List.getElem_toArray, List.getElem_cons_zero, List.getElem_cons_succ, List.setIfInBounds_toArray, List.set_cons_zero, List.set_cons_succ]
      refine anyN_take (i := 5) (v := .int .i64 nk) rfl (by kernel_rfl) (by kernel_rfl) (by kernel_rfl) (by kernel_rfl) (by decide) (fun _ _ _ h => h) (fun L hL h d hd => by obtain rfl := List.mem_singleton.1 hd; exact (hL.back 10 8 (by kernel_rfl) (hL.back 8 7 (by kernel_rfl) (hL.back 7 6 (by kernel_rfl) (hL.back 6 5 (by kernel_rfl) h))))) (Or.inl ⟨by rfl, ?_⟩) (by assumption) ?_
      · intro w' hS
        have q0 := hS.2
        go_simp
        done
      try simp only [Act.put, List.getElem_toArray, List.getElem_cons_zero, List.getElem_cons_succ, List.setIfInBounds_toArray, List.set_cons_zero, List.set_cons_succ]
      refine anyN_ready (rs := [6]) (by kernel_rfl) (by simp) ?_
      refine AllReadyN.cons rfl (fun K hK => ?_) AllReadyN.nil
      go_simp
      refine (objectNameW nk _).mono ?_
      rintro e w3 ⟨rfl, hb3⟩
      go_wp2_with fail
      have hL3 : Below wr.heap.size wr w3 := hL0.trans hb3.out
      refine hK.out _ _ (HT.out _ hL3) (fun hHeld3 => ?_)
      clear hK K
      try simp only [Act.put, List.getElem_toArray, List.getElem_cons_zero, List.getElem_cons_succ, List.setIfInBounds_toArray, List.set_cons_zero, List.set_cons_succ]
      refine anyN_ready (rs := [7]) (by kernel_rfl) (by simp) ?_
      refine AllReadyN.cons rfl (fun K hK => ?_) AllReadyN.nil
      go_simp
      have hL4 : Below wr.heap.size wr (w3.alloc (.cells #[encStr (objN nk)] 9)) := hL3.alloc hL3.size _
      refine hK.out _ _ (HT.out _ hL4) (fun hHeld4 => ?_)
      clear hK K
      try simp only [Act.put, List.getElem_toArray, List.getElem_cons_zero, List.getElem_cons_succ, List.setIfInBounds_toArray, List.set_cons_zero, List.set_cons_succ]
      have hO3 : SOwn strL w3 (g + 1) 9 (fun _ => False) aq k cq ((namesP ns).take k) := HO.out.below hL3
      have hg3 : g + 1 ≤ w3.heap.size := by have h2 := hL3.size; omega
      refine anyN_ready (rs := [8]) (by kernel_rfl) (by simp) ?_
      refine AllReadyN.cons rfl (fun K hK => ?_) AllReadyN.nil
      refine step_append_one (L := strL) (wr := w3) rfl (.tmp 38) (.tmp 44) 26 rfl (g + 1) 9 _ 16 Tryd.underlying26 info_strD rfl (fun _ => False) aq k cq _ rfl hO3 #[encStr (objN nk)] (objN nk) rfl (fun _ => False) rfl (fun b h => h.elim) (by unfold maxLen; omega) (by omega) hg3 ?_
      intro a5 c5 w5 hown5 hgr5
      have hne : ∀ b, b ≤ g → (Value.slice aq k cq).ownBlock ≠ some b := fun b hb e => by
        have h7 := World.ownsRow.lt hO3.2.choose_spec.choose_spec.1 b e
        have := h7.1
        omega
      have hL5 : Below g w1 w5 := SOwn.grown hO3 (HB.out.trans (hL3.mono (Nat.le_of_lt hgr))) (Nat.le_succ g) (Nat.le_trans (Nat.le_of_lt hgr) hL3.size) hgr5
      have hX5 : Box w5 g (tlV ⟨kc, done, ks, xs, []⟩ a1 len c1 aq k cq) 28 := (hgr5.block g (Nat.lt_of_lt_of_le hgr hL3.size) (fun e => hne g (Nat.le_refl _) e.symm)).trans (HX.out.below hL3 hgr)
      have hC5 : w5.cell? ⟨bn, on + k, none⟩ = some (.int .i64 nk) :=
        (hL5.cell (p := ⟨bn, on + k, none⟩) hbg).trans ((HB.out.cell (p := ⟨bn, on + k, none⟩) hbg).symm.trans HCN.out)
      have HX5 := Lib.hid hX5
      have HO5 := Lib.hid hown5
      have HL5 := Lib.hid hL5
      have HC5 : w5.cell? ⟨g, 4, none⟩ = some (.slice aq k cq) := hX5.cell 4
      have FC5 : w5.frozen? ⟨g, 4, none⟩ = false := hX5.free 4
      refine hK.out _ _ ⟨HC5, hC5⟩ (fun hHeld5 => ?_)
      clear hK K hX5 hown5 hL5 hL4 hL3 hL0 hHeld hHeld3 hHeld4 hgr5 hO3 hC5 hb3
      try simp only [Act.put, List.getElem_toArray, List.getElem_cons_zero, List.getElem_cons_succ, List.setIfInBounds_toArray, List.set_cons_zero, List.set_cons_succ]
      refine anyN_take (i := 9) (v := .pointer (some ⟨g, 4, none⟩)) rfl (by kernel_rfl) (by kernel_rfl) (by kernel_rfl) (by kernel_rfl) (by decide) (fun _ _ _ h => h) (fun L hL h d hd => by obtain rfl := List.mem_singleton.1 hd; exact (hL.back 10 9 (by kernel_rfl) h)) (Or.inl ⟨by rfl, ?_⟩) (by assumption) ?_
      · intro w' hS
        go_simp
        done
      try simp only [Act.put, List.getElem_toArray, List.getElem_cons_zero, List.getElem_cons_succ, List.setIfInBounds_toArray, List.set_cons_zero, List.set_cons_succ]
      refine anyN_ready (rs := [10]) (by kernel_rfl) (by simp) ?_
      refine AllReadyN.last rfl (by decide) (by decide) (fun K hK => ?_) AllReadyN.nil
      go_simp
      refine hK.out _ _ ?_
      clear hK K
      try simp only [Act.put, List.getElem_toArray, List.getElem_cons_zero, List.getElem_cons_succ, List.setIfInBounds_toArray, List.set_cons_zero, List.set_cons_succ]
      refine anyN_done (by kernel_rfl) ?_ _
      refine ‹∀ (a : Act) (w : World), Code.wp _ _ _ a w → _› _ _ ?_
      go_wp2_with fail
      go_roundw
      case rel =>
        refine ⟨k + 1, a5, c5, by omega, by omega, by go_num, ?_, ?_, ?_⟩
        · show SOwn _ _ _ _ _ _ _ _ _
          rw [namesP_take ns k hlt6 hin, hnk.out]
          exact HO5.out.keep (by simp [World.setCell]) (fun b hb hor => Below.heap_setCell _ _ _ _ (fun e => by have e' : b = g := e; rcases hor with h | h <;> first | exact h | omega))
        · exact HX5.out.set 4 _
        · exact ⟨HL5.out.os, HL5.out.tape, HL5.out.output, by simp [World.setCell]; exact HL5.out.size, fun b hb => (Below.heap_setCell _ _ _ _ (fun e => by have : b = g := e; omega)).trans (HL5.out.block b hb)⟩
      case measure => simp [intOf]; omega
    · have hall : (namesP ns).take k = namesP ns := by
        apply List.take_of_length_le
        unfold namesP
        have := HLN.out
        simp
        omega
      rw [hall] at HO
      have hkn : Hid ((namesP ns).length = k) := HO.out.1
      refine wp_seq_k ?_
      intro KK hKK
      refine wp_seq_k ?_
      intro KK2 hKK2
      go_cut [34] from 27 to 34 (fun v34 wx => v34 = .bool false ∧ wx = wr)
      case first =>
        by_cases h1 : k < ln
        · have q1 : (k : Int) < (ln : Int) := by omega
          have q2 : ¬ ((k : Int) < 6) := by omega
          go_wp2_with fail
          go_meet
          exact ⟨rfl, rfl⟩
        · have q1 : ¬ ((k : Int) < (ln : Int)) := by omega
          go_wp2_with fail
          go_meet
          exact ⟨rfl, rfl⟩
      case rest =>
        obtain ⟨rfl, rfl⟩ := hcut
        refine hKK2 _ _ ?_
        clear hKK2 hKK
        go_upto_region 6 with fail
        have HBW1 : Hid (Below w1.heap.size w1 wc) := by have := HB.out; rw [HG.out] at this; exact this
        have HBw : Hid (Below w.heap.size w wc) := hb1.out.trans (HBW1.out.mono hb1.out.size)
        have HRc : Hid (Row .u8 wc a1 len c1 xs) := R1.out.below HBW1.out
        have HNc : Hid (SRow strL wc (fun _ => True) aq k cq (namesP ns)) := HO.out.sRow
        have HEc : Hid (Env wc) := HE.out.below HBw.out
        have HFT : Hid (Fit ⟨kc, done, ks, xs, namesP ns⟩ ns) := ⟨rfl, by show kc ≤ _; omega, by show ks ≤ _; omega, by show xs.length ≤ _; rw [HLD.out]; exact hl, fun x hx => by have := byte_range (HRc.out.hwf x hx); omega⟩
        have hkz : Hid (k = 0 ↔ ln = 0) := by show _ ↔ _; omega
        clear R1 HO HB HBW1 HBV HXV HG hb1
        have HTL := Lib.hid (tellGood ⟨kc, done, ks, xs, namesP ns⟩ (fun _ => True) a1 len c1 aq k cq wc HRc.out HNc.out HEc.out (fun x hx => by obtain ⟨n, rfl⟩ := namesP_of hx; exact (objN_ok n).2.1) (by show kc ≤ _; omega) (by show ks ≤ _; omega) hl (by omega) (namesP_any ns))
        have HH1 := Lib.hid (fun W (hE : Env W) => hear_told ⟨kc, done, ks, xs, namesP ns⟩ ns W HFT.out hE)
        have HH2 := Lib.hid (fun W (hE : Env W) => hear_more ⟨kc, done, ks, xs, namesP ns⟩ ns W HFT.out hE)
        obtain ⟨s, hs⟩ : ∃ s, Hid (joinP (partsT ⟨kc, done, ks, xs, namesP ns⟩) = s) := ⟨_, rfl⟩
        rw [hs.out] at HTL HH1 HH2
        unfold tlV at HTL HX
        simp only at HTL HX
        go_wp2_with (first
          | (refine wpList_load_box rfl 28 (.tmp 11) rfl g rfl 28 #[.int .i64 (kc : Int), .bool done, .int .i64 (ks : Int), .slice a1 len c1, .slice aq k cq] HX.out _ Tryd.underlying28 rfl (by kernel_rfl) ?_)
          | (go_at_call 8; refine HTL.out.mono ?_; rintro e w2 ⟨rfl, hb2⟩; have HB2 : Hid (Below w.heap.size w w2) := HBw.out.trans (hb2.out.mono HBw.out.size); have HX2 : Hid (Box w2 g #[.int .i64 (kc : Int), .bool done, .int .i64 (ks : Int), .slice a1 len c1, .slice aq k cq] 28) := HX.out.below hb2.out HX.out.lt; have HR2 : Hid (Row .u8 w2 a1 len c1 xs) := HRc.out.below hb2.out; have HN2 : Hid (SRow strL w2 (fun _ => True) aq k cq (namesP ns)) := HNc.out.below hb2.out; clear hb2)
          | (go_at_call 9; refine (HH1.out w2 (HE.out.below HB2.out)).mono ?_; clear HH1)
          | fail)
        rintro e w3 ⟨ad, ld, cd, an2, ln2, cn2, rfl, hr3, hn3, hb3⟩
        unfold tlV
        go_upto_region 8 with fail
        obtain ⟨g3, hg3⟩ : ∃ g3, g3 = w3.heap.size := ⟨_, rfl⟩
        obtain ⟨X3, hX3⟩ : ∃ X3, X3 = w3.alloc (.cells #[.int .i64 (kc : Int), .bool done, .int .i64 (ks : Int), .slice ad ld cd, .slice an2 ln2 cn2] 28) := ⟨_, rfl⟩
        have HY3 : Hid (Box X3 g3 #[.int .i64 (kc : Int), .bool done, .int .i64 (ks : Int), .slice ad ld cd, .slice an2 ln2 cn2] 28) := by rw [hX3]; exact Box.new hg3
        have HLX : Below w2.heap.size w2 X3 := by rw [hX3]; exact hb3.out.alloc hb3.out.size _
        have HX3 := Lib.hid (HX2.out.below HLX HX2.out.lt)
        have HL3 : Below w3.heap.size w3 X3 := by rw [hX3]; exact Below_alloc1 _
        have HR3 := Lib.hid (hr3.out.below HL3)
        have HN3 := Lib.hid (hn3.out.below HL3)
        have HRX := Lib.hid (HR2.out.below HLX)
        have HNX := Lib.hid (HN2.out.below HLX)
        have HB3 : Hid (Below w.heap.size w X3) := HB2.out.trans (HLX.mono HB2.out.size)
        rw [← hX3]
        clear hX3 HLX HL3 hr3 hn3 hb3 HB2 HX2 HR2 HN2
        rw [← hg3]
        clear hg3
        have hsl : s.length + 5 ≤ 9223372036854775807 := by
          have h1 := partsT_len ⟨kc, done, ks, xs, namesP ns⟩ (by show kc ≤ _; omega) (by show ks ≤ _; omega) HFT.out.len (fun x hx => by obtain ⟨n, rfl⟩ := namesP_of hx; exact (objN_ok n).2.1) (by have := names_len ns; show (namesP ns).length ≤ _; omega)
          rw [hs.out] at h1
          omega
        go_upto_region 9 with (first
          | (refine wpList_concat rfl (.tmp 58) (.const (.string ⟨#[32, 100, 111, 110, 101]⟩)) 9 9 rfl s [32, 100, 111, 110, 101] rfl rfl hsl ?_; show wpList _ _ _ _ (Act.put _ _ (encStr (s ++ 32 :: doneN))) _)
          | (go_at_call 9; refine (HH2.out X3 (HE.out.below HB3.out)).mono ?_; rintro e w4 ⟨⟨r, ad4, ld4, cd4, an4, ln4, cn4, rfl⟩, hb4⟩; unfold tlV)
          | fail)
        obtain ⟨X4, hX4⟩ : ∃ X4, X4 = w4.alloc (.cells #[.int .i64 (r.code : Int), .bool r.done, .int .i64 (r.size : Int), .slice ad4 ld4 cd4, .slice an4 ln4 cn4] 28) := ⟨_, rfl⟩
        have HL4 : Below X3.heap.size X3 X4 := by rw [hX4]; exact hb4.out.alloc hb4.out.size _
        have HX4 := Lib.hid (HX3.out.below HL4 HX3.out.lt)
        have HY4 := Lib.hid (HY3.out.below HL4 HY3.out.lt)
        have HB4 : Hid (Below w.heap.size w X4) := HB3.out.trans (HL4.mono HB3.out.size)
        have HST := Lib.hid (sameToldW ⟨kc, done, ks, xs, namesP ns⟩ (fun _ => True) (fun _ => True) ad ld cd an2 ln2 cn2 a1 len c1 aq k cq X4 (HR3.out.below HL4) (HN3.out.below HL4) (HRX.out.below HL4) (HNX.out.below HL4))
        unfold tlV at HST
        simp only at HST
        rw [← hX4]
        clear hX4 HL4 hb4 HB3 HX3 HY3 HR3 HN3 HRX HNX
        have HMC : Hid (moreC ⟨kc, done, ks, xs, namesP ns⟩ = if done = false ∧ ln = 0 then 0 else 4) := by
          show moreC _ = _
          unfold moreC
          have e0 : namesP ns = [] ↔ ln = 0 := by rw [← List.length_eq_zero_iff, hkn.out]; exact hkz.out
          simp only [e0]
        rw [HMC.out]
        clear HMC
        by_cases hln0 : ln = 0
        · subst hln0
          cases done with
          | false =>
            rw [if_pos (by simp)]
            go_wp2_with (first
              | (refine load_box_w (by first | rfl | simp [Region.wanted, yielded]) 28 (.tmp 15) rfl g3 rfl 28 _ HY4.out _ Tryd.underlying28 rfl (by kernel_rfl) ?_)
              | (refine load_box_w (by first | rfl | simp [Region.wanted, yielded]) 28 (.tmp 11) rfl g rfl 28 _ HX4.out _ Tryd.underlying28 rfl (by kernel_rfl) ?_)
              | (go_at_call 10; refine HST.out.mono ?_; rintro e w5 ⟨rfl, hb5⟩)
              | fail)
            go_ret
            exact ⟨rfl, HB4.out.trans (hb5.out.mono HB4.out.size)⟩
          | true =>
            rw [if_neg (by simp)]
            go_wp2_with (first
              | (refine load_box_w (by first | rfl | simp [Region.wanted, yielded]) 28 (.tmp 15) rfl g3 rfl 28 _ HY4.out _ Tryd.underlying28 rfl (by kernel_rfl) ?_)
              | (refine load_box_w (by first | rfl | simp [Region.wanted, yielded]) 28 (.tmp 11) rfl g rfl 28 _ HX4.out _ Tryd.underlying28 rfl (by kernel_rfl) ?_)
              | (go_at_call 10; refine HST.out.mono ?_; rintro e w5 ⟨rfl, hb5⟩)
              | fail)
            go_ret
            exact ⟨rfl, HB4.out.trans (hb5.out.mono HB4.out.size)⟩
        · have q0 : ((ln : Int) == 0) = false := by simp; omega
          cases done with
          | false =>
            rw [if_neg (by simp; omega)]
            go_wp2_with (first
              | (refine load_box_w (by first | rfl | simp [Region.wanted, yielded]) 28 (.tmp 15) rfl g3 rfl 28 _ HY4.out _ Tryd.underlying28 rfl (by kernel_rfl) ?_)
              | (refine load_box_w (by first | rfl | simp [Region.wanted, yielded]) 28 (.tmp 11) rfl g rfl 28 _ HX4.out _ Tryd.underlying28 rfl (by kernel_rfl) ?_)
              | (go_at_call 10; refine HST.out.mono ?_; rintro e w5 ⟨rfl, hb5⟩)
              | fail)
            go_ret
            exact ⟨rfl, HB4.out.trans (hb5.out.mono HB4.out.size)⟩
          | true =>
            rw [if_neg (by simp)]
            go_wp2_with (first
              | (refine load_box_w (by first | rfl | simp [Region.wanted, yielded]) 28 (.tmp 15) rfl g3 rfl 28 _ HY4.out _ Tryd.underlying28 rfl (by kernel_rfl) ?_)
              | (refine load_box_w (by first | rfl | simp [Region.wanted, yielded]) 28 (.tmp 11) rfl g rfl 28 _ HX4.out _ Tryd.underlying28 rfl (by kernel_rfl) ?_)
              | (go_at_call 10; refine HST.out.mono ?_; rintro e w5 ⟨rfl, hb5⟩)
              | fail)
            go_ret
            exact ⟨rfl, HB4.out.trans (hb5.out.mono HB4.out.size)⟩
end Go.Proofs.YtdonmdiebibabaaDoor
