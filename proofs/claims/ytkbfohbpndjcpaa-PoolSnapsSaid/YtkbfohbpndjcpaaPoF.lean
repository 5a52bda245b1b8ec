/- The walks of Body's methods at flat, and of slices.Clone. -/
import Derived.Test.YtkbfohbpndjcpaaPoP
import Derived.Test.YtkbfohbpndjcpaaOwnMake
import Derived.Test.YtkbfohbpndjcpaaLay2
import Derived.Laws.CopyOwn
namespace Go.Proofs.Ytkbfohbpndjcpaa
open Go.RowKit
set_option linter.unusedVariables false
set_option maxRecDepth 100000

/-- Bytes in a new block. -/
structure NewB (w w' : World) (a : Option Addr) (l c : Nat) (xs : List Int) : Prop where
  row : Row .u8 w' a l c xs
  new : ∀ x, a = some x → w.heap.size ≤ x.block ∧ x.block < w'.heap.size
  below : Below w.heap.size w w'
theorem NewB.nil (w : World) : NewB w w none 0 0 [] := ⟨⟨rfl, Nat.le_refl _, Nat.zero_le _, fun _ => rfl, fun x hx => (List.not_mem_nil hx).elim, .inl rfl⟩, fun x hx => (by cases hx), Below.refl _ _⟩
theorem ownNew {w w' : World} {e : TypeId} {a : Option Addr} {l c : Nat} {xs : List Int} (h : Own w' w.heap.size e 1 a l c (xs.map (.int .u8))) (hw : ∀ x ∈ xs, (Lit.int .u8 x).wf = true) (hb : Below w.heap.size w w') : NewB w w' a l c xs := by
  refine ⟨h.row.toRow hw, fun x hx => ?_, hb⟩
  subst hx
  rcases h.form with ⟨h0, _⟩ | ⟨g, cur, hg, hB, hh, _⟩
  · cases h0
  · obtain rfl : x = ⟨g, 0, none⟩ := by simpa using hg
    exact ⟨hB, (Array.getElem?_eq_some_iff.1 hh).1⟩
theorem info_byteF : (Try.prog.info? 5).map (fun i => (i.zero, i.size, i.bytes)) = some (some (.int .u8 0), 1, 1) := by kernel_rfl
set_option maxHeartbeats 2000000 in
theorem cloneF (a : Option Addr) (len cap : Nat) (xs : List Int) (w : World) (h : Row .u8 w a len cap xs) (hb : len ≤ 1000000) :
    Calls Try.prog 81 #[.slice a len cap] w fun e w' => ∃ a' c', e = .returned (.slice a' len c') ∧ Hid (NewB w w' a' len c' xs) := by
  have hle := h.hle
  have hmx := h.hmax
  have hln := h.hlen
  unfold maxLen at hmx
  have HR := Lib.hid h
  have qT : ∀ (w : World) (a : Option Addr) (n c n' c' : Nat), (binOp .eql 54 (.slice a n c) (.slice none n' c')).run Try.prog w = .ok (.bool a.isNone) w := fun w a n c n' c' => Lib.run_eql_slice_nil w _ _ a n c n' c' Try.underlying54
  cases a with
  | none =>
    have h0 := h.hnil rfl
    have hx0 : xs = [] := List.eq_nil_of_length_eq_zero (by omega)
    subst hx0
    have hl0 : len = 0 := by simpa using hln.symm
    subst hl0
    clear h h0 hln HR
    go_enter Try.func81, Try.ntmps81
    go_wp2_with fail
    go_ret
    exact ⟨none, 0, rfl, NewB.nil _⟩
  | some p =>
    have hone : ∀ u ∈ xs.map (Value.int .u8), u.oneCell' = true := fun u hu => by obtain ⟨x, _, rfl⟩ := List.mem_map.1 hu; rfl
    have hwf := h.hwf
    have HWF := Lib.hid hwf
    clear h hwf
    go_enter Try.func81, Try.ntmps81
    have hown0 : Own (w.alloc (.cells #[] 5)) w.heap.size 5 1 (some ⟨w.heap.size, 0, none⟩) 0 0 [] :=
      ⟨rfl, .inr ⟨w.heap.size, 0, #[], rfl, Nat.le_refl _, heap_alloc_new w _, Nat.le_refl _, Nat.zero_le _, rfl, rfl⟩⟩
    have HR1 := Lib.hid (HR.out.below (Below_alloc1 (.cells #[] 5)))
    have HO0 := Lib.hid hown0
    have HONE := Lib.hid hone
    clear hown0 hone
    go_wp2_with (at_builtin; refine wpList_append_any rfl (.tmp 5) (.tmp 6) 54 rfl w.heap.size 5 _ 1 1 Try.underlying54 info_byteF rfl (by decide) (some ⟨w.heap.size, 0, none⟩) 0 0 [] rfl HO0.out (some p) len cap (xs.map (.int .u8)) rfl HR1.out.toV HONE.out (by unfold maxLen; omega) (by omega) (by simp) ?_)
    intro a1 c1 w1 ho hg
    have LB1 : Hid (Below w.heap.size w w1) := (Below_alloc1 _).grown hg (by simp) (fun k hk => by
      have e : w.heap.size = k := by injection hk
      omega)
    have HO : Hid (Own w1 w.heap.size 5 1 a1 len c1 (xs.map (.int .u8))) := by simpa [Hid] using ho
    clear ho hg HO0 HR1
    go_wp2_with fail
    go_ret
    exact ⟨a1, c1, rfl, ownNew HO.out HWF.out LB1.out⟩
theorem Row.cutF {k : IntKind} {w : World} {b off len cap : Nat} {xs : List Int} (h : Row k w (some ⟨b, off, none⟩) len cap xs) (lo m : Nat) (hm : lo + m ≤ len) : Row k w (some ⟨b, off + lo, none⟩) m (cap - lo) ((xs.drop lo).take m) := by
  have hl := h.hlen
  have hle := h.hle
  refine ⟨by simp; omega, by omega, by have := h.hmax; omega, (fun e => by cases e), fun x hx => h.hwf x (List.mem_of_mem_drop (List.mem_of_mem_take hx)), ?_⟩
  rcases h.hat with h0 | ⟨b', off', e, hc⟩
  · exact .inl (by omega)
  · obtain ⟨rfl, rfl⟩ : b = b' ∧ off = off' := by simpa using e
    refine .inr ⟨_, _, rfl, fun i hi => ?_⟩
    rw [show off + lo + i = off + (lo + i) by omega, hc (lo + i) (by omega)]
    congr 2
    rw [List.getD_eq_getElem?_getD, List.getD_eq_getElem?_getD, List.getElem?_take, if_pos hi, List.getElem?_drop]
set_option maxHeartbeats 4000000 in
theorem readF (a : Option Addr) (len cap : Nat) (xs : List Int) (off count : Nat) (w : World) (h : Row .u8 w a len cap xs) (hb : len ≤ 1024) (ho : off ≤ 2000) (hc : count ≤ 2000) :
    Calls Try.prog 77 #[.slice a len cap, .int .i64 (off : Int), .int .i64 (count : Int)] w fun e w' => ∃ a' l' c', e = .returned (.tuple #[.slice a' l' c', .int .i64 0]) ∧ Hid (NewB w w' a' l' c' (readP xs off count)) := by
  have hle := h.hle
  have hmx := h.hmax
  have hln := h.hlen
  unfold maxLen at hmx
  by_cases hlo : len ≤ off
  · have q1 : (len : Int) ≤ (off : Int) := by omega
    have hx : readP xs off count = [] := by unfold readP; rw [List.drop_of_length_le (by omega)]; simp
    rw [hx]
    clear h hx
    go_enter Try.func77, Try.ntmps77
    go_wp2_with fail
    exact bodyPost_ret (results_tmp2 Try.results77 _ _ _) rfl ⟨none, 0, 0, rfl, NewB.nil _⟩
  · obtain ⟨b, o, rfl⟩ : ∃ b o, a = some ⟨b, o, none⟩ := by
      rcases h.hat with h1 | ⟨b, o, e, _⟩
      · omega
      · exact ⟨b, o, e⟩
    have q1 : ¬ ((len : Int) ≤ (off : Int)) := by omega
    obtain ⟨d, hd⟩ : ∃ d, d = len - off := ⟨_, rfl⟩
    have ws : IntKind.i64.wrap ((len : Int) - (off : Int)) = (d : Int) := by rw [IntWalk.i64_in _ (by omega)]; omega
    have wd : len - off = d := hd.symm
    have hdc : ¬ (cap - off < d) := by omega
    have hdc2 : d ≤ cap - off := by omega
    obtain ⟨m, hm⟩ : ∃ m, min count d = m := ⟨_, rfl⟩
    have hx : readP xs off count = (xs.drop off).take m := by
      unfold readP
      by_cases hc : count ≤ d
      · rw [show m = count by omega]
      · rw [show m = d by omega, List.take_of_length_le (by simp; omega), List.take_of_length_le (by simp; omega)]
    rw [hx]
    have HC := Lib.hid (cloneF (some ⟨b, o + off, none⟩) m (cap - off) _ w (h.cutF off m (by omega)) (by omega))
    have q2 : ¬ ((cap : Int) ≤ (off : Int)) := by omega
    have q3 : ¬ (cap = off) := by omega
    have q4 : ¬ (off = cap) := by omega
    have q7 : (off : Int) ≤ (len : Int) := by omega
    have q8 : (m : Int) ≤ ((cap - off : Nat) : Int) := by omega
    clear hd
    by_cases hcl : count < d
    · have q5 : (count : Int) < (d : Int) := by omega
      have q6 : ¬ ((d : Int) ≤ (count : Int)) := by omega
      obtain rfl : m = count := by omega
      clear h hx
      go_enter Try.func77, Try.ntmps77
      go_wp2_with (first | (go_at_call 81; refine HC.out.mono ?_; rintro e w' ⟨a', c', rfl, hN⟩) | fail)
      exact bodyPost_ret (results_tmp2 Try.results77 _ _ _) rfl ⟨a', m, c', rfl, hN⟩
    · by_cases hcd : count = d
      · subst hcd
        obtain rfl : m = count := by omega
        clear h hx
        go_enter Try.func77, Try.ntmps77
        go_wp2_with (first | (go_at_call 81; refine HC.out.mono ?_; rintro e w' ⟨a', c', rfl, hN⟩) | fail)
        exact bodyPost_ret (results_tmp2 Try.results77 _ _ _) rfl ⟨a', m, c', rfl, hN⟩
      · have q5 : ¬ ((count : Int) < (d : Int)) := by omega
        have q6 : ((d : Int) < (count : Int)) := by omega
        have q9 : ¬ ((count : Int) ≤ (d : Int)) := by omega
        obtain rfl : m = d := by omega
        clear h hx
        go_enter Try.func77, Try.ntmps77
        go_wp2_with (first | (go_at_call 81; refine HC.out.mono ?_; rintro e w' ⟨a', c', rfl, hN⟩) | fail)
        exact bodyPost_ret (results_tmp2 Try.results77 _ _ _) rfl ⟨a', m, c', rfl, hN⟩
theorem own_boxF {w : World} {B g n : Nat} {e : TypeId} {vs : List Value} (h : Own w B e 1 (some ⟨g, 0, none⟩) n n vs) : w.heap[g]? = some (.cells vs.toArray e (0, 0)) ∧ B ≤ g := by
  rcases h.form with ⟨h0, _⟩ | ⟨g', cur, hg, hB, hh, h1, h2, h3, h4⟩
  · cases h0
  · obtain rfl : g = g' := by simpa using hg
    refine ⟨?_, hB⟩
    rw [hh]
    have e1 : cur.toList.take (n * 1) = cur.toList := List.take_of_length_le (by rw [Array.length_toList, h3]; exact Nat.le_refl _)
    rw [e1] at h4
    rw [← h4, Array.toArray_toList]
theorem box_ownF {w : World} {B g n : Nat} {e : TypeId} {vs : List Value} (h : w.heap[g]? = some (.cells vs.toArray e (0, 0))) (hB : B ≤ g) (hl : vs.length = n) (hn : n ≤ maxLen) : Own w B e 1 (some ⟨g, 0, none⟩) n n vs :=
  ⟨by omega, .inr ⟨g, n, vs.toArray, rfl, hB, h, Nat.le_refl _, hn, by simp [hl], by rw [Nat.mul_one, List.take_of_length_le (by simp [hl])]⟩⟩
theorem splice_map (X : List Int) (off : Nat) (x : List Int) : splice (X.map (Value.int .u8)) off (x.map (.int .u8)) = (splice X off x).map (.int .u8) := by
  unfold splice
  simp [List.map_append, List.map_take, List.map_drop]
theorem wpList_copy_F {P : Program} {w : World} {ops : Array Oper} {rest : List Oper} {o : Oper} {a : Act} {Q : Exit → Act → World → Prop} (hgd : o.guard = none) (d s : Operand) (dT sT : TypeId)
    (ho : o.op = .call { callee := .builtin .copy, args := #[d, s], argTypes := #[dT, sT] }) (elem : TypeId) (hu : P.underlying dT = some (.slice elem)) (hsz : (P.info? elem).map (·.size) = some 1)
    (g n B off dL dC : Nat) (e : TypeId) (X : List Int) (hd : a.eval d = .slice (some ⟨g, off, none⟩) dL dC) (hown : Own w B e 1 (some ⟨g, 0, none⟩) n n (X.map (.int .u8)))
    (sp : Option Addr) (len cap : Nat) (x : List Int) (hs : a.eval s = .slice sp len cap) (hrow : Row .u8 w sp len cap x) (hl : off + len ≤ n) (hdl : len ≤ dL)
    (h : ∀ w', Own w' B e 1 (some ⟨g, 0, none⟩) n n ((splice X off x).map (.int .u8)) → Below g w w' → wpList P ops Q rest (a.put o.dst (goInt x.length)) w') :
    wpList P ops Q (o :: rest) a w := by
  obtain ⟨hbox, hB⟩ := own_boxF hown
  have hxl := hrow.hlen
  have hXl : X.length = n := by have := hown.row.hlen; simpa using this
  have hnm : n ≤ maxLen := by
    rcases hown.form with ⟨h0, _⟩ | ⟨g', cur, _, _, _, _, h2, _⟩
    · cases h0
    · exact h2
  refine wpList_copy_splice hgd d s dT sT ho elem hu hsz (some ⟨g, off, none⟩) sp dL dC len cap hd hs g off (X.map (.int .u8)) e hbox (x.map (.int .u8)) (by rw [List.length_map, hxl, show Nat.min len dL = min len dL from rfl]; omega) ?_ (by simp [hxl, hXl]; omega) (fun v hv => by obtain ⟨y, _, rfl⟩ := List.mem_map.1 hv; rfl) g w (Below.refl _ _) (Nat.le_refl _) ?_
  · intro h0
    refine ⟨rfl, ?_⟩
    rcases hrow.hat with h1 | ⟨b, off, rfl, hc⟩
    · rw [List.length_map] at h0; omega
    · refine ⟨_, rfl, fun j v hv => ?_⟩
      have hjl : j < x.length := by simpa using (List.getElem?_eq_some_iff.1 hv).1
      have hadd : (⟨b, off, none⟩ : Addr).add j = ⟨b, off + j, none⟩ := by unfold Addr.add; split <;> simp_all
      rw [hadd, hc j (by omega)]
      rw [List.getElem?_map, List.getElem?_eq_getElem hjl] at hv
      rw [← hv]
      simp [List.getD, hjl]
  · intro w' hb hbel
    rw [splice_map] at hb
    have := h w' (box_ownF hb.out hB (by rw [List.length_map, length_splice _ _ _ (by omega)]; exact hXl) hnm) hbel
    rwa [List.length_map]
theorem wpList_copy_G {P : Program} {w : World} {ops : Array Oper} {rest : List Oper} {o : Oper} {a : Act} {Q : Exit → Act → World → Prop} (hgd : o.guard = none) (d s : Operand) (dT sT : TypeId)
    (ho : o.op = .call { callee := .builtin .copy, args := #[d, s], argTypes := #[dT, sT] }) (elem : TypeId) (hu : P.underlying dT = some (.slice elem)) (hsz : (P.info? elem).map (·.size) = some 1)
    (g n B : Nat) (e : TypeId) (X : List Int) (hd : a.eval d = .slice (some ⟨g, 0, none⟩) n n) (hown : Own w B e 1 (some ⟨g, 0, none⟩) n n (X.map (.int .u8)))
    (sp : Option Addr) (len cap : Nat) (x : List Int) (hs : a.eval s = .slice sp len cap) (hrow : Row .u8 w sp len cap x)
    (h : ∀ w', Own w' B e 1 (some ⟨g, 0, none⟩) n n ((splice X 0 (x.take n)).map (.int .u8)) → Below g w w' → wpList P ops Q rest (a.put o.dst (goInt (x.take n).length)) w') :
    wpList P ops Q (o :: rest) a w := by
  obtain ⟨hbox, hB⟩ := own_boxF hown
  have hxl := hrow.hlen
  have hXl : X.length = n := by have := hown.row.hlen; simpa using this
  have hnm : n ≤ maxLen := by
    rcases hown.form with ⟨h0, _⟩ | ⟨g', cur, _, _, _, _, h2, _⟩
    · cases h0
    · exact h2
  have htl : (x.take n).length = min n len := by rw [List.length_take, hxl]
  refine wpList_copy_splice hgd d s dT sT ho elem hu hsz (some ⟨g, 0, none⟩) sp n n len cap hd hs g 0 (X.map (.int .u8)) e hbox ((x.take n).map (.int .u8)) (by rw [List.length_map, htl, show Nat.min len n = min len n from rfl]; omega) ?_ (by rw [List.length_map, List.length_map, htl, hXl]; omega) (fun v hv => by obtain ⟨y, _, rfl⟩ := List.mem_map.1 hv; rfl) g w (Below.refl _ _) (Nat.le_refl _) ?_
  · intro h0
    refine ⟨rfl, ?_⟩
    rcases hrow.hat with h1 | ⟨b, off, rfl, hc⟩
    · rw [List.length_map, htl] at h0; omega
    · refine ⟨_, rfl, fun j v hv => ?_⟩
      have hjl : j < min n len := by have := (List.getElem?_eq_some_iff.1 hv).1; rw [List.length_map, htl] at this; exact this
      have hadd : (⟨b, off, none⟩ : Addr).add j = ⟨b, off + j, none⟩ := by unfold Addr.add; split <;> simp_all
      rw [hadd, hc j (by omega)]
      rw [List.getElem?_map, List.getElem?_take, if_pos (by omega), List.getElem?_eq_getElem (by omega : j < x.length)] at hv
      rw [← hv]
      simp [List.getD, List.getElem?_eq_getElem (by omega : j < x.length)]
  · intro w' hb hbel
    rw [splice_map] at hb
    have := h w' (box_ownF hb.out hB (by rw [List.length_map, length_splice _ _ _ (by rw [htl]; omega)]; exact hXl) hnm) hbel
    rwa [List.length_map]
theorem zeros_map (n : Nat) : List.replicate n (Value.int .u8 0) = (List.replicate n (0 : Int)).map (.int .u8) := by simp
theorem write_splice (b : List Int) (off : Nat) (d : List Int) (n : Nat) (hn : n = max b.length (off + d.length)) : splice (splice (List.replicate n 0) 0 b) off d = writeP b off d := by
  unfold splice writeP
  simp only [List.take_zero, List.nil_append, Nat.zero_add, List.drop_replicate]
  rw [show n - b.length = off + d.length - b.length by omega, List.append_assoc]
theorem size_splice (b : List Int) (n : Nat) : splice (List.replicate n 0) 0 (b.take n) = sizeP b n := by
  unfold splice sizeP
  simp only [List.take_zero, List.nil_append, Nat.zero_add, List.drop_replicate, List.length_take]
  congr 2; omega
theorem wf_splice {X x : List Int} {off : Nat} (h : ∀ v ∈ X, (Lit.int .u8 v).wf = true) (k : ∀ v ∈ x, (Lit.int .u8 v).wf = true) : ∀ v ∈ splice X off x, (Lit.int .u8 v).wf = true := by
  intro v hv
  unfold splice at hv
  rcases List.mem_append.1 hv with hv | hv
  · exact h v (List.mem_of_mem_take hv)
  · rcases List.mem_append.1 hv with hv | hv
    · exact k v hv
    · exact h v (List.mem_of_mem_drop hv)
theorem wf_zeros (n : Nat) : ∀ v ∈ List.replicate n (0 : Int), (Lit.int .u8 v).wf = true := fun v hv => by rw [List.eq_of_mem_replicate hv]; rfl
set_option maxHeartbeats 4000000 in
theorem writeF (a : Option Addr) (len cap : Nat) (xs : List Int) (off : Nat) (ad : Option Addr) (ld cd : Nat) (ds : List Int) (w : World) (h : Row .u8 w a len cap xs) (hd : Row .u8 w ad ld cd ds) (hb : len ≤ 1024) (ho : off + ld ≤ 1024) (hl : 1 ≤ ld) :
    Calls Try.prog 80 #[.slice a len cap, .int .i64 (off : Int), .slice ad ld cd] w fun e w' => ∃ a' l' c', e = .returned (.tuple #[.slice a' l' c', .int .i64 0]) ∧ Hid (NewB w w' a' l' c' (writeP xs off ds)) := by
  have hln := h.hlen
  have hld := hd.hlen
  have HR := Lib.hid h
  have HD := Lib.hid hd
  have wa : IntKind.i64.wrap ((off : Int) + (ld : Int)) = ((off + ld : Nat) : Int) := by rw [IntWalk.i64_in _ (by omega)]; omega
  obtain ⟨n, hn⟩ : ∃ n, n = max len (off + ld) := ⟨_, rfl⟩
  have HW : Hid (splice (splice (List.replicate n 0) 0 xs) off ds = writeP xs off ds) := write_splice _ _ _ _ (by rw [hln, hld]; exact hn)
  have q1 : (off : Int) ≤ (n : Int) := by omega
  have q2 : ¬ (n = off) := by omega
  have q3 : ¬ (off = n) := by omega
  have HWF : Hid (∀ v ∈ writeP xs off ds, (Lit.int .u8 v).wf = true) := by rw [← HW.out]; exact wf_splice (wf_splice (wf_zeros n) h.hwf) hd.hwf
  clear h hd
  obtain ⟨s, hs⟩ : ∃ s, s = off + ld := ⟨_, rfl⟩
  rw [← hs] at wa
  by_cases hc : len < s
  · obtain rfl : n = s := by omega
    have q5 : (len : Int) < (n : Int) := by omega
    have q6 : ¬ ((n : Int) ≤ (len : Int)) := by omega
    have q7 : ¬ ((n : Int) < (len : Int)) := by omega
    have hnb : n ≤ 1024 := by omega
    have hfit : Hid (off + ld ≤ n) := by show _ ≤ _; omega
    have hfit2 : Hid (ld ≤ n - off) := by show _ ≤ _; omega
    have hfit3 : Hid (len ≤ n) := by show _ ≤ _; omega
    clear hn hs
    go_enter Try.func80, Try.ntmps80
    go_wp2_with (first
      | (refine wpList_make_zeros rfl (.tmp 15) (.tmp 15) 54 rfl 5 (.int .u8 0) 1 Try.underlying54 info_byteF rfl .i64 .i64 (n : Int) (n : Int) n rfl rfl rfl rfl (by omega) (by unfold maxLen; omega) ?_; intro w1 hown1 hb1; rw [zeros_map] at hown1; have HO := Lib.hid hown1; have HB := Lib.hid hb1; clear hown1 hb1)
      | (refine wpList_copy_F rfl (.tmp 17) (.tmp 18) 54 54 rfl 5 Try.underlying54 (by kernel_rfl) w.heap.size n w.heap.size 0 n n 5 _ rfl HO.out a len cap xs rfl (HR.out.below HB.out) (by have := hfit3.out; omega) hfit3.out ?_; intro w2 hown2 hb2; have HO2 := Lib.hid hown2; have HB2 := Lib.hid ((Below.trans HB.out hb2)); clear hown2 hb2)
      | (refine wpList_copy_F rfl (.tmp 22) (.tmp 23) 54 28 rfl 5 Try.underlying54 (by kernel_rfl) w.heap.size n w.heap.size off (n - off) (n - off) 5 _ rfl HO2.out ad ld cd ds rfl (HD.out.below HB2.out) hfit.out hfit2.out ?_; intro w3 hown3 hb3; have HO3 := Lib.hid hown3; have HB3 := Lib.hid ((Below.trans HB2.out hb3)); clear hown3 hb3)
      | fail)
    rw [HW.out] at HO3
    exact bodyPost_ret (results_tmp2 Try.results80 _ _ _) rfl ⟨some ⟨w.heap.size, 0, none⟩, n, n, rfl, ownNew HO3.out HWF.out HB3.out⟩
  · obtain rfl : n = len := by omega
    by_cases he : n = s
    · subst he
      have hnb : n ≤ 1024 := by omega
      have hfit : Hid (off + ld ≤ n) := by show _ ≤ _; omega
      have hfit2 : Hid (ld ≤ n - off) := by show _ ≤ _; omega
      have hfit3 : Hid (n ≤ n) := by show _ ≤ _; omega
      clear hn hs
      go_enter Try.func80, Try.ntmps80
      go_wp2_with (first
        | (refine wpList_make_zeros rfl (.tmp 15) (.tmp 15) 54 rfl 5 (.int .u8 0) 1 Try.underlying54 info_byteF rfl .i64 .i64 (n : Int) (n : Int) n rfl rfl rfl rfl (by omega) (by unfold maxLen; omega) ?_; intro w1 hown1 hb1; rw [zeros_map] at hown1; have HO := Lib.hid hown1; have HB := Lib.hid hb1; clear hown1 hb1)
        | (refine wpList_copy_F rfl (.tmp 17) (.tmp 18) 54 54 rfl 5 Try.underlying54 (by kernel_rfl) w.heap.size n w.heap.size 0 n n 5 _ rfl HO.out a n cap xs rfl (HR.out.below HB.out) (by have := hfit3.out; omega) hfit3.out ?_; intro w2 hown2 hb2; have HO2 := Lib.hid hown2; have HB2 := Lib.hid ((Below.trans HB.out hb2)); clear hown2 hb2)
        | (refine wpList_copy_F rfl (.tmp 22) (.tmp 23) 54 28 rfl 5 Try.underlying54 (by kernel_rfl) w.heap.size n w.heap.size off (n - off) (n - off) 5 _ rfl HO2.out ad ld cd ds rfl (HD.out.below HB2.out) hfit.out hfit2.out ?_; intro w3 hown3 hb3; have HO3 := Lib.hid hown3; have HB3 := Lib.hid ((Below.trans HB2.out hb3)); clear hown3 hb3)
        | fail)
      rw [HW.out] at HO3
      exact bodyPost_ret (results_tmp2 Try.results80 _ _ _) rfl ⟨some ⟨w.heap.size, 0, none⟩, n, n, rfl, ownNew HO3.out HWF.out HB3.out⟩
    · have q5 : (s : Int) < (n : Int) := by omega
      have q6 : ¬ ((n : Int) ≤ (s : Int)) := by omega
      have q7 : ¬ ((n : Int) < (s : Int)) := by omega
      have hnb : n ≤ 1024 := by omega
      have hfit : Hid (off + ld ≤ n) := by show _ ≤ _; omega
      have hfit2 : Hid (ld ≤ n - off) := by show _ ≤ _; omega
      have hfit3 : Hid (n ≤ n) := by show _ ≤ _; omega
      clear hn hs
      go_enter Try.func80, Try.ntmps80
      go_wp2_with (first
        | (refine wpList_make_zeros rfl (.tmp 15) (.tmp 15) 54 rfl 5 (.int .u8 0) 1 Try.underlying54 info_byteF rfl .i64 .i64 (n : Int) (n : Int) n rfl rfl rfl rfl (by omega) (by unfold maxLen; omega) ?_; intro w1 hown1 hb1; rw [zeros_map] at hown1; have HO := Lib.hid hown1; have HB := Lib.hid hb1; clear hown1 hb1)
        | (refine wpList_copy_F rfl (.tmp 17) (.tmp 18) 54 54 rfl 5 Try.underlying54 (by kernel_rfl) w.heap.size n w.heap.size 0 n n 5 _ rfl HO.out a n cap xs rfl (HR.out.below HB.out) (by have := hfit3.out; omega) hfit3.out ?_; intro w2 hown2 hb2; have HO2 := Lib.hid hown2; have HB2 := Lib.hid ((Below.trans HB.out hb2)); clear hown2 hb2)
        | (refine wpList_copy_F rfl (.tmp 22) (.tmp 23) 54 28 rfl 5 Try.underlying54 (by kernel_rfl) w.heap.size n w.heap.size off (n - off) (n - off) 5 _ rfl HO2.out ad ld cd ds rfl (HD.out.below HB2.out) hfit.out hfit2.out ?_; intro w3 hown3 hb3; have HO3 := Lib.hid hown3; have HB3 := Lib.hid ((Below.trans HB2.out hb3)); clear hown3 hb3)
        | fail)
      rw [HW.out] at HO3
      exact bodyPost_ret (results_tmp2 Try.results80 _ _ _) rfl ⟨some ⟨w.heap.size, 0, none⟩, n, n, rfl, ownNew HO3.out HWF.out HB3.out⟩
set_option maxHeartbeats 4000000 in
theorem resizeF (a : Option Addr) (len cap : Nat) (xs : List Int) (n : Nat) (w : World) (h : Row .u8 w a len cap xs) (hb : len ≤ 1024) (hn : n ≤ 1024) :
    Calls Try.prog 78 #[.slice a len cap, .int .i64 (n : Int)] w fun e w' => ∃ a' l' c', e = .returned (.tuple #[.slice a' l' c', .int .i64 0]) ∧ Hid (NewB w w' a' l' c' (sizeP xs n)) := by
  have hln := h.hlen
  have hR2 : Row .u8 w a (min n len) cap (xs.take n) := by
    refine ⟨by rw [List.length_take]; omega, by have := h.hle; omega, h.hmax, h.hnil, fun x hx => h.hwf x (List.mem_of_mem_take hx), ?_⟩
    rcases h.hat with h0 | ⟨b', off', e, hc⟩
    · exact .inl (by omega)
    · refine .inr ⟨b', off', e, fun i hi => ?_⟩
      rw [hc i (by omega)]
      congr 2
      rw [List.getD_eq_getElem?_getD, List.getD_eq_getElem?_getD, List.getElem?_take, if_pos (by omega)]
  have HR := Lib.hid h
  have HR2 := Lib.hid hR2
  have HW : Hid (splice (List.replicate n 0) 0 (xs.take n) = sizeP xs n) := size_splice _ _
  have HWF : Hid (∀ v ∈ sizeP xs n, (Lit.int .u8 v).wf = true) := by rw [← HW.out]; exact wf_splice (wf_zeros n) hR2.hwf
  clear h hR2
  go_enter Try.func78, Try.ntmps78
  go_wp2_with (first
      | (refine wpList_make_zeros rfl (.tmp 7) (.tmp 7) 54 rfl 5 (.int .u8 0) 1 Try.underlying54 info_byteF rfl .i64 .i64 (n : Int) (n : Int) n rfl rfl rfl rfl (by omega) (by unfold maxLen; omega) ?_; intro w1 hown1 hb1; rw [zeros_map] at hown1; have HO := Lib.hid hown1; have HB := Lib.hid hb1; clear hown1 hb1)
      | (refine wpList_copy_G rfl (.tmp 9) (.tmp 10) 54 54 rfl 5 Try.underlying54 (by kernel_rfl) w.heap.size n w.heap.size 5 _ rfl HO.out a len cap xs rfl (HR.out.below HB.out) ?_; intro w2 hown2 hb2; have HO2 := Lib.hid hown2; have HB2 := Lib.hid ((Below.trans HB.out hb2)); clear hown2 hb2)
      | fail)
  rw [HW.out] at HO2
  exact bodyPost_ret (results_tmp2 Try.results78 _ _ _) rfl ⟨some ⟨w.heap.size, 0, none⟩, n, n, rfl, ownNew HO2.out HWF.out HB2.out⟩
end Go.Proofs.Ytkbfohbpndjcpaa
