/- The walk of Several. -/
import Derived.Test.YtjnheahhlopbfaaFacts
import Derived.Test.YtjnheahhlopbfaaOwnMake
namespace Go.Proofs.Ytjnheahhlopbfaa
open Go.RowKit
set_option linter.unusedVariables false

def sevStep (n most : Nat) (st : List Bool × Nat) (x : Int) : List Bool × Nat :=
  if st.2 < most then (if st.1.getD (x % (n : Int)).toNat false then st else (st.1.set (x % (n : Int)).toNat true, st.2 + 1)) else st
def sevRun (n most : Nat) (l : List Int) : List Bool × Nat := l.foldl (sevStep n most) (List.replicate n false, 0)
def sevTo (hs : List Bool) (j : Nat) : List Nat := (List.range j).filter (fun k => hs.getD k false)
/-- at most so many different numbers below n, ascending -/
def several (l : List Int) (most n : Nat) : List Nat := sevTo (sevRun n most l).1 n
theorem sevTo_succ (hs : List Bool) (j : Nat) : sevTo hs (j + 1) = sevTo hs j ++ if hs.getD j false then [j] else [] := by
  unfold sevTo
  rw [List.range_succ, List.filter_append]
  by_cases h : hs.getD j false = true
  · rw [if_pos h]; simp only [List.filter_cons, h]; rfl
  · rw [if_neg h]
    have h2 : hs.getD j false = false := by simpa using h
    simp only [List.filter_cons, h2]; rfl
theorem sevTo_length (hs : List Bool) (j : Nat) : (sevTo hs j).length ≤ j := by
  have := List.length_filter_le (fun k => hs.getD k false) (List.range j)
  rw [List.length_range] at this; exact this
theorem sevStep_length (n most : Nat) (st : List Bool × Nat) (x : Int) : (sevStep n most st x).1.length = st.1.length := by
  unfold sevStep; split <;> (try split) <;> simp
theorem sevFold_length (n most : Nat) : ∀ (l : List Int) (st : List Bool × Nat), (l.foldl (sevStep n most) st).1.length = st.1.length
  | [], _ => rfl
  | x :: l, st => by rw [List.foldl_cons, sevFold_length n most l, sevStep_length]
theorem sevRun_length (n most : Nat) (l : List Int) : (sevRun n most l).1.length = n := by rw [sevRun, sevFold_length, List.length_replicate]
theorem sevStep_full (n most : Nat) (st : List Bool × Nat) (x : Int) (h : ¬ st.2 < most) : sevStep n most st x = st := by unfold sevStep; rw [if_neg h]
theorem sevFold_full (n most : Nat) : ∀ (l : List Int) (st : List Bool × Nat), ¬ st.2 < most → l.foldl (sevStep n most) st = st
  | [], _, _ => rfl
  | x :: l, st, h => by rw [List.foldl_cons, sevStep_full n most st x h, sevFold_full n most l st h]
theorem sevRun_take (n most : Nat) (l : List Int) (k : Nat) (hk : k < l.length) : sevRun n most (l.take (k + 1)) = sevStep n most (sevRun n most (l.take k)) (l.getD k 0) := by
  unfold sevRun
  rw [List.take_succ_eq_append_getElem hk, List.foldl_append]
  simp [List.getD, hk]
theorem sevRun_done (n most : Nat) (l : List Int) (k : Nat) (h : ¬ (sevRun n most (l.take k)).2 < most) : sevRun n most l = sevRun n most (l.take k) := by
  conv => lhs; rw [← List.take_append_drop k l]
  unfold sevRun at h ⊢
  rw [List.foldl_append, sevFold_full _ _ _ _ h]
theorem set_bools (hs : List Bool) (k : Nat) : (hs.map Value.bool).toArray.setIfInBounds k (.bool true) = ((hs.set k true).map Value.bool).toArray := by simp [List.map_set]

theorem info_bool : (Try.prog.info? 4).map (fun i => (i.zero, i.size, i.bytes)) = some (some (.bool false), 1, 1) := by kernel_rfl
theorem info_int' : (Try.prog.info? 3).map (fun i => (i.zero, i.size, i.bytes)) = some (some (.int .i64 0), 1, 8) := by kernel_rfl
theorem nat_wf {x : Nat} (h1 : x ≤ 4294967296) : (Lit.int .i64 (x : Int)).wf = true := by
  simp [Lit.wf, IntKind.min, IntKind.max, IntKind.signed, IntKind.bits]; omega

def nats (p : List Nat) : List Int := p.map (fun x : Nat => (x : Int))
def Sevs (p : List Nat) (w : World) (e : Ending) (w' : World) : Prop := ∃ a len cap, e = .returned (.slice a len cap) ∧ Hid (SOwn (Lay.int .i64) w' w.heap.size 3 (fun _ => False) a len cap (nats p)) ∧ Below w.heap.size w w'
set_option maxHeartbeats 2000000 in
theorem sev (a : Option Addr) (len cap : Nat) (l : List Int) (most n : Int) (w : World) (ha : Row .i64 w a len cap l) (hm : 0 ≤ most) (hm2 : most ≤ 4096) (hn : 0 < n) (hn2 : n ≤ 4096) :
    Calls Try.prog 26 #[.slice a len cap, .int .i64 most, .int .i64 n] w (Sevs (several l most.toNat n.toNat) w) := by
  obtain ⟨n, rfl⟩ := Int.eq_ofNat_of_zero_le (show 0 ≤ n by omega)
  obtain ⟨most, rfl⟩ := Int.eq_ofNat_of_zero_le hm
  rw [Int.toNat_natCast, Int.toNat_natCast]
  have h1 := ha.hle
  have h2 := ha.hmax
  unfold maxLen at h2
  have HL := Lib.hid ha.hlen
  go_enter Try.func26, Try.ntmps26
  go_wp2_with (at_make; refine wpList_make_zeros rfl (.tmp 13) (.tmp 13) 70 rfl 4 (.bool false) 1 Try.underlying70 info_bool rfl .i64 .i64 (n : Int) (n : Int) n rfl rfl rfl rfl (by omega) (by unfold maxLen; omega) ?_)
  intro w1 hoz hb1
  have hbox : Box w1 w.heap.size ((List.replicate n false).map Value.bool).toArray 4 := by
    have := hoz.box
    rwa [show List.replicate n (Value.bool false) = (List.replicate n false).map Value.bool by simp] at this
  obtain ⟨g, hg⟩ : ∃ g, Hid (w.heap.size = g) := ⟨_, rfl⟩
  rw [hg.out] at hbox
  rw [hg.out]
  have HB := Lib.hid hbox
  clear hoz hbox
  go_wp2_with fail
  go_loopw [8, 9] (fun cv iv wr => ∃ (k c : Nat) (hs : List Bool), k ≤ len ∧ c ≤ most ∧ iv = .int .i64 k ∧ cv = .int .i64 c ∧ Hid (sevRun n most (l.take k) = (hs, c)) ∧ Hid (Box wr g (hs.map Value.bool).toArray 4) ∧ Below w.heap.size w wr) (fun _ iv _ => len - (intOf iv).toNat)
  case atStart => exact ⟨0, 0, List.replicate n false, by omega, by omega, rfl, rfl, rfl, HB.out, hb1⟩
  case round =>
    obtain ⟨k, c, hs, hk, hc, rfl, rfl, hst, hbox, hbl⟩ := hrel
    by_cases hboth : k < len ∧ c < most
    · obtain ⟨hlt, hcm⟩ := hboth
      · rcases ha.hat with h0 | ⟨b, off, rfl, hcell⟩
        · omega
        have e1 := hcell k hlt
        have hbb : b < w.heap.size := World.block_lt_of_cell? _ _ e1
        have e2 : wr.cell? ⟨b, off + k, none⟩ = some (.int .i64 (l.getD k 0)) := (hbl.cell (p := ⟨b, off + k, none⟩) hbb).trans e1
        obtain ⟨x, hx⟩ : ∃ x, Hid (l.getD k 0 = x) := ⟨_, rfl⟩
        rw [hx.out] at e2
        have hki : (k : Int) < (len : Int) := by omega
        have hci : decide ((c : Int) < (most : Int)) = true := by simp; omega
        clear hcell e1
        go_wp2_with fail
        refine (picked _ _ _ (by omega) (by omega)).mono ?_
        rintro e w' ⟨r, hr, hr0, hr1, rfl, rfl⟩
        obtain ⟨j, rfl⟩ := Int.eq_ofNat_of_zero_le hr0
        have hj : j < n := by omega
        have hjr : Hid ((x % (n : Int)).toNat = j) := by have := hr.out; show _ = _; omega
        clear hr hr0
        have hhl : hs.length = n := by have := sevRun_length n most (l.take k); rw [hst.out] at this; exact this
        have c1 : wr.cell? ⟨g, j, none⟩ = some (.bool (hs.getD j false)) := by
          rw [hbox.out.cell j]
          simp [List.getD, hhl, hj]
        have f1 : wr.frozen? ⟨g, j, none⟩ = false := hbox.out.free j
        have hgl : g < wr.heap.size := hbox.out.lt
        have hnext : Hid (sevRun n most (l.take (k + 1)) = if hs.getD j false then (hs, c) else (hs.set j true, c + 1)) := by
          show _ = _
          rw [sevRun_take n most l k (by rw [HL.out]; exact hlt), hst.out, sevStep, if_pos hcm, hx.out, hjr.out]
        have HHL := Lib.hid hhl
        clear hhl
        by_cases hv : hs.getD j false = true
        · rw [hv] at c1
          have HN : Hid (sevRun n most (l.take (k + 1)) = (hs, c)) := by have := hnext.out; rw [if_pos hv] at this; exact this
          clear hv hnext
          go_wp2_with fail
          go_roundw
          case rel => exact ⟨k + 1, c, hs, by omega, hc, by go_num, rfl, HN, hbox, hbl⟩
          case measure => simp [intOf]; omega
        · have hv2 : hs.getD j false = false := by simpa using hv
          rw [hv2] at c1
          have HN : Hid (sevRun n most (l.take (k + 1)) = (hs.set j true, c + 1)) := by have := hnext.out; rw [if_neg hv] at this; exact this
          clear hv hv2 hnext
          go_wp2_with fail
          go_roundw
          case rel =>
            refine ⟨k + 1, c + 1, hs.set j true, by omega, by omega, by go_num, by go_num, HN, ?_, ?_⟩
            · have := hbox.out.set j (.bool true)
              rw [set_bools] at this; exact this
            · exact hbl.setCell (by show w.heap.size ≤ g; have := hg.out; omega) _
          case measure => simp [intOf]; omega
    · have hhl : hs.length = n := by have := sevRun_length n most (l.take k); rw [hst.out] at this; exact this
      have HHL := Lib.hid hhl
      have hfin : Hid (sevRun n most l = (hs, c)) := by
        rw [← hst.out]
        by_cases hlt : k < len
        · exact sevRun_done n most l k (by rw [hst.out]; exact fun h => hboth ⟨hlt, h⟩)
        · rw [List.take_of_length_le (by rw [HL.out]; omega)]; rfl
      have hgl : g < wr.heap.size := hbox.out.lt
      obtain ⟨wo, rfl⟩ : ∃ wo : World, wo = wr := ⟨_, rfl⟩
      clear hst hhl
      by_cases hlt : k < len
      all_goals try have hci : decide (c < most) = false := by (simp; omega)
      all_goals
        clear hboth
        go_wp2_with fail
        go_loopw [11, 12] (fun o kv wx => ∃ (j m : Nat) (a2 : Option Addr) (c2 : Nat), j ≤ n ∧ m ≤ j ∧ kv = .int .i64 j ∧ o = .slice a2 m c2 ∧ Hid (SOwn (Lay.int .i64) wx wo.heap.size 3 (fun _ => False) a2 m c2 (nats (sevTo hs j))) ∧ Below wo.heap.size wo wx) (fun _ kv _ => n - (intOf kv).toNat)
        case atStart => exact ⟨0, 0, none, 0, by omega, by omega, rfl, rfl, SOwn.nil .., Below.refl _ _⟩
        case round =>
          obtain ⟨j, m, a2, c2, hj, hmj, rfl, rfl, hown, hbx⟩ := hrel
          have hlt' := hown.out.hle
          have hmx' := hown.out.hmax
          unfold maxLen at hmx'
          by_cases hjn : j < n
          · have hbw : Box wr g (hs.map Value.bool).toArray 4 := hbox.out.below hbx hgl
            have c1 : wr.cell? ⟨g, j, none⟩ = some (.bool (hs.getD j false)) := by
              rw [hbw.cell j]
              simp [List.getD, HHL.out, hjn]
            have hji : (j : Int) < (n : Int) := by omega
            clear hbw
            by_cases hv : hs.getD j false = true
            · rw [hv] at c1
              have hs1 : Hid (sevTo hs (j + 1) = sevTo hs j ++ [j]) := by show _ = _; rw [sevTo_succ, if_pos hv]
              clear hv
              go_wp2_with (at_builtin; refine wpList_append_one rfl (.tmp 51) (.tmp 53) 51 rfl wo.heap.size 3 (.int .i64 0) 8 Try.underlying51 info_int' rfl (fun _ => False) a2 m c2 _ rfl hown.out #[.int .i64 (j : Int)] (j : Int) rfl (fun _ => False) ⟨rfl, nat_wf (by omega)⟩ (fun b h => h.elim) (by unfold maxLen; omega) (by omega) hbx.size ?_)
              intro a' cap' w2 hown1 hg1
              have hb2 : Below wo.heap.size wo w2 := hown.out.grown hbx (Nat.le_refl _) hbx.size hg1
              have H2 : Hid (SOwn (Lay.int .i64) w2 wo.heap.size 3 (fun _ => False) a' (m + 1) cap' (nats (sevTo hs (j + 1)))) := by
                rw [hs1.out, nats, List.map_append]; exact hown1
              clear hown1 hg1
              go_wp2_with fail
              go_roundw
              case rel => exact ⟨j + 1, m + 1, a', cap', by omega, by omega, by go_num, by go_num, H2, hb2⟩
              case measure => simp [intOf]; omega
            · have hv2 : hs.getD j false = false := by simpa using hv
              rw [hv2] at c1
              have hs1 : Hid (sevTo hs (j + 1) = sevTo hs j) := by show _ = _; rw [sevTo_succ, if_neg hv, List.append_nil]
              clear hv hv2
              go_wp2_with fail
              go_roundw
              case rel => exact ⟨j + 1, m, a2, c2, by omega, by omega, by go_num, rfl, by rw [hs1.out]; exact hown, hbx⟩
              case measure => simp [intOf]; omega
          · obtain rfl : j = n := by omega
            have HR : Hid (nats (several l most j) = nats (sevTo hs j)) := by show _ = _; rw [several, hfin.out]
            go_wp2_with fail
            go_ret
            exact ⟨a2, m, c2, rfl, by rw [HR.out]; exact hown.out.mono hbl.size (fun _ h => h), hbl.trans (hbx.mono hbl.size)⟩
end Go.Proofs.Ytjnheahhlopbfaa
