/- The walks of do and Play. -/
import Derived.Test.YteidmdakglkkfaaSpL
namespace Go.Proofs.Yteidmdakglkkfaa
open Go.RowKit
set_option linter.unusedVariables false

def deedL : Lay Deed := Lay.flat 3 (by decide) (fun d => [.int .i64 d.kind, .int .i64 d.from_, .int .i64 d.count]) (fun _ => rfl) (by intro r v hv; simp at hv; rcases hv with rfl | rfl | rfl <;> rfl)
def foundL : Lay Found := Lay.flat 3 (by decide) (fun f => [.int .i64 (f.code : Int), .int .i64 (f.from_ : Int), .int .i64 f.left]) (fun _ => rfl) (by intro r v hv; simp at hv; rcases hv with rfl | rfl | rfl <;> rfl)
def DeedOk (d : Deed) : Prop := (-9223372036854775808 ≤ d.from_ ∧ d.from_ ≤ 9223372036854775807) ∧ (-9223372036854775808 ≤ d.count ∧ d.count ≤ 9223372036854775807)
/-- A Found that is written into its block: what stands behind that. -/
theorem found_end {B g gu h : Nat} {s : Sp} {a : Option Addr} {l c : Nat} {w w2 : World} {z0 z1 z2 : Value} (S2 : Spc B w2 g gu s a l c) (B2 : Box w2 h #[z0, z1, z2] 34) (K : SpKeep B g gu w w2) (h1 : w.heap.size ≤ h) (hB : B ≤ w.heap.size) (v0 v1 v2 : Value) :
    Box (((w2.setCell ⟨h, 0, none⟩ v0).setCell ⟨h, 1, none⟩ v1).setCell ⟨h, 2, none⟩ v2) h #[v0, v1, v2] 34 ∧ Spc B (((w2.setCell ⟨h, 0, none⟩ v0).setCell ⟨h, 1, none⟩ v1).setCell ⟨h, 2, none⟩ v2) g gu s a l c ∧ SpKeep B g gu w (((w2.setCell ⟨h, 0, none⟩ v0).setCell ⟨h, 1, none⟩ v1).setCell ⟨h, 2, none⟩ v2) := by
  refine ⟨?_, ?_, ?_⟩
  · exact ((B2.set 0 v0).set 1 v1).set 2 v2
  · exact ((S2.far B2 (by decide) (by decide) (by decide) 0 _).far (B2.set 0 _) (by decide) (by decide) (by decide) 1 _).far ((B2.set 0 _).set 1 _) (by decide) (by decide) (by decide) 2 _
  · exact ((K.set_new (p := ⟨h, 0, none⟩) h1 (Nat.le_trans hB h1) _).set_new (p := ⟨h, 1, none⟩) h1 (Nat.le_trans hB h1) _).set_new (p := ⟨h, 2, none⟩) h1 (Nat.le_trans hB h1) _
set_option maxRecDepth 100000 in
set_option maxHeartbeats 4000000 in
theorem sp_do (B g gu n : Nat) (s : Sp) (a : Option Addr) (l c : Nat) (w : World) (hs : Spc B w g gu s a l c) (hok : s.Ok n) (hn : n ≤ 4096) (d : Deed) (hd : DeedOk d) (hlog : s.log.length ≤ 9000000) :
    Calls Try.prog 36 #[.pointer (some ⟨g, 0, none⟩), .agg #[.int .i64 d.kind, .int .i64 d.from_, .int .i64 d.count]] w (Finds B g gu (s.do_ d) w) := by
  have hB : B ≤ w.heap.size := by have := hs.h1; have := hs.hb.lt; omega
  have hn' : s.us.length ≤ 4096 := by rw [hok.len]; exact hn
  have hbd := hok.bound
  obtain ⟨kind, from_, count⟩ := d
  obtain ⟨hd1, hd2⟩ := hd
  simp only at hd1 hd2
  have HS := Lib.hid hs
  have HB := Lib.hid hB
  have S1 := Lib.hid ((hs.alloc (.cells #[.int .i64 kind, .int .i64 from_, .int .i64 count] 31)).alloc (.cells #[.int .i64 0, .int .i64 0, .int .i64 0] 34))
  have K1 := Lib.hid (((SpKeep.refl B g gu w).alloc hB (.cells #[.int .i64 kind, .int .i64 from_, .int .i64 count] 31)).alloc (by simp; omega) (.cells #[.int .i64 0, .int .i64 0, .int .i64 0] 34))
  have D1 := Lib.hid ((Box.new (w := w) (vs := #[.int .i64 kind, .int .i64 from_, .int .i64 count]) (t := 31) rfl).alloc (.cells #[.int .i64 0, .int .i64 0, .int .i64 0] 34))
  have B1 := Lib.hid (Box.new (w := w.alloc (.cells #[.int .i64 kind, .int .i64 from_, .int .i64 count] 31)) (vs := #[.int .i64 0, .int .i64 0, .int .i64 0]) (t := 34) (g := w.heap.size + 1) (by simp))
  have HN := Lib.hid hn'
  have HBD : Hid (-1000000 ≤ s.left ∧ s.left ≤ 1000000) := by show _ ∧ _; omega
  have HLG := Lib.hid hlog
  obtain ⟨R, hR⟩ : ∃ R, Hid (s.do_ ⟨kind, from_, count⟩ = R) := ⟨_, rfl⟩
  rw [hR.out]
  clear hs hB hn' hbd hok hn hlog
  by_cases k1 : kind = 1
  · have hres : Hid (R = s.take count) := by show _ = _; rw [← hR.out, Sp.do_, if_pos k1]
    rw [hres.out]
    subst k1
    go_enter Try.func36, Try.ntmps36
    go_wp2_with fail
    refine (sp_take B g gu s a l c _ S1.out count HN.out HBD.out (by have := HLG.out; omega)).mono ?_
    rintro e w2 ⟨code, fr, a1, l1, c1, rfl, hcode, hfr, S2, K2⟩
    have B2 := Lib.hid (K2.out.box B1.out (by decide) (B1.out.ne S1.out.hb (by decide)) (B1.out.ne S1.out.hu (by decide)))
    have K3 := Lib.hid (K1.out.trans K2.out)
    obtain ⟨h, hh⟩ : ∃ h, Hid (w.heap.size + 1 = h) := ⟨_, rfl⟩
    rw [hh.out] at B2 ⊢
    have q0 : w2.cell? ⟨h, 0, none⟩ = some (.int .i64 0) := B2.out.cell 0
    have q1 : w2.cell? ⟨h, 1, none⟩ = some (.int .i64 0) := B2.out.cell 1
    have q2 : w2.cell? ⟨h, 2, none⟩ = some (.int .i64 0) := B2.out.cell 2
    have f0 : w2.frozen? ⟨h, 0, none⟩ = false := B2.out.free 0
    have f1 : w2.frozen? ⟨h, 1, none⟩ = false := B2.out.free 1
    have f2 : w2.frozen? ⟨h, 2, none⟩ = false := B2.out.free 2
    have EN := Lib.hid (found_end S2.out B2.out K3.out (by have := hh.out; omega) HB.out (.int .i64 code) (.int .i64 fr) (.int .i64 0))
    clear S1 K1 D1 B1 K2 B2
    go_wp2_with fail
    refine bodyPost_ret (v := .agg #[.int .i64 code, .int .i64 fr, .int .i64 0]) ?_ rfl ⟨code, fr, a1, l1, c1, rfl, hcode, hfr, EN.out.2.1, EN.out.2.2⟩
    have p0 := EN.out.1.cell 0
    have p1 := EN.out.1.cell 1
    have p2 := EN.out.1.cell 2
    simp at p0 p1 p2
    simp [results, Try.results36, go_sem, p0, p1, p2]
  · have b1 : (kind == 1) = false := by simp [k1]
    by_cases k2 : kind = 2
    · have hres : Hid (R = ((s.give from_ count).1, (s.give from_ count).2, 0)) := by show _ = _; rw [← hR.out, Sp.do_, if_neg k1, if_pos k2]
      rw [hres.out]
      subst k2
      clear k1
      go_enter Try.func36, Try.ntmps36
      go_wp2_with fail
      refine (sp_give B g gu s a l c _ S1.out 2 from_ count HN.out hd1 hd2).mono ?_
      rintro e w2 ⟨code, a1, l1, c1, rfl, hcode, S2, K2⟩
      have B2 := Lib.hid (K2.out.box B1.out (by decide) (B1.out.ne S1.out.hb (by decide)) (B1.out.ne S1.out.hu (by decide)))
      have K3 := Lib.hid (K1.out.trans K2.out)
      obtain ⟨h, hh⟩ : ∃ h, Hid (w.heap.size + 1 = h) := ⟨_, rfl⟩
      rw [hh.out] at B2 ⊢
      have q0 : w2.cell? ⟨h, 0, none⟩ = some (.int .i64 0) := B2.out.cell 0
      have q1 : w2.cell? ⟨h, 1, none⟩ = some (.int .i64 0) := B2.out.cell 1
      have q2 : w2.cell? ⟨h, 2, none⟩ = some (.int .i64 0) := B2.out.cell 2
      have f0 : w2.frozen? ⟨h, 0, none⟩ = false := B2.out.free 0
      have f1 : w2.frozen? ⟨h, 1, none⟩ = false := B2.out.free 1
      have f2 : w2.frozen? ⟨h, 2, none⟩ = false := B2.out.free 2
      have EN := Lib.hid (found_end S2.out B2.out K3.out (by have := hh.out; omega) HB.out (.int .i64 code) (.int .i64 0) (.int .i64 0))
      clear S1 K1 D1 B1 K2 B2
      go_wp2_with fail
      refine bodyPost_ret (v := .agg #[.int .i64 code, .int .i64 0, .int .i64 0]) ?_ rfl ⟨code, 0, a1, l1, c1, rfl, hcode, rfl, EN.out.2.1, EN.out.2.2⟩
      have p0 := EN.out.1.cell 0
      have p1 := EN.out.1.cell 1
      have p2 := EN.out.1.cell 2
      simp at p0 p1 p2
      simp [results, Try.results36, go_sem, p0, p1, p2]
    · have b2 : (kind == 2) = false := by simp [k2]
      by_cases k3 : kind = 3
      · have hres : Hid (R = (s.commit, 0, 0)) := by show _ = _; rw [← hR.out, Sp.do_, if_neg k1, if_neg k2, if_pos k3]
        rw [hres.out]
        subst k3
        clear k1 k2
        go_enter Try.func36, Try.ntmps36
        go_wp2_with fail
        refine (sp_commit B g gu s a l c _ S1.out HN.out HBD.out HLG.out).mono ?_
        rintro e w2 ⟨a1, l1, c1, rfl, S2, K2⟩
        have B2 := Lib.hid (K2.out.box B1.out (by decide) (B1.out.ne S1.out.hb (by decide)) (B1.out.ne S1.out.hu (by decide)))
        have K3 := Lib.hid (K1.out.trans K2.out)
        obtain ⟨h, hh⟩ : ∃ h, Hid (w.heap.size + 1 = h) := ⟨_, rfl⟩
        rw [hh.out] at B2 ⊢
        have q0 : w2.cell? ⟨h, 0, none⟩ = some (.int .i64 0) := B2.out.cell 0
        have q1 : w2.cell? ⟨h, 1, none⟩ = some (.int .i64 0) := B2.out.cell 1
        have q2 : w2.cell? ⟨h, 2, none⟩ = some (.int .i64 0) := B2.out.cell 2
        have f0 : w2.frozen? ⟨h, 0, none⟩ = false := B2.out.free 0
        have f1 : w2.frozen? ⟨h, 1, none⟩ = false := B2.out.free 1
        have f2 : w2.frozen? ⟨h, 2, none⟩ = false := B2.out.free 2
        have EN := Lib.hid (found_end S2.out B2.out K3.out (by have := hh.out; omega) HB.out (.int .i64 0) (.int .i64 0) (.int .i64 0))
        clear S1 K1 D1 B1 K2 B2
        go_wp2_with fail
        refine bodyPost_ret (v := .agg #[.int .i64 0, .int .i64 0, .int .i64 0]) ?_ rfl ⟨0, 0, a1, l1, c1, rfl, rfl, rfl, EN.out.2.1, EN.out.2.2⟩
        have p0 := EN.out.1.cell 0
        have p1 := EN.out.1.cell 1
        have p2 := EN.out.1.cell 2
        simp at p0 p1 p2
        simp [results, Try.results36, go_sem, p0, p1, p2]
      · have b3 : (kind == 3) = false := by simp [k3]
        have hres : Hid (R = (s, 3, 0)) := by show _ = _; rw [← hR.out, Sp.do_, if_neg k1, if_neg k2, if_neg k3]
        rw [hres.out]
        clear k1 k2 k3
        go_enter Try.func36, Try.ntmps36
        go_wp2_with fail
        refine bodyPost_ret (v := .agg #[.int .i64 3, .int .i64 0, .int .i64 0]) ?_ rfl ⟨3, 0, a, l, c, rfl, rfl, rfl, (HS.out.alloc _).alloc _, ((SpKeep.refl B g gu w).alloc HB.out _).alloc (by have := HB.out; simp; omega) _⟩
        simp [results, Try.results36, go_sem]
end Go.Proofs.Yteidmdakglkkfaa
