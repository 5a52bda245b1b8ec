/- Plays: as plain data, walked. -/
import Derived.Test.YthjjfmnipemakaaTrU
import Derived.Test.YthjjfmnipemakaaTrS
namespace Go.Proofs.Ythjjfmnipemakaa
open Go.RowKit
set_option linter.unusedVariables false
set_option maxRecDepth 100000

structure St where
  kind : Nat
  version : Nat
  off : Nat
  count : Nat
  data : List Int
def St.toV (s : St) (a : Option Addr) (l c : Nat) : Array Value := stepV s.kind s.version s.off s.count a l c
def Fo.step (f : Fo) (s : St) : Fo × Shn :=
  if s.kind = 1 then (f.push (f.wrote (f.vers.getD s.version ver0) s.off s.data), ⟨0, f.vers.length, (f.wrote (f.vers.getD s.version ver0) s.off s.data).1.size, []⟩)
  else if s.kind = 2 then (f.push (f.resized (f.vers.getD s.version ver0) s.count), ⟨0, f.vers.length, s.count, []⟩)
  else (f, ⟨0, 0, (f.vers.getD s.version ver0).size, readO (f.vers.getD s.version ver0) s.off s.count⟩)
structure St.Ok (s : St) (n : Nat) : Prop where
  kind : s.kind = 1 ∨ s.kind = 2 ∨ s.kind = 3
  version : s.version < n
  write : s.kind = 1 → 0 < s.data.length ∧ s.off + s.data.length ≤ 4096
  resize : s.kind = 2 → s.count ≤ 4096
def Fo.fin (f : Fo) : List St → Fo
  | [] => f
  | s :: ss => (f.step s).1.fin ss
def Fo.outs (f : Fo) : List St → List Shn
  | [] => []
  | s :: ss => (f.step s).2 :: (f.step s).1.outs ss
def Fo.Okays (f : Fo) : List St → Prop
  | [] => True
  | s :: ss => s.Ok f.vers.length ∧ (f.step s).1.Okays ss
theorem Fo.fin_append : ∀ (f : Fo) (xs ys : List St), f.fin (xs ++ ys) = (f.fin xs).fin ys
  | _, [], _ => rfl
  | f, x :: xs, ys => by show (f.step x).1.fin (xs ++ ys) = _; rw [fin_append (f.step x).1 xs ys]; rfl
theorem Fo.outs_append : ∀ (xs ys : List St) (f : Fo), f.outs (xs ++ ys) = f.outs xs ++ (f.fin xs).outs ys
  | [], _, _ => rfl
  | x :: xs, ys, f => by
    show _ :: (f.step x).1.outs (xs ++ ys) = _ :: ((f.step x).1.outs xs ++ _)
    rw [outs_append xs ys (f.step x).1]; rfl
theorem Fo.okays_append : ∀ (xs ys : List St) (f : Fo), f.Okays (xs ++ ys) ↔ f.Okays xs ∧ (f.fin xs).Okays ys
  | [], _, _ => ⟨fun h => ⟨trivial, h⟩, fun h => h.2⟩
  | x :: xs, ys, f => by
    show _ ∧ (f.step x).1.Okays (xs ++ ys) ↔ (_ ∧ (f.step x).1.Okays xs) ∧ _
    rw [okays_append xs ys (f.step x).1, and_assoc]; rfl
theorem Fo.outs_length : ∀ (xs : List St) (f : Fo), (f.outs xs).length = xs.length
  | [], _ => rfl
  | x :: xs, f => by show ((f.step x).1.outs xs).length + 1 = _; rw [outs_length xs]; rfl
def Fo.Good (f : Fo) : Prop := ∀ v ∈ f.vers, v.Good
theorem four_ok : ∀ (n : Nat) (t : Option (T n)), T.Ok n t → Four n t
  | n, none, _ => by cases n <;> trivial
  | 0, some t, _ => trivial
  | n + 1, some t, h => ⟨h.1, fun k hk => four_ok n k (h.2 k hk)⟩
theorem wrote_cost (f : Fo) (v : Ver) (off : Nat) (data : List Int) (hv : v.Good) (h : max v.size (off + data.length) ≤ 4096) : (f.wrote v off data).2 ≤ f.made + 400 := by
  obtain ⟨L, hL⟩ : ∃ L, levelOf (newSize v off data.length) = L := ⟨_, rfl⟩
  have hL3 : L ≤ 3 := by rw [← hL]; exact levelOf_le _
  have hle : ∀ r, v.root = some r → r.1 ≤ L := fun r hr => by rw [hv.level r hr, ← hL]; exact levelOf_mono (by unfold newSize; omega)
  unfold Fo.wrote
  rw [hL]
  show (Go.Proofs.Ythjjfmnipemakaa.wrote f.vers.length L off data v.root f.made).2 ≤ _
  have hok := hv.ok
  have hc : ∀ n, n ≤ 4 → cost n ≤ 341 := cost_le
  cases hr : v.root with
  | none =>
    show (T.write f.vers.length off data L 0 none f.made).2 ≤ _
    have := write_cost f.vers.length off data L 0 none f.made (by cases L <;> trivial)
    have := hc L (by omega)
    omega
  | some r =>
    rw [hr] at hok
    have hrl := hle r hr
    show (T.write f.vers.length off data (raise f.vers.length (L - r.1) r f.made).1.1 0 (some (raise f.vers.length (L - r.1) r f.made).1.2) (raise f.vers.length (L - r.1) r f.made).2).2 ≤ _
    have h1 := raise_cost f.vers.length (L - r.1) r f.made
    have h2 := raise_level f.vers.length (L - r.1) r f.made
    have h3 := raise_ok f.vers.length (L - r.1) r f.made hok
    have := write_cost f.vers.length off data (raise f.vers.length (L - r.1) r f.made).1.1 0 (some (raise f.vers.length (L - r.1) r f.made).1.2) (raise f.vers.length (L - r.1) r f.made).2 (four_ok _ _ h3)
    have := hc (raise f.vers.length (L - r.1) r f.made).1.1 (by omega)
    omega
theorem resized_cost (f : Fo) (v : Ver) (size : Nat) (hv : v.Good) (hs : size ≤ 4096) : (f.resized v size).2 ≤ f.made + 400 := by
  have hL3 := levelOf_le size
  rw [resizedO_eq]
  show (resizedO f.vers.length size v.root f.made).2 ≤ _
  have hc : (cutRoot f.vers.length size v.root f.made).2 ≤ f.made + 341 := by
    have hok := hv.ok
    cases hr : v.root with
    | none => show f.made ≤ _; omega
    | some r =>
      rw [hr] at hok
      have h4 := hv.level r hr
      have h5 := levelOf_le v.size
      have := cut_cost f.vers.length size r.1 0 (some r.2) f.made (four_ok _ _ hok)
      have := cost_le r.1 (by omega)
      show (T.cut f.vers.length size r.1 0 (some r.2) f.made).2 ≤ _
      omega
  unfold resizedO
  cases hq : lowO (levelOf size) (cutRoot f.vers.length size v.root f.made).1 with
  | none =>
    by_cases h : 0 < size
    · simp only [if_pos h]; omega
    · simp only [if_neg h]; omega
  | some q =>
    show (raise f.vers.length (levelOf size - q.1) q (cutRoot f.vers.length size v.root f.made).2).2 ≤ _
    rw [raise_cost]; omega
theorem Fo.pick_good (f : Fo) (h : f.Good) (i : Nat) : (f.vers.getD i ver0).Good := by
  rw [List.getD_eq_getElem?_getD]
  cases hq : f.vers[i]? with
  | none => exact ver0_good
  | some v => exact h v (List.mem_of_getElem? hq)
theorem Fo.step_good (f : Fo) (s : St) (h : f.Good) (hs : s.Ok f.vers.length) : (f.step s).1.Good ∧ (f.step s).1.made ≤ f.made + 400 ∧ (f.step s).1.vers.length ≤ f.vers.length + 1 := by
  have hp := Fo.pick_good f h s.version
  unfold Fo.step
  by_cases h1 : s.kind = 1
  · rw [if_pos h1]
    obtain ⟨h2, h3⟩ := hs.write h1
    have := wrote_good f _ s.off s.data hp h2 h3
    refine ⟨fun v hv => ?_, wrote_cost f _ s.off s.data hp (by have := hp.small; omega), by show (f.vers ++ [_]).length ≤ _; simp⟩
    rcases List.mem_append.1 (show v ∈ f.vers ++ [_] from hv) with hv | hv
    · exact h v hv
    · obtain rfl := List.mem_singleton.1 hv; exact this.1
  · rw [if_neg h1]
    by_cases h2 : s.kind = 2
    · rw [if_pos h2]
      have h3 := hs.resize h2
      refine ⟨fun v hv => ?_, resized_cost f _ s.count hp h3, by show (f.vers ++ [_]).length ≤ _; simp⟩
      rcases List.mem_append.1 (show v ∈ f.vers ++ [_] from hv) with hv | hv
      · exact h v hv
      · obtain rfl := List.mem_singleton.1 hv; exact (resized_good f _ s.count hp h3).1
    · rw [if_neg h2]; exact ⟨h, by show f.made ≤ _; omega, by show f.vers.length ≤ _; omega⟩
theorem Fo.fin_good : ∀ (ss : List St) (f : Fo), f.Good → f.Okays ss → (f.fin ss).Good ∧ (f.fin ss).made ≤ f.made + 400 * ss.length ∧ (f.fin ss).vers.length ≤ f.vers.length + ss.length
  | [], f, h, _ => ⟨h, by show f.made ≤ _; omega, by show f.vers.length ≤ _; omega⟩
  | s :: ss, f, h, hs => by
    have h1 := Fo.step_good f s h hs.1
    have h2 := fin_good ss (f.step s).1 h1.1 hs.2
    refine ⟨h2.1, ?_, ?_⟩
    · show ((f.step s).1.fin ss).made ≤ _
      rw [List.length_cons]; omega
    · show ((f.step s).1.fin ss).vers.length ≤ _
      rw [List.length_cons]; omega
theorem fo0_good : fo0.Good := fun v hv => by obtain rfl := List.mem_singleton.1 hv; exact ver0_good
/-- A step, whatever its kind. -/
theorem stepW (W0 : World) (B k : Nat) (f : Fo) (t : Thing) (s : St) (ad : Option Addr) (ld cd : Nat) (w : World)
    (ht : IsFo W0 B k f t) (hw : t.holds w) (hg : f.Good) (hs : s.Ok f.vers.length) (hD : ∀ w, (thSince W0).holds w → Row .u8 w ad ld cd s.data) (hm : f.made ≤ 800000) (hn : f.vers.length ≤ 400) (hB : B ≤ w.heap.size) :
    Calls Try.prog 26 #[.pointer (some ⟨k, 0, none⟩), .agg (s.toV ad ld cd)] w (StepEnd W0 B k t (f.step s) w) := by
  have hv : f.vers[s.version]? = some (f.vers.getD s.version ver0) := by
    rw [List.getD_eq_getElem?_getD, List.getElem?_eq_getElem hs.version]; rfl
  have hp := Fo.pick_good f hg s.version
  obtain ⟨kind, version, off, count, data⟩ := s
  by_cases h1 : kind = 1
  · subst h1
    have := hs.write rfl
    exact stepWrite W0 B k f t version off count ad ld cd data _ w ht hw hv hp hD this.1 this.2 hm hn hB
  · by_cases h2 : kind = 2
    · subst h2
      exact stepResize W0 B k f t version count off ad ld cd _ w ht hw hv hp (hs.resize rfl) hm hn hB
    · have h3 : kind = 3 := by
        have : kind = 1 ∨ kind = 2 ∨ kind = 3 := hs.kind
        omega
      subst h3
      exact stepRead W0 B k f t version off count ad ld cd _ w ht hw hv hp hm hn hB

/-! Steps and what they come to, in memory. -/
def four (s : St) : List Value := [.int .i64 s.kind, .int .i64 s.version, .int .i64 s.off, .int .i64 s.count]
def stL : Lay St := Lay.map (Lay.pair (Lay.flat 4 (by decide) four (fun _ => rfl) (fun x v hv => by
  unfold four at hv
  simp only [List.mem_cons, List.mem_nil_iff, or_false] at hv
  rcases hv with rfl | rfl | rfl | rfl <;> rfl)) (Lay.int .u8).slice) (fun s => (s, s.data))
def three (s : Shn) : List Value := [.int .i64 s.code, .int .i64 s.version, .int .i64 s.size]
def shnL : Lay Shn := Lay.map (Lay.pair (Lay.flat 3 (by decide) three (fun _ => rfl) (fun x v hv => by
  unfold three at hv
  simp only [List.mem_cons, List.mem_nil_iff, or_false] at hv
  rcases hv with rfl | rfl | rfl <;> rfl)) (Lay.int .u8).slice) (fun s => (s, s.data))
theorem info_shown : (Try.prog.info? 68).map (fun i => (i.zero, i.size, i.bytes)) = some (some (.agg #[.int .i64 0, .int .i64 0, .int .i64 0, .slice none 0 0]), 4, 48) := by kernel_rfl
theorem shn_at {B : Nat} {a : Option Addr} {n c : Nat} {w : World} (x : Shn) (h : (thOwn (Lay.int .u8) B 5 a n c x.data).holds w) :
    shnL.at_ w (thOwn (Lay.int .u8) B 5 a n c x.data).foot x (shownC x.code x.version x.size a n c).toList :=
  ⟨three x, [.slice a n c], rfl, rfl, a, n, c, rfl, own_srowT h⟩
theorem stAt {w : World} {F : Nat → Prop} {a : Option Addr} {len cap : Nat} {ss : List St} (h : SRow stL w F a len cap ss) (i : Nat) (hi : i < len) :
    ∃ b off s ad ld cd, a = some ⟨b, off, none⟩ ∧ b < w.heap.size ∧ ss[i]? = some s ∧ Row .u8 w ad ld cd s.data ∧ w.cell? ⟨b, off + i * 5, none⟩ = some (.int .i64 s.kind) ∧ w.cell? ⟨b, off + i * 5 + 1, none⟩ = some (.int .i64 s.version) ∧ w.cell? ⟨b, off + i * 5 + 2, none⟩ = some (.int .i64 s.off) ∧
      w.cell? ⟨b, off + i * 5 + 3, none⟩ = some (.int .i64 s.count) ∧ w.cell? ⟨b, off + i * 5 + 4, none⟩ = some (.slice ad ld cd) := by
  obtain ⟨b, off, vs, ha, _, hb, hx, hc⟩ := h.get i hi
  have hm := List.getElem?_eq_getElem (show i < ss.length by rw [h.1]; exact hi)
  obtain ⟨us, ws, rfl, h1, ad, ld, cd, h2, h3⟩ := hx _ hm
  have e1 : us = four (ss[i]'(by rw [h.1]; exact hi)) := h1
  subst e1 h2
  exact ⟨b, off, _, ad, ld, cd, ha, hb, hm, h3.toRow, hc 0 (by decide), hc 1 (by decide), hc 2 (by decide), hc 3 (by decide), hc 4 (by decide)⟩
theorem Fo.take_succ (f : Fo) (ss : List St) (i : Nat) (s : St) (h : ss[i]? = some s) : f.fin (ss.take (i + 1)) = ((f.fin (ss.take i)).step s).1 ∧ f.outs (ss.take (i + 1)) = f.outs (ss.take i) ++ [((f.fin (ss.take i)).step s).2] := by
  have h' := List.getElem?_eq_some_iff.1 h
  rw [List.take_succ_eq_append_getElem h'.1, h'.2, Fo.fin_append, Fo.outs_append]
  exact ⟨rfl, rfl⟩
theorem Fo.okays_take (f : Fo) (ss : List St) (h : f.Okays ss) (i : Nat) (s : St) (hs : ss[i]? = some s) : f.Okays (ss.take i) ∧ s.Ok (f.fin (ss.take i)).vers.length := by
  have h' := List.getElem?_eq_some_iff.1 hs
  have e : ss = ss.take i ++ (s :: ss.drop (i + 1)) := by
    conv => lhs; rw [← List.take_append_drop i ss]
    rw [List.drop_eq_getElem_cons h'.1, h'.2]
  rw [e] at h
  have := (Fo.okays_append _ _ _).1 h
  exact ⟨this.1, this.2.1⟩
end Go.Proofs.Ythjjfmnipemakaa
