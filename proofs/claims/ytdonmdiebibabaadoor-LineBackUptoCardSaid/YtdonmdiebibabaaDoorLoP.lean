/- Lines of commands, plain: their words, reading, showing, one of the other. No program here. -/
import Derived.Test.YtdonmdiebibabaaDoorLnP
namespace Go.Proofs.YtdonmdiebibabaaDoor
open Go.Lib
set_option linter.unusedVariables false
set_option linter.unusedSimpArgs false

structure Cmd where
  kind : Int
  name : Nm
  other : Nm
  off : Int
  count : Int
  drive : Int
  keep : Int
  data : List Int
def wordsT : List (Nm × Nm) := [([99, 114, 101, 97, 116, 101], [110]), ([115, 116, 111, 114, 101], [110, 102, 120]), ([102, 101, 116, 99, 104], [110, 102, 99]), ([99, 117, 116], [110, 99]), ([114, 101, 109, 111, 118, 101], [110]), ([108, 105, 115, 116], []), ([115, 110, 97, 112], [111]), ([108, 111, 111, 107], [111, 110, 102, 99]), ([98, 97, 99, 107], [111]), ([117, 110, 115, 110, 97, 112], [111]), ([115, 110, 97, 112, 115], []), ([115, 121, 110, 99], []), ([112, 111, 119, 101, 114], [107]), ([112, 111, 119, 101, 114, 115, 121, 110, 99], [99, 107]), ([98, 114, 101, 97, 107], [100, 102]), ([102, 97, 105, 108], [100]), ([114, 101, 110, 101, 119], [100]), ([104, 101, 97, 108], []), ([112, 111, 119, 101, 114, 104, 101, 97, 108], [99, 107])]
def Cmd.mt (k : Int) : Cmd := ⟨k, [], [], 0, 0, 0, 0, []⟩
def putL (x : UInt8) (s : Nm) (c : Cmd) : Option Cmd :=
  if x = 110 then if nameOk s then some { c with name := s } else none
  else if x = 111 then if nameOk s then some { c with other := s } else none
  else if x = 102 then if (numP s).2 then some { c with off := (numP s).1 } else none
  else if x = 99 then if (numP s).2 then some { c with count := (numP s).1 } else none
  else if x = 100 then if (numP s).2 then some { c with drive := (numP s).1 } else none
  else if x = 107 then if (numP s).2 then some { c with keep := (numP s).1 } else none
  else match unhexP s with
    | some l => some { c with data := l }
    | none => none
def readL : Nm → List Nm → Cmd → Option Cmd
  | x :: xs, s :: ss, c => match putL x s c with
    | some d => readL xs ss d
    | none => none
  | _, _, c => some c
def wordIx (s : Nm) : Option Nat := wordsT.findIdx? (fun w => w.1 == s)
def lettersOf (k : Nat) : Nm := (wordsT.getD k ([], [])).2
def wordOf (k : Nat) : Nm := (wordsT.getD k ([], [])).1
def readP (line : Nm) : Option Cmd := match cutP line with
  | [] => none
  | w :: ss => match wordIx w with
    | none => none
    | some k => if ss.length = (lettersOf k).length then readL (lettersOf k) ss (.mt ((k : Int) + 1)) else none
def getL (x : UInt8) (c : Cmd) : Nm :=
  if x = 110 then c.name else if x = 111 then c.other else if x = 102 then itoa c.off else if x = 99 then itoa c.count else if x = 100 then itoa c.drive else if x = 107 then itoa c.keep else hexP c.data
def okL (x : UInt8) (c : Cmd) : Bool := if x = 110 then nameOk c.name else if x = 111 then nameOk c.other else true
def clrL (x : UInt8) (c : Cmd) : Cmd :=
  ⟨c.kind, if x = 110 then [] else c.name, if x = 111 then [] else c.other, if x = 102 then 0 else c.off, if x = 99 then 0 else c.count, if x = 100 then 0 else c.drive, if x = 107 then 0 else c.keep, if x = 120 then [] else c.data⟩
def showL : Nm → Cmd → Option (List Nm × Cmd)
  | [], c => some ([], c)
  | x :: xs, c => if okL x c then match showL xs (clrL x c) with
    | some r => some (getL x c :: r.1, r.2)
    | none => none
    else none
/-- A command's line. -/
def Shows (c : Cmd) (s : Nm) : Prop := ∃ ps, 1 ≤ c.kind ∧ c.kind ≤ 19 ∧ showL (lettersOf (c.kind - 1).toNat) c = some (ps, .mt c.kind) ∧ s = joinP (wordOf (c.kind - 1).toNat :: ps)
/-- The numbers are a machine's, the data are bytes. -/
structure Cmd.Wf (c : Cmd) : Prop where
  off : -9223372036854775808 ≤ c.off ∧ c.off ≤ 9223372036854775807
  count : -9223372036854775808 ≤ c.count ∧ c.count ≤ 9223372036854775807
  drive : -9223372036854775808 ≤ c.drive ∧ c.drive ≤ 9223372036854775807
  keep : -9223372036854775808 ≤ c.keep ∧ c.keep ≤ 9223372036854775807
  data : ∀ x ∈ c.data, 0 ≤ x ∧ x < 256
theorem Cmd.mt_wf (k : Int) : (Cmd.mt k).Wf := ⟨by simp [Cmd.mt], by simp [Cmd.mt], by simp [Cmd.mt], by simp [Cmd.mt], fun x hx => by simp [Cmd.mt] at hx⟩

/-! numbers and bytes, back -/
theorem mag_le (s : Nm) (n : Int) (h : atoiAll s = .ok n) : -9223372036854775808 ≤ n ∧ n ≤ 9223372036854775807 := by
  unfold atoiAll at h
  split at h
  · cases h
  · simp only at h
    split at h
    · cases h
    · cases h
    · split at h
      · cases h
      · split at h
        · cases h
        · rename_i h1 h2
          injection h with h
          split at h
          · subst h; rename_i h3; have : ¬ (9223372036854775808 < _) := fun e => h2 ⟨h3, e⟩; omega
          · subst h; rename_i h3; have : ¬ (9223372036854775808 ≤ _) := fun e => h1 ⟨h3, e⟩; omega
theorem numP_back (s : Nm) (h : (numP s).2 = true) : itoa (numP s).1 = s ∧ -9223372036854775808 ≤ (numP s).1 ∧ (numP s).1 ≤ 9223372036854775807 := by
  unfold numP at h ⊢
  split at h
  · rename_i v hv
    simp only at h ⊢
    exact ⟨by simpa using h, mag_le s v hv⟩
  · cases h
  · cases h
theorem dig_of (a : UInt8) (h : ¬ indexByte digsP a < 0) : digP (indexByte digsP a) = a ∧ 0 ≤ indexByte digsP a ∧ indexByte digsP a < 16 := by
  have H : ∀ c : Fin 256, ¬ indexByte digsP (UInt8.ofNat c.val) < 0 → digP (indexByte digsP (UInt8.ofNat c.val)) = UInt8.ofNat c.val ∧ 0 ≤ indexByte digsP (UInt8.ofNat c.val) ∧ indexByte digsP (UInt8.ofNat c.val) < 16 := by decide +kernel
  have := H ⟨a.toNat, a.toNat_lt⟩
  simp only [UInt8.ofNat_toNat] at this
  exact this h
theorem pairs_unpairs : ∀ (n : Nat) (s : Nm) (l : List Int), s.length ≤ n → unpairs s = some l → pairsP l = s ∧ ∀ x ∈ l, 0 ≤ x ∧ x < 256
  | _, [], l, _, h => by simp only [unpairs] at h; obtain rfl := Option.some.inj h; exact ⟨rfl, fun x hx => by cases hx⟩
  | _, [_], l, _, h => by simp only [unpairs] at h; cases h
  | 0, a :: b :: r, l, hn, h => by simp at hn
  | n + 1, a :: b :: r, l, hn, h => by
    simp only [unpairs] at h
    split at h
    · cases h
    · rename_i hab
      cases hr : unpairs r with
      | none => rw [hr] at h; cases h
      | some m =>
        rw [hr] at h
        obtain rfl := Option.some.inj h
        obtain ⟨h1, h2⟩ := pairs_unpairs n r m (by simp at hn; omega) hr
        have ha := dig_of a (fun e => hab (.inl e))
        have hb := dig_of b (fun e => hab (.inr e))
        have e1 : (indexByte digsP a * 16 + indexByte digsP b) / 16 = indexByte digsP a := by omega
        have e2 : (indexByte digsP a * 16 + indexByte digsP b) % 16 = indexByte digsP b := by omega
        refine ⟨?_, fun x hx => ?_⟩
        · show digP ((indexByte digsP a * 16 + indexByte digsP b) / 16) :: digP ((indexByte digsP a * 16 + indexByte digsP b) % 16) :: pairsP m = _
          rw [e1, e2, ha.1, hb.1, h1]
        · rcases List.mem_cons.1 hx with rfl | hx
          · omega
          · exact h2 x hx
theorem unhexP_back (s : Nm) (l : List Int) (h : unhexP s = some l) : hexP l = s ∧ ∀ x ∈ l, 0 ≤ x ∧ x < 256 := by
  unfold unhexP at h
  split at h
  · rename_i e
    obtain rfl := Option.some.inj h
    subst e
    exact ⟨rfl, fun x hx => by cases hx⟩
  · split at h
    · cases h
    · rename_i h1 h2
      obtain ⟨h3, h4⟩ := pairs_unpairs s.length s l (Nat.le_refl _) h
      refine ⟨?_, h4⟩
      unfold hexP
      split
      · rename_i e
        subst e
        exact absurd (.inl h3.symm) h2
      · exact h3

/-! one letter -/
def lettersAll : List UInt8 := [110, 111, 102, 99, 100, 107, 120]
theorem putL_spec {x : UInt8} (hx : x ∈ lettersAll) {s : Nm} {c d : Cmd} (h : putL x s c = some d) (hw : c.Wf) : okL x d = true ∧ getL x d = s ∧ clrL x d = clrL x c ∧ d.Wf ∧ d.kind = c.kind := by
  simp only [lettersAll, List.mem_cons, List.mem_nil_iff, or_false] at hx
  rcases hx with rfl | rfl | rfl | rfl | rfl | rfl | rfl
  · simp only [putL, if_true] at h
    split at h
    · obtain rfl := Option.some.inj h; rename_i ho; exact ⟨ho, rfl, rfl, ⟨hw.1, hw.2, hw.3, hw.4, hw.5⟩, rfl⟩
    · cases h
  · simp only [putL, show ¬ ((111 : UInt8) = 110) by decide, if_true, if_false] at h
    split at h
    · obtain rfl := Option.some.inj h; rename_i ho; exact ⟨ho, rfl, rfl, ⟨hw.1, hw.2, hw.3, hw.4, hw.5⟩, rfl⟩
    · cases h
  · simp only [putL, show ¬ ((102 : UInt8) = 110) by decide, show ¬ ((102 : UInt8) = 111) by decide, if_true, if_false] at h
    split at h
    · obtain rfl := Option.some.inj h; rename_i ho; have hb := numP_back s ho; exact ⟨rfl, hb.1, rfl, ⟨hb.2, hw.2, hw.3, hw.4, hw.5⟩, rfl⟩
    · cases h
  · simp only [putL, show ¬ ((99 : UInt8) = 110) by decide, show ¬ ((99 : UInt8) = 111) by decide, show ¬ ((99 : UInt8) = 102) by decide, if_true, if_false] at h
    split at h
    · obtain rfl := Option.some.inj h; rename_i ho; have hb := numP_back s ho; exact ⟨rfl, hb.1, rfl, ⟨hw.1, hb.2, hw.3, hw.4, hw.5⟩, rfl⟩
    · cases h
  · simp only [putL, show ¬ ((100 : UInt8) = 110) by decide, show ¬ ((100 : UInt8) = 111) by decide, show ¬ ((100 : UInt8) = 102) by decide, show ¬ ((100 : UInt8) = 99) by decide, if_true, if_false] at h
    split at h
    · obtain rfl := Option.some.inj h; rename_i ho; have hb := numP_back s ho; exact ⟨rfl, hb.1, rfl, ⟨hw.1, hw.2, hb.2, hw.4, hw.5⟩, rfl⟩
    · cases h
  · simp only [putL, show ¬ ((107 : UInt8) = 110) by decide, show ¬ ((107 : UInt8) = 111) by decide, show ¬ ((107 : UInt8) = 102) by decide, show ¬ ((107 : UInt8) = 99) by decide, show ¬ ((107 : UInt8) = 100) by decide, if_true, if_false] at h
    split at h
    · obtain rfl := Option.some.inj h; rename_i ho; have hb := numP_back s ho; exact ⟨rfl, hb.1, rfl, ⟨hw.1, hw.2, hw.3, hb.2, hw.5⟩, rfl⟩
    · cases h
  · simp only [putL, show ¬ ((120 : UInt8) = 110) by decide, show ¬ ((120 : UInt8) = 111) by decide, show ¬ ((120 : UInt8) = 102) by decide, show ¬ ((120 : UInt8) = 99) by decide, show ¬ ((120 : UInt8) = 100) by decide, show ¬ ((120 : UInt8) = 107) by decide, if_true, if_false] at h
    split at h
    · rename_i l hl; obtain rfl := Option.some.inj h; have hb := unhexP_back s l hl; exact ⟨rfl, hb.1, rfl, ⟨hw.1, hw.2, hw.3, hw.4, hb.2⟩, rfl⟩
    · cases h
/-- What a letter shows can be put, and gives back what was there. -/
theorem getL_put {x : UInt8} (hx : x ∈ lettersAll) {c b : Cmd} (ho : okL x c = true) (hw : c.Wf) (hb : clrL x b = clrL x c) : putL x (getL x c) b = some c := by
  have ext : ∀ {a b : Cmd}, a.kind = b.kind → a.name = b.name → a.other = b.other → a.off = b.off → a.count = b.count → a.drive = b.drive → a.keep = b.keep → a.data = b.data → a = b := fun {a b} h1 h2 h3 h4 h5 h6 h7 h8 => by cases a; cases b; simp_all
  simp only [lettersAll, List.mem_cons, List.mem_nil_iff, or_false] at hx
  rcases hx with rfl | rfl | rfl | rfl | rfl | rfl | rfl
  all_goals
    obtain ⟨k, n, o, f, u, d, p, x⟩ := c
    obtain ⟨k', n', o', f', u', d', p', x'⟩ := b
    simp [clrL] at hb
    obtain ⟨rfl, rfl, rfl, rfl, rfl, rfl, rfl⟩ := hb
  · have : nameOk n = true := ho
    simp [putL, getL, this]
  · have : nameOk o = true := ho
    simp [putL, getL, this]
  · simp [putL, getL, numP_itoa f hw.1.1 hw.1.2]
  · simp [putL, getL, numP_itoa u hw.2.1 hw.2.2]
  · simp [putL, getL, numP_itoa d hw.3.1 hw.3.2]
  · simp [putL, getL, numP_itoa p hw.4.1 hw.4.2]
  · simp [putL, getL, unhex_hex x hw.5]
theorem clrL_comm (x y : UInt8) (c : Cmd) : clrL x (clrL y c) = clrL y (clrL x c) := by
  unfold clrL
  simp only
  congr 1
  all_goals (split <;> split <;> rfl)
/-- Another letter's place is not touched. -/
theorem clrL_get {x y : UInt8} (hx : x ∈ lettersAll) (hy : y ∈ lettersAll) (hxy : x ≠ y) (c : Cmd) : getL x (clrL y c) = getL x c ∧ okL x (clrL y c) = okL x c := by
  simp only [lettersAll, List.mem_cons, List.mem_nil_iff, or_false] at hx hy
  rcases hx with rfl | rfl | rfl | rfl | rfl | rfl | rfl <;> rcases hy with rfl | rfl | rfl | rfl | rfl | rfl | rfl <;> first | exact absurd rfl hxy | exact ⟨rfl, rfl⟩
def clrAll : Nm → Cmd → Cmd
  | [], c => c
  | x :: xs, c => clrAll xs (clrL x c)
theorem clrAll_clr (xs : Nm) (x : UInt8) : ∀ c, clrAll xs (clrL x c) = clrL x (clrAll xs c) := by
  induction xs with
  | nil => intro c; rfl
  | cons y ys ih => intro c; show clrAll ys (clrL y (clrL x c)) = clrL x (clrAll ys (clrL y c)); rw [clrL_comm, ih]
theorem readL_other : ∀ (xs : Nm) (ss : List Nm) (c d : Cmd) (y : UInt8), y ∈ lettersAll → (∀ x ∈ xs, x ∈ lettersAll) → y ∉ xs → readL xs ss c = some d → getL y d = getL y c ∧ okL y d = okL y c
  | [], ss, c, d, y, _, _, _, h => by cases ss <;> (simp only [readL] at h; obtain rfl := Option.some.inj h; exact ⟨rfl, rfl⟩)
  | x :: xs, [], c, d, y, _, _, _, h => by simp only [readL] at h; obtain rfl := Option.some.inj h; exact ⟨rfl, rfl⟩
  | x :: xs, s :: ss, c, d, y, hy, hx, hn, h => by
    simp only [readL] at h
    split at h
    · rename_i e he
      have ih := readL_other xs ss e d y hy (fun z hz => hx z (List.mem_cons_of_mem _ hz)) (fun hz => hn (List.mem_cons_of_mem _ hz)) h
      have hne : y ≠ x := fun e => hn (by rw [e]; exact List.mem_cons_self ..)
      have hxx := hx x (List.mem_cons_self ..)
      have key : getL y e = getL y c ∧ okL y e = okL y c := by
        have h1 : clrL x e = clrL x c := by
          simp only [lettersAll, List.mem_cons, List.mem_nil_iff, or_false] at hxx
          rcases hxx with rfl | rfl | rfl | rfl | rfl | rfl | rfl
          all_goals
            simp [putL] at he
            first
              | (obtain ⟨_, rfl⟩ := he; rfl)
              | (split at he <;> first | (obtain rfl := Option.some.inj he; rfl) | cases he)
        have h2 := clrL_get hy hxx hne e
        have h3 := clrL_get hy hxx hne c
        rw [h1] at h2
        exact ⟨h2.1.symm.trans h3.1, h2.2.symm.trans h3.2⟩
      exact ⟨ih.1.trans key.1, ih.2.trans key.2⟩
    · cases h
/-- What was read is shown as it was read. -/
theorem read_show : ∀ (xs : Nm) (ss : List Nm) (c d : Cmd), (∀ x ∈ xs, x ∈ lettersAll) → xs.Nodup → ss.length = xs.length → c.Wf → readL xs ss c = some d → d.Wf ∧ d.kind = c.kind ∧ showL xs d = some (ss, clrAll xs c)
  | [], [], c, d, _, _, _, hw, h => by simp only [readL] at h; obtain rfl := Option.some.inj h; exact ⟨hw, rfl, rfl⟩
  | [], s :: ss, c, d, _, _, hl, _, _ => by simp at hl
  | x :: xs, [], c, d, _, _, hl, _, _ => by simp at hl
  | x :: xs, s :: ss, c, d, hx, hn, hl, hw, h => by
    simp only [readL] at h
    split at h
    · rename_i e he
      have hxx := hx x (List.mem_cons_self ..)
      have hn' := List.nodup_cons.1 hn
      obtain ⟨p1, p2, p3, p4, p5⟩ := putL_spec hxx he hw
      obtain ⟨i1, i2, i3⟩ := read_show xs ss e d (fun z hz => hx z (List.mem_cons_of_mem _ hz)) hn'.2 (by simpa using hl) p4 h
      have ho := readL_other xs ss e d x hxx (fun z hz => hx z (List.mem_cons_of_mem _ hz)) hn'.1 h
      refine ⟨i1, i2.trans p5, ?_⟩
      -- what is shown of the rest does not see x's place
      have key : ∀ (ys : Nm) (tt : List Nm) (a r : Cmd), (∀ y ∈ ys, y ∈ lettersAll) → x ∉ ys → showL ys a = some (tt, r) → showL ys (clrL x a) = some (tt, clrL x r) := by
        intro ys
        induction ys with
        | nil => intro tt a r _ _ h; simp only [showL] at h ⊢; obtain ⟨rfl, rfl⟩ := Prod.mk.inj (Option.some.inj h); rfl
        | cons y ys ih =>
          intro tt a r hy hxy h
          have hyy := hy y (List.mem_cons_self ..)
          have hne : y ≠ x := fun e => hxy (by rw [← e]; exact List.mem_cons_self ..)
          have g := clrL_get hyy hxx hne a
          simp only [showL] at h ⊢
          rw [g.1, g.2]
          split at h
          · split at h
            · rename_i q hq
              obtain ⟨q1, q2⟩ := q
              obtain ⟨rfl, rfl⟩ := Prod.mk.inj (Option.some.inj h)
              have := ih q1 (clrL y a) q2 (fun z hz => hy z (List.mem_cons_of_mem _ hz)) (fun hz => hxy (List.mem_cons_of_mem _ hz)) hq
              rw [if_pos (by assumption), clrL_comm, this]
            · cases h
          · cases h
      have k1 := key xs ss d _ (fun z hz => hx z (List.mem_cons_of_mem _ hz)) hn'.1 i3
      show (if okL x d = true then _ else _) = _
      rw [ho.2, p1, if_pos rfl, k1, ho.1, p2]
      show some (s :: ss, clrL x (clrAll xs e)) = some (s :: ss, clrAll xs (clrL x c))
      rw [← clrAll_clr, p3]
    · cases h
/-- What was shown is read as it was. -/
theorem show_read (ls : Nm) (hls : ls ∈ wordsT.map (·.2)) (ss : List Nm) (d : Cmd) (hw : d.Wf) (h : showL ls d = some (ss, .mt d.kind)) : ss.length = ls.length ∧ readL ls ss (.mt d.kind) = some d := by
  obtain ⟨k, n, o, f, u, dr, p, x⟩ := d
  have h1 := numP_itoa f hw.1.1 hw.1.2
  have h2 := numP_itoa u hw.2.1 hw.2.2
  have h3 := numP_itoa dr hw.3.1 hw.3.2
  have h4 := numP_itoa p hw.4.1 hw.4.2
  have h5 := unhex_hex x hw.5
  simp only [wordsT, List.map_cons, List.map_nil, List.mem_cons, List.mem_nil_iff, or_false] at hls
  rcases hls with rfl | rfl | rfl | rfl | rfl | rfl | rfl | rfl | rfl | rfl | rfl | rfl | rfl | rfl | rfl | rfl | rfl | rfl | rfl
  all_goals
    cases hn : nameOk n <;> cases ho : nameOk o <;> simp [showL, okL, getL, clrL, Cmd.mt, hn, ho] at h
    all_goals
      have e := h.1
      subst e
      simp [readL, putL, Cmd.mt]
      try simp_all

/-! whole lines -/
theorem words_ok : ∀ k : Fin 19, (∀ x ∈ lettersOf k.val, x ∈ lettersAll) ∧ (lettersOf k.val).Nodup ∧ lettersOf k.val ∈ wordsT.map (·.2) ∧ wordIx (wordOf k.val) = some k.val ∧ clrAll (lettersOf k.val) (.mt ((k.val : Int) + 1)) = .mt ((k.val : Int) + 1) ∧ (∀ c ∈ wordOf k.val, c ≠ 32) ∧ wordOf k.val ≠ [] := by
  have h1 : ∀ k : Fin 19, (∀ x ∈ lettersOf k.val, x ∈ lettersAll) ∧ (lettersOf k.val).Nodup ∧ lettersOf k.val ∈ wordsT.map (·.2) ∧ wordIx (wordOf k.val) = some k.val ∧ (∀ c ∈ wordOf k.val, c ≠ 32) ∧ wordOf k.val ≠ [] := by decide
  have h2 : ∀ (xs : Nm) (k : Int), clrAll xs (.mt k) = .mt k := by
    intro xs
    induction xs with
    | nil => intro k; rfl
    | cons x xs ih =>
      intro k
      show clrAll xs (clrL x (.mt k)) = _
      have : clrL x (.mt k) = .mt k := by unfold clrL Cmd.mt; simp
      rw [this, ih]
  exact fun k => ⟨(h1 k).1, (h1 k).2.1, (h1 k).2.2.1, (h1 k).2.2.2.1, h2 _ _, (h1 k).2.2.2.2⟩
theorem wordIx_some {w : Nm} {k : Nat} (h : wordIx w = some k) : k < 19 ∧ wordOf k = w := by
  unfold wordIx at h
  rw [List.findIdx?_eq_some_iff_getElem] at h
  obtain ⟨h1, h2, _⟩ := h
  refine ⟨h1, ?_⟩
  unfold wordOf
  rw [List.getD_eq_getElem?_getD, List.getElem?_eq_getElem h1]
  simpa using h2
theorem wordIx_nil : wordIx [] = none := by decide
/-- A line that is read is the one of what was read. -/
theorem read_fixed {s : Nm} {c : Cmd} (h : readP s = some c) : Shows c s ∧ c.Wf := by
  unfold readP at h
  split at h
  · cases h
  · rename_i w ss hc
    split at h
    · cases h
    · rename_i k hk
      split at h
      · rename_i hl
        obtain ⟨hk1, hk2⟩ := wordIx_some hk
        obtain ⟨w1, w2, w3, w4, w5, w6⟩ := words_ok ⟨k, hk1⟩
        simp only at w1 w2 w3 w4 w5 w6
        obtain ⟨r1, r2, r3⟩ := read_show _ ss _ c w1 w2 hl (Cmd.mt_wf _) h
        have r2' : c.kind = (k : Int) + 1 := r2
        have e : (c.kind - 1).toNat = k := by omega
        refine ⟨⟨ss, by omega, by omega, ?_, ?_⟩, r1⟩
        · rw [e, r3, w5, r2']
        · rw [e, hk2, ← hc, join_cut]
      · cases h
theorem nameOk_free {n : Nm} (h : nameOk n = true) : ∀ c ∈ n, c ≠ 32 := by
  intro c hc e
  unfold nameOk at h
  simp only [Bool.and_eq_true] at h
  have := List.all_eq_true.1 h.1 c hc
  subst e
  revert this; decide
theorem getL_free {x : UInt8} {d : Cmd} (hw : d.Wf) (ho : okL x d = true) : ∀ c ∈ getL x d, c ≠ 32 := by
  unfold getL
  unfold okL at ho
  repeat' split
  · rename_i e; rw [if_pos e] at ho; exact nameOk_free ho
  · rename_i e1 e2; rw [if_neg e1, if_pos e2] at ho; exact nameOk_free ho
  · exact itoa_free _
  · exact itoa_free _
  · exact itoa_free _
  · exact itoa_free _
  · exact hex_free _ hw.5
theorem clrL_wf (x : UInt8) {c : Cmd} (h : c.Wf) : (clrL x c).Wf := by
  refine ⟨?_, ?_, ?_, ?_, ?_⟩
  · show _ ≤ (if x = 102 then 0 else c.off) ∧ (if x = 102 then 0 else c.off) ≤ _
    split
    · decide
    · exact h.1
  · show _ ≤ (if x = 99 then 0 else c.count) ∧ (if x = 99 then 0 else c.count) ≤ _
    split
    · decide
    · exact h.2
  · show _ ≤ (if x = 100 then 0 else c.drive) ∧ (if x = 100 then 0 else c.drive) ≤ _
    split
    · decide
    · exact h.3
  · show _ ≤ (if x = 107 then 0 else c.keep) ∧ (if x = 107 then 0 else c.keep) ≤ _
    split
    · decide
    · exact h.4
  · show ∀ y ∈ (if x = 120 then [] else c.data), _
    split
    · intro y hy; cases hy
    · exact h.5
theorem showL_free : ∀ (xs : Nm) (d r : Cmd) (ss : List Nm), d.Wf → showL xs d = some (ss, r) → ∀ s ∈ ss, ∀ c ∈ s, c ≠ 32
  | [], d, r, ss, _, h => by simp only [showL] at h; obtain ⟨rfl, rfl⟩ := Prod.mk.inj (Option.some.inj h); intro s hs; cases hs
  | x :: xs, d, r, ss, hw, h => by
    simp only [showL] at h
    split at h
    · rename_i ho
      split at h
      · rename_i q hq
        obtain ⟨q1, q2⟩ := q
        obtain ⟨rfl, rfl⟩ := Prod.mk.inj (Option.some.inj h)
        intro s hs
        rcases List.mem_cons.1 hs with rfl | hs
        · exact getL_free hw ho
        · exact showL_free xs _ _ q1 (clrL_wf x hw) hq s hs
      · cases h
    · cases h
theorem joinP_snoc' : ∀ (xs : List Nm) (y : Nm), xs ≠ [] → joinP xs ++ 32 :: y = joinP (xs ++ [y])
  | [], _, h => absurd rfl h
  | [x], y, _ => by rw [joinP_one]; show _ = joinP [x, y]; rw [joinP_cons, joinP_one]
  | x :: z :: r, y, _ => by
    show _ = joinP (x :: z :: (r ++ [y]))
    rw [joinP_cons, joinP_cons, List.append_assoc]
    show x ++ 32 :: (joinP (z :: r) ++ 32 :: y) = _
    rw [joinP_snoc' (z :: r) y (by simp)]; rfl
/-- A command is read back from its line; with a blank ahead or behind it is of none. -/
theorem show_back {s : Nm} {c : Cmd} (h : Shows c s) (hw : c.Wf) : readP s = some c ∧ readP (s ++ [32]) = none ∧ readP (32 :: s) = none ∧ s ≠ [] := by
  obtain ⟨ps, h1, h2, h3, rfl⟩ := h
  obtain ⟨k, hk⟩ : ∃ k, k = (c.kind - 1).toNat := ⟨_, rfl⟩
  rw [← hk] at h3 ⊢
  have hk1 : k < 19 := by omega
  have e : c.kind = (k : Int) + 1 := by omega
  obtain ⟨w1, w2, w3, w4, w5, w6, w7⟩ := words_ok ⟨k, hk1⟩
  simp only at w1 w2 w3 w4 w5 w6 w7
  obtain ⟨r1, r2⟩ := show_read _ w3 ps c hw h3
  have hfree : ∀ x ∈ wordOf k :: ps, ∀ c ∈ x, c ≠ 32 := by
    intro x hx
    rcases List.mem_cons.1 hx with rfl | hx
    · exact w6
    · exact showL_free _ _ _ _ hw h3 x hx
  have hcut : cutP (joinP (wordOf k :: ps)) = wordOf k :: ps := cut_join _ (by simp) hfree
  refine ⟨?_, ?_, ?_, ?_⟩
  · unfold readP
    rw [hcut]
    simp only [w4]
    rw [if_pos r1, ← e, r2]
  · have h5 : joinP (wordOf k :: ps) ++ [32] = joinP (wordOf k :: (ps ++ [[]])) := joinP_snoc' (wordOf k :: ps) [] (by simp)
    rw [h5]
    have hcut2 : cutP (joinP (wordOf k :: (ps ++ [[]]))) = wordOf k :: (ps ++ [[]]) := cut_join _ (by simp) (by
      intro x hx
      rcases List.mem_cons.1 hx with rfl | hx
      · exact w6
      · rcases List.mem_append.1 hx with hx | hx
        · exact hfree x (List.mem_cons_of_mem _ hx)
        · obtain rfl := List.mem_singleton.1 hx
          intro c hc; cases hc)
    unfold readP
    rw [hcut2]
    simp only [w4]
    rw [if_neg (by simp; omega)]
  · unfold readP
    rw [show cutP (32 :: joinP (wordOf k :: ps)) = [] :: cutP (joinP (wordOf k :: ps)) by rw [cutP, if_pos rfl]]
    simp only [wordIx_nil]
  · intro h0
    have : cutP (joinP (wordOf k :: ps)) = [[]] := by rw [h0]; rfl
    rw [hcut] at this
    exact w7 (List.cons.inj this).1
theorem read_one : readP [115, 116, 111, 114, 101, 32, 97, 32, 45, 51, 32, 48, 97, 102, 102] = some ⟨2, [97], [], -3, 0, 0, 0, [10, 255]⟩ := by
  have h1 : cutP [115, 116, 111, 114, 101, 32, 97, 32, 45, 51, 32, 48, 97, 102, 102] = [[115, 116, 111, 114, 101], [97], [45, 51], [48, 97, 102, 102]] := by decide
  have h0 : itoa (-3) = [45, 51] := by unfold itoa; rw [if_pos (by decide), show (-3 : Int).natAbs = 3 from rfl, decDigits_one (by decide)]; rfl
  have h2 : numP [45, 51] = (-3, true) := by rw [← h0]; exact numP_itoa (-3) (by decide) (by decide)
  have h3 : unhexP [48, 97, 102, 102] = some [10, 255] := by decide
  unfold readP
  rw [h1]
  have h4 : wordIx [115, 116, 111, 114, 101] = some 1 := by decide
  simp only [h4]
  show (if ([[97], [45, 51], [48, 97, 102, 102]] : List Nm).length = ([110, 102, 120] : Nm).length then readL [110, 102, 120] [[97], [45, 51], [48, 97, 102, 102]] (.mt 2) else none) = _
  rw [if_pos (by decide)]
  have h5 : nameOk [97] = true := by decide
  simp [readL, putL, h2, h3, h5, Cmd.mt]
end Go.Proofs.YtdonmdiebibabaaDoor
