/- LexBlanks: what may be put between tokens says nothing. -/
import Derived.Test.YtonjhdmnndffkaaDoorLxLaw
namespace Go.Proofs.YtonjhdmnndffkaaDoor
set_option linter.unusedSimpArgs false
set_option linter.unusedVariables false
set_option maxRecDepth 100000

def gRem : List UInt8 := [32, 35, 32, 97, 32, 34, 114, 101, 109, 97, 114, 107, 32, 123]
def gLine : List UInt8 := [32, 10, 9, 35, 32, 110, 111, 116, 104, 105, 110, 103, 10]
def Piece (e : Bool) (x : List UInt8) : Prop := x = [32] ∨ x = [9] ∨ (e = true ∧ (x = gRem ∨ x = gLine))
/-- What is put ahead of a token (e: of a line's end). -/
def GapT (e : Bool) (g : List UInt8) : Prop := ∃ ps : List (List UInt8), (∀ x ∈ ps, Piece e x) ∧ g = ps.flatten
theorem gap_nil (e : Bool) : GapT e [] := ⟨[], by simp, rfl⟩
theorem gap_snoc {e : Bool} {g x : List UInt8} (h : GapT e g) (hx : Piece e x) : GapT e (g ++ x) := by
  obtain ⟨ps, h1, rfl⟩ := h
  refine ⟨ps ++ [x], fun y hy => ?_, by simp⟩
  rcases List.mem_append.1 hy with hy | hy
  · exact h1 y hy
  · rw [List.mem_singleton.1 hy]; exact hx
theorem lx_gap {g l : List UInt8} {so : Bool} {ts : List Tok} (h : GapT false g) : ∀ p, Lx l (p + g.length) so ts → Lx (g ++ l) p so ts := by
  obtain ⟨ps, h1, rfl⟩ := h
  induction ps with
  | nil => intro p h; simpa using h
  | cons x ps ih =>
    intro p h
    have hx := h1 x (by simp)
    have ih' := ih (fun y hy => h1 y (by simp [hy])) (p + 1)
    rcases hx with rfl | rfl | ⟨hx, _⟩
    · refine Lx.blank (.inl rfl) (ih' ?_)
      simpa [Nat.add_assoc, Nat.add_comm, Nat.add_left_comm] using h
    · refine Lx.blank (.inr rfl) (ih' ?_)
      simpa [Nat.add_assoc, Nat.add_comm, Nat.add_left_comm] using h
    · cases hx
theorem lx_ends {l : List UInt8} {ts : List Tok} (ps : List (List UInt8)) : ∀ (so : Bool) (p : Nat), (∀ x ∈ ps, Piece true x) → Lx l (p + ps.flatten.length + 1) false ts →
    (∃ a, Lx (ps.flatten ++ 10 :: l) p so (endOf so a ++ ts)) ∧ ∃ r1 l2 a, ps.flatten ++ 10 :: l = r1 ++ 10 :: l2 ∧ (∀ c ∈ r1, c ≠ 10) ∧ Lx (10 :: l2) (p + r1.length) so (endOf so a ++ ts) := by
  induction ps with
  | nil =>
    intro so p _ h
    have h' : Lx (10 :: l) p so (endOf so p ++ ts) := Lx.line (by simpa using h)
    exact ⟨⟨p, h'⟩, [], l, p, rfl, by simp, h'⟩
  | cons x ps ih =>
    intro so p h1 h
    have hx := h1 x (by simp)
    have h2 : ∀ y ∈ ps, Piece true y := fun y hy => h1 y (by simp [hy])
    rcases hx with rfl | rfl | ⟨_, rfl | rfl⟩
    · obtain ⟨⟨a, e1⟩, r1, l2, a2, e2, e3, e4⟩ := ih so (p + 1) h2 (by simpa [Nat.add_assoc, Nat.add_comm, Nat.add_left_comm] using h)
      refine ⟨⟨a, Lx.blank (.inl rfl) e1⟩, 32 :: r1, l2, a2, by simp [e2], ?_, by simpa [Nat.add_assoc, Nat.add_comm, Nat.add_left_comm] using e4⟩
      intro c hc
      rcases List.mem_cons.1 hc with rfl | hc
      · decide
      · exact e3 c hc
    · obtain ⟨⟨a, e1⟩, r1, l2, a2, e2, e3, e4⟩ := ih so (p + 1) h2 (by simpa [Nat.add_assoc, Nat.add_comm, Nat.add_left_comm] using h)
      refine ⟨⟨a, Lx.blank (.inr rfl) e1⟩, 9 :: r1, l2, a2, by simp [e2], ?_, by simpa [Nat.add_assoc, Nat.add_comm, Nat.add_left_comm] using e4⟩
      intro c hc
      rcases List.mem_cons.1 hc with rfl | hc
      · decide
      · exact e3 c hc
    · obtain ⟨_, r1, l2, a2, e2, e3, e4⟩ := ih so (p + 14) h2 (by simpa [gRem, Nat.add_assoc, Nat.add_comm, Nat.add_left_comm] using h)
      have hr : ∀ c ∈ ([32, 97, 32, 34, 114, 101, 109, 97, 114, 107, 32, 123] ++ r1 : List UInt8), c ≠ 10 := by
        intro c hc
        rcases List.mem_append.1 hc with hc | hc
        · have : ∀ c ∈ ([32, 97, 32, 34, 114, 101, 109, 97, 114, 107, 32, 123] : List UInt8), c ≠ 10 := by decide
          exact this c hc
        · exact e3 c hc
      have hall : (gRem :: ps).flatten ++ 10 :: l = 32 :: 35 :: (([32, 97, 32, 34, 114, 101, 109, 97, 114, 107, 32, 123] ++ r1) ++ 10 :: l2) := by
        simp [gRem, e2]
      refine ⟨⟨a2, ?_⟩, gRem ++ r1, l2, a2, by simp [e2], ?_, ?_⟩
      · rw [hall]
        refine Lx.blank (.inl rfl) (Lx.remark hr (.inr rfl) ?_)
        have : p + 1 + 1 + ([32, 97, 32, 34, 114, 101, 109, 97, 114, 107, 32, 123] ++ r1 : List UInt8).length = p + 14 + r1.length := by simp; omega
        rw [this]; exact e4
      · intro c hc
        rcases List.mem_append.1 hc with hc | hc
        · have : ∀ c ∈ gRem, c ≠ 10 := by decide
          exact this c hc
        · exact e3 c hc
      · have : p + (gRem ++ r1).length = p + 14 + r1.length := by simp [gRem]; omega
        rw [this]; exact e4
    · obtain ⟨⟨a, e1⟩, _⟩ := ih false (p + 13) h2 (by simpa [gLine, Nat.add_assoc, Nat.add_comm, Nat.add_left_comm] using h)
      have e1' : Lx (ps.flatten ++ 10 :: l) (p + 13) false ts := by simpa [endOf] using e1
      have f1 : Lx (9 :: (35 :: ([32, 110, 111, 116, 104, 105, 110, 103] ++ 10 :: (ps.flatten ++ 10 :: l)))) (p + 2) false ts := by
        refine Lx.blank (.inr rfl) (Lx.remark (by decide) (.inr rfl) ?_)
        have := Lx.line (so := false) (p := p + 12) e1'
        simpa [endOf] using this
      have f2 : Lx (10 :: (9 :: (35 :: ([32, 110, 111, 116, 104, 105, 110, 103] ++ 10 :: (ps.flatten ++ 10 :: l))))) (p + 1) so (endOf so (p + 1) ++ ts) := Lx.line f1
      have hall : (gLine :: ps).flatten ++ 10 :: l = 32 :: (10 :: (9 :: (35 :: ([32, 110, 111, 116, 104, 105, 110, 103] ++ 10 :: (ps.flatten ++ 10 :: l))))) := by
        simp [gLine]
      refine ⟨⟨p + 1, ?_⟩, [32], _, p + 1, hall, by decide, f2⟩
      rw [hall]
      exact Lx.blank (.inl rfl) f2
theorem gap_head {e : Bool} {g : List UInt8} (h : GapT e g) : g = [] ∨ ∃ c r, g = c :: r ∧ (c = 32 ∨ c = 9) := by
  obtain ⟨ps, h1, rfl⟩ := h
  cases ps with
  | nil => exact .inl rfl
  | cons x ps =>
    right
    rcases h1 x (by simp) with rfl | rfl | ⟨_, rfl | rfl⟩
    · exact ⟨32, _, rfl, .inl rfl⟩
    · exact ⟨9, _, rfl, .inr rfl⟩
    · exact ⟨32, _, rfl, .inl rfl⟩
    · exact ⟨32, _, rfl, .inl rfl⟩
/-- The tokens written, with gaps ahead of each and behind the last one. -/
def blankedL : Bool → List Tok → List (List UInt8) → List UInt8
  | prev, t :: r, m :: ms => (if t.kind = 6 then m ++ [10] else (if prev = true then [32] else []) ++ (m ++ wordL t)) ++ blankedL (!(t.kind == 6)) r ms
  | _, [], m :: _ => m
  | _, _, [] => []
def GapsOk : List Tok → List (List UInt8) → Prop
  | t :: r, m :: ms => GapT (t.kind == 6) m ∧ GapsOk r ms
  | [], m :: ms => GapT false m ∧ ms = []
  | _, [] => False
theorem blanked_blank {l : List Tok} {ms : List (List UInt8)} (h : WF true l) (hm : GapsOk l ms) : blankB (peekL (blankedL true l ms)) = true := by
  cases l with
  | nil => simp [WF] at h
  | cons t r =>
    cases ms with
    | nil => simp [GapsOk] at hm
    | cons m ms =>
      rcases h with ⟨⟨h1, _⟩, _, h2⟩ | ⟨h1, _⟩
      · simp only [blankedL, h1, if_true]
        rcases gap_head hm.1 with rfl | ⟨c, x, rfl, rfl | rfl⟩ <;> simp [peekL, blankB]
      · simp [blankedL, good_kind h1, peekL, blankB]
theorem lx_blanked (l : List Tok) : ∀ (ms : List (List UInt8)) (so : Bool) (p : Nat), WF so l → GapsOk l ms → ∃ l', Lx (blankedL so l ms) p so l' ∧ sameL l' l = true := by
  induction l with
  | nil =>
    intro ms so p h hm
    obtain rfl : so = false := h
    cases ms with
    | nil => simp [GapsOk] at hm
    | cons m ms =>
      refine ⟨[], ?_, rfl⟩
      have := lx_gap hm.1 p (Lx.fin (p + m.length) false)
      simpa [blankedL, endOf] using this
  | cons t r ih =>
    intro ms so p h hm
    cases ms with
    | nil => simp [GapsOk] at hm
    | cons m ms =>
      obtain ⟨hm1, hm2⟩ := hm
      rcases h with ⟨⟨h1, h2, h3⟩, rfl, hr⟩ | ⟨hg, hr⟩
      · have hk : (t.kind == 6) = true := by simp [h1]
        rw [hk] at hm1
        obtain ⟨ps, hp, rfl⟩ := hm1
        obtain ⟨l', e1, e2⟩ := ih ms false (p + ps.flatten.length + 1) hr hm2
        obtain ⟨⟨a, e3⟩, _⟩ := lx_ends ps true p hp e1
        refine ⟨endOf true a ++ l', ?_, ?_⟩
        · simpa [blankedL, h1] using e3
        · simp [endOf, sameL, sameT, h1, h2, h3, e2]
      · have hk6 := good_kind hg
        have hk : (t.kind == 6) = false := by simp [hk6]
        rw [hk] at hm1
        have hbl := blanked_blank hr hm2
        cases so with
        | false =>
          obtain ⟨l', e1, e2⟩ := ih ms true (p + m.length + (wordL t).length) hr hm2
          refine ⟨{ t with at_ := p + m.length } :: l', ?_, by simp [sameL, sameT, e2]⟩
          have := lx_gap (so := false) hm1 p (Lx.tok (good_at hg (p + m.length)).1 rfl hbl e1)
          rw [(good_at hg (p + m.length)).2] at this
          simpa [blankedL, hk6, hk] using this
        | true =>
          obtain ⟨l', e1, e2⟩ := ih ms true (p + 1 + m.length + (wordL t).length) hr hm2
          refine ⟨{ t with at_ := p + 1 + m.length } :: l', ?_, by simp [sameL, sameT, e2]⟩
          have := Lx.blank (so := true) (.inl rfl) (lx_gap hm1 (p + 1) (Lx.tok (good_at hg (p + 1 + m.length)).1 rfl hbl e1))
          rw [(good_at hg (p + 1 + m.length)).2] at this
          simpa [blankedL, hk6, hk] using this
/-- LexBlanks' law. -/
theorem lex_blanks {s : List UInt8} (h : (lexR s).2.1 = 0) {ms : List (List UInt8)} (hm : GapsOk (lexR s).1 ms) (hl : (blankedL false (lexR s).1 ms).length ≤ 2048) :
    ∃ l', lexR (blankedL false (lexR s).1 ms) = (l', 0, 0) ∧ sameL l' (lexR s).1 = true := by
  obtain ⟨h1, h2, h3⟩ := lexR_sound h
  obtain ⟨l', e1, e2⟩ := lx_blanked _ ms false 0 (lx_wf h3) hm
  exact ⟨l', lexR_complete e1 hl, e2⟩
/-! ### Gaps by their index -/
def isEnd (l : List Tok) (k : Nat) : Bool := match l[k]? with | some t => t.kind == 6 | none => false
def GapsI (l : List Tok) (ms : List (List UInt8)) : Prop := ms.length = l.length + 1 ∧ ∀ k m, ms[k]? = some m → GapT (isEnd l k) m
theorem gaps_ok : ∀ (l : List Tok) (ms : List (List UInt8)), GapsI l ms → GapsOk l ms
  | [], ms, h => by
    obtain ⟨h1, h2⟩ := h
    cases ms with
    | nil => simp at h1
    | cons m r =>
      have h3 := h2 0 m rfl
      exact ⟨h3, by simpa using h1⟩
  | t :: l, ms, h => by
    obtain ⟨h1, h2⟩ := h
    cases ms with
    | nil => simp at h1
    | cons m r =>
      refine ⟨h2 0 m rfl, gaps_ok l r ⟨by simpa using h1, fun k x hx => ?_⟩⟩
      have := h2 (k + 1) x hx
      simpa [isEnd] using this
theorem gaps_new (l : List Tok) : GapsI l (List.replicate (l.length + 1) []) := by
  refine ⟨by simp, fun k m hm => ?_⟩
  have := List.mem_of_getElem? hm
  rw [(List.mem_replicate.1 this).2]
  exact gap_nil _
theorem gaps_set {l : List Tok} {ms : List (List UInt8)} (h : GapsI l ms) {k : Nat} {m x : List UInt8} (hm : ms[k]? = some m) (hx : Piece (isEnd l k) x) : GapsI l (ms.set k (m ++ x)) := by
  refine ⟨by rw [List.length_set]; exact h.1, fun j y hy => ?_⟩
  by_cases hjk : k = j
  · subst hjk
    have hlt := (List.getElem?_eq_some_iff.1 hm).1
    rw [List.getElem?_set_self hlt] at hy
    obtain rfl := Option.some.inj hy
    exact gap_snoc (h.2 k m hm) hx
  · rw [List.getElem?_set_ne hjk] at hy
    exact h.2 j y hy
end Go.Proofs.YtonjhdmnndffkaaDoor
