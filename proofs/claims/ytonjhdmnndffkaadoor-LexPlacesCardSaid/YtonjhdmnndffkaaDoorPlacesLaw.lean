/- LexPlaces: how the next token stands in a text. -/
import Derived.Test.YtonjhdmnndffkaaDoorLxLaw
namespace Go.Proofs.YtonjhdmnndffkaaDoor
set_option linter.unusedSimpArgs false
set_option linter.unusedVariables false
set_option maxRecDepth 100000

/-- What may stand between two tokens, as the statement looks at it. -/
inductive GapP (so : Bool) : List UInt8 → Prop
  | nil : GapP so []
  | blank {c : UInt8} {g : List UInt8} : c = 32 ∨ c = 9 ∨ (c = 10 ∧ so = false) → GapP so g → GapP so (c :: g)
  | remark {r : List UInt8} : (∀ c ∈ r, c ≠ 10) → GapP so (35 :: r)
  | remarkLine {r g : List UInt8} : (∀ c ∈ r, c ≠ 10) → GapP so g → GapP so (35 :: (r ++ 10 :: g))
theorem gap_line {so : Bool} {g : List UInt8} (h : GapP so (10 :: g)) : GapP so g := by
  cases h with
  | blank _ h => exact h
structure NextT (l : List UInt8) (p : Nat) (so : Bool) (t : Tok) (ts : List Tok) (g r : List UInt8) : Prop where
  text : l = g ++ r
  at_ : t.at_ = p + g.length
  gap : GapP so g
  rest : (t.kind = 6 ∧ so = true ∧ (r = [] ∨ r.head? = some 10) ∧ Lx r t.at_ false ts) ∨ (GoodT t ∧ ∃ r', r = wordL t ++ r' ∧ Lx r' (t.at_ + (wordL t).length) true ts)
theorem next_tok {l : List UInt8} {p : Nat} {so : Bool} {ts : List Tok} (h : Lx l p so ts) : ∀ t r, ts = t :: r → ∃ g x, NextT l p so t r g x := by
  induction h with
  | fin p so =>
    intro t r e
    cases so with
    | false => simp [endOf] at e
    | true =>
      simp only [endOf, if_true, List.cons.injEq] at e
      obtain ⟨rfl, rfl⟩ := e
      exact ⟨[], [], rfl, rfl, .nil, .inl ⟨rfl, rfl, .inl rfl, by simpa [endOf] using Lx.fin p false⟩⟩
  | @blank c l p so ts hc _ ih =>
    intro t r e
    obtain ⟨g, x, h1, h2, h3, h4⟩ := ih t r e
    exact ⟨c :: g, x, by rw [h1]; rfl, by rw [h2]; simp; omega, .blank (by rcases hc with h | h <;> simp [h]) h3, h4⟩
  | @remark r0 l p so ts hr hl _ ih =>
    intro t r e
    obtain ⟨g, x, h1, h2, h3, h4⟩ := ih t r e
    refine ⟨35 :: (r0 ++ g), x, by rw [h1]; simp, by rw [h2]; simp; omega, ?_, h4⟩
    cases g with
    | nil => rw [List.append_nil]; exact .remark hr
    | cons c g =>
      obtain rfl : c = 10 := by
        rcases hl with h | h
        · rw [h] at h1; simp at h1
        · rw [h1] at h; simpa using h
      exact .remarkLine hr (gap_line h3)
  | @line l p so ts hl ih =>
    intro t r e
    cases so with
    | false =>
      obtain ⟨g, x, h1, h2, h3, h4⟩ := ih t r (by simpa [endOf] using e)
      exact ⟨10 :: g, x, by rw [h1]; rfl, by rw [h2]; simp; omega, .blank (by simp) h3, h4⟩
    | true =>
      simp only [endOf, if_true, List.cons_append, List.nil_append, List.cons.injEq] at e
      obtain ⟨rfl, rfl⟩ := e
      exact ⟨[], 10 :: l, rfl, rfl, .nil, .inl ⟨rfl, rfl, .inr rfl, by simpa [endOf] using Lx.line (so := false) hl⟩⟩
  | @tok l p so ts t0 hg ha hb hl ih =>
    intro t r e
    simp only [List.cons.injEq] at e
    obtain ⟨rfl, rfl⟩ := e
    exact ⟨[], wordL t0 ++ l, rfl, by simp [ha], .nil, .inr ⟨hg, l, rfl, by rw [ha]; exact hl⟩⟩
theorem wf_last : ∀ (l : List Tok) (so : Bool), WF so l → ∀ t, l.getLast? = some t → t.kind = 6
  | [], _, _, t, h => by simp at h
  | [a], so, h, t, ht => by
    simp only [List.getLast?_singleton, Option.some.injEq] at ht
    subst ht
    rcases h with ⟨⟨h1, _⟩, _⟩ | ⟨_, h2⟩
    · exact h1
    · simp [WF] at h2
  | a :: b :: l, so, h, t, ht => by
    have h2 : ∃ so', WF so' (b :: l) := by
      rcases h with ⟨_, _, h⟩ | ⟨_, h⟩
      · exact ⟨_, h⟩
      · exact ⟨_, h⟩
    obtain ⟨so', h3⟩ := h2
    exact wf_last (b :: l) so' h3 t (by rw [List.getLast?_cons_cons] at ht; exact ht)
end Go.Proofs.YtonjhdmnndffkaaDoor
