/- A text's tokens as a relation; what lex.Lex computes is it. -/
import Derived.Test.YtonjhdmnndffkaaDoorTokLaw
namespace Go.Proofs.YtonjhdmnndffkaaDoor
set_option linter.unusedSimpArgs false
set_option linter.unusedVariables false
set_option maxRecDepth 100000

def endOf (so : Bool) (p : Nat) : List Tok := if so = true then [⟨6, [], 0, p⟩] else []
theorem endT_eq (so : Bool) (p : Nat) (out : List Tok) : endT so p out = out ++ endOf so p := by cases so <;> simp [endT, endOf]
/-- The text l, from place p on, the line having a token already or not, has the tokens ts. -/
inductive Lx : List UInt8 → Nat → Bool → List Tok → Prop
  | fin (p : Nat) (so : Bool) : Lx [] p so (endOf so p)
  | blank {c : UInt8} {l : List UInt8} {p : Nat} {so : Bool} {ts : List Tok} : c = 32 ∨ c = 9 → Lx l (p + 1) so ts → Lx (c :: l) p so ts
  | remark {r l : List UInt8} {p : Nat} {so : Bool} {ts : List Tok} : (∀ c ∈ r, c ≠ 10) → (l = [] ∨ l.head? = some 10) → Lx l (p + 1 + r.length) so ts → Lx (35 :: (r ++ l)) p so ts
  | line {l : List UInt8} {p : Nat} {so : Bool} {ts : List Tok} : Lx l (p + 1) false ts → Lx (10 :: l) p so (endOf so p ++ ts)
  | tok {l : List UInt8} {p : Nat} {so : Bool} {ts : List Tok} {t : Tok} : GoodT t → t.at_ = p → blankB (peekL l) = true → Lx l (p + (wordL t).length) true ts → Lx (wordL t ++ l) p so (t :: ts)

theorem index_at (r t : List UInt8) (h : ∀ c ∈ r, c ≠ 10) : Lib.indexByte (r ++ 10 :: t) 10 = r.length := by
  induction r with
  | nil => simp [Lib.indexByte]
  | cons c r ih =>
    have h1 := h c (by simp)
    have h2 := ih fun x hx => h x (by simp [hx])
    simp only [List.cons_append, Lib.indexByte]
    rw [if_neg (by simpa using h1), h2, if_neg (by simp)]
    simp
theorem index_none (r : List UInt8) (h : ∀ c ∈ r, c ≠ 10) : Lib.indexByte r 10 = -1 := by
  induction r with
  | nil => simp [Lib.indexByte]
  | cons c r ih =>
    have h1 := h c (by simp)
    have h2 := ih fun x hx => h x (by simp [hx])
    simp only [Lib.indexByte]
    rw [if_neg (by simpa using h1), h2]
    simp
theorem split10 (l : List UInt8) : ∃ r t, l = r ++ t ∧ (∀ c ∈ r, c ≠ 10) ∧ (t = [] ∨ t.head? = some 10) := by
  induction l with
  | nil => exact ⟨[], [], rfl, by simp, .inl rfl⟩
  | cons c l ih =>
    by_cases hc : c = 10
    · exact ⟨[], c :: l, rfl, by simp, .inr (by simp [hc])⟩
    · obtain ⟨r, t, rfl, h1, h2⟩ := ih
      exact ⟨c :: r, t, rfl, by simpa [hc] using h1, h2⟩
theorem rest_at {s : List UInt8} {p : Nat} {r l : List UInt8} (hs : s.drop p = 35 :: (r ++ l)) (hr : ∀ c ∈ r, c ≠ 10) (hl : l = [] ∨ l.head? = some 10) : restN s p = p + 1 + r.length ∧ s.drop (p + 1 + r.length) = l := by
  have hd : s.drop (p + 1 + r.length) = l := by
    rw [Nat.add_assoc, ← List.drop_drop, hs, Nat.add_comm, List.drop_succ_cons, List.drop_left]
  refine ⟨?_, hd⟩
  have h35 : ∀ c ∈ (35 :: r : List UInt8), c ≠ 10 := by
    intro c hc
    rcases List.mem_cons.1 hc with rfl | hc
    · decide
    · exact hr c hc
  have hlen := congrArg List.length hs
  simp only [List.length_drop, List.length_cons, List.length_append] at hlen
  unfold restN
  rw [hs]
  cases l with
  | nil =>
    rw [List.append_nil, index_none _ h35, if_neg (by decide)]
    simp at hlen
    omega
  | cons c t =>
    obtain rfl : c = 10 := by simpa using hl
    rw [show 35 :: (r ++ 10 :: t) = (35 :: r) ++ 10 :: t from rfl, index_at _ _ h35, if_pos (by omega)]
    simp; omega
theorem lx_sound (s : List UInt8) (k : Nat) : ∀ (p : Nat) (so : Bool) (out : List Tok), p ≤ s.length → s.length < k + p →
    ((lexL s k p so out).2.1 = 0 → ∃ ts, (lexL s k p so out).1 = out ++ ts ∧ (lexL s k p so out).2.2 = 0 ∧ Lx (s.drop p) p so ts) ∧
    ((lexL s k p so out).2.1 ≠ 0 → (lexL s k p so out).1 = [] ∧ (lexL s k p so out).2.2 ≤ s.length) := by
  induction k with
  | zero => intro p so out h1 h2; omega
  | succ k ih =>
    intro p so out hp hk
    by_cases hb : peekL (s.drop p) = 32 ∨ peekL (s.drop p) = 9
    · have hlt := peek_in (s := s) (p := p) (by rcases hb with h | h <;> rw [h] <;> decide)
      rw [lexL_blank hb]
      obtain ⟨h1, h2⟩ := ih (p + 1) so out (by omega) (by omega)
      refine ⟨fun h => ?_, h2⟩
      obtain ⟨ts, e1, e2, e3⟩ := h1 h
      refine ⟨ts, e1, e2, ?_⟩
      have hd := List.drop_eq_getElem_cons hlt
      rw [hd] at hb ⊢
      refine Lx.blank ?_ e3
      rcases hb with h | h
      · exact .inl (UInt8.toNat_inj.1 (by simp only [peekL] at h; show s[p].toNat = 32; omega))
      · exact .inr (UInt8.toNat_inj.1 (by simp only [peekL] at h; show s[p].toNat = 9; omega))
    have h32 : peekL (s.drop p) ≠ 32 := fun h => hb (.inl h)
    have h9 : peekL (s.drop p) ≠ 9 := fun h => hb (.inr h)
    by_cases h35 : peekL (s.drop p) = 35
    · rw [lexL_remark h35]
      obtain ⟨hin1, hin2⟩ := restN_in h35 hp
      obtain ⟨h1, h2⟩ := ih (restN s p) so out hin2 (by omega)
      refine ⟨fun h => ?_, h2⟩
      obtain ⟨ts, e1, e2, e3⟩ := h1 h
      refine ⟨ts, e1, e2, ?_⟩
      obtain ⟨c, x, hx, hc⟩ := peek_byte (x := 35) h35 (by decide)
      obtain rfl : c = 35 := UInt8.toNat_inj.1 hc
      obtain ⟨r, t, rfl, hr, ht⟩ := split10 x
      obtain ⟨hq, hd⟩ := rest_at hx hr ht
      rw [hq, hd] at e3
      rw [hx]
      exact Lx.remark hr ht e3
    by_cases h10 : peekL (s.drop p) = 10
    · by_cases hps : p = s.length
      · rw [lexL_end h10 hps]
        refine ⟨fun _ => ⟨endOf so p, endT_eq _ _ _, rfl, ?_⟩, fun h => absurd rfl h⟩
        rw [List.drop_eq_nil_of_le (by omega)]
        exact Lx.fin p so
      · rw [lexL_line h10 hps]
        obtain ⟨h1, h2⟩ := ih (p + 1) false (endT so p out) (by omega) (by omega)
        refine ⟨fun h => ?_, h2⟩
        obtain ⟨ts, e1, e2, e3⟩ := h1 h
        refine ⟨endOf so p ++ ts, by rw [e1, endT_eq, List.append_assoc], e2, ?_⟩
        have hd := List.drop_eq_getElem_cons (l := s) (i := p) (by omega)
        have hc : s[p]'(by omega) = 10 := UInt8.toNat_inj.1 (by rw [hd] at h10; simp only [peekL] at h10; show (s[p]'(by omega)).toNat = 10; omega)
        rw [hd, hc]
        exact Lx.line e3
    · by_cases he : (tokR s p).2.1 = 0
      · rw [lexL_tok h32 h9 h35 h10 he]
        have hle := tokR_le (s := s) hp
        have hlt := tokR_lt hp he
        obtain ⟨⟨t, e, q⟩, hT⟩ : ∃ X, tokR s p = X := ⟨_, rfl⟩
        rw [hT] at he hle hlt ⊢
        simp only at he hle hlt ⊢
        subst he
        have hA := tok_sound hp hT
        obtain ⟨h1, h2⟩ := ih q true (out ++ [t]) hle.1 (by omega)
        refine ⟨fun h => ?_, h2⟩
        obtain ⟨ts, e1, e2, e3⟩ := h1 h
        refine ⟨t :: ts, by rw [e1]; simp, e2, ?_⟩
        rw [hA.text]
        exact Lx.tok hA.good hA.at_ hA.ends (hA.to ▸ e3)
      · rw [lexL_bad h32 h9 h35 h10 he]
        exact ⟨fun h => absurd h he, fun _ => ⟨rfl, (tokR_le hp).1⟩⟩
theorem lx_complete {s : List UInt8} {l : List UInt8} {p : Nat} {so : Bool} {ts : List Tok} (h : Lx l p so ts) : ∀ (k : Nat) (out : List Tok), s.drop p = l → p ≤ s.length → s.length < k + p → lexL s k p so out = (out ++ ts, 0, 0) := by
  induction h with
  | fin p so =>
    intro k out hs hp hk
    obtain ⟨k, rfl⟩ : ∃ j, k = j + 1 := ⟨k - 1, by omega⟩
    have hps : p = s.length := by
      have := congrArg List.length hs
      simp at this
      omega
    rw [lexL_end (by rw [hs]; rfl) hps, endT_eq]
  | @blank c l p so ts hc _ ih =>
    intro k out hs hp hk
    obtain ⟨k, rfl⟩ : ∃ j, k = j + 1 := ⟨k - 1, by omega⟩
    have hlen := congrArg List.length hs
    simp only [List.length_drop, List.length_cons] at hlen
    rw [lexL_blank (by rw [hs]; rcases hc with rfl | rfl <;> simp [peekL])]
    exact ih k out (by rw [← List.drop_drop, hs]; rfl) (by omega) (by omega)
  | @remark r l p so ts hr hl _ ih =>
    intro k out hs hp hk
    obtain ⟨k, rfl⟩ : ∃ j, k = j + 1 := ⟨k - 1, by omega⟩
    have hlen := congrArg List.length hs
    simp only [List.length_drop, List.length_cons, List.length_append] at hlen
    obtain ⟨hq, hd⟩ := rest_at hs hr hl
    rw [lexL_remark (by rw [hs]; rfl), hq]
    exact ih k out hd (by omega) (by omega)
  | @line l p so ts _ ih =>
    intro k out hs hp hk
    obtain ⟨k, rfl⟩ : ∃ j, k = j + 1 := ⟨k - 1, by omega⟩
    have hlen := congrArg List.length hs
    simp only [List.length_drop, List.length_cons] at hlen
    rw [lexL_line (by rw [hs]; rfl) (by omega), ih k _ (by rw [← List.drop_drop, hs]; rfl) (by omega) (by omega), endT_eq, List.append_assoc]
  | @tok l p so ts t hg ha hb _ ih =>
    intro k out hs hp hk
    obtain ⟨k, rfl⟩ : ∃ j, k = j + 1 := ⟨k - 1, by omega⟩
    have hT := tok_complete hg ha hs hb
    obtain ⟨c, r, hw, c1, c2, c3, c4⟩ := good_head hg
    have hpk : peekL (s.drop p) = (c.toNat : Int) := by rw [hs, hw]; rfl
    have hne : ∀ x : UInt8, c ≠ x → peekL (s.drop p) ≠ (x.toNat : Int) := fun x hx h => hx (UInt8.toNat_inj.1 (by omega))
    have hlen := congrArg List.length hs
    simp only [List.length_drop, List.length_append] at hlen
    have hw1 : 0 < (wordL t).length := by rw [hw]; simp
    have hT1 : (tokR s p).1 = t := by rw [hT]
    have hT2 : (tokR s p).2.1 = 0 := by rw [hT]
    have hT3 : (tokR s p).2.2 = p + (wordL t).length := by rw [hT]
    rw [lexL_tok (hne 32 c1) (hne 9 c2) (hne 35 c4) (hne 10 c3) hT2, hT1, hT3, ih k _ (by rw [← List.drop_drop, hs, List.drop_left]) (by omega) (by omega)]
    simp
theorem lexR_sound {s : List UInt8} (h : (lexR s).2.1 = 0) : (lexR s).2.2 = 0 ∧ s.length ≤ 2048 ∧ Lx s 0 false (lexR s).1 := by
  unfold lexR at h ⊢
  split
  · rename_i hs
    rw [if_pos hs] at h
    obtain ⟨ts, e1, e2, e3⟩ := (lx_sound s (s.length + 1) 0 false [] (by omega) (by omega)).1 h
    rw [e1]
    exact ⟨e2, hs, by simpa using e3⟩
  · rename_i hs
    rw [if_neg hs] at h
    simp at h
theorem lexR_bad {s : List UInt8} (h : (lexR s).2.1 ≠ 0) : (lexR s).1 = [] ∧ (lexR s).2.2 ≤ s.length := by
  unfold lexR at h ⊢
  split
  · rename_i hs
    rw [if_pos hs] at h
    exact (lx_sound s (s.length + 1) 0 false [] (by omega) (by omega)).2 h
  · exact ⟨rfl, by simp only; omega⟩
theorem lexR_complete {s : List UInt8} {ts : List Tok} (h : Lx s 0 false ts) (hs : s.length ≤ 2048) : lexR s = (ts, 0, 0) := by
  unfold lexR
  rw [if_pos hs, lx_complete h (s.length + 1) [] rfl (by omega) (by omega)]
  rfl

/-! ### Well-formed lists of tokens, and their texts -/
def EndT (t : Tok) : Prop := t.kind = 6 ∧ t.text = [] ∧ t.n = 0
def WF : Bool → List Tok → Prop
  | so, [] => so = false
  | so, t :: r => (EndT t ∧ so = true ∧ WF false r) ∨ (GoodT t ∧ WF true r)
theorem lx_wf {l : List UInt8} {p : Nat} {so : Bool} {ts : List Tok} (h : Lx l p so ts) : WF so ts := by
  induction h with
  | fin p so => cases so <;> simp [endOf, WF, EndT]
  | blank _ _ ih => exact ih
  | remark _ _ _ ih => exact ih
  | @line l p so ts _ ih =>
    cases so
    · simpa [endOf] using ih
    · exact .inl ⟨⟨rfl, rfl, rfl⟩, rfl, ih⟩
  | tok hg _ _ _ ih => exact .inr ⟨hg, ih⟩
theorem good_kind {t : Tok} (h : GoodT t) : t.kind ≠ 6 := by
  rcases h with ⟨h | h, _⟩ | ⟨h, _⟩ | ⟨h, _⟩ | ⟨h, _⟩ <;> rw [h] <;> decide
def writtenL : Bool → List Tok → List UInt8
  | _, [] => []
  | prev, t :: r => (if t.kind = 6 then (if r = [] then [] else [10]) else (if prev = true then [32] else []) ++ wordL t) ++ writtenL (!(t.kind == 6)) r
def sameT (a b : Tok) : Bool := (a.kind == b.kind) && ((a.text == b.text) && (a.n == b.n))
def sameL : List Tok → List Tok → Bool
  | [], [] => true
  | a :: l, b :: r => sameT a b && sameL l r
  | _, _ => false
theorem same_word {a b : Tok} (h : sameT a b = true) : wordL a = wordL b ∧ a.kind = b.kind := by
  simp only [sameT, Bool.and_eq_true, beq_iff_eq] at h
  obtain ⟨h1, h2, h3⟩ := h
  simp only [wordL, h1, h2, h3, and_self]
theorem same_nil {l r : List Tok} (h : sameL l r = true) : l = [] ↔ r = [] := by
  cases l <;> cases r <;> simp [sameL] at h ⊢
theorem same_written : ∀ (l r : List Tok) (so : Bool), sameL l r = true → writtenL so l = writtenL so r
  | [], [], _, _ => rfl
  | a :: l, b :: r, so, h => by
    simp only [sameL, Bool.and_eq_true] at h
    obtain ⟨h1, h2⟩ := same_word h.1
    simp only [writtenL, h1, h2, same_nil h.2, same_written l r _ h.2]
  | [], _ :: _, _, h => by simp [sameL] at h
  | _ :: _, [], _, h => by simp [sameL] at h
theorem good_at {t : Tok} (h : GoodT t) (p : Nat) : GoodT { t with at_ := p } ∧ wordL { t with at_ := p } = wordL t := ⟨h, rfl⟩
theorem written_blank {l : List Tok} (h : WF true l) : blankB (peekL (writtenL true l)) = true := by
  cases l with
  | nil => simp [WF] at h
  | cons t r =>
    rcases h with ⟨⟨h1, _⟩, _, h2⟩ | ⟨h1, _⟩
    · simp only [writtenL, h1, if_true]
      by_cases hr : r = []
      · subst hr; simp [writtenL, peekL, blankB]
      · simp [hr, peekL, blankB]
    · simp [writtenL, good_kind h1, peekL, blankB]
/-- What is written has the same tokens again. -/
theorem lx_written (l : List Tok) : ∀ (so : Bool) (p : Nat), WF so l → ∃ l', Lx (writtenL so l) p so l' ∧ sameL l' l = true := by
  induction l with
  | nil =>
    intro so p h
    obtain rfl : so = false := h
    exact ⟨[], Lx.fin p false, rfl⟩
  | cons t r ih =>
    intro so p h
    rcases h with ⟨⟨h1, h2, h3⟩, rfl, hr⟩ | ⟨hg, hr⟩
    · have hk : (!(t.kind == 6)) = false := by simp [h1]
      by_cases hn : r = []
      · subst hn
        refine ⟨_, by simpa [writtenL, h1] using Lx.fin p true, ?_⟩
        simp [endOf, sameL, sameT, h1, h2, h3]
      · obtain ⟨l', e1, e2⟩ := ih false (p + 1) hr
        refine ⟨endOf true p ++ l', ?_, ?_⟩
        · simp only [writtenL, h1, if_true, if_neg hn]
          exact Lx.line e1
        · simp [endOf, sameL, sameT, h1, h2, h3, e2]
    · have hk6 := good_kind hg
      have hk : (!(t.kind == 6)) = true := by simp [hk6]
      have hbl := written_blank hr
      cases so with
      | false =>
        obtain ⟨l', e1, e2⟩ := ih true (p + (wordL t).length) hr
        refine ⟨{ t with at_ := p } :: l', ?_, by simp [sameL, sameT, e2]⟩
        simp only [writtenL, if_neg hk6, hk, Bool.false_eq_true, if_false, List.nil_append]
        exact Lx.tok (good_at hg p).1 rfl hbl e1
      | true =>
        obtain ⟨l', e1, e2⟩ := ih true (p + 1 + (wordL t).length) hr
        refine ⟨{ t with at_ := p + 1 } :: l', ?_, by simp [sameL, sameT, e2]⟩
        simp only [writtenL, if_neg hk6, hk, if_true, List.append_assoc, List.cons_append, List.nil_append]
        exact Lx.blank (.inl rfl) (Lx.tok (good_at hg (p + 1)).1 rfl hbl e1)
theorem written_len {l : List UInt8} {p : Nat} {so : Bool} {ts : List Tok} (h : Lx l p so ts) :
    (writtenL so ts).length ≤ l.length + (if so = true then 1 else 0) ∧ (blankB (peekL l) = true → (writtenL so ts).length ≤ l.length) := by
  induction h with
  | fin p so => cases so <;> simp [endOf, writtenL]
  | @blank c l p so ts _ _ ih =>
    have := ih.1
    refine ⟨?_, fun _ => ?_⟩ <;> simp only [List.length_cons] <;> split at this <;> (try split) <;> omega
  | @remark r l p so ts _ _ _ ih =>
    have := ih.1
    refine ⟨?_, fun h => ?_⟩
    · simp only [List.length_cons, List.length_append]
      split at this <;> omega
    · simp [peekL, blankB] at h
  | @line l p so ts _ ih =>
    have := ih.1
    simp only [Bool.false_eq_true, if_false, Nat.add_zero] at this
    cases so with
    | false => simp only [endOf, Bool.false_eq_true, if_false, List.nil_append, List.length_cons]; omega
    | true =>
      have hl : (writtenL true (endOf true p ++ ts)).length ≤ 1 + l.length := by
        simp only [endOf, if_true, List.cons_append, List.nil_append, writtenL, List.length_append]
        have h6 : (!((6 : Int) == 6)) = false := by decide
        rw [h6]
        split <;> simp <;> omega
      simp only [List.length_cons, if_true]
      omega
  | @tok l p so ts t hg _ hb _ ih =>
    have := ih.2 hb
    have hk6 := good_kind hg
    have hk : (!(t.kind == 6)) = true := by simp [hk6]
    obtain ⟨c, r, hw, c1, c2, c3, c4⟩ := good_head hg
    simp only [writtenL, if_neg hk6, hk, List.length_append]
    refine ⟨?_, fun h => ?_⟩
    · cases so <;> simp <;> omega
    · rw [hw] at h
      simp only [List.cons_append, peekL, blankB, Bool.or_eq_true, beq_iff_eq] at h
      have hx : c.toNat = 32 ∨ c.toNat = 9 ∨ c.toNat = 10 := by omega
      rcases hx with h | h | h
      · exact absurd (UInt8.toNat_inj.1 h) c1
      · exact absurd (UInt8.toNat_inj.1 h) c2
      · exact absurd (UInt8.toNat_inj.1 h) c3
/-- LexBack's law. -/
theorem lex_back {s : List UInt8} (h : (lexR s).2.1 = 0) : (writtenL false (lexR s).1).length ≤ s.length ∧ ∃ l', lexR (writtenL false (lexR s).1) = (l', 0, 0) ∧ sameL l' (lexR s).1 = true ∧ writtenL false l' = writtenL false (lexR s).1 := by
  obtain ⟨h1, h2, h3⟩ := lexR_sound h
  have hl := (written_len h3).1
  simp only [Bool.false_eq_true, if_false, Nat.add_zero] at hl
  obtain ⟨l', e1, e2⟩ := lx_written _ false 0 (lx_wf h3)
  exact ⟨hl, l', lexR_complete e1 (by omega), e2, same_written _ _ _ e2⟩
def TokFit (t : Tok) : Prop := t.text.length ≤ 64 ∧ 0 ≤ t.n ∧ t.n < 10000
theorem wf_fit : ∀ (l : List Tok) (so : Bool), WF so l → ∀ t ∈ l, TokFit t
  | [], _, _ => by simp
  | t :: r, so, h => by
    have h1 : TokFit t ∧ ∃ so', WF so' r := by
      rcases h with ⟨⟨h1, h2, h3⟩, _, hr⟩ | ⟨hg, hr⟩
      · exact ⟨⟨by simp [h2], by omega, by omega⟩, _, hr⟩
      · refine ⟨?_, _, hr⟩
        rcases hg with ⟨_, hn, _, h16, _⟩ | ⟨_, ht, h0, h1⟩ | ⟨_, hn, h64⟩ | ⟨_, hn, hx⟩
        · exact ⟨by omega, by omega, by omega⟩
        · exact ⟨by simp [ht], h0, h1⟩
        · exact ⟨h64, by omega, by omega⟩
        · exact ⟨by rcases hx with h | h | h <;> rw [h] <;> decide, by omega, by omega⟩
    obtain ⟨h2, so', h3⟩ := h1
    intro x hx
    rcases List.mem_cons.1 hx with rfl | hx
    · exact h2
    · exact wf_fit r so' h3 x hx
theorem lx_count {l : List UInt8} {p : Nat} {so : Bool} {ts : List Tok} (h : Lx l p so ts) : ts.length ≤ l.length + 1 := by
  induction h with
  | fin p so => cases so <;> simp [endOf]
  | @blank c l p so ts _ _ ih => simp only [List.length_cons]; omega
  | @remark r l p so ts _ _ _ ih => simp only [List.length_cons, List.length_append]; omega
  | @line l p so ts _ ih => cases so <;> simp [endOf] <;> omega
  | @tok l p so ts t hg _ hb _ ih =>
    obtain ⟨c, r, hw, _⟩ := good_head hg
    rw [hw]
    simp only [List.length_cons, List.length_append]
    omega
end Go.Proofs.YtonjhdmnndffkaaDoor
