/- A token stands in the text as it would be written; what is written is read back. -/
import Derived.Test.YtonjhdmnndffkaaDoorSignLaw
import Derived.Test.YtonjhdmnndffkaaDoorLexPure
namespace Go.Proofs.YtonjhdmnndffkaaDoor
set_option linter.unusedSimpArgs false
set_option linter.unusedVariables false
set_option maxRecDepth 100000

def wordL (t : Tok) : List UInt8 := if t.kind == 2 then t.text ++ [58] else if t.kind == 3 then Lib.itoa t.n else if t.kind == 4 then quoteL t.text else t.text
def WordT (l : List UInt8) : Prop := l ≠ [] ∧ l.length ≤ 16 ∧ (97 ≤ peekL l ∧ peekL l ≤ 122) ∧ ∀ c ∈ l, smallB c.toNat = true
/-- A token that may be read (no line's end). -/
def GoodT (t : Tok) : Prop :=
  ((t.kind = 1 ∨ t.kind = 2) ∧ t.n = 0 ∧ WordT t.text) ∨ (t.kind = 3 ∧ t.text = [] ∧ 0 ≤ t.n ∧ t.n < 10000) ∨ (t.kind = 4 ∧ t.n = 0 ∧ t.text.length ≤ 64) ∨
  (t.kind = 5 ∧ t.n = 0 ∧ (t.text = [60] ∨ t.text = [123] ∨ t.text = [125]))
theorem runN_eq (may : Int → Bool) (a b : List UInt8) (ha : ∀ c ∈ a, may c.toNat = true) (hb : ∀ c r, b = c :: r → may c.toNat = false) : runN may (a ++ b) = a.length := by
  induction a with
  | nil =>
    cases b with
    | nil => simp [runN]
    | cons c r => simp [runN, hb c r rfl]
  | cons x a ih =>
    have h1 := ha x (by simp)
    have h2 := ih fun c hc => ha c (by simp [hc])
    simp only [runN, List.cons_append, List.takeWhile_cons, h1, if_true, List.length_cons] at h2 ⊢
    rw [h2]
theorem runN_all (may : Int → Bool) (l : List UInt8) : ∀ x ∈ l.take (runN may l), may x.toNat = true := by
  induction l with
  | nil => simp
  | cons c l ih =>
    unfold runN at ih ⊢
    by_cases h : may c.toNat = true
    · simp only [List.takeWhile_cons, h, if_true, List.length_cons, List.take_succ_cons, List.mem_cons]
      rintro x (rfl | hx)
      · exact h
      · exact ih x hx
    · simp [List.takeWhile_cons, h]
theorem peek_take (l : List UInt8) (k : Nat) (h : 0 < k) : peekL (l.take k) = peekL l := by
  cases l with
  | nil => simp
  | cons c r => obtain ⟨j, rfl⟩ : ∃ j, k = j + 1 := ⟨k - 1, by omega⟩; simp [peekL]
theorem peek_app (a b : List UInt8) (h : a ≠ []) : peekL (a ++ b) = peekL a := by
  cases a with
  | nil => exact absurd rfl h
  | cons c r => rfl
theorem peek_byte {l : List UInt8} {x : Nat} (h : peekL l = x) (h10 : x ≠ 10) : ∃ c r, l = c :: r ∧ c.toNat = x := by
  cases l with
  | nil => simp [peekL] at h; omega
  | cons c r => exact ⟨c, r, rfl, by simp only [peekL] at h; omega⟩
theorem take_pre {s : List UInt8} {p k : Nat} (h : p + k ≤ s.length) : s.drop p = (s.drop p).take k ++ s.drop (p + k) := by
  rw [← List.drop_drop]; exact (List.take_append_drop k (s.drop p)).symm

/-- Sound: what is read stands there. -/
structure TokAt (s : List UInt8) (p : Nat) (t : Tok) (q : Nat) : Prop where
  good : GoodT t
  at_ : t.at_ = p
  text : s.drop p = wordL t ++ s.drop q
  to : q = p + (wordL t).length
  ends : blankB (peekL (s.drop q)) = true
theorem tokFin_ok {s : List UInt8} {t t' : Tok} {q q' : Nat} (h : tokFin s t q = (t', 0, q')) : t = t' ∧ q = q' ∧ blankB (peekL (s.drop q)) = true := by
  unfold tokFin at h
  simp only [Prod.mk.injEq] at h
  obtain ⟨h1, h2, h3⟩ := h
  refine ⟨h1, h3, ?_⟩
  by_cases hb : blankB (peekL (s.drop q)) = true
  · exact hb
  · rw [if_neg hb] at h2; simp at h2
theorem wordL1 (x : List UInt8) (n : Int) (p : Nat) : wordL ⟨1, x, n, p⟩ = x := by simp [wordL]
theorem wordL2 (x : List UInt8) (n : Int) (p : Nat) : wordL ⟨2, x, n, p⟩ = x ++ [58] := by simp [wordL]
theorem wordL3 (x : List UInt8) (n : Int) (p : Nat) : wordL ⟨3, x, n, p⟩ = Lib.itoa n := by simp [wordL]
theorem wordL4 (x : List UInt8) (n : Int) (p : Nat) : wordL ⟨4, x, n, p⟩ = quoteL x := by simp [wordL]
theorem wordL5 (x : List UInt8) (n : Int) (p : Nat) : wordL ⟨5, x, n, p⟩ = x := by simp [wordL]
theorem tok_sound {s : List UInt8} {p : Nat} {t : Tok} {q : Nat} (hp : p ≤ s.length) (h : tokR s p = (t, 0, q)) : TokAt s p t q := by
  unfold tokR at h
  simp only at h
  have hlen : (s.drop p).length = s.length - p := List.length_drop
  have hA := runN_len smallB (s.drop p)
  have hB := runN_len digitB (s.drop p)
  split at h
  · rename_i h1
    have hpos := runN_pos smallB (s.drop p) (by omega) (by simp [smallB]; omega)
    split at h
    · rename_i h16
      have hw : WordT ((s.drop p).take (runN smallB (s.drop p))) := by
        refine ⟨?_, by rw [List.length_take]; omega, ?_, runN_all _ _⟩
        · intro hx; have := congrArg List.length hx; rw [List.length_take] at this; simp at this; omega
        · rw [peek_take _ _ hpos]; exact h1
      split at h
      · rename_i h58
        obtain ⟨rfl, rfl, hb⟩ := tokFin_ok h
        have h58' : peekL (s.drop (p + runN smallB (s.drop p))) = (58 : Nat) := by simpa using h58
        obtain ⟨c, r, hcr, hc⟩ := peek_byte h58' (by decide)
        obtain rfl : c = 58 := UInt8.toNat_inj.1 hc
        have hlt : p + runN smallB (s.drop p) < s.length := by
          have := congrArg List.length hcr; rw [List.length_drop] at this; simp at this; omega
        have h3 := take_pre (s := s) (p := p) (k := runN smallB (s.drop p)) (by omega)
        have h4 : s.drop (p + runN smallB (s.drop p) + 1) = r := by rw [← List.drop_drop, hcr]; rfl
        refine ⟨.inl ⟨.inr rfl, rfl, hw⟩, rfl, ?_, ?_, hb⟩
        · rw [wordL2, h4, List.append_assoc]
          rw [hcr] at h3
          exact h3
        · rw [wordL2, List.length_append, List.length_take]; simp; omega
      · obtain ⟨rfl, rfl, hb⟩ := tokFin_ok h
        refine ⟨.inl ⟨.inl rfl, rfl, hw⟩, rfl, ?_, ?_, hb⟩
        · rw [wordL1]; exact take_pre (by omega)
        · rw [wordL1, List.length_take]; omega
    · simp at h
  · rename_i h1
    split at h
    · rename_i h48
      obtain ⟨rfl, rfl, hb⟩ := tokFin_ok h
      have h48' : peekL (s.drop p) = (48 : Nat) := by simpa using h48
      obtain ⟨c, r, hcr, hc⟩ := peek_byte h48' (by decide)
      obtain rfl : c = 48 := UInt8.toNat_inj.1 hc
      have h4 : s.drop (p + 1) = r := by rw [← List.drop_drop, hcr]; rfl
      have hi : Lib.itoa 0 = [48] := by decide +kernel
      refine ⟨.inr (.inl ⟨rfl, rfl, by simp, by simp⟩), rfl, ?_, ?_, hb⟩
      · rw [wordL3, hi, h4, hcr]; rfl
      · rw [wordL3, hi]; rfl
    · rename_i h48
      split at h
      · rename_i h49
        have hpos := runN_pos digitB (s.drop p) (by omega) (by simp [digitB]; omega)
        split at h
        · rename_i h4
          obtain ⟨rfl, rfl, hb⟩ := tokFin_ok h
          have hlk : ((s.drop p).take (runN digitB (s.drop p))).length = runN digitB (s.drop p) := by rw [List.length_take]; omega
          obtain ⟨k, hk⟩ : ∃ k, runN digitB (s.drop p) = k + 1 := ⟨runN digitB (s.drop p) - 1, by omega⟩
          have hhead : ((s.drop p).take (runN digitB (s.drop p))).head? ≠ some 48 := by
            intro hx
            cases hc : s.drop p with
            | nil => rw [hc] at hx; simp at hx
            | cons c r =>
              rw [hc, show runN digitB (c :: r) = k + 1 by rw [← hc]; exact hk, List.take_succ_cons] at hx
              obtain rfl : c = 48 := by simpa using hx
              rw [hc] at h48
              simp [peekL] at h48
          obtain ⟨hn1, hn2⟩ := num_dec k _ (by omega) (runN_all digitB (s.drop p)) hhead
          have hi : Lib.itoa (numL ((s.drop p).take (runN digitB (s.drop p)))) = (s.drop p).take (runN digitB (s.drop p)) := by
            unfold Lib.itoa; rw [if_neg (by omega)]; exact hn2
          refine ⟨.inr (.inl ⟨rfl, rfl, by simp only; omega, ?_⟩), rfl, ?_, ?_, hb⟩
          · have hbd : ∀ l : List UInt8, l.length ≤ 4 → (∀ d ∈ l, digitB d.toNat = true) → numL l < 10000 := by
              intro l hl hd
              match l with
              | [] => simp [numL]
              | [a] => have := hd a (by simp); simp [digitB] at this; simp [numL]; omega
              | [a, b] => have := hd a (by simp); have h2 := hd b (by simp); simp [digitB] at this h2; simp [numL]; omega
              | [a, b, c] => have := hd a (by simp); have h2 := hd b (by simp); have h3 := hd c (by simp); simp [digitB] at this h2 h3; simp [numL]; omega
              | [a, b, c, d] => have := hd a (by simp); have h2 := hd b (by simp); have h3 := hd c (by simp); have h4 := hd d (by simp); simp [digitB] at this h2 h3 h4; simp [numL]; omega
              | a :: b :: c :: d :: e :: r => simp at hl
            exact hbd _ (by omega) (runN_all digitB (s.drop p))
          · rw [wordL3, hi]; exact take_pre (by omega)
          · rw [wordL3, hi, hlk]
        · simp at h
      · rename_i h49
        split at h
        · rename_i h34
          obtain ⟨⟨x, n, e, a⟩, hQ⟩ : ∃ Q, quotedR (s.drop p) 64 = Q := ⟨_, rfl⟩
          rw [hQ] at h
          simp only at h
          split at h
          · rename_i h0
            obtain rfl : e = 0 := by simpa using h0
            obtain ⟨rfl, rfl, hb⟩ := tokFin_ok h
            obtain ⟨⟨r, hr⟩, hn, hx⟩ := quoted_sound (m := 64) hQ
            have h4 : s.drop (p + n.toNat) = r := by rw [← List.drop_drop, hn, hr, Int.toNat_natCast, List.drop_left]
            refine ⟨.inr (.inr (.inl ⟨rfl, rfl, hx⟩)), rfl, ?_, ?_, hb⟩
            · rw [wordL4, h4]; exact hr
            · rw [wordL4, hn]; simp
          · rename_i h0
            simp only [Prod.mk.injEq] at h
            exact absurd h.2.1 (by simpa using h0)
        · rename_i h34
          split at h
          · rename_i h60
            obtain ⟨rfl, rfl, hb⟩ := tokFin_ok h
            have hx : ∃ c r, s.drop p = c :: r ∧ (c = 60 ∨ c = 123 ∨ c = 125) := by
              simp only [Bool.or_eq_true, beq_iff_eq] at h60
              rcases h60 with h | h | h
              · obtain ⟨c, r, h1, h2⟩ := peek_byte (x := 60) h (by decide); exact ⟨c, r, h1, .inl (UInt8.toNat_inj.1 h2)⟩
              · obtain ⟨c, r, h1, h2⟩ := peek_byte (x := 123) h (by decide); exact ⟨c, r, h1, .inr (.inl (UInt8.toNat_inj.1 h2))⟩
              · obtain ⟨c, r, h1, h2⟩ := peek_byte (x := 125) h (by decide); exact ⟨c, r, h1, .inr (.inr (UInt8.toNat_inj.1 h2))⟩
            obtain ⟨c, r, hcr, hc⟩ := hx
            have h4 : s.drop (p + 1) = r := by rw [← List.drop_drop, hcr]; rfl
            refine ⟨.inr (.inr (.inr ⟨rfl, rfl, ?_⟩)), rfl, ?_, ?_, hb⟩
            · rw [hcr]; rcases hc with rfl | rfl | rfl <;> simp
            · rw [wordL5, h4, hcr]; rfl
            · rw [wordL5, hcr]; rfl
          · simp at h

theorem blank_not_small {l : List UInt8} (h : blankB (peekL l) = true) : ∀ c r, l = c :: r → smallB c.toNat = false := by
  rintro c r rfl
  simp only [peekL, blankB, Bool.or_eq_true, beq_iff_eq] at h
  rcases h with h | h | h <;> rw [h] <;> decide
theorem blank_not_digit {l : List UInt8} (h : blankB (peekL l) = true) : ∀ c r, l = c :: r → digitB c.toNat = false := by
  rintro c r rfl
  simp only [peekL, blankB, Bool.or_eq_true, beq_iff_eq] at h
  rcases h with h | h | h <;> rw [h] <;> decide
theorem dec_len (k : Nat) : ∀ n : Nat, n < 10 ^ (k + 1) → (Lib.decDigits n).length ≤ k + 1 := by
  induction k with
  | zero => intro n hn; unfold Lib.decDigits; rw [dif_pos (by simpa using hn)]; simp
  | succ k ih =>
    intro n hn
    unfold Lib.decDigits
    split
    · simp
    · have := ih (n / 10) (by rw [Nat.pow_succ] at hn; omega)
      simp only [List.length_append, List.length_cons, List.length_nil]
      omega
/-- Complete: what is written is read. -/
theorem tok_complete {s : List UInt8} {p : Nat} {t : Tok} {l : List UInt8} (hg : GoodT t) (ha : t.at_ = p) (hs : s.drop p = wordL t ++ l) (hb : blankB (peekL l) = true) : tokR s p = (t, 0, p + (wordL t).length) := by
  have hrest : ∀ k, (s.drop (p + k)) = (wordL t ++ l).drop k := fun k => by rw [← List.drop_drop, hs]
  obtain ⟨kind, text, n, at_⟩ := t
  simp only at ha hg
  subst ha
  unfold tokR
  simp only [hs]
  unfold GoodT WordT at hg
  simp only at hg
  rcases hg with ⟨hk, rfl, hne, h16, hpk, hsm⟩ | ⟨rfl, rfl, h0, h1⟩ | ⟨rfl, rfl, h64⟩ | ⟨rfl, rfl, hx⟩
  · have hp2 : peekL (wordL ⟨kind, text, 0, at_⟩ ++ l) = peekL text := by
      rcases hk with rfl | rfl
      · rw [wordL1, peek_app _ _ hne]
      · rw [wordL2, List.append_assoc, peek_app _ _ hne]
    rw [hp2, if_pos hpk]
    have hrun : runN smallB (wordL ⟨kind, text, 0, at_⟩ ++ l) = text.length := by
      rcases hk with rfl | rfl
      · rw [wordL1]; exact runN_eq _ _ _ hsm (blank_not_small hb)
      · have h58 : ∀ c r, [58] ++ l = c :: r → smallB c.toNat = false := by
          rintro c r h
          obtain rfl : c = 58 := (List.cons.inj h).1.symm
          decide
        rw [wordL2, List.append_assoc]; exact runN_eq _ _ _ hsm h58
    rw [hrun, if_pos h16, hrest]
    rcases hk with rfl | rfl
    · have hd : (wordL ⟨1, text, 0, at_⟩ ++ l).drop text.length = l := by rw [wordL1]; exact List.drop_left
      rw [hd]
      have h58 : ¬ (peekL l == 58) = true := by
        simp only [blankB, Bool.or_eq_true, beq_iff_eq] at hb
        rcases hb with h | h | h <;> rw [h] <;> decide
      rw [if_neg h58]
      unfold tokFin
      rw [hrest, hd, hb]
      simp [wordL1]
    · have hd : (wordL ⟨2, text, 0, at_⟩ ++ l).drop text.length = 58 :: l := by rw [wordL2, List.append_assoc]; exact List.drop_left
      rw [hd, if_pos (show (peekL (58 :: l) == 58) = true from rfl)]
      unfold tokFin
      have hd2 : s.drop (at_ + text.length + 1) = l := by rw [Nat.add_assoc, hrest, ← List.drop_drop, hd]; rfl
      rw [hd2, hb]
      simp [wordL2, Nat.add_assoc]
  · have hi : Lib.itoa n = Lib.decDigits n.toNat := by unfold Lib.itoa; rw [if_neg (by omega)]
    simp only [wordL3, hi] at hs hrest ⊢
    obtain ⟨hd1, hd2, hd3, hd4⟩ := dec_num n.toNat
    have hlen := dec_len 3 n.toNat (by omega)
    rw [peek_app _ _ hd4]
    cases hc : Lib.decDigits n.toNat with
    | nil => exact absurd hc hd4
    | cons c r =>
      rw [hc] at hd1 hd2 hd3 hlen hrest
      have hcd := hd2 c (by simp)
      simp [digitB] at hcd
      rw [show peekL (c :: r) = (c.toNat : Int) from rfl, if_neg (by omega)]
      by_cases h48 : c = 48
      · subst h48
        have hn0 : n.toNat = 0 := by
          rcases Nat.eq_zero_or_pos n.toNat with h | h
          · exact h
          · exact absurd rfl (hd3 h)
        have hz : Lib.decDigits 0 = [48] := by decide +kernel
        have hr : r = [] := by rw [hn0, hz] at hc; exact (List.cons.inj hc).2.symm
        subst hr
        rw [if_pos (show ((48 : UInt8).toNat : Int) == 48 from rfl)]
        unfold tokFin
        rw [hrest, show (([48] : List UInt8) ++ l).drop 1 = l from rfl, hb]
        have hn1 : n = 0 := by omega
        rw [hn1]
        rfl
      · have h49 : c.toNat ≠ 48 := fun h => h48 (UInt8.toNat_inj.1 h)
        rw [if_neg (by simp; omega), if_pos (by omega)]
        have hrun : runN digitB ((c :: r) ++ l) = (c :: r).length := runN_eq _ _ _ hd2 (blank_not_digit hb)
        rw [hrun, if_pos (by omega)]
        unfold tokFin
        have hd : ((c :: r) ++ l).drop (c :: r).length = l := List.drop_left
        rw [hrest, hd, hb, List.take_left, hd1, Int.toNat_of_nonneg h0]
        rfl
  · simp only [wordL4] at hs hrest ⊢
    have hq := quoted_complete text l 64 h64
    have hp2 : peekL (quoteL text ++ l) = 34 := rfl
    rw [hp2, if_neg (by decide), if_neg (by decide), if_neg (by decide), if_pos (by decide)]
    rw [show (64 : Int) = ((64 : Nat) : Int) from rfl, hq]
    simp only [Int.toNat_natCast]
    rw [if_pos (by rfl)]
    unfold tokFin
    rw [hrest, List.drop_left, hb]
    rfl
  · simp only [wordL5] at hs hrest ⊢
    rcases hx with rfl | rfl | rfl
    all_goals
      first
        | rw [show peekL ([60] ++ l) = 60 from rfl]
        | rw [show peekL ([123] ++ l) = 123 from rfl]
        | rw [show peekL ([125] ++ l) = 125 from rfl]
      rw [if_neg (by decide), if_neg (by decide), if_neg (by decide), if_neg (by decide), if_pos (by decide)]
      unfold tokFin
      rw [hrest]
      simp only [List.cons_append, List.nil_append, List.drop_succ_cons, List.drop_zero, hb]
      rfl
theorem good_head {t : Tok} (hg : GoodT t) : ∃ c r, wordL t = c :: r ∧ c ≠ 32 ∧ c ≠ 9 ∧ c ≠ 10 ∧ c ≠ 35 := by
  obtain ⟨kind, text, n, at_⟩ := t
  simp only [GoodT] at hg
  have hsmall : ∀ c : UInt8, 97 ≤ c.toNat ∧ c.toNat ≤ 122 → c ≠ 32 ∧ c ≠ 9 ∧ c ≠ 10 ∧ c ≠ 35 := by
    intro c h
    refine ⟨?_, ?_, ?_, ?_⟩ <;> (rintro rfl; simp at h)
  have hdig : ∀ c : UInt8, 48 ≤ c.toNat ∧ c.toNat ≤ 57 → c ≠ 32 ∧ c ≠ 9 ∧ c ≠ 10 ∧ c ≠ 35 := by
    intro c h
    refine ⟨?_, ?_, ?_, ?_⟩ <;> (rintro rfl; simp at h)
  rcases hg with ⟨hk, rfl, hne, h16, hpk, hsm⟩ | ⟨rfl, rfl, h0, h1⟩ | ⟨rfl, rfl, h64⟩ | ⟨rfl, rfl, hx⟩
  · cases text with
    | nil => exact absurd rfl hne
    | cons c r =>
      simp only [peekL] at hpk
      rcases hk with rfl | rfl
      · exact ⟨c, r, by rw [wordL1], hsmall c (by omega)⟩
      · exact ⟨c, r ++ [58], by rw [wordL2]; rfl, hsmall c (by omega)⟩
  · obtain ⟨hd1, hd2, hd3, hd4⟩ := dec_num n.toNat
    have hi : Lib.itoa n = Lib.decDigits n.toNat := by unfold Lib.itoa; rw [if_neg (by omega)]
    cases hc : Lib.decDigits n.toNat with
    | nil => exact absurd hc hd4
    | cons c r =>
      rw [hc] at hd2
      have hcd := hd2 c (by simp)
      simp [digitB] at hcd
      exact ⟨c, r, by rw [wordL3, hi, hc], hdig c (by omega)⟩
  · exact ⟨34, _, by rw [wordL4]; rfl, by decide, by decide, by decide, by decide⟩
  · rcases hx with rfl | rfl | rfl
    all_goals exact ⟨_, [], by rw [wordL5], by decide, by decide, by decide, by decide⟩
end Go.Proofs.YtonjhdmnndffkaaDoor
