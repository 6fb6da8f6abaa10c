/- What lex.Lex computes, as a plain function. -/
import Derived.Test.YtonjhdmnndffkaaDoorPure
import Derived.Lib.IndexLaws
namespace Go.Proofs.YtonjhdmnndffkaaDoor
set_option linter.unusedSimpArgs false
set_option linter.unusedVariables false

def restN (s : List UInt8) (p : Nat) : Nat := if 0 ≤ Lib.indexByte (s.drop p) 10 then p + (Lib.indexByte (s.drop p) 10).toNat else s.length
def endT (so : Bool) (p : Nat) (out : List Tok) : List Tok := if so = true then out ++ [⟨6, [], 0, p⟩] else out
def lexL (s : List UInt8) : Nat → Nat → Bool → List Tok → List Tok × Int × Nat
  | 0, _, _, out => (out, 0, 0)
  | k + 1, p, so, out =>
    if (peekL (s.drop p) == 32) || (peekL (s.drop p) == 9) then lexL s k (p + 1) so out
    else if peekL (s.drop p) == 35 then lexL s k (restN s p) so out
    else if peekL (s.drop p) == 10 then (if p = s.length then (endT so p out, 0, 0) else lexL s k (p + 1) false (endT so p out))
    else if (tokR s p).2.1 == 0 then lexL s k (tokR s p).2.2 true (out ++ [(tokR s p).1]) else ([], (tokR s p).2.1, (tokR s p).2.2)
def lexR (s : List UInt8) : List Tok × Int × Nat := if s.length ≤ 2048 then lexL s (s.length + 1) 0 false [] else ([], 3, 2048)

section
variable {s : List UInt8} {k p : Nat} {so : Bool} {out : List Tok}
theorem lexL_blank (h : peekL (s.drop p) = 32 ∨ peekL (s.drop p) = 9) : lexL s (k + 1) p so out = lexL s k (p + 1) so out := by
  conv => lhs; unfold lexL
  rw [if_pos (by rcases h with h | h <;> simp [h])]
theorem lexL_remark (h : peekL (s.drop p) = 35) : lexL s (k + 1) p so out = lexL s k (restN s p) so out := by
  conv => lhs; unfold lexL
  rw [if_neg (by simp [h]), if_pos (by simp [h])]
theorem lexL_end (h : peekL (s.drop p) = 10) (hp : p = s.length) : lexL s (k + 1) p so out = (endT so p out, 0, 0) := by
  conv => lhs; unfold lexL
  rw [if_neg (by simp [h]), if_neg (by simp [h]), if_pos (by simp [h]), if_pos hp]
theorem lexL_line (h : peekL (s.drop p) = 10) (hp : p ≠ s.length) : lexL s (k + 1) p so out = lexL s k (p + 1) false (endT so p out) := by
  conv => lhs; unfold lexL
  rw [if_neg (by simp [h]), if_neg (by simp [h]), if_pos (by simp [h]), if_neg hp]
theorem lexL_tok (h1 : peekL (s.drop p) ≠ 32) (h2 : peekL (s.drop p) ≠ 9) (h3 : peekL (s.drop p) ≠ 35) (h4 : peekL (s.drop p) ≠ 10) (h : (tokR s p).2.1 = 0) : lexL s (k + 1) p so out = lexL s k (tokR s p).2.2 true (out ++ [(tokR s p).1]) := by
  conv => lhs; unfold lexL
  rw [if_neg (by simp [h1, h2]), if_neg (by simp [h3]), if_neg (by simp [h4]), if_pos (by simp [h])]
theorem lexL_bad (h1 : peekL (s.drop p) ≠ 32) (h2 : peekL (s.drop p) ≠ 9) (h3 : peekL (s.drop p) ≠ 35) (h4 : peekL (s.drop p) ≠ 10) (h : (tokR s p).2.1 ≠ 0) : lexL s (k + 1) p so out = ([], (tokR s p).2.1, (tokR s p).2.2) := by
  conv => lhs; unfold lexL
  rw [if_neg (by simp [h1, h2]), if_neg (by simp [h3]), if_neg (by simp [h4]), if_neg (by simp [h])]
theorem restN_in (h : peekL (s.drop p) = 35) (hp : p ≤ s.length) : p < restN s p ∧ restN s p ≤ s.length := by
  have hlt : p < s.length := by
    rcases Nat.lt_or_ge p s.length with h' | h'
    · exact h'
    · rw [List.drop_eq_nil_of_le h'] at h; simp [peekL] at h
  unfold restN
  split
  · rename_i h0
    obtain ⟨o, ho⟩ : ∃ o : Nat, Lib.indexByte (s.drop p) 10 = o := ⟨_, (Int.toNat_of_nonneg h0).symm⟩
    have h1 := (Lib.indexByte_some ho).1
    have h2 : o < (s.drop p).length := (List.getElem?_eq_some_iff.1 h1).1
    rw [List.length_drop] at h2
    rw [ho]
    have : o ≠ 0 := by
      rintro rfl
      rw [List.drop_eq_getElem_cons hlt] at h h1
      simp only [List.getElem?_cons_zero, Option.some.injEq] at h1
      rw [h1] at h
      simp [peekL] at h
    simp only [Int.toNat_natCast]
    omega
  · omega
theorem runN_len (may : Int → Bool) (l : List UInt8) : runN may l ≤ l.length := (List.takeWhile_sublist _).length_le
theorem peek_in (h : peekL (s.drop p) ≠ 10) : p < s.length := by
  rcases Nat.lt_or_ge p s.length with h' | h'
  · exact h'
  · rw [List.drop_eq_nil_of_le h'] at h; simp [peekL] at h
theorem runN_pos (may : Int → Bool) (l : List UInt8) (h : peekL l ≠ 10) (hm : may (peekL l) = true) : 0 < runN may l := by
  cases l with
  | nil => simp [peekL] at h
  | cons c l => simp only [peekL] at hm; simp [runN, hm]
theorem tokR_le (hp : p ≤ s.length) : (tokR s p).2.2 ≤ s.length ∧ p ≤ (tokR s p).2.2 := by
  have hq := quotedR_le (s.drop p) 64
  have hl : (s.drop p).length = s.length - p := List.length_drop
  have hA := runN_len smallB (s.drop p)
  have hB := runN_len digitB (s.drop p)
  unfold tokR
  simp only
  split
  · split
    · split
      · rename_i h
        have := peek_in (s := s) (p := p + runN smallB (s.drop p)) (by simp at h; omega)
        simp only [tokFin]; omega
      · simp only [tokFin]; omega
    · simp only; omega
  · split
    · rename_i h
      have := peek_in (s := s) (p := p) (by simp at h; omega)
      simp only [tokFin]; omega
    · split
      · split
        · simp only [tokFin]; omega
        · simp only; omega
      · split
        · split
          · simp only [tokFin]; omega
          · simp only; omega
        · split
          · rename_i h
            have := peek_in (s := s) (p := p) (by simp at h; omega)
            simp only [tokFin]; omega
          · simp only; omega
theorem quoted_pos (l : List UInt8) (most : Int) (h : (quotedR l most).2.2.1 = 0) : 0 < (quotedR l most).2.1 := by
  unfold quotedR at h ⊢
  cases hr : scanR l (max most (-1)) <;> rw [hr] at h <;> simp [quotedOf] at h ⊢
theorem tokR_lt (hp : p ≤ s.length) (h : (tokR s p).2.1 = 0) : p < (tokR s p).2.2 := by
  unfold tokR at h ⊢
  simp only at h ⊢
  split
  · rename_i h1
    have := runN_pos smallB (s.drop p) (by omega) (by simp [smallB]; omega)
    rw [if_pos h1] at h
    split
    · split <;> (simp only [tokFin]; omega)
    · rename_i h2; rw [if_neg h2] at h; simp at h
  · rename_i h1
    rw [if_neg h1] at h
    split
    · simp only [tokFin]; omega
    · rename_i h2
      rw [if_neg h2] at h
      split
      · rename_i h3
        have := runN_pos digitB (s.drop p) (by omega) (by simp [digitB]; omega)
        rw [if_pos h3] at h
        split
        · simp only [tokFin]; omega
        · rename_i h4; rw [if_neg h4] at h; simp at h
      · rename_i h3
        rw [if_neg h3] at h
        split
        · rename_i h4
          rw [if_pos h4] at h
          split
          · rename_i h5
            have := quoted_pos (s.drop p) 64 (by simpa using h5)
            simp only [tokFin]; omega
          · rename_i h5
            rw [if_neg h5] at h
            simp only at h
            simp [h] at h5
        · rename_i h4
          rw [if_neg h4] at h
          split
          · simp only [tokFin]; omega
          · rename_i h5; rw [if_neg h5] at h; simp at h
end
end Go.Proofs.YtonjhdmnndffkaaDoor
