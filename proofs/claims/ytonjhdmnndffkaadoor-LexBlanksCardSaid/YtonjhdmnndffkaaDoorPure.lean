/- What the functions of layers 9 and 12 compute, as plain functions on lists of bytes. -/
import Derived.Lib.Bytealg
namespace Go.Proofs.YtonjhdmnndffkaaDoor
set_option linter.unusedSimpArgs false
set_option linter.unusedVariables false

def plainB (c : Int) : Bool := decide (32 ≤ c) && (decide (c ≤ 126) && (!(c == 34) && !(c == 92)))
def shortB (c : Int) : Int × Bool := if c == 34 then (c, true) else if c == 92 then (c, true) else if c == 10 then (110, true) else if c == 13 then (114, true) else if c == 9 then (116, true) else (0, false)
def smallB (c : Int) : Bool := (decide (97 ≤ c) && decide (c ≤ 122)) || ((decide (48 ≤ c) && decide (c ≤ 57)) || ((c == 95) || (c == 45)))
def digitB (c : Int) : Bool := decide (48 ≤ c) && decide (c ≤ 57)
def hexL : List UInt8 := [48, 49, 50, 51, 52, 53, 54, 55, 56, 57, 97, 98, 99, 100, 101, 102]
def escL : List UInt8 := [34, 92, 110, 114, 116, 120]
def hexI (c : UInt8) : Int := Lib.indexByte hexL c
def quoB (c : Int) : Bool := c == 34
def bodyB (c : Int) : Bool := plainB c || ((c == 34) || (c == 92))
def escB (c : UInt8) : Bool := decide (0 ≤ Lib.indexByte escL c)
def highB (c : Int) : Bool := (c == 48) || ((c == 49) || ((decide (55 ≤ c) && decide (c ≤ 57)) || (decide (97 ≤ c) && decide (c ≤ 102))))
def lowB (h : Int) (c : UInt8) : Bool := if hexI c < 0 then false else !(plainB (h * 16 + hexI c)) && !((shortB (h * 16 + hexI c)).2)
def hexd (n : Nat) : UInt8 := hexL.getD n 0
def signL (u : UInt8) : List UInt8 :=
  if plainB u.toNat then [u] else if (shortB u.toNat).2 then [92, UInt8.ofNat (shortB u.toNat).1.toNat] else [92, 120, hexd (u.toNat / 16), hexd (u.toNat % 16)]
def quoteB (l : List UInt8) : List UInt8 := l.flatMap signL
def quoteL (l : List UInt8) : List UInt8 := 34 :: (quoteB l ++ [34])

/-- What stands for one byte, at the head of a list: the byte and how many bytes it takes; or how far it is right. -/
inductive Sg where
  | bad (d : Nat)
  | got (c : UInt8) (n : Nat)
  deriving DecidableEq
def sgHex : List UInt8 → Sg
  | [] => .bad 2
  | h :: l => if highB h.toNat then (match l with
    | [] => .bad 3
    | lo :: _ => if lowB (hexI h) lo then .got (UInt8.ofNat (hexI h * 16 + hexI lo).toNat) 4 else .bad 3) else .bad 2
def sgEsc : List UInt8 → Sg
  | [] => .bad 1
  | c :: l => if escB c then (if (c.toNat : Int) == 110 then .got 10 2 else if (c.toNat : Int) == 114 then .got 13 2 else if (c.toNat : Int) == 116 then .got 9 2 else if (c.toNat : Int) == 120 then sgHex l else .got c 2) else .bad 1
def sg : List UInt8 → Sg
  | [] => .bad 0
  | c :: l => if bodyB c.toNat then (if (c.toNat : Int) == 92 then sgEsc l else .got c 1) else .bad 0

inductive ScanR where
  | ok (out : List UInt8) (last : Nat)
  | wrong (p : Nat)
  | long (p : Nat)
/-- The text in quotes, from behind the first one on: at place p, 'out' read so far. -/
def scanL (most : Int) : Nat → List UInt8 → Nat → List UInt8 → ScanR
  | 0, _, p, _ => .wrong p
  | k + 1, l, p, out =>
    if (out.length : Int) = most ∧ l.head? ≠ some 34 then .long p
    else match sg l with
      | .bad d => .wrong (p + d)
      | .got c n => if l.head? = some 34 then .ok out p else scanL most k (l.drop n) (p + n) (out ++ [c])
def scanR (l : List UInt8) (most : Int) : ScanR := if l.head? = some 34 then scanL most l.length (l.drop 1) 1 [] else .wrong 0
/-- What pattern.Quoted answers: the text, how many bytes, the error and its place. -/
def quotedOf : ScanR → List UInt8 × Int × Int × Int
  | .ok out last => (out, (last : Int) + 1, 0, 0)
  | .wrong p => ([], 0, 6, (p : Int))
  | .long p => ([], 0, 3, (p : Int))
def quotedR (l : List UInt8) (most : Int) : List UInt8 × Int × Int × Int := quotedOf (scanR l (max most (-1)))
theorem sgHex_le (l : List UInt8) : (∀ d, sgHex l = .bad d → d ≤ l.length + 2) ∧ (∀ c n, sgHex l = .got c n → n ≤ l.length + 2 ∧ 0 < n) := by
  match l with
  | [] => simp [sgHex]
  | [h] => simp only [sgHex]; split <;> simp
  | h :: lo :: r => simp only [sgHex]; split <;> (try split) <;> simp <;> omega
theorem sgEsc_le (l : List UInt8) : (∀ d, sgEsc l = .bad d → d ≤ l.length + 1) ∧ (∀ c n, sgEsc l = .got c n → n ≤ l.length + 1 ∧ 0 < n) := by
  match l with
  | [] => simp [sgEsc]
  | c :: r =>
    have h := sgHex_le r
    simp only [sgEsc]
    split
    · split
      · simp
      · split
        · simp
        · split
          · simp
          · split
            · simp only [List.length_cons]; exact ⟨fun d hd => by have := h.1 d hd; omega, fun c n hn => by have := h.2 c n hn; omega⟩
            · simp
    · simp
theorem sg_le (l : List UInt8) : (∀ d, sg l = .bad d → d ≤ l.length) ∧ (∀ c n, sg l = .got c n → n ≤ l.length ∧ 0 < n) := by
  match l with
  | [] => simp [sg]
  | c :: r =>
    have h := sgEsc_le r
    simp only [sg]
    split
    · split
      · simp only [List.length_cons]; exact h
      · simp
    · simp
def ScanIn (p n : Nat) : ScanR → Prop
  | .ok _ last => p ≤ last ∧ last < p + n
  | .wrong x => p ≤ x ∧ x ≤ p + n
  | .long x => p ≤ x ∧ x ≤ p + n
theorem scanL_le (most : Int) (k : Nat) : ∀ (l : List UInt8) (p : Nat) (out : List UInt8), ScanIn p l.length (scanL most k l p out) := by
  induction k with
  | zero => intro l p out; simp [scanL, ScanIn]
  | succ k ih =>
    intro l p out
    have hl := sg_le l
    unfold scanL
    by_cases h1 : (out.length : Int) = most ∧ l.head? ≠ some 34
    · rw [if_pos h1]; simp [ScanIn]
    · rw [if_neg h1]
      cases hs : sg l with
      | bad d =>
        have := hl.1 d hs
        simp only [ScanIn]; omega
      | got c n =>
        have := hl.2 c n hs
        simp only
        by_cases h2 : l.head? = some 34
        · rw [if_pos h2]; simp only [ScanIn]; omega
        · rw [if_neg h2]
          have h3 := ih (l.drop n) (p + n) (out ++ [c])
          simp only [List.length_drop] at h3
          cases hr : scanL most k (l.drop n) (p + n) (out ++ [c]) <;> rw [hr] at h3 <;> simp only [ScanIn] at h3 ⊢ <;> omega
theorem quotedR_le (l : List UInt8) (most : Int) : 0 ≤ (quotedR l most).2.1 ∧ (quotedR l most).2.1 ≤ l.length ∧ 0 ≤ (quotedR l most).2.2.2 ∧ (quotedR l most).2.2.2 ≤ l.length := by
  unfold quotedR scanR
  by_cases h : l.head? = some 34
  · rw [if_pos h]
    cases l with
    | nil => simp at h
    | cons c r =>
      have h2 := scanL_le (max most (-1)) (c :: r).length ((c :: r).drop 1) 1 []
      simp only [List.length_drop, List.length_cons, List.drop_succ_cons, List.drop_zero] at h2 ⊢
      cases hr : scanL (max most (-1)) (r.length + 1) r 1 [] <;> rw [hr] at h2 <;> simp only [ScanIn] at h2 <;> simp only [quotedOf] <;> omega
  · rw [if_neg h]; simp [quotedOf]
/-! ### Tokens -/
structure Tok where
  kind : Int
  text : List UInt8
  n : Int
  at_ : Nat
  deriving DecidableEq
def peekL : List UInt8 → Int
  | [] => 10
  | c :: _ => c.toNat
def runN (may : Int → Bool) (l : List UInt8) : Nat := (l.takeWhile fun c => may c.toNat).length
def blankB (c : Int) : Bool := (c == 32) || ((c == 9) || (c == 10))
def numL (l : List UInt8) : Int := l.foldl (fun n c => 10 * n + ((c.toNat : Int) - 48)) 0
/-- A token that was read up to place q: what stands behind it. -/
def tokFin (s : List UInt8) (t : Tok) (q : Nat) : Tok × Int × Nat := (t, if blankB (peekL (s.drop q)) then 0 else 6, q)
def tokR (s : List UInt8) (p : Nat) : Tok × Int × Nat :=
  let l := s.drop p
  let c := peekL l
  if 97 ≤ c ∧ c ≤ 122 then
    (if runN smallB l ≤ 16 then
      (if peekL (s.drop (p + runN smallB l)) == 58 then tokFin s ⟨2, l.take (runN smallB l), 0, p⟩ (p + runN smallB l + 1) else tokFin s ⟨1, l.take (runN smallB l), 0, p⟩ (p + runN smallB l))
     else (⟨1, [], 0, p⟩, 3, p + 16))
  else if c == 48 then tokFin s ⟨3, [], 0, p⟩ (p + 1)
  else if 49 ≤ c ∧ c ≤ 57 then
    (if runN digitB l ≤ 4 then tokFin s ⟨3, [], numL (l.take (runN digitB l)), p⟩ (p + runN digitB l) else (⟨3, [], 0, p⟩, 3, p + 4))
  else if c == 34 then
    (if (quotedR l 64).2.2.1 == 0 then tokFin s ⟨4, (quotedR l 64).1, 0, p⟩ (p + (quotedR l 64).2.1.toNat) else (⟨0, [], 0, p⟩, (quotedR l 64).2.2.1, p + (quotedR l 64).2.2.2.toNat))
  else if (c == 60) || ((c == 123) || (c == 125)) then tokFin s ⟨5, l.take 1, 0, p⟩ (p + 1)
  else (⟨0, [], 0, p⟩, 6, p)
end Go.Proofs.YtonjhdmnndffkaaDoor
