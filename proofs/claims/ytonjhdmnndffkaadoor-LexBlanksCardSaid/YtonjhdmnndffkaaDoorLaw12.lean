/- dragomanlaw12's helpers: word, written, works; dragomanref12.Same. -/
import Derived.Test.YtonjhdmnndffkaaDoorLex
import Derived.Test.YtonjhdmnndffkaaDoorLib
import Derived.Test.YtonjhdmnndffkaaDoorQuote
import Derived.Test.YtonjhdmnndffkaaDoorLxLaw
import Derived.Lib.ItoaNum
import Derived.Deep.LoopGhost
namespace Go.Proofs.YtonjhdmnndffkaaDoor
open Go.RowKit
set_option maxRecDepth 100000
set_option linter.unusedSimpArgs false
set_option linter.unusedVariables false

theorem Keeps.growN {D : Nat → Prop} {w0 w : World} (h : Keeps D w0 w) (k : Nat) (os : Array Obj) : Keeps D w0 (Go.Sort.grow (w.drewN k) os) :=
  h.quiet ⟨rfl, rfl, rfl, by simp [Go.Sort.grow], fun i hi _ => by simp only [Go.Sort.grow]; exact Array.getElem?_append_left hi⟩
theorem str_app (a b : List UInt8) : (⟨a.toArray⟩ ++ ⟨b.toArray⟩ : ByteArray) = ⟨(a ++ b).toArray⟩ := by apply ByteArray.ext; simp
theorem word_c (t : Tok) (w : World) (hL : Lib0 w) (h1 : t.text.length ≤ 1000) (h2 : 0 ≤ t.n) (h3 : t.n < 10000) :
    Calls Tryd.prog 19 #[tokV t] w fun e w' => e = .returned (.string ⟨(wordL t).toArray⟩) ∧ Keeps noB w w' := by
  unfold tokV
  obtain ⟨kind, text, n, at_⟩ := t
  simp only at h1 h2 h3 ⊢
  by_cases k2 : kind = 2
  · have e2 : (kind == 2) = true := by simp [k2]
    have hw : wordL ⟨kind, text, n, at_⟩ = text ++ [58] := by simp [wordL, k2]
    rw [hw]
    go_enter Tryd.func19, Tryd.ntmps19
    go_wp2_with fail
    go_ret
    exact ⟨by rw [← str_app]; rfl, (Keeps.refl _ _).alloc _⟩
  by_cases k3 : kind = 3
  · have e2 : (kind == 2) = false := by simp [k2]
    have e3 : (kind == 3) = true := by simp [k3]
    have hw : wordL ⟨kind, text, n, at_⟩ = Lib.itoa n := by simp [wordL, k2, k3]
    rw [hw]
    go_enter Tryd.func19, Tryd.ntmps19
    go_wp2_with fail
    refine (Tryd.strconv_Itoa n (by omega) (by omega) _ ((hL.keep0 ((Keeps.refl _ _).alloc _)).pow)).mono ?_
    rintro e w' ⟨rfl, k, os, rfl⟩
    go_wp2_with fail
    go_ret
    exact ⟨rfl, ((Keeps.refl _ _).alloc _).growN k os⟩
  by_cases k4 : kind = 4
  · have e2 : (kind == 2) = false := by simp [k2]
    have e3 : (kind == 3) = false := by simp [k3]
    have e4 : (kind == 4) = true := by simp [k4]
    have hw : wordL ⟨kind, text, n, at_⟩ = quoteL text := by simp [wordL, k2, k3, k4]
    rw [hw]
    go_enter Tryd.func19, Tryd.ntmps19
    go_wp2_with fail
    have hsz : (⟨text.toArray⟩ : ByteArray).size ≤ 1000000 := by rw [mk_size]; omega
    refine (Quote_c ⟨text.toArray⟩ _ hsz).mono ?_
    rintro e w' ⟨rfl, hk⟩
    go_wp2_with fail
    go_ret
    exact ⟨rfl, ((Keeps.refl _ _).alloc _).quiet hk⟩
  · have e2 : (kind == 2) = false := by simp [k2]
    have e3 : (kind == 3) = false := by simp [k3]
    have e4 : (kind == 4) = false := by simp [k4]
    have hw : wordL ⟨kind, text, n, at_⟩ = text := by simp [wordL, k2, k3, k4]
    rw [hw]
    go_enter Tryd.func19, Tryd.ntmps19
    go_wp2_with fail
    go_ret
    exact ⟨rfl, (Keeps.refl _ _).alloc _⟩

theorem great_c (s : ByteArray) (w : World) : Calls Tryd.prog 15 #[.string s] w fun e w' => e = .returned (.bool (decide (65536 < s.size))) ∧ w' = w := by
  go_enter Tryd.func15, Tryd.ntmps15
  go_wp2_with fail
  go_ret
  exact ⟨ret_bool (by simp; omega), rfl⟩

/-- The value is a list of tokens that can be read. -/
structure TokRow (w : World) (v : Value) (l : List Tok) (A : Option Addr) (c g : Nat) : Prop where
  hv : v = .slice A l.length c
  hA : 0 < l.length → A = some ⟨g, 0, none⟩
  cells : ∀ j u, (tokCells l)[j]? = some u → w.cell? ⟨g, j, none⟩ = some u
theorem TokRow.of_own {w : World} {B : Nat} {v : Value} {l : List Tok} (h : w.ownsRow B 37 4 v l.length (tokCells l)) : ∃ A c g, TokRow w v l A c g ∧ (0 < l.length → v.ownBlock = some g) := by
  rcases Nat.eq_zero_or_pos l.length with h0 | h0
  · obtain ⟨A, c, rfl⟩ := own_slice h
    refine ⟨A, c, 0, ⟨rfl, fun hx => by omega, fun j u hu => ?_⟩, fun hx => by omega⟩
    rw [List.eq_nil_of_length_eq_zero h0] at hu
    simp [tokCells] at hu
  · obtain ⟨g, cap, rfl, _⟩ := own_form h h0
    exact ⟨_, cap, g, ⟨rfl, fun _ => rfl, fun j u hu => own_cell h j hu⟩, fun _ => rfl⟩
theorem tokCells_len (l : List Tok) : (tokCells l).length = 4 * l.length := by
  induction l with
  | nil => rfl
  | cons t l ih => simp only [tokCells, List.flatMap_cons, List.length_append, List.length_cons] at ih ⊢; rw [ih]; simp [tokC]; omega
theorem tokCells_at (l : List Tok) : ∀ (i : Nat) (hi : i < l.length) (j : Nat), j < 4 → (tokCells l)[i * 4 + j]? = (tokC l[i])[j]? := by
  induction l with
  | nil => intro i hi; simp at hi
  | cons t l ih =>
    intro i hi j hj
    have hl : (tokC t).length = 4 := rfl
    simp only [tokCells, List.flatMap_cons]
    cases i with
    | zero => rw [List.getElem?_append_left (by omega)]; simp
    | succ i =>
      rw [List.getElem?_append_right (by omega), hl, show (i + 1) * 4 + j - 4 = i * 4 + j by omega]
      exact ih i (by simpa using hi) j hj
theorem TokRow.at_ {w : World} {v : Value} {l : List Tok} {A : Option Addr} {c g : Nat} (h : TokRow w v l A c g) (i : Nat) (hi : i < l.length) :
    w.cell? ⟨g, i * 4, none⟩ = some (.int .i64 l[i].kind) ∧ w.cell? ⟨g, i * 4 + 1, none⟩ = some (.string ⟨l[i].text.toArray⟩) ∧ w.cell? ⟨g, i * 4 + 2, none⟩ = some (.int .i64 l[i].n) ∧ w.cell? ⟨g, i * 4 + 3, none⟩ = some (.int .i64 l[i].at_) :=
  ⟨h.cells _ _ (tokCells_at l i hi 0 (by omega)), h.cells _ _ (tokCells_at l i hi 1 (by omega)), h.cells _ _ (tokCells_at l i hi 2 (by omega)), h.cells _ _ (tokCells_at l i hi 3 (by omega))⟩
theorem TokRow.keep {w w' : World} {D : Nat → Prop} {v : Value} {l : List Tok} {A : Option Addr} {c g : Nat} (h : TokRow w v l A c g) (k : Keeps D w w') (hd : ¬ D g) : TokRow w' v l A c g :=
  ⟨h.hv, h.hA, fun j u hu => k.cell (h.cells j u hu) hd⟩

/-! ### Same -/
theorem sameL_len : ∀ {a b : List Tok}, a.length ≠ b.length → sameL a b = false
  | [], [], h => by simp at h
  | [], _ :: _, _ => rfl
  | _ :: _, [], _ => rfl
  | a :: l, b :: r, h => by simp only [sameL]; rw [sameL_len (by simpa using h)]; simp
theorem same_c (a b : List Tok) (va vb : Value) (Aa Ab : Option Addr) (ca cb ga gb : Nat) (w : World) (ha : TokRow w va a Aa ca ga) (hb : TokRow w vb b Ab cb gb) (hl : a.length ≤ 1000000) :
    Calls Tryd.prog 18 #[va, vb] w fun e w' => e = .returned (.bool (sameL a b)) ∧ Keeps noB w w' := by
  obtain rfl := ha.hv
  obtain rfl := hb.hv
  by_cases hne : a.length = b.length
  · have e1 : ((a.length : Int) != (b.length : Int)) = false := by simp [hne]
    obtain ⟨R, hR⟩ : ∃ R, sameL a b = R := ⟨_, rfl⟩
    rw [hR]
    have HR := Lib.hid hR
    have HA := Lib.hid ha
    have HB := Lib.hid hb
    have HN := Lib.hid hne
    clear hR hne ha hb
    go_enter Tryd.func18, Tryd.ntmps18
    go_wp2_with fail
    go_loopg [5] a.length (fun k v5 wr => ∃ i : Nat, v5 = .int .i64 i ∧ k + i = a.length ∧ sameL (a.drop i) (b.drop i) = R ∧ Keeps noB w wr)
    case atStart => exact ⟨0, rfl, by omega, by simpa using HR.out, Keeps.refl _ _⟩
    case round =>
      obtain ⟨i, rfl, hk, hr, hkr⟩ := hrel
      have HQ := Lib.hid hr
      have HK := Lib.hid hkr
      clear hr HR hkr
      by_cases hi : i < a.length
      · have hib : i < b.length := by have := HN.out; omega
        obtain rfl := HA.out.hA (by omega)
        obtain rfl := HB.out.hA (by omega)
        obtain ⟨a0, a1, a2, a3⟩ := (HA.out.keep HK.out id).at_ i hi
        obtain ⟨b0, b1, b2, b3⟩ := (HB.out.keep HK.out id).at_ i hib
        have HD1 := Lib.hid (List.drop_eq_getElem_cons hi)
        have HD2 := Lib.hid (List.drop_eq_getElem_cons hib)
        generalize a[i] = x at a0 a1 a2 a3 HD1
        generalize b[i] = y at b0 b1 b2 b3 HD2
        have hu1 : (0 : Int) ≤ (i : Int) := by omega
        have hu2 : (i : Int) < (a.length : Int) := by omega
        have hu3 : (i : Int) < (b.length : Int) := by omega
        by_cases h1 : x.kind = y.kind
        · have f1 : (x.kind != y.kind) = false := by simp [h1]
          by_cases h2 : x.text = y.text
          · have f2 : x.text.toArray = y.text.toArray := by rw [h2]
            by_cases h3 : x.n = y.n
            · have f3 : (x.n != y.n) = false := by simp [h3]
              have HQ2 := Lib.hid (show sameL (a.drop (i + 1)) (b.drop (i + 1)) = R by have := HQ.out; rw [HD1.out, HD2.out] at this; simpa [sameL, sameT, h1, h2, h3] using this)
              go_wp2_with fail
              go_quiet (fail)
              go_wp2_with fail
              go_roundg (a.length - (i + 1))
              case measure => omega
              case rel => exact ⟨i + 1, by simp, by omega, HQ2.out, HK.out.drewN _⟩
            · have f3 : (x.n != y.n) = true := by simp [h3]
              go_wp2_with fail
              go_quiet (fail)
              go_wp2_with fail
              go_ret
              exact ⟨by rw [← HQ.out, HD1.out, HD2.out]; simp [sameL, sameT, h3], HK.out.drewN _⟩
          · have f2 : ¬ x.text.toArray = y.text.toArray := by simpa using h2
            go_wp2_with fail
            go_quiet (fail)
            go_wp2_with fail
            go_ret
            exact ⟨by rw [← HQ.out, HD1.out, HD2.out]; simp [sameL, sameT, h2], HK.out.drewN _⟩
        · have f1 : (x.kind != y.kind) = true := by simp [h1]
          go_wp2_with fail
          go_quiet (fail)
          go_wp2_with fail
          go_ret
          exact ⟨by rw [← HQ.out, HD1.out, HD2.out]; simp [sameL, sameT, h1], HK.out.drewN _⟩
      · have hr : R = true := by have := HQ.out; rw [List.drop_eq_nil_of_le (by omega), List.drop_eq_nil_of_le (by have := HN.out; omega)] at this; exact this.symm
        go_wp2_with fail
        go_ret
        first | exact ⟨by rw [hr]; rfl, HK.out⟩ | exact ⟨rfl, HK.out⟩
  · have e1 : ((a.length : Int) != (b.length : Int)) = true := by simp; omega
    rw [sameL_len hne]
    clear ha hb hne
    go_enter Tryd.func18, Tryd.ntmps18
    go_wp2_with fail
    go_ret
    exact ⟨rfl, Keeps.refl _ _⟩
end Go.Proofs.YtonjhdmnndffkaaDoor
