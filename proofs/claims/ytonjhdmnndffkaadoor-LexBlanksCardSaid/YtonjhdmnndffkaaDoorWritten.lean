/- dragomanlaw12.written, works. -/
import Derived.Test.YtonjhdmnndffkaaDoorLaw12
namespace Go.Proofs.YtonjhdmnndffkaaDoor
open Go.RowKit
set_option maxRecDepth 100000
set_option linter.unusedSimpArgs false
set_option linter.unusedVariables false

theorem wordL_len (t : Tok) (h : TokFit t) : (wordL t).length ≤ 258 := by
  obtain ⟨h1, h2, h3⟩ := h
  unfold wordL
  split
  · simp; omega
  · split
    · unfold Lib.itoa
      rw [if_neg (by omega)]
      have := dec_len 3 t.n.toNat (by omega)
      omega
    · split
      · have := quoteB_le t.text
        simp only [quoteL, List.length_cons, List.length_append, List.length_nil]
        omega
      · omega
def prevOf (l : List Tok) (i : Nat) : Bool := match i with | 0 => false | j + 1 => match l[j]? with | some t => !(t.kind == 6) | none => false
theorem prevOf_succ (l : List Tok) (i : Nat) (t : Tok) (r : List Tok) (h : l.drop i = t :: r) : prevOf l (i + 1) = !(t.kind == 6) := by
  have : l[i]? = some t := by rw [← List.head?_drop, h]; rfl
  simp [prevOf, this]

set_option maxHeartbeats 1000000 in
theorem written_c (l : List Tok) (v : Value) (A : Option Addr) (c g : Nat) (w : World) (hr : TokRow w v l A c g) (hl : l.length ≤ 1000000) (hf : ∀ t ∈ l, TokFit t) (hL : Lib0 w) :
    Calls Tryd.prog 17 #[v] w fun e w' => e = .returned (.string ⟨(writtenL false l).toArray⟩) ∧ Keeps noB w w' := by
  obtain rfl := hr.hv
  obtain ⟨R, hR⟩ : ∃ R, writtenL false l = R := ⟨_, rfl⟩
  rw [hR]
  have HR := Lib.hid hR
  have HA := Lib.hid hr
  have HF := Lib.hid hf
  have HL := Lib.hid hL
  clear hR hr hf hL
  go_enter Tryd.func17, Tryd.ntmps17
  go_wp2_with fail
  go_loopg [3, 4] l.length (fun k v3 v4 wr => ∃ (i : Nat) (out : List UInt8), v3 = .string ⟨out.toArray⟩ ∧ v4 = .int .i64 i ∧ k + i = l.length ∧ out ++ writtenL (prevOf l i) (l.drop i) = R ∧ out.length ≤ 300 * i ∧ Keeps noB w wr)
  case atStart => exact ⟨0, [], rfl, rfl, by omega, by simpa [prevOf] using HR.out, by simp, Keeps.refl _ _⟩
  case round =>
    obtain ⟨i, out, rfl, rfl, hk, hr, hol, hkr⟩ := hrel
    have HQ := Lib.hid hr
    have HK := Lib.hid hkr
    clear hr HR hkr
    by_cases hi : i < l.length
    · obtain rfl := HA.out.hA (by omega)
      obtain ⟨a0, a1, a2, a3⟩ := (HA.out.keep HK.out id).at_ i hi
      have hfit := HF.out l[i] (List.getElem_mem hi)
      have hD := List.drop_eq_getElem_cons hi
      generalize l[i] = t at a0 a1 a2 a3 hfit hD
      have hP := prevOf_succ l i t _ hD
      have hwl := wordL_len t hfit
      have HFT := Lib.hid hfit
      have HD := Lib.hid hD
      have HP := Lib.hid hP
      clear hD hP hfit
      have hu1 : (0 : Int) ≤ (i : Int) := by omega
      have hu2 : (i : Int) < (l.length : Int) := by omega
      have hos : (⟨out.toArray⟩ : ByteArray).size = out.length := mk_size out
      have hot : (out.length : Int) ≤ 300 * (i : Int) := by omega
      by_cases h6 : t.kind = 6
      · have f6 : (t.kind != 6) = false := by simp [h6]
        have hos1 : (⟨#[10]⟩ : ByteArray).size = 1 := rfl
        by_cases hlast : i + 1 < l.length
        · have hps : (out ++ [10]) ++ writtenL (prevOf l (i + 1)) (l.drop (i + 1)) = R := by
            have := HQ.out
            rw [HD.out] at this
            rw [HP.out]
            have hne : l.drop (i + 1) ≠ [] := by intro h; have := congrArg List.length h; simp at this; omega
            simpa [writtenL, h6, hne] using this
          have HPS := Lib.hid hps
          clear hps HQ
          go_wp2_with fail
          go_roundg (l.length - (i + 1))
          case measure => omega
          case rel => exact ⟨i + 1, out ++ [10], by rw [← str_app], by simp, by omega, HPS.out, by simp; omega, HK.out⟩
        · have hps : out ++ writtenL (prevOf l (i + 1)) (l.drop (i + 1)) = R := by
            have := HQ.out
            rw [HD.out] at this
            rw [HP.out]
            have hne : l.drop (i + 1) = [] := List.drop_eq_nil_of_le (by omega)
            simpa [writtenL, h6, hne] using this
          have HPS := Lib.hid hps
          clear hps HQ
          go_wp2_with fail
          go_roundg (l.length - (i + 1))
          case measure => omega
          case rel => exact ⟨i + 1, out, rfl, by simp, by omega, HPS.out, by omega, HK.out⟩
      · have f6 : (t.kind != 6) = true := by simp [h6]
        have hps : (out ++ ((if prevOf l i = true then [32] else []) ++ wordL t)) ++ writtenL (prevOf l (i + 1)) (l.drop (i + 1)) = R := by
          have := HQ.out
          rw [HD.out] at this
          rw [HP.out]
          simpa [writtenL, h6] using this
        have HPS := Lib.hid hps
        clear hps
        have hwt : (⟨(wordL t).toArray⟩ : ByteArray).size = (wordL t).length := mk_size _
        cases i with
        | zero =>
          go_wp2_with fail
          refine (word_c t _ (HL.out.keep0 HK.out) (by have := HFT.out.1; omega) HFT.out.2.1 HFT.out.2.2).mono ?_
          rintro e w2 ⟨rfl, hk2⟩
          have HK2 := Lib.hid (HK.out.trans hk2)
          clear hk2
          go_wp2_with fail
          go_roundg (l.length - 1)
          case measure => omega
          case rel => exact ⟨1, out ++ wordL t, by rw [str_app], by simp, by omega, by simpa [prevOf] using HPS.out, by simp; omega, HK2.out⟩
        | succ j =>
          have hj : j < l.length := by omega
          obtain ⟨p0, p1, p2, p3⟩ := (HA.out.keep HK.out id).at_ j hj
          have hprev : prevOf l (j + 1) = !(l[j].kind == 6) := by simp [prevOf, hj]
          generalize l[j] = u at p0 p1 p2 p3 hprev
          clear p1 p2 p3
          have hos1 : (⟨#[32]⟩ : ByteArray).size = 1 := rfl
          by_cases hu6 : u.kind = 6
          · have g6 : (u.kind != 6) = false := by simp [hu6]
            have hpf : prevOf l (j + 1) = false := by rw [hprev]; simp [hu6]
            rw [hpf] at HPS
            clear hprev hpf HQ
            go_wp2_with fail
            refine (word_c t _ (HL.out.keep0 HK.out) (by have := HFT.out.1; omega) HFT.out.2.1 HFT.out.2.2).mono ?_
            rintro e w2 ⟨rfl, hk2⟩
            have HK2 := Lib.hid (HK.out.trans hk2)
            clear hk2
            go_wp2_with fail
            go_roundg (l.length - (j + 2))
            case measure => omega
            case rel => exact ⟨j + 2, out ++ wordL t, by rw [str_app], by simp; omega, by omega, by simpa using HPS.out, by simp; omega, HK2.out⟩
          · have g6 : (u.kind != 6) = true := by simp [hu6]
            have hpf : prevOf l (j + 1) = true := by rw [hprev]; simp [hu6]
            rw [hpf] at HPS
            clear hprev hpf HQ
            go_wp2_with fail
            refine (word_c t _ (HL.out.keep0 HK.out) (by have := HFT.out.1; omega) HFT.out.2.1 HFT.out.2.2).mono ?_
            rintro e w2 ⟨rfl, hk2⟩
            have HK2 := Lib.hid (HK.out.trans hk2)
            clear hk2
            go_wp2_with fail
            go_roundg (l.length - (j + 2))
            case measure => omega
            case rel => exact ⟨j + 2, out ++ ([32] ++ wordL t), by rw [← str_app, ← str_app, ByteArray.append_assoc], by simp; omega, by omega, by simpa using HPS.out, by simp; omega, HK2.out⟩
    · have hr : out = R := by have := HQ.out; rw [List.drop_eq_nil_of_le (by omega)] at this; simpa [writtenL] using this
      subst hr
      go_wp2_with fail
      go_ret
      exact ⟨rfl, HK.out⟩
end Go.Proofs.YtonjhdmnndffkaaDoor
