/- dragomanlaw12.LexBack: whatever the text, it answers true. -/
import Derived.Test.YtonjhdmnndffkaaDoorWorks12
namespace Go.Proofs.YtonjhdmnndffkaaDoor
open Go.RowKit
set_option maxRecDepth 100000
set_option linter.unusedSimpArgs false
set_option linter.unusedVariables false

theorem lexR_at (s : List UInt8) (h : (lexR s).2.1 ≠ 0) : (lexR s).1 = [] ∧ (lexR s).2.2 ≤ s.length := lexR_bad h
set_option maxHeartbeats 1000000 in
theorem lexBack_c (s : ByteArray) (w : World) (hL : Lib0 w) : Calls Tryd.prog 3 #[.string s] w fun e w' => e = .returned (.bool true) ∧ Keeps noB w w' := by
  have HL := Lib.hid hL
  have hlen := str_len s
  clear hL
  go_enter Tryd.func3, Tryd.ntmps3
  go_wp2_with fail
  refine (works12_c w HL.out).mono ?_
  rintro e w1 ⟨rfl, hk1⟩
  have HK1 := Lib.hid hk1
  clear hk1
  go_wp2_with fail
  refine (great_c s w1).mono ?_
  rintro e w2 ⟨rfl, rfl⟩
  by_cases hbig : 65536 < s.size
  · have e1 : decide (65536 < s.size) = true := by simp [hbig]
    go_wp2_with fail
    go_ret
    exact ⟨rfl, HK1.out⟩
  · have e1 : decide (65536 < s.size) = false := by simp [hbig]
    go_wp2_with fail
    refine (lex_c s w2).mono ?_
    obtain ⟨⟨l, err, at_⟩, hR⟩ : ∃ X, lexR s.data.toList = X := ⟨_, rfl⟩
    rw [hR]
    unfold LexPost
    rintro e w3 ⟨hk3, v, rfl, ho⟩
    have HK3 := Lib.hid (HK1.out.trans hk3)
    clear hk3
    dsimp only at ho ⊢
    by_cases herr : err = 0
    · subst herr
      have hB := lex_back (s := s.data.toList) (by rw [hR])
      have hS := lexR_sound (s := s.data.toList) (by rw [hR])
      rw [hR] at hB hS
      obtain ⟨hB1, l', hB2, hB3, hB4⟩ := hB
      obtain ⟨rfl, hS1, hS2⟩ := hS
      dsimp only at hB1 hB2 hB3 hB4 hS2
      have hfit := wf_fit _ _ (lx_wf hS2)
      have hcount := lx_count hS2
      have hS' := lexR_sound (s := writtenL false l) (by rw [hB2])
      rw [hB2] at hS'
      have hfit' := wf_fit _ _ (lx_wf hS'.2.2)
      have hcount' := lx_count hS'.2.2
      have hl6 : l.length ≤ 1000000 := by omega
      have hl6' : l'.length ≤ 1000000 := by have := hS'.2.1; dsimp only at hcount'; omega
      have HB2 := Lib.hid hB2
      have HB3 := Lib.hid hB3
      have HB4 := Lib.hid hB4
      have HF := Lib.hid hfit
      have HF' := Lib.hid hfit'
      have HO := Lib.hid ho
      obtain ⟨A, c, rfl⟩ := own_slice ho
      clear hB2 hB3 hB4 hS1 hS2 hfit hcount hS' hfit' hcount' ho hR
      go_wp2_with fail
      obtain ⟨A2, c2, g, hT, _⟩ := TokRow.of_own HO.out
      have HT := Lib.hid hT
      clear hT
      have HKa := Lib.hid ((Keeps.refl noB w3).alloc (.cells #[.int .i64 0, .int .i64 0] 27))
      refine (written_c l _ A2 c2 g _ (HT.out.keep HKa.out id) hl6 HF.out (HL.out.keep0 (HK3.out.trans HKa.out))).mono ?_
      rintro e w4 ⟨rfl, hk4⟩
      have HK4 := Lib.hid (HKa.out.trans hk4)
      clear hk4 HKa
      go_wp2_with fail
      refine (lex_c ⟨(writtenL false l).toArray⟩ w4).mono ?_
      rw [show (⟨(writtenL false l).toArray⟩ : ByteArray).data.toList = writtenL false l from rfl, HB2.out]
      unfold LexPost
      rintro e w5 ⟨hk5, v', rfl, ho'⟩
      dsimp only at ho' ⊢
      obtain ⟨A', c', rfl⟩ := own_slice ho'
      obtain ⟨A2', c2', g', hT', _⟩ := TokRow.of_own ho'
      have HT' := Lib.hid hT'
      have HK5 := Lib.hid (HK4.out.trans hk5)
      have HKa := Lib.hid ((Keeps.refl noB w5).alloc (.cells #[.int .i64 0, .int .i64 0] 27))
      have hws : (⟨(writtenL false l).toArray⟩ : ByteArray).size = (writtenL false l).length := mk_size _
      have hwl : (writtenL false l).length ≤ s.size := by omega
      clear ho' hT' hk5 HO HK4
      go_wp2_with fail
      refine (same_c l' l _ _ A2' A2 c2' c2 g' g _ (HT'.out.keep HKa.out id) ((HT.out.keep HK5.out id).keep HKa.out id) hl6').mono ?_
      rw [HB3.out]
      rintro e w6 ⟨rfl, hk6⟩
      have HK6 := Lib.hid (HKa.out.trans hk6)
      clear hk6 HKa
      go_wp2_with fail
      refine (written_c l' _ A2' c2' g' _ (HT'.out.keep HK6.out id) hl6' HF'.out (HL.out.keep0 (HK3.out.trans (HK5.out.trans HK6.out)))).mono ?_
      rw [HB4.out]
      rintro e w7 ⟨rfl, hk7⟩
      have HK7 := Lib.hid (HK3.out.trans (HK5.out.trans (HK6.out.trans hk7)))
      clear hk7
      go_wp2_with fail
      go_ret
      exact ⟨rfl, HK7.out⟩
    · have hB := lexR_bad (s := s.data.toList) (by rw [hR]; exact herr)
      rw [hR] at hB
      obtain ⟨rfl, hB2⟩ := hB
      dsimp only at hB2
      have hB3 : at_ ≤ s.size := by omega
      have e2 : (err != 0) = true := by simp [herr]
      obtain ⟨A, c, rfl⟩ := own_slice ho
      clear ho hR HL
      go_wp2_with fail
      go_ret
      exact ⟨rfl, HK3.out.alloc _⟩
end Go.Proofs.YtonjhdmnndffkaaDoor
