/- The tests that pattern.scan hands on, and 'need'. -/
import Derived.Test.YtonjhdmnndffkaaDoorLeaf
import Derived.Test.YtonjhdmnndffkaaDoorShelf
import Derived.Laws.BitsAllLaws
namespace Go.Proofs.YtonjhdmnndffkaaDoor
open Go.RowKit
set_option maxRecDepth 100000
set_option linter.unusedSimpArgs false
set_option linter.unusedVariables false


theorem u8_cast (u : UInt8) : ((u.toNat : Int)).toNat.toUInt8 = u := by simp
theorem indexByte_range (l : List UInt8) (c : UInt8) : -1 ≤ Lib.indexByte l c ∧ Lib.indexByte l c < l.length := by
  induction l with
  | nil => simp [Lib.indexByte]
  | cons b l ih =>
    unfold Lib.indexByte
    simp only [List.length_cons]
    repeat' split
    all_goals omega
theorem hexI_range (c : UInt8) : -1 ≤ hexI c ∧ hexI c < 16 := by have := indexByte_range hexL c; simpa [hexI, hexL] using this

theorem quo_c (c : Int) (w : World) : Calls Tryd.prog 95 #[.int .u8 c] w fun e w' => e = .returned (.bool (quoB c)) ∧ w = w' := by
  go_enter Tryd.func95, Tryd.ntmps95
  go_wp2
  all_goals
    go_ret
    exact ⟨ret_bool (by simp [quoB, *]), rfl⟩
theorem body_c (c : Int) (w : World) : Calls Tryd.prog 96 #[.int .u8 c] w fun e w' => e = .returned (.bool (bodyB c)) ∧ w = w' := by
  obtain ⟨b, hb⟩ : ∃ b, plainB c = b := ⟨_, rfl⟩
  have Hb := Lib.hid hb
  clear hb
  cases b
  all_goals
    go_enter Tryd.func96, Tryd.ntmps96
    go_wp2_with fail
    refine (plain_c _ _).mono ?_; rintro e w' ⟨rfl, rfl⟩; rw [Hb.out]
    go_wp2_with fail
  all_goals
    go_ret
    exact ⟨ret_bool (by simp [bodyB, Hb.out, *]), rfl⟩
theorem esc_c (u : UInt8) (w : World) : Calls Tryd.prog 97 #[.int .u8 (u.toNat : Int)] w fun e w' => e = .returned (.bool (escB u)) ∧ w = w' := by
  go_enter Tryd.func97, Tryd.ntmps97
  go_wp2_with fail
  refine (Tryd.strings_IndexByte _ _ _).mono ?_; rintro e w' ⟨rfl, rfl⟩; rw [u8_cast]
  go_wp2_with fail
  go_ret
  exact ⟨rfl, rfl⟩
theorem high_c (c : Int) (w : World) : Calls Tryd.prog 98 #[.int .u8 c] w fun e w' => e = .returned (.bool (highB c)) ∧ w = w' := by
  go_enter Tryd.func98, Tryd.ntmps98
  go_wp2
  all_goals
    go_ret
    exact ⟨ret_bool (by simp [highB, *] <;> (first | omega | (rw [Bool.eq_iff_iff]; simp; omega))), rfl⟩

theorem or_hexF : ∀ m : Fin 16, ∀ n : Fin 16, bits .or .i64 (((m.val : Nat) : Int) * 16) ((n.val : Nat) : Int) = ((m.val : Nat) : Int) * 16 + ((n.val : Nat) : Int) := by decide +kernel
theorem or_hex (h l : Int) (h0 : 0 ≤ h) (h1 : h < 16) (l0 : 0 ≤ l) (l1 : l < 16) : bits .or .i64 (h * 16) l = h * 16 + l := by
  obtain ⟨m, rfl⟩ := Int.eq_ofNat_of_zero_le h0
  obtain ⟨n, rfl⟩ := Int.eq_ofNat_of_zero_le l0
  exact or_hexF ⟨m, by omega⟩ ⟨n, by omega⟩
theorem hexI_eq (u : UInt8) : Lib.indexByte ({ data := #[48, 49, 50, 51, 52, 53, 54, 55, 56, 57, 97, 98, 99, 100, 101, 102] } : ByteArray).data.toList u = hexI u := rfl
theorem low_c (h : Int) (h0 : 0 ≤ h) (h1 : h < 16) (b : Nat) (u : UInt8) (w : World) (hc : w.cell? ⟨b, 0, none⟩ = some (.int .i64 h)) : Calls Tryd.prog 99 #[.int .u8 (u.toNat : Int), .pointer (some ⟨b, 0, none⟩)] w fun e w' => e = .returned (.bool (lowB h u)) ∧ w = w' := by
  have hr := hexI_range u
  by_cases hn : hexI u < 0
  · go_enter Tryd.func99, Tryd.ntmps99
    go_wp2_with fail
    refine (Tryd.strings_IndexByte _ _ _).mono ?_; rintro e w' ⟨rfl, rfl⟩; rw [u8_cast, hexI_eq]
    go_wp2_with fail
    go_ret
    exact ⟨ret_bool (by simp [lowB, hn]), rfl⟩
  · have ho := or_hex h (hexI u) h0 h1 (by omega) (by omega)
    have hm : (h * 16 + hexI u) % 256 = h * 16 + hexI u := by omega
    obtain ⟨b1, hb1⟩ : ∃ b, (shortB (h * 16 + hexI u)).2 = b := ⟨_, rfl⟩
    obtain ⟨b2, hb2⟩ : ∃ b, plainB (h * 16 + hexI u) = b := ⟨_, rfl⟩
    have H1 := Lib.hid hb1
    have H2 := Lib.hid hb2
    have hn' : ¬ hexI u < 0 := hn
    clear hb1 hb2
    go_enter Tryd.func99, Tryd.ntmps99
    go_wp2_with fail
    refine (Tryd.strings_IndexByte _ _ _).mono ?_; rintro e w' ⟨rfl, rfl⟩; rw [u8_cast, hexI_eq]
    go_wp2_with fail
    refine (short_c _ _).mono ?_; rintro e w' ⟨rfl, rfl⟩; rw [H1.out]
    go_wp2_with fail
    refine (plain_c _ _).mono ?_; rintro e w' ⟨rfl, rfl⟩; rw [H2.out]
    cases b1 <;> cases b2
    all_goals
      go_wp2_with fail
      go_ret
      exact ⟨ret_bool (by simp [lowB, hn', H1.out, H2.out]), rfl⟩
theorem high_hexF : ∀ n : Fin 256, highB ((n.val : Nat) : Int) = true → 0 ≤ hexI (UInt8.ofNat n.val) ∧ hexI (UInt8.ofNat n.val) < 16 := by decide +kernel
theorem high_hex (u : UInt8) (h : highB (u.toNat : Int) = true) : 0 ≤ hexI u ∧ hexI u < 16 := by
  have := high_hexF ⟨u.toNat, u.toNat_lt⟩ h
  simpa using this
theorem low_hex (h : Int) (u : UInt8) (hl : lowB h u = true) : 0 ≤ hexI u ∧ hexI u < 16 := by
  have := hexI_range u
  by_cases hn : hexI u < 0
  · simp [lowB, hn] at hl
  · omega
theorem byte_of (x : Int) (h0 : 0 ≤ x) (h1 : x < 256) : ∃ c : UInt8, (c.toNat : Int) = x := by
  refine ⟨UInt8.ofNat x.toNat, ?_⟩
  rw [UInt8.toNat_ofNat']
  omega
theorem hexI_eq2 (u : UInt8) : Lib.indexByte ({ data := #[48, 49, 50, 51, 52, 53, 54, 55, 56, 57, 97, 98, 99, 100, 101, 102] } : ByteArray).data.toList ((u.toNat : Int)).toNat.toUInt8 = hexI u := by rw [u8_cast]; rfl
end Go.Proofs.YtonjhdmnndffkaaDoor
