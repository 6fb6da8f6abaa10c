/- What is asked of the library's variables; lex.Name, strconv.Itoa. -/
import Derived.Test.YtonjhdmnndffkaaDoorReader
import Derived.Test.YtonjhdmnndffkaaDoorShelf
import Derived.Lib.LaidTab
import Derived.Deep.LoopGhost
namespace Go.Proofs.YtonjhdmnndffkaaDoor
open Go.RowKit
set_option maxRecDepth 100000
set_option linter.unusedSimpArgs false
set_option linter.unusedVariables false

structure Lib0 (w : World) : Prop where
  pow : Lib.TabIs Tryd.prog w "internal/strconv.uint64pow10" .u64 Lib.pow10Tab
  ml : ∃ m, w.cell? ⟨0, 0, none⟩ = some (.int .i64 m)
  sz : 4 ≤ w.heap.size
theorem gpow : Tryd.prog.globalNamed "internal/strconv.uint64pow10" = some 1 := by kernel_rfl
theorem Lib0.keep {D : Nat → Prop} {w w' : World} (h : Lib0 w) (k : Keeps D w w') (hd : ∀ i, i < 4 → ¬ D i) : Lib0 w' := by
  refine ⟨?_, k.someInt h.ml (hd _ (by decide)), Nat.le_trans h.sz k.size⟩
  have hp := h.pow
  have hb := k.block 1 (Nat.lt_of_lt_of_le (by decide) h.sz) (hd _ (by decide))
  unfold Lib.TabIs World.var? at hp ⊢
  rw [gpow] at hp ⊢
  simp only [Option.bind_some] at hp ⊢
  rw [hb]
  exact hp
theorem Lib0.keep0 {w w' : World} (h : Lib0 w) (k : Keeps noB w w') : Lib0 w' := h.keep k fun _ _ => id

def wordsL : List UInt8 := [32, 115, 101, 110, 100, 32, 115, 101, 116, 32, 105, 110, 99, 32, 105, 102, 32, 103, 111, 116, 111, 32, 101, 120, 105, 116, 32, 101, 120, 112, 101, 99, 116, 32, 116, 105, 109, 101, 111, 117, 116, 32, 103, 108, 111, 98, 32, 114, 101, 32]
def nameB (l : List UInt8) : Bool :=
  !l.isEmpty && (decide (l.length ≤ 16) && ((decide (97 ≤ peekL l) && decide (peekL l ≤ 122)) && (!Lib.contains wordsL (32 :: l ++ [32]) && l.all fun c => smallB c.toNat)))

theorem Name_c (s : ByteArray) (w : World) (hL : Lib0 w) :
    Calls Tryd.prog 34 #[.string s] w fun e w' => e = .returned (.bool (nameB s.data.toList)) ∧ w' = w := by
  obtain ⟨m, hm⟩ := hL.ml
  have hM := Lib.hid hm
  clear hm
  have hl := str_len s
  by_cases h0 : s.size = 0
  · have hN : nameB s.data.toList = false := by
      have : s.data.toList = [] := List.eq_nil_of_length_eq_zero (by omega)
      rw [this]; rfl
    have he : s = ⟨#[]⟩ := by apply ByteArray.ext; exact Array.eq_empty_of_size_eq_zero h0
    rw [hN]
    subst he
    go_enter Tryd.func34, Tryd.ntmps34
    go_wp2_with fail
    go_ret
    exact ⟨rfl, rfl⟩
  · have hpos : 0 < s.size := by omega
    have HD := Lib.hid (data_get s 0 hpos)
    have HP := Lib.hid (show peekL s.data.toList = (s[0].toNat : Int) by have := HD.out; simp only [List.drop_zero] at this; rw [this]; rfl)
    have HN0 := Lib.hid (show s.data.toList.isEmpty = false by have := HD.out; simp only [List.drop_zero] at this; rw [this]; rfl)
    have hne : s.toList.isEmpty = false := by rw [ByteArray.toList_eq]; exact HN0.out
    have HL := Lib.hid hl
    clear hl
    by_cases h16 : 16 < s.size
    · have hN : nameB s.data.toList = false := by unfold nameB; rw [HL.out]; simp; omega
      rw [hN]
      go_enter Tryd.func34, Tryd.ntmps34
      go_wp2_with fail
      go_ret
      exact ⟨rfl, rfl⟩
    · by_cases ha : (s[0].toNat : Int) < 97
      · have hN : nameB s.data.toList = false := by unfold nameB; rw [HP.out]; have : decide ((97 : Int) ≤ (s[0].toNat : Int)) = false := by simp; omega
                                                    rw [this]; simp
        rw [hN]
        go_enter Tryd.func34, Tryd.ntmps34
        go_wp2_with fail
        go_ret
        exact ⟨rfl, rfl⟩
      · by_cases hz : 122 < (s[0].toNat : Int)
        · have hN : nameB s.data.toList = false := by unfold nameB; rw [HP.out]; have : decide ((s[0].toNat : Int) ≤ 122) = false := by simp; omega
                                                      rw [this]; simp
          rw [hN]
          go_enter Tryd.func34, Tryd.ntmps34
          go_wp2_with fail
          go_ret
          exact ⟨rfl, rfl⟩
        · have HN := Lib.hid (show nameB s.data.toList = (!Lib.contains wordsL (32 :: s.data.toList ++ [32]) && s.data.toList.all fun c => smallB c.toNat) by
            unfold nameB; rw [HP.out, HL.out, HN0.out]
            have h1 : decide ((97 : Int) ≤ (s[0].toNat : Int)) = true := by simp; omega
            have h2 : decide ((s[0].toNat : Int) ≤ 122) = true := by simp; omega
            have h3 : decide (s.size ≤ 16) = true := by simp; omega
            rw [h1, h2, h3]; simp)
          have hz1 : ¬ (16 : Int) < (s.size : Int) := by omega
          have HS := Lib.hid (show (⟨#[32]⟩ ++ s ++ ⟨#[32]⟩ : ByteArray).data.toList = 32 :: s.data.toList ++ [32] by simp)
          cases hc : Lib.contains wordsL (32 :: s.data.toList ++ [32]) with
          | true =>
            have hN : nameB s.data.toList = false := by rw [HN.out, hc]; rfl
            rw [hN]
            have HCt := Lib.hid hc
            clear hc hN HN
            go_enter Tryd.func34, Tryd.ntmps34
            go_wp2_with fail
            refine (Tryd.strings_Contains ⟨wordsL.toArray⟩ _ m w (by decide) hM.out).mono ?_
            rintro e w2 ⟨rfl, rfl⟩
            rw [HS.out, show (⟨wordsL.toArray⟩ : ByteArray).data.toList = wordsL from rfl, HCt.out]
            go_wp2_with fail
            go_ret
            exact ⟨rfl, rfl⟩
          | false =>
            have hN : nameB s.data.toList = s.data.toList.all fun c => smallB c.toNat := by rw [HN.out, hc]; rfl
            obtain ⟨r, hr⟩ : ∃ r, (s.data.toList.all fun c => smallB c.toNat) = r := ⟨_, rfl⟩
            rw [hN, hr]
            have HR := Lib.hid hr
            have HCt := Lib.hid hc
            clear hc hN HN hr
            go_enter Tryd.func34, Tryd.ntmps34
            go_wp2_with fail
            refine (Tryd.strings_Contains ⟨wordsL.toArray⟩ _ m w (by decide) hM.out).mono ?_
            rintro e w2 ⟨rfl, rfl⟩
            rw [HS.out, show (⟨wordsL.toArray⟩ : ByteArray).data.toList = wordsL from rfl, HCt.out]
            clear HCt HS HP HN0 HD
            go_wp2_with fail
            go_loopg [29] s.size (fun k v29 wr => ∃ p : Nat, v29 = .int .i64 p ∧ k + p = s.size ∧ ((s.data.toList.drop p).all fun c => smallB c.toNat) = r ∧ wr = w2)
            case atStart => exact ⟨0, rfl, by omega, by simpa using HR.out, rfl⟩
            case round =>
              obtain ⟨p, rfl, hk, hr, rfl⟩ := hrel
              have HQ := Lib.hid hr
              clear hr HR
              by_cases hp : p < s.size
              · have HD := Lib.hid (data_get s p hp)
                have hp1 : (p : Int) < s.size := by omega
                go_wp2_with fail
                refine (small_c (s[p].toNat : Int) _).mono ?_
                rintro e w3 ⟨rfl, rfl⟩
                cases hs : smallB (s[p].toNat : Int) with
                | true =>
                  have HQ2 := Lib.hid (show ((s.data.toList.drop (p + 1)).all fun c => smallB c.toNat) = r by have := HQ.out; rw [HD.out] at this; simpa [hs] using this)
                  clear hs HQ
                  go_wp2_with fail
                  go_roundg (s.size - (p + 1))
                  case measure => omega
                  case rel => exact ⟨p + 1, rfl, by omega, HQ2.out, rfl⟩
                | false =>
                  have hr : r = false := by have := HQ.out; rw [HD.out] at this; simp [hs] at this; exact this
                  clear hs HQ
                  go_wp2_with fail
                  go_ret
                  first | exact ⟨by rw [hr]; rfl, rfl⟩ | exact ⟨rfl, rfl⟩
              · have hr : r = true := by have := HQ.out; rw [data_end s p (by omega)] at this; simpa using this.symm
                clear HQ
                have hp1 : ¬ (p : Int) < s.size := by omega
                go_wp2_with fail
                go_ret
                first | exact ⟨by rw [hr]; rfl, rfl⟩ | exact ⟨rfl, rfl⟩
end Go.Proofs.YtonjhdmnndffkaaDoor
