/- dragomanlaw12.works. -/
import Derived.Test.YtonjhdmnndffkaaDoorWritten
namespace Go.Proofs.YtonjhdmnndffkaaDoor
open Go.RowKit
set_option maxRecDepth 100000
set_option linter.unusedSimpArgs false
set_option linter.unusedVariables false

def worksS : List UInt8 := [97, 58, 32, 35, 32, 120, 10, 32, 105, 102, 32, 110, 32, 60, 32, 49, 50]
def worksT : List Tok := [⟨2, [97], 0, 0⟩, ⟨6, [], 0, 6⟩, ⟨1, [105, 102], 0, 8⟩, ⟨1, [110], 0, 11⟩, ⟨5, [60], 0, 13⟩, ⟨3, [], 12, 15⟩, ⟨6, [], 0, 17⟩]
theorem works_lex : lexR worksS = (worksT, 0, 0) := by decide +kernel
theorem works_name : nameB [97, 45, 49] = true := by decide +kernel

theorem works12_c (w : World) (hL : Lib0 w) : Calls Tryd.prog 14 #[] w fun e w' => e = .returned (.bool true) ∧ Keeps noB w w' := by
  have HL := Lib.hid hL
  clear hL
  go_enter Tryd.func14, Tryd.ntmps14
  go_wp2_with fail
  refine (lex_c ⟨worksS.toArray⟩ w).mono ?_
  rw [show (⟨worksS.toArray⟩ : ByteArray).data.toList = worksS from rfl, works_lex]
  rintro e w2 ⟨hk, v, rfl, ho⟩
  obtain ⟨g, cap, rfl, hb, hlt, _⟩ := own_form ho (by decide)
  have hT : TokRow w2 (.slice (some ⟨g, 0, none⟩) 7 cap) worksT (some ⟨g, 0, none⟩) cap g := ⟨rfl, fun _ => rfl, fun j u hu => own_cell ho j hu⟩
  obtain ⟨a0, a1, a2, a3⟩ := hT.at_ 0 (by decide)
  obtain ⟨b0, b1, b2, b3⟩ := hT.at_ 5 (by decide)
  obtain ⟨c0, c1, c2, c3⟩ := hT.at_ 6 (by decide)
  simp only [worksT, List.getElem_cons_zero, List.getElem_cons_succ] at a0 a1 a2 a3 b0 b1 b2 b3 c0 c1 c2 c3
  have HK := Lib.hid hk
  have hgn : ¬ g = w2.heap.size := by omega
  clear ho hT hk
  go_wp2_with fail
  refine (Name_c ⟨#[97, 45, 49]⟩ _ (HL.out.keep0 (HK.out.alloc _))).mono ?_
  rw [show (⟨#[97, 45, 49]⟩ : ByteArray).data.toList = [97, 45, 49] from rfl, works_name]
  rintro e w3 ⟨rfl, rfl⟩
  go_wp2_with fail
  go_ret
  exact ⟨rfl, HK.out.alloc _⟩
end Go.Proofs.YtonjhdmnndffkaaDoor
