/- The contracts of the leaf functions on bytes: plain, short, small, the digits' test. -/
import Derived.Test.YtonjhdmnndffkaaDoorProg
import Derived.Test.YtonjhdmnndffkaaDoorBase
import Derived.Test.YtonjhdmnndffkaaDoorPure
namespace Go.Proofs.YtonjhdmnndffkaaDoor
open Go.RowKit
set_option maxRecDepth 100000
set_option linter.unusedSimpArgs false
set_option linter.unusedVariables false





theorem plain_c (c : Int) (w : World) : Calls Tryd.prog 80 #[.int .u8 c] w fun e w' => e = .returned (.bool (plainB c)) ∧ w = w' := by
  go_enter Tryd.func80, Tryd.ntmps80
  go_wp2
  all_goals
    go_ret
    exact ⟨ret_bool (by simp [plainB, *] <;> (first | omega | simp [bne])), rfl⟩

theorem short_c (c : Int) (w : World) : Calls Tryd.prog 81 #[.int .u8 c] w fun e w' => e = .returned (.tuple #[.int .u8 (shortB c).1, .bool (shortB c).2]) ∧ w = w' := by
  go_enter Tryd.func81, Tryd.ntmps81
  go_wp2
  all_goals
    go_ret2
    exact ⟨by simp [shortB, *], rfl⟩

theorem small_c (c : Int) (w : World) : Calls Tryd.prog 55 #[.int .u8 c] w fun e w' => e = .returned (.bool (smallB c)) ∧ w = w' := by
  go_enter Tryd.func55, Tryd.ntmps55
  go_wp2
  all_goals
    go_ret
    exact ⟨ret_bool (by simp [smallB, *] <;> (first | omega | (rw [Bool.eq_iff_iff]; simp; omega))), rfl⟩

theorem digit_c (c : Int) (w : World) : Calls Tryd.prog 58 #[.int .u8 c] w fun e w' => e = .returned (.bool (digitB c)) ∧ w = w' := by
  go_enter Tryd.func58, Tryd.ntmps58
  go_wp2
  all_goals
    go_ret
    exact ⟨ret_bool (by simp [digitB, *] <;> (first | omega | simp [bne])), rfl⟩
end Go.Proofs.YtonjhdmnndffkaaDoor
