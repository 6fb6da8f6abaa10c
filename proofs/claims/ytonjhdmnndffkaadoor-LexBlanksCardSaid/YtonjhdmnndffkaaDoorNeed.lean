/- 'need', the closure of pattern.scan. -/
import Derived.Test.YtonjhdmnndffkaaDoorScanC
namespace Go.Proofs.YtonjhdmnndffkaaDoor
open Go.RowKit
set_option maxRecDepth 100000
set_option linter.unusedSimpArgs false
set_option linter.unusedVariables false

theorem need_ok (K : FuncId) (caps : Array Value) (p : Nat) (s : ByteArray) (ba bs : Nat) (w : World) (hE : ∀ (args : Array Value) (W : World), (callFunc K args).run Tryd.prog W = .ok (.enter K args) W)
    (hs63 : s.size ≤ 9223372036854775806)
    (hne : ba ≠ bs) (hat : w.cell? ⟨ba, 0, none⟩ = some (.int .i64 p)) (hstr : w.cell? ⟨bs, 0, none⟩ = some (.string s)) (hfz : w.frozen? ⟨ba, 0, none⟩ = false) (hlt : p < s.size)
    (hK : Hid (Calls Tryd.prog K (#[.int .u8 (s[p].toNat : Int)] ++ caps) w fun e W' => e = .returned (.bool true) ∧ w = W')) :
    Calls Tryd.prog 94 #[.func (.func K) #[] caps, .pointer (some ⟨ba, 0, none⟩), .pointer (some ⟨bs, 0, none⟩)] w fun e w' => e = .returned (.int .u8 (s[p].toNat : Int)) ∧ w.setCell ⟨ba, 0, none⟩ (.int .i64 ((p : Int) + 1)) = w' := by
  have hne2 : ¬ bs = ba := fun e => hne e.symm
  go_enter Tryd.func94, Tryd.ntmps94
  go_wp2_with fail
  refine hK.out.mono ?_; rintro e w ⟨rfl, rfl⟩
  have hc1 := cs_same hat (Value.int .i64 ((p : Int) + 1))
  have hc2 := cs_far hstr (a := ⟨ba, 0, none⟩) hne2 (Value.int .i64 ((p : Int) + 1))
  go_wp2_with fail
  go_ret
  exact ⟨rfl, rfl⟩

theorem need_end (K : FuncId) (caps : Array Value) (p : Nat) (s : ByteArray) (ba bs : Nat) (w : World)
    (hs63 : s.size ≤ 9223372036854775806)
    (hat : w.cell? ⟨ba, 0, none⟩ = some (.int .i64 p)) (hstr : w.cell? ⟨bs, 0, none⟩ = some (.string s)) (hlt : s.size ≤ p) :
    Calls Tryd.prog 94 #[.func (.func K) #[] caps, .pointer (some ⟨ba, 0, none⟩), .pointer (some ⟨bs, 0, none⟩)] w fun e w' => e = .panicked [{ v := .iface 138 (.int .i64 p), recovered := false }] ∧ w = w' := by
  go_enter Tryd.func94, Tryd.ntmps94
  go_wp2_with fail
  exact ⟨rfl, rfl, rfl⟩

theorem need_no (K : FuncId) (caps : Array Value) (p : Nat) (s : ByteArray) (ba bs : Nat) (w : World) (hE : ∀ (args : Array Value) (W : World), (callFunc K args).run Tryd.prog W = .ok (.enter K args) W)
    (hs63 : s.size ≤ 9223372036854775806)
    (hat : w.cell? ⟨ba, 0, none⟩ = some (.int .i64 p)) (hstr : w.cell? ⟨bs, 0, none⟩ = some (.string s)) (hlt : p < s.size)
    (hK : Hid (Calls Tryd.prog K (#[.int .u8 (s[p].toNat : Int)] ++ caps) w fun e W' => e = .returned (.bool false) ∧ w = W')) :
    Calls Tryd.prog 94 #[.func (.func K) #[] caps, .pointer (some ⟨ba, 0, none⟩), .pointer (some ⟨bs, 0, none⟩)] w fun e w' => e = .panicked [{ v := .iface 138 (.int .i64 p), recovered := false }] ∧ w = w' := by
  go_enter Tryd.func94, Tryd.ntmps94
  go_wp2_with fail
  refine hK.out.mono ?_; rintro e w ⟨rfl, rfl⟩
  go_wp2_with fail
  exact ⟨rfl, rfl, rfl⟩
end Go.Proofs.YtonjhdmnndffkaaDoor
