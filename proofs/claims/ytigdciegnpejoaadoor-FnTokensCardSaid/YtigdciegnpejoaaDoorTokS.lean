/- Tokens: the reference's tests of bytes. Conditions: none. -/
import Derived.Test.YtigdciegnpejoaaDoorTokP
namespace Go.Proofs.YtigdciegnpejoaaDoor
set_option maxRecDepth 100000
open Go.RowKit
set_option linter.unusedVariables false

theorem s_l5Letter (c : UInt8) (w : World) : Calls Tryd.prog 73 #[.int .u8 (c.toNat : Int)] w fun e w' => e = .returned (.bool (low c)) ∧ w = w' := by
  by_cases h1 : 97 ≤ (c.toNat : Int)
  all_goals
    go_enter Tryd.func73, Tryd.ntmps73
    go_wp2
    go_ret
    exact ⟨ret_bool (by unfold low; rw [Bool.eq_iff_iff]; simp; omega), rfl⟩
theorem s_l5Digit (c : UInt8) (w : World) : Calls Tryd.prog 74 #[.int .u8 (c.toNat : Int)] w fun e w' => e = .returned (.bool (dig c)) ∧ w = w' := by
  by_cases h1 : 48 ≤ (c.toNat : Int)
  all_goals
    go_enter Tryd.func74, Tryd.ntmps74
    go_wp2
    go_ret
    exact ⟨ret_bool (by unfold dig; rw [Bool.eq_iff_iff]; simp; omega), rfl⟩

end Go.Proofs.YtigdciegnpejoaaDoor
