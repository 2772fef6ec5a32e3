/- Whether a number lies in a range. Conditions: none. -/
import Derived.Test.YtaihdnlpdibkoaaRows
import Derived.Test.YtaihdnlpdibkoaaKit
namespace Go.Proofs.Ytaihdnlpdibkoaa
set_option maxRecDepth 100000
open Go.RowKit

def inR (x lo hi : Int) : Bool := decide (lo ≤ x ∧ x ≤ hi)
theorem inR_yes {x lo hi : Int} (h : lo ≤ x ∧ x ≤ hi) : inR x lo hi = true := by unfold inR; exact decide_eq_true h
theorem inR_no {x lo hi : Int} (h : ¬ (lo ≤ x ∧ x ≤ hi)) : inR x lo hi = false := by unfold inR; exact decide_eq_false h
theorem s_l1In (x lo hi : Int) (w : World) : Calls Try.prog 136 #[.int .i64 x, .int .i64 lo, .int .i64 hi] w fun e w' => e = .returned (.bool (inR x lo hi)) ∧ w = w' := by
  by_cases h1 : lo ≤ x
  all_goals
    go_enter Try.func136, Try.ntmps136
    go_wp2
    go_ret
    exact ⟨ret_bool (by unfold inR; rw [Bool.eq_iff_iff]; simp; omega), rfl⟩
theorem i_within (x lo hi : Int) (w : World) : Calls Try.prog 103 #[.int .i64 x, .int .i64 lo, .int .i64 hi] w fun e w' => e = .returned (.bool (inR x lo hi)) ∧ w = w' := by
  by_cases h1 : lo ≤ x
  all_goals
    go_enter Try.func103, Try.ntmps103
    go_wp2
    go_ret
    exact ⟨ret_bool (by unfold inR; rw [Bool.eq_iff_iff]; simp; omega), rfl⟩

end Go.Proofs.Ytaihdnlpdibkoaa
