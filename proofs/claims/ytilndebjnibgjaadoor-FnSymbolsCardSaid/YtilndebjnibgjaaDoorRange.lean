/- Whether a number lies in a range. Conditions: none. -/
import Derived.Test.YtilndebjnibgjaaDoorRows
import Derived.Test.YtilndebjnibgjaaDoorKit
namespace Go.Proofs.YtilndebjnibgjaaDoor
set_option maxRecDepth 100000
open Go.RowKit

def inR (x lo hi : Int) : Bool := decide (lo ≤ x ∧ x ≤ hi)
theorem inR_yes {x lo hi : Int} (h : lo ≤ x ∧ x ≤ hi) : inR x lo hi = true := by unfold inR; exact decide_eq_true h
theorem inR_no {x lo hi : Int} (h : ¬ (lo ≤ x ∧ x ≤ hi)) : inR x lo hi = false := by unfold inR; exact decide_eq_false h
theorem s_l1In (x lo hi : Int) (w : World) : Calls Tryd.prog 38 #[.int .i64 x, .int .i64 lo, .int .i64 hi] w fun e w' => e = .returned (.bool (inR x lo hi)) ∧ w = w' := by
  by_cases h1 : lo ≤ x
  all_goals
    go_enter Tryd.func38, Tryd.ntmps38
    go_wp2
    go_ret
    exact ⟨ret_bool (by unfold inR; rw [Bool.eq_iff_iff]; simp; omega), rfl⟩
theorem i_within (x lo hi : Int) (w : World) : Calls Tryd.prog 27 #[.int .i64 x, .int .i64 lo, .int .i64 hi] w fun e w' => e = .returned (.bool (inR x lo hi)) ∧ w = w' := by
  by_cases h1 : lo ≤ x
  all_goals
    go_enter Tryd.func27, Tryd.ntmps27
    go_wp2
    go_ret
    exact ⟨ret_bool (by unfold inR; rw [Bool.eq_iff_iff]; simp; omega), rfl⟩

end Go.Proofs.YtilndebjnibgjaaDoor
