/- Whether a number lies in a range. Conditions: none. -/
import Derived.Test.YtadgdnoikgobcaaRows
import Derived.Test.YtadgdnoikgobcaaKit
namespace Go.Proofs.Ytadgdnoikgobcaa
set_option maxRecDepth 100000
open Go.RowKit

def inR (x lo hi : Int) : Bool := decide (lo ≤ x ∧ x ≤ hi)
theorem inR_yes {x lo hi : Int} (h : lo ≤ x ∧ x ≤ hi) : inR x lo hi = true := by unfold inR; exact decide_eq_true h
theorem inR_no {x lo hi : Int} (h : ¬ (lo ≤ x ∧ x ≤ hi)) : inR x lo hi = false := by unfold inR; exact decide_eq_false h
end Go.Proofs.Ytadgdnoikgobcaa
