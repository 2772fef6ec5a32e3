/- Rules compared: both sides. Conditions: none beyond that the rules can be read. -/
import Derived.Test.YtadgdnoikgobcaaRulEqF
import Derived.Test.YtadgdnoikgobcaaOccEq
namespace Go.Proofs.Ytadgdnoikgobcaa
set_option maxRecDepth 100000
open Go.RowKit Go.WideShapes
set_option linter.unusedVariables false

def eqRul (D : Nat) (a b : Rul) : Bool := (a.name.toList == b.name.toList) && ((a.left.toList == b.left.toList) && (decide (a.right = b.right) && ((a.lit == b.lit) && (eqL (eqEqn D) a.eqs b.eqs && eqL (eqCon D) a.cons b.cons))))
theorem eqRul_lens {D : Nat} {a b : Rul} (h : ¬ (a.eqs.length = b.eqs.length ∧ a.cons.length = b.cons.length)) : eqRul D a b = false := by
  by_cases h1 : a.eqs.length = b.eqs.length
  · have h2 : a.cons.length ≠ b.cons.length := fun e => h ⟨h1, e⟩
    unfold eqRul
    rw [eqL_len (f := eqCon D) h2]
    simp
  · unfold eqRul
    rw [eqL_len (f := eqEqn D) h1]
    simp

end Go.Proofs.Ytadgdnoikgobcaa
