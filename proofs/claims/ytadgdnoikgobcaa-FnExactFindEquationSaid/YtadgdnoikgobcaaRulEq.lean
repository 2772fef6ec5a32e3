/- The closures of EqualRule and the comparison of slices by them. -/
import Derived.Test.YtadgdnoikgobcaaOccEq
import Derived.Test.YtadgdnoikgobcaaExEq
import Derived.Laws.StructEq
namespace Go.Proofs.Ytadgdnoikgobcaa
set_option maxRecDepth 100000
open Go.RowKit Go.WideShapes
set_option linter.unusedVariables false
def eqEqn (D : Nat) (a b : Eqn) : Bool := eqOcc a.at_ b.at_ && eqE D a.expr b.expr
def eqCon (D : Nat) (a b : Con) : Bool := ((a.symbol.toList == b.symbol.toList) && (a.name.toList == b.name.toList)) && eqE D a.target b.target && eqE D a.value b.value
end Go.Proofs.Ytadgdnoikgobcaa
