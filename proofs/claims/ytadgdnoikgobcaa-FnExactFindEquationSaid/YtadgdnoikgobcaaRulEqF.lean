/- slices.EqualFunc over equations and contributions, with the closures of EqualRule. -/
import Derived.Test.YtadgdnoikgobcaaRulEq
import Derived.Test.YtadgdnoikgobcaaWhole
namespace Go.Proofs.Ytadgdnoikgobcaa
set_option maxRecDepth 100000
open Go.RowKit Go.WideShapes
set_option linter.unusedVariables false
end Go.Proofs.Ytadgdnoikgobcaa
