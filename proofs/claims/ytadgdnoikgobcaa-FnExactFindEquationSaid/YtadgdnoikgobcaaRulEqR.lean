/- Rules compared: the reference's. Conditions: none beyond that the rules can be read. -/
import Derived.Test.YtadgdnoikgobcaaRulEqI
import Derived.Deep.QuietTactic
import Derived.BigQuiet
namespace Go.Proofs.Ytadgdnoikgobcaa
set_option maxRecDepth 100000
open Go.RowKit Go.WideShapes
set_option linter.unusedVariables false

end Go.Proofs.Ytadgdnoikgobcaa
