/- Comparisons of slices of texts: the reference's. Conditions: the slices' lengths fit an int. -/
import Derived.Test.YtadgdnoikgobcaaStrs
namespace Go.Proofs.Ytadgdnoikgobcaa
set_option maxRecDepth 100000
open Go.RowKit

end Go.Proofs.Ytadgdnoikgobcaa
