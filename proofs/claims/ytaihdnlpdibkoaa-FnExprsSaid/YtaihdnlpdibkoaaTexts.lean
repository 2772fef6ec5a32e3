/- Comparisons of slices of texts: the reference's. Conditions: the slices' lengths fit an int. -/
import Derived.Test.YtaihdnlpdibkoaaStrs
namespace Go.Proofs.Ytaihdnlpdibkoaa
set_option maxRecDepth 100000
open Go.RowKit

end Go.Proofs.Ytaihdnlpdibkoaa
