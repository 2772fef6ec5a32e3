/- Library contracts of this seat: none is laid here. -/
import Derived.Test.YtilndebjnibgjaaDoorRows
namespace Go.Proofs
end Go.Proofs
