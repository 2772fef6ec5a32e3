/- Rules: the symbol at a position; comparisons of rules. Conditions: none beyond that the rules can be read. -/
import Derived.Test.YtaihdnlpdibkoaaRul
import Derived.Test.YtaihdnlpdibkoaaRange
import Derived.Test.YtaihdnlpdibkoaaExEq
namespace Go.Proofs.Ytaihdnlpdibkoaa
set_option maxRecDepth 100000
open Go.RowKit Go.WideShapes
set_option linter.unusedVariables false

def symAt (x : Rul) (pos : Int) : ByteArray := if pos = 0 then x.left else if 1 ≤ pos ∧ pos ≤ x.right.length then x.right.getD (pos - 1).toNat ⟨#[]⟩ else ⟨#[]⟩
end Go.Proofs.Ytaihdnlpdibkoaa
