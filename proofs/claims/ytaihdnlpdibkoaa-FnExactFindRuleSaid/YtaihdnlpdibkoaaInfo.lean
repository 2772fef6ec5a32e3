/- What the memory of a text is. Plain facts of the program. -/
import Derived.Test.YtaihdnlpdibkoaaStrs

namespace Go.Proofs.Ytaihdnlpdibkoaa
set_option maxRecDepth 100000
theorem infoStr2 : (Try.prog.info? 9).map (fun i => (i.zero, i.size, i.bytes)) = some (some (.string ByteArray.empty), 1, 16) := by kernel_rfl
end Go.Proofs.Ytaihdnlpdibkoaa
