/- AttributeUses: both sides, and how many marks the list takes. -/
import Derived.Test.YtaihdnlpdibkoaaUseH
import Derived.Test.YtaihdnlpdibkoaaUseK
import Derived.Test.YtaihdnlpdibkoaaMarkO
import Derived.Test.YtaihdnlpdibkoaaLawKit
namespace Go.Proofs.Ytaihdnlpdibkoaa
set_option maxRecDepth 100000
open Go.RowKit
theorem ctL_twoU : ∀ l : List Occ, ctL ct_Occ l = 2 * l.length
  | [] => rfl
  | x :: r => by
    have := ctL_twoU r
    simp only [ctL, List.length_cons, this, ct_Occ]
    omega
theorem usesE_cnt {D : Nat} {x : Ex} (h : bulkE D x ≤ 1048576) : ctL ct_Occ (sortO (usesE D x)) ≤ 100000000 := by
  have h1 := sortO_len (usesE D x)
  have h2 := usesE_len D x
  have h3 := cnt_le_bulk D x
  rw [ctL_twoU]
  omega
end Go.Proofs.Ytaihdnlpdibkoaa
