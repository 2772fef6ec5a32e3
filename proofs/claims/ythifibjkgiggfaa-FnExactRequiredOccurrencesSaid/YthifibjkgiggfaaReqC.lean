/- The attributes that a rule must define: both sides, and how many marks they take. -/
import Derived.Test.YthifibjkgiggfaaReqI
import Derived.Test.YthifibjkgiggfaaReqS
import Derived.Test.YthifibjkgiggfaaLawKit
namespace Go.Proofs.Ythifibjkgiggfaa
set_option maxRecDepth 100000
open Go.RowKit
theorem ctL_two : ∀ l : List Occ, ctL ct_Occ l = 2 * l.length
  | [] => rfl
  | x :: r => by
    have := ctL_two r
    simp only [ctL, List.length_cons, this, ct_Occ]
    omega
theorem reqO_cnt {D : Nat} {g : Grm} {x : Rul} (hj : bulkGrm D g + bulkRul D x ≤ 1048576) : ctL ct_Occ (reqO g x) ≤ 824634769408 := by
  have := reqO_len hj
  rw [ctL_two]
  omega
end Go.Proofs.Ythifibjkgiggfaa
