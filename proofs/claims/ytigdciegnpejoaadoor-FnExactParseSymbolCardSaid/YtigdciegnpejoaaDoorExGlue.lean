/- Expressions, told as the other structs are: copies and comparisons. Conditions: a copy is asked of what has at most the size 2^20. -/
import Derived.Test.YtigdciegnpejoaaDoorExCopy
namespace Go.Proofs.YtigdciegnpejoaaDoor
set_option maxRecDepth 100000
open Go.RowKit Go.WideShapes

theorem ExR.one {D : Nat} {w : World} {e : Ex} {cs : List Value} {F : List Nat} (h : ExR D w e cs F) : ∀ v ∈ cs, v.oneCell' = true := by
  match D, h with
  | d + 1, h =>
    obtain ⟨A, cap, rfl, _⟩ := ex_form h
    intro v hv
    simp only [ExH.cells, List.mem_cons, List.not_mem_nil, or_false] at hv
    rcases hv with rfl | rfl | rfl | rfl | rfl | rfl | rfl <;> rfl
end Go.Proofs.YtigdciegnpejoaaDoor
