/- Expressions: copies into new memory. Conditions: no argument list is longer than 2^20. -/
import Derived.Test.YtigdciegnpejoaaDoorExHelp
import Derived.Test.YtigdciegnpejoaaDoorFrame
namespace Go.Proofs.YtigdciegnpejoaaDoor
set_option maxRecDepth 100000
open Go.RowKit Go.WideShapes

/-- Argument lists that are not too long. -/
def slim : Nat → Ex → Prop
  | 0, _ => True
  | d + 1, e => e.args.length ≤ 1048576 ∧ ∀ x ∈ e.args, slim d x
theorem slim_of_bulk : ∀ {d : Nat} {e : Ex}, bulkE d e ≤ 1048576 → slim d e
  | 0, _, _ => trivial
  | d + 1, e, h => by
    have hs := sumBy_nonneg (bulkE_nonneg d) e.args
    simp only [bulkE] at h
    refine ⟨by omega, fun x hx => slim_of_bulk ?_⟩
    have := sumBy_mem (bulkE_nonneg d) hx
    omega

theorem below_drew_of {α : Type} {n : Nat} {R : CR α} (hR : Good n R) {w w1 w' : World} {x : α} {cs : List Value} {F : List Nat} {B : Nat} (h : R w x cs F) (hb : Below B w1 w') (hF : ∀ k ∈ F, k < B) (he : w1.heap = w.heap) : R w' x cs F :=
  hR.below (hR.heap h he) hb hF
end Go.Proofs.YtigdciegnpejoaaDoor
