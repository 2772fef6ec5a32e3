/- Expressions: equality of both sides. Conditions: none beyond that the expressions can be read. -/
import Derived.Test.YtadgdnoikgobcaaExCopy
import Derived.Deep.RegionHeld3
namespace Go.Proofs.Ytadgdnoikgobcaa
set_option maxRecDepth 100000
open Go.RowKit Go.WideShapes

theorem box2_below {w w' : World} {bx b2 : Obj} (h : Below (w.heap.size + 2) ((w.alloc bx).alloc b2) w') : Below w.heap.size w w' := by
  have := box_below (w := w.alloc bx) (o := b2) (by rw [World.size_alloc]; exact h)
  rw [World.size_alloc] at this
  exact box_below this

end Go.Proofs.Ytadgdnoikgobcaa
