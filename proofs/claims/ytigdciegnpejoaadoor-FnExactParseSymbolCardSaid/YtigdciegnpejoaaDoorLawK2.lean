/- A cell beside what was marked. Plain: no program. -/
import Derived.Test.YtigdciegnpejoaaDoorMarkA
namespace Go.Proofs.YtigdciegnpejoaaDoor
set_option maxRecDepth 100000
open Go.RowKit
set_option linter.unusedVariables false
theorem cell_apart {G : List Nat} {W W' : World} (ha : Apart G W W') {b i : Nat} {v : Value} (hc : W.cell? ⟨b, i, none⟩ = some v) (hb : b ∈ G → False) : ∀ X : World, Below W'.heap.size W' X → X.cell? ⟨b, i, none⟩ = some v := fun X hX => by
  have hlt : b < W.heap.size := cell_lt hc
  rw [cell_same (hX.block b (Nat.lt_of_lt_of_le hlt ha.size)) i, cell_same (ha.block b hlt hb) i]
  exact hc
end Go.Proofs.YtigdciegnpejoaaDoor
