/- Expressions, told as the other structs are: copies and comparisons. Conditions: a copy is asked of what has at most the size 2^20. -/
import Derived.Test.YtaihdnlpdibkoaaExCopy
namespace Go.Proofs.Ytaihdnlpdibkoaa
set_option maxRecDepth 100000
open Go.RowKit Go.WideShapes

theorem ExR.one {D : Nat} {w : World} {e : Ex} {cs : List Value} {F : List Nat} (h : ExR D w e cs F) : ∀ v ∈ cs, v.oneCell' = true := by
  match D, h with
  | d + 1, h =>
    obtain ⟨A, cap, rfl, _⟩ := ex_form h
    intro v hv
    simp only [ExH.cells, List.mem_cons, List.not_mem_nil, or_false] at hv
    rcases hv with rfl | rfl | rfl | rfl | rfl | rfl | rfl <;> rfl
theorem c_Ex (D : Nat) (x : Ex) (cs : List Value) (F : List Nat) (w : World) (h : ExR D w x cs F) (hbk : bulkE D x ≤ 1048576) :
    Calls Try.prog 17 #[.agg cs.toArray] w fun en w' => ∃ us F', en = .returned (.agg (List.toArray us)) ∧ ExR D w' x us F' ∧ Fresh w.heap.size w' F' ∧ Below w.heap.size w w' :=
  (l_toExpr D x cs F w h (slim_of_bulk hbk)).mono fun _ _ ⟨_, _, F', h1, h2, h3, h4⟩ => ⟨_, F', h1, h2, h3, h4⟩
theorem ee_Ex (D : Nat) (x : Ex) (cs cs' : List Value) (F F' : List Nat) (w : World) (h : ExR D w x cs F) (h' : ExR D w x cs' F') :
    Calls Try.prog 20 #[.agg cs.toArray, .agg cs'.toArray] w fun en w' => en = .returned (.bool true) ∧ Below w.heap.size w w' := by
  have := l_eqExpr D x x cs cs' F F' w h h'
  rwa [eqE_refl D x] at this
end Go.Proofs.Ytaihdnlpdibkoaa
