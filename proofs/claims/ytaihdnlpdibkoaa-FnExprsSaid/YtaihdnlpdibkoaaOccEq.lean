/- Comparisons of occurrences and attributes by == and !=. -/
import Derived.Test.YtaihdnlpdibkoaaRul
import Derived.Test.YtaihdnlpdibkoaaWhole
import Derived.Test.YtaihdnlpdibkoaaTexts
import Derived.Laws.StructEq
namespace Go.Proofs.Ytaihdnlpdibkoaa
set_option maxRecDepth 100000
open Go.RowKit Go.WideShapes
set_option linter.unusedVariables false
def eqOcc (a b : Occ) : Bool := (a.pos == b.pos) && (a.name.toList == b.name.toList)
theorem run_eqOcc (p p' : Int) (s s' : ByteArray) (W : World) : (Op.equalIn 10000 65 (.agg #[.int .i64 p, .string s]) (.agg #[.int .i64 p', .string s'])).run Try.prog W = .ok ((p == p') && (s.toList == s'.toList)) W := by
  have E1 : ∀ W : World, (Op.equalIn 9999 3 (.int .i64 p) (.int .i64 p')).run Try.prog W = .ok (p == p') W := fun W => run_equalIn_int W 9998 _ _ _ _ _ rfl
  have E2 : ∀ W : World, (Op.equalIn 9999 9 (.string s) (.string s')).run Try.prog W = .ok (s.toList == s'.toList) W := fun W => run_equalIn_string W 9998 _ _ _ rfl
  cases h1 : (p == p') <;> cases h2 : (s.toList == s'.toList)
  all_goals
    rw [h1] at E1
    rw [h2] at E2
    go_simp
    try simp only [E1, E2, Result.andThen_ok, Bool.true_eq_false, if_true, if_false]
    try go_simp
theorem run_neqOcc (p p' : Int) (s s' : ByteArray) (W : World) : (binOp .neq 65 (.agg #[.int .i64 p, .string s]) (.agg #[.int .i64 p', .string s'])).run Try.prog W = .ok (.bool !((p == p') && (s.toList == s'.toList))) W := by
  rw [run_neq_struct, run_eqOcc]
  rfl
theorem run_eqlOcc (p p' : Int) (s s' : ByteArray) (W : World) : (binOp .eql 65 (.agg #[.int .i64 p, .string s]) (.agg #[.int .i64 p', .string s'])).run Try.prog W = .ok (.bool ((p == p') && (s.toList == s'.toList))) W := by
  rw [run_eql_struct, run_eqOcc]
  rfl
theorem CellsAt.sub {w : World} {b : Nat} {cs : List Value} (h : CellsAt w b 0 cs) (k n : Nat) : CellsAt w b k ((cs.drop k).take n) := fun j u hu => by
  rw [List.getElem?_take] at hu
  split at hu
  · rw [List.getElem?_drop] at hu
    have := h (k + j) u hu
    rwa [Nat.zero_add] at this
  · cases hu
theorem sub_len {cs : List Value} {m : Nat} (h : cs.length = m) (k n : Nat) (hk : k + n ≤ m) : ((cs.drop k).take n).length = n := by simp; omega
end Go.Proofs.Ytaihdnlpdibkoaa
