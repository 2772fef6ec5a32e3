/- Tokens: how many marks a text's tokens take. Plain: no program walked. -/
import Derived.Test.YtigdciegnpejoaaDoorTokT
import Derived.Test.YtigdciegnpejoaaDoorMarkT
namespace Go.Proofs.YtigdciegnpejoaaDoor
set_option maxRecDepth 100000
open Go.RowKit
set_option linter.unusedVariables false
theorem ctL_tkn (D : Nat) : ∀ l : List Tkn, ctL (ct_Tkn D) l = 4 * l.length
  | [] => rfl
  | x :: r => by
    have := ctL_tkn D r
    have h : ct_Tkn D x = 4 := rfl
    simp only [ctL, List.length_cons, this, h]
    omega
theorem toks_cnt (D : Nat) (s : ByteArray) : ctL (ct_Tkn D) (toksOf s).1 ≤ 100000000 := by
  have := toksOf_len s
  rw [ctL_tkn]
  omega
end Go.Proofs.YtigdciegnpejoaaDoor
