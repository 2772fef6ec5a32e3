/- Symbols read from a line: how many marks one takes. Plain: no program walked. -/
import Derived.Test.YtigdciegnpejoaaDoorSymPt
import Derived.Test.YtigdciegnpejoaaDoorSymPv
import Derived.Test.YtigdciegnpejoaaDoorMarkA
namespace Go.Proofs.YtigdciegnpejoaaDoor
set_option maxRecDepth 100000
open Go.RowKit
set_option linter.unusedVariables false
theorem ctL_atr (D : Nat) : ∀ l : List Atr, ctL (ct_Atr D) l = 4 * l.length
  | [] => rfl
  | x :: r => by
    have := ctL_atr D r
    have h : ct_Atr D x = 4 := rfl
    simp only [ctL, List.length_cons, this, h]
    omega
theorem parseY_attrs (s : ByteArray) : (parseY s).1.attrs.length ≤ 4 := by
  cases h : (parseY s).2
  · rw [parseY_false h]
    exact Nat.zero_le _
  · exact validY_attrs (parseY_true h).1
theorem parseY_cnt (D : Nat) (s : ByteArray) : sc_Sym D (parseY s).1 ≤ 100000000 := by
  have h := parseY_attrs s
  unfold sc_Sym
  rw [ctL_atr]
  omega
end Go.Proofs.YtigdciegnpejoaaDoor
