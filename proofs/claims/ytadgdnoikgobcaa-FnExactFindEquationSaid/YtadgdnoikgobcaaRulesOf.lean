/- The rules of a symbol, by their names: both sides. Conditions: the grammar has at most the size 2^20. -/
import Derived.Test.YtadgdnoikgobcaaClone
namespace Go.Proofs.Ytadgdnoikgobcaa
set_option maxRecDepth 100000
open Go.RowKit Go.WideShapes
set_option linter.unusedVariables false

def rulesT (l : List Rul) (s : ByteArray) : List ByteArray := (l.filter fun r => r.left.toList == s.toList).map (·.name)
theorem rulesT_keep {l : List Rul} {s : ByteArray} {j : Nat} {x : Rul} (hx : l[j]? = some x) (h : (x.left.toList == s.toList) = true) : rulesT (l.take (j + 1)) s = rulesT (l.take j) s ++ [x.name] := by
  unfold rulesT
  rw [take_snoc hx, List.filter_append]
  simp [List.filter, h]
theorem rulesT_drop {l : List Rul} {s : ByteArray} {j : Nat} {x : Rul} (hx : l[j]? = some x) (h : (x.left.toList == s.toList) = false) : rulesT (l.take (j + 1)) s = rulesT (l.take j) s := by
  unfold rulesT
  rw [take_snoc hx, List.filter_append]
  simp [List.filter, h]
theorem rulesT_len (l : List Rul) (s : ByteArray) (j : Nat) : (rulesT (l.take j) s).length ≤ j := by
  unfold rulesT
  rw [List.length_map]
  exact Nat.le_trans (List.length_filter_le _ _) (List.length_take_le _ _)
theorem RulR.oks {D : Nat} {w : World} {x : Rul} {cs : List Value} {F : List Nat} (h : RulR D w x cs F) : x.ok := by
  obtain ⟨_, _, _, _, _, _, _, hk, _⟩ := h
  exact hk
end Go.Proofs.Ytadgdnoikgobcaa
