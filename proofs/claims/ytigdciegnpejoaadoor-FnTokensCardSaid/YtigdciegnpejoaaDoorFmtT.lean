/- Values as text by their types: both sides. Conditions: the value fits an int; the program's: the library's table of powers is laid. -/
import Derived.Test.YtigdciegnpejoaaDoorItoa
import Derived.Test.YtigdciegnpejoaaDoorJoin
import Derived.Test.YtigdciegnpejoaaDoorOwn
import Derived.Test.YtigdciegnpejoaaDoorVals
import Derived.Test.YtigdciegnpejoaaDoorInfo
namespace Go.Proofs.YtigdciegnpejoaaDoor
set_option maxRecDepth 100000
open Go.RowKit Go.Lib
set_option linter.unusedVariables false

def num (n : Int) : ByteArray := ⟨(itoa n).toArray⟩
def bitV (v : Int) (k : Nat) : Bool := bits .and .i64 (v / 2 ^ k) 1 == 1
def wordsT (v : Int) (j : Nat) : List ByteArray := ((List.range j).filter (bitV v)).map fun k : Nat => num (k : Int)
def sp1 : ByteArray := ⟨#[32]⟩
def fmtTyped (v k : Int) : ByteArray :=
  if ofT v k = false then ⟨#[]⟩ else if k = 1 then num v else if k = 3 then (if v = 1 then ⟨#[116, 114, 117, 101]⟩ else ⟨#[102, 97, 108, 115, 101]⟩)
  else if k = 4 then (if v = 0 then ⟨#[110, 111, 110, 101]⟩ else ⟨#[35]⟩ ++ num v) else ⟨#[123]⟩ ++ ⟨(joinL (wordsT v 12) sp1).toArray⟩ ++ ⟨#[125]⟩
theorem wordsT_keep {v : Int} {j : Nat} (h : bitV v j = true) : wordsT v (j + 1) = wordsT v j ++ [num (j : Int)] := by
  unfold wordsT
  rw [List.range_succ, List.filter_append]
  simp [List.filter, h]
theorem wordsT_drop {v : Int} {j : Nat} (h : bitV v j = false) : wordsT v (j + 1) = wordsT v j := by
  unfold wordsT
  rw [List.range_succ, List.filter_append]
  simp [List.filter, h]
theorem wordsT_len (v : Int) (j : Nat) : (wordsT v j).length ≤ j := by
  unfold wordsT
  rw [List.length_map]
  exact Nat.le_trans (List.length_filter_le _ _) (by simp)
theorem num_size {n : Int} (h0 : -9223372036854775808 ≤ n) (h1 : n ≤ 9223372036854775807) : (num n).size ≤ 21 := by
  have := itoa_length_le n h0 h1
  simpa [num, ByteArray.size] using this
theorem words_bulk (v : Int) : bulkS (wordsT v 12) ≤ 252 := by
  have h : ∀ l : List ByteArray, (∀ x ∈ l, x.size ≤ 21) → bulkS l ≤ 21 * l.length := by
    intro l
    induction l with
    | nil => intro _; simp [bulkS]
    | cons a r ih =>
      intro ha
      have := ih (fun x hx => ha x (by simp [hx]))
      have := ha a (by simp)
      simp only [List.length_cons]
      show (a.size : Int) + bulkS r ≤ _
      omega
  have h1 := h (wordsT v 12) (fun x hx => by
    obtain ⟨k, hk, rfl⟩ := List.mem_map.1 hx
    have := List.mem_range.1 (List.mem_filter.1 hk).1
    exact num_size (by omega) (by omega))
  have := wordsT_len v 12
  omega
theorem ofT_kinds {v k : Int} (h : ofT v k = true) : 1 ≤ k ∧ k ≤ 4 := by
  unfold ofT at h
  simp at h
  omega
theorem set_bounds {v : Int} (h : ofT v 2 = true) : 0 ≤ v ∧ v ≤ 4095 := by
  unfold ofT at h
  simp at h
  have h2 : co v 2 = v % 4096 := bits_4095 v
  rw [h2] at h
  omega
end Go.Proofs.YtigdciegnpejoaaDoor
