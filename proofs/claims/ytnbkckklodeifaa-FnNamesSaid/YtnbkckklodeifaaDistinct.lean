/- Do all texts of a list differ? Contracts of both sides. Conditions: at most 2^20 texts. -/
import Derived.Test.YtnbkckklodeifaaSort
namespace Go.Proofs.Ytnbkckklodeifaa
set_option maxRecDepth 100000
open Go.RowKit Go.WideShapes Go.Sort
set_option linter.unusedVariables false

/-- Do all texts differ? -/
def distinctB (xs : List ByteArray) : Bool := decide ((sortN xs).length = xs.length)
theorem hasS_iff (xs : List ByteArray) (x : ByteArray) : hasS xs x = decide (x.data.toList ∈ xs.map (·.data.toList)) := by
  unfold hasS
  rw [Bool.eq_iff_iff, List.any_eq_true]
  simp only [decide_eq_true_eq, List.mem_map, beq_iff_eq, Lib.toList_data]
theorem sortN_len_eq (xs : List ByteArray) : (sortN xs).length = (sortB (xs.map (·.data.toList))).length := by simp [sortN]
theorem dist_step {xs : List ByteArray} {j : Nat} {x : ByteArray} (hx : xs[j]? = some x) (h : (sortB ((xs.take j).map (·.data.toList))).length = j) (hh : hasS (xs.take j) x = false) : (sortB ((xs.take (j + 1)).map (·.data.toList))).length = j + 1 := by
  have := sortB_len_step (l := xs.map (·.data.toList)) (j := j) (x := x.data.toList) (by rw [List.getElem?_map, hx]; rfl)
  rw [← List.map_take, ← List.map_take] at this
  rw [hasS_iff, decide_eq_false_iff_not] at hh
  rw [this, if_neg hh, h]
theorem dist_stop {xs : List ByteArray} {j : Nat} {x : ByteArray} (hx : xs[j]? = some x) (h : (sortB ((xs.take j).map (·.data.toList))).length = j) (hh : hasS (xs.take j) x = true) : distinctB xs = false := by
  have h1 := sortB_len_step (l := xs.map (·.data.toList)) (j := j) (x := x.data.toList) (by rw [List.getElem?_map, hx]; rfl)
  rw [← List.map_take, ← List.map_take] at h1
  rw [hasS_iff, decide_eq_true_eq] at hh
  rw [if_pos hh, h] at h1
  have hj := (List.getElem?_eq_some_iff.1 hx).1
  have h2 := sortB_len_le (xs.map (·.data.toList)) (xs.length - (j + 1)) (j + 1) (by simp; omega)
  rw [← List.map_take, h1] at h2
  unfold distinctB
  rw [sortN_len_eq]
  simp
  omega
theorem i_AllDistinct (D : Nat) (xs : List ByteArray) (v : Value) (F : List Nat) (w : World) (hs : SlR 1 (StrR D) w xs v F) (hn : xs.length ≤ 1048576) :
    Calls Try.prog 9 #[v] w fun en w' => en = .returned (.bool (distinctB xs)) ∧ Below w.heap.size w w' := by
  obtain ⟨A, cap, rfl, hlc, _⟩ := hs.form
  have Hs := hide hs
  clear hs
  go_enter Try.func9, Try.ntmps9
  go_wp2_with (go_at_call 6; refine (i_SortNames D xs _ F w Hs.out hn).mono ?_; rintro e w1 ⟨u, G, rfl, hu, hfr, hbl⟩
               obtain ⟨A', cap', rfl, _, _⟩ := hu.form
               have Hbl := hide hbl
               clear hu hfr hbl)
  go_ret
  have h : (((sortN xs).length : Int) == (xs.length : Int)) = distinctB xs := by
    unfold distinctB
    rw [Bool.eq_iff_iff]
    simp only [beq_iff_eq, decide_eq_true_eq]
    omega
  exact ⟨congrArg (fun b => Ending.returned (.bool b)) h, Hbl.out⟩
end Go.Proofs.Ytnbkckklodeifaa
