/- Sorted names: sorted again they stay, each is once there, none is lost. Plain: no program. -/
import Derived.Test.YtnbkckklodeifaaDistinct
import Derived.Test.YtnbkckklodeifaaNames
namespace Go.Proofs.Ytnbkckklodeifaa
set_option maxRecDepth 100000
open Go.RowKit Go.Lib
set_option linter.unusedVariables false

theorem sortN_bytes (xs : List ByteArray) : (sortN xs).map (·.data.toList) = sortB (xs.map (·.data.toList)) := by
  unfold sortN
  rw [List.map_map]
  exact (List.map_congr_left fun l _ => by simp).trans (List.map_id _)
theorem sortB_idem (l : List Bs) : sortB (sortB l) = sortB l := strict_eq _ _ (sortB_both _).1 (sortB_both _).1 fun z => (sortB_both (sortB l)).2 z
theorem sortN_idem (xs : List ByteArray) : sortN (sortN xs) = sortN xs := by
  show ((sortB ((sortN xs).map (·.data.toList))).map fun l => (⟨l.toArray⟩ : ByteArray)) = _
  rw [sortN_bytes, sortB_idem]
  rfl
theorem sortN_dist (xs : List ByteArray) : distinctB (sortN xs) = true := by
  unfold distinctB
  rw [sortN_idem]
  simp
theorem sortN_all {xs : List ByteArray} {x : ByteArray} (h : x ∈ xs) : hasS (sortN xs) x = true := by
  rw [hasS_iff, decide_eq_true_eq, sortN_bytes]
  exact ((sortB_both _).2 _).2 (List.mem_map_of_mem h)
theorem sortN_less {xs : List ByteArray} {i : Nat} {x y : ByteArray} (hx : (sortN xs)[i]? = some x) (hy : (sortN xs)[i + 1]? = some y) : x.data.toList < y.data.toList := by
  have hp := (sortB_both (xs.map (·.data.toList))).1
  rw [← sortN_bytes, List.pairwise_iff_getElem] at hp
  obtain ⟨h1, rfl⟩ := List.getElem?_eq_some_iff.1 hx
  obtain ⟨h2, rfl⟩ := List.getElem?_eq_some_iff.1 hy
  have := hp i (i + 1) (by simpa using h1) (by simpa using h2) (by omega)
  simpa using this
theorem without_sort (xs : List ByteArray) : without (sortN xs) xs = [] := by
  unfold without
  rw [List.filter_eq_nil_iff]
  intro x hx
  have := sortN_mem hx
  have h : hasS xs x = true := by
    rw [hasS_iff, decide_eq_true_eq]
    exact List.mem_map_of_mem this
  simp [h]
theorem valid_free {s : ByteArray} (h : validN s = true) : resv s = false := by
  unfold validN at h
  simp only [Bool.and_eq_true, Bool.not_eq_true'] at h
  exact h.2
end Go.Proofs.Ytnbkckklodeifaa
