/- Texts of a slice without some: contracts of both sides; how an owned row of texts is told as a slice. Conditions: the slice has at most 2^20 texts. -/
import Derived.Test.YtilndebjnibgjaaDoorStrSl
import Derived.Test.YtilndebjnibgjaaDoorApp
import Derived.Laws.IdiomStrings
namespace Go.Proofs.YtilndebjnibgjaaDoor
set_option maxRecDepth 100000
open Go.RowKit Go.WideShapes
set_option linter.unusedVariables false

/-- An owned row of texts, told as a slice. -/
theorem own_strs {D : Nat} {w : World} {base e n : Nat} {v : Value} {xs : List ByteArray} (h : w.ownsRow base e 1 v n (xs.map Value.string)) (hx : ∀ x ∈ xs, x.size ≤ maxLen) :
    ∃ F, SlR 1 (StrR D) w xs v F ∧ Fresh base w F := by
  obtain ⟨h1, h2⟩ := h
  have hl : xs.length = n := by simpa using h1
  rcases h2 with ⟨rfl, h0⟩ | ⟨g, cap, cur, rfl, hg, hb, hn, hm, hc, ht⟩
  · have hx0 : xs = [] := List.length_eq_zero_iff.1 (by omega)
    subst hx0
    exact ⟨[], ⟨none, 0, rfl, Nat.le_refl _, by simp [maxLen], .inl ⟨rfl, rfl⟩⟩, Fresh.nil _ _⟩
  · subst hl
    have hcell : ∀ (j : Nat) (u : Value), (xs.map Value.string)[j]? = some u → w.cell? ⟨g, 0 + j, none⟩ = some u := fun j u hu => by
      rw [cell_of_row _ _ _ _ _ _ hb, Nat.zero_add]
      rw [← ht] at hu
      have hj := (List.getElem?_eq_some_iff.1 hu).1
      rw [List.getElem?_take] at hu
      split at hu
      · simpa using hu
      · cases hu
    exact ⟨[g], ⟨some ⟨g, 0, none⟩, cap, rfl, hn, hm, .inr ⟨g, 0, [], rfl, blk_lt hb, rfl, ElR.of_strs hx hcell⟩⟩, ⟨by simp, fun b hb' => by simp at hb'; omega, fun b hb' => by simp at hb'; subst hb'; exact ⟨cur, e, hb⟩⟩⟩
def without (xs rm : List ByteArray) : List ByteArray := xs.filter fun x => !hasS rm x
theorem without_keep {xs rm : List ByteArray} {j : Nat} {x : ByteArray} (hx : xs[j]? = some x) (h : hasS rm x = false) : without (xs.take (j + 1)) rm = without (xs.take j) rm ++ [x] := by
  unfold without
  rw [take_snoc hx, List.filter_append]
  simp [List.filter, h]
theorem without_drop {xs rm : List ByteArray} {j : Nat} {x : ByteArray} (hx : xs[j]? = some x) (h : hasS rm x = true) : without (xs.take (j + 1)) rm = without (xs.take j) rm := by
  unfold without
  rw [take_snoc hx, List.filter_append]
  simp [List.filter, h]
theorem without_len (xs rm : List ByteArray) (j : Nat) : (without (xs.take j) rm).length ≤ j := by
  unfold without
  exact Nat.le_trans (List.length_filter_le _ _) (List.length_take_le _ _)
theorem infoStr : (Tryd.prog.info? 9).map (fun i => (i.zero, i.size, i.bytes)) = some (some (.string ByteArray.empty), 1, 16) := by kernel_rfl
end Go.Proofs.YtilndebjnibgjaaDoor
