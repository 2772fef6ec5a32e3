/- A text parted in at most n pieces: the cells that hold the pieces, their sizes. Conditions: as each theorem names them. -/
import Derived.Test.YtbijabgokhmfhaaGreatDoorSplit
import Derived.ShapedOpen
namespace Go.Proofs.YtbijabgokhmfhaaGreatDoor
set_option maxRecDepth 100000
open Go.RowKit Go.WideShapes Go.Lib
set_option linter.unusedVariables false

theorem shaped_below3 {P : Program} {w w' : World} (h : w.ShapedOpen P) (hb : Below w.heap.size w w') : w'.ShapedOpen P :=
  World.ShapedOpen.keptBut h (hb.frame (fun _ => False)) (fun _ h => h.elim)
theorem splitN_cell (w : World) (ps : List ByteArray) (N : Nat) (j : Nat) (x : ByteArray) (hx : ps[j]? = some x) : (w.alloc (.cells (cellsOf ps N) 9)).cell? ⟨w.heap.size, j, none⟩ = some (.string x) := by
  rw [cell_of_row _ _ _ _ _ _ (heap_alloc_new w _)]
  unfold cellsOf
  have hl := (List.getElem?_eq_some_iff.1 hx).1
  rw [List.getElem?_toArray, List.getElem?_append_left (by simpa using hl), List.getElem?_map, hx]
  rfl
theorem splitB_size (c : UInt8) : ∀ (k : Nat) (s : ByteArray), ∀ x ∈ splitB ⟨#[c]⟩ 0 k s, x.size ≤ s.size
  | 0, s, x, hx => by
    rw [splitB_zero] at hx
    rw [List.mem_singleton.1 hx]
    exact Nat.le_refl _
  | k + 1, s, x, hx => by
    unfold splitB at hx
    split at hx
    · rw [List.mem_singleton.1 hx]
      exact Nat.le_refl _
    · rcases List.mem_cons.1 hx with rfl | hx
      · rw [ByteArray.size_extract]; omega
      · have := splitB_size c k _ x hx
        rw [ByteArray.size_extract] at this
        omega
end Go.Proofs.YtbijabgokhmfhaaGreatDoor
