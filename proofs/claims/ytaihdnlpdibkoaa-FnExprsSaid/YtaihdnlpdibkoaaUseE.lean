/- slices.Compact at occurrences: neighbours that are equal taken once, in place. Conditions: at most 2^20 of them. -/
import Derived.Test.YtaihdnlpdibkoaaUseB
import Derived.Deep.QuietTactic
import Derived.Lib.SlicesCompact
namespace Go.Proofs.Ytaihdnlpdibkoaa
set_option maxRecDepth 100000
open Go.RowKit Go.WideShapes
set_option linter.unusedVariables false

/-- Occurrences one behind another from the block's first cell on. -/
def RowO (w : World) (g : Nat) (d : Array Occ) : Prop := ∃ cur : Array Value, w.heap[g]? = some (.cells cur 65 (0, 0)) ∧ d.size * 2 ≤ cur.size ∧ ∀ j, j < d.size → cur[j * 2]? = some (.int .i64 d[j]!.pos) ∧ cur[j * 2 + 1]? = some (.string d[j]!.name)
theorem RowO.cell {w : World} {g : Nat} {d : Array Occ} (h : RowO w g d) {j : Nat} (hj : j < d.size) : w.cell? ⟨g, j * 2, none⟩ = some (.int .i64 d[j]!.pos) ∧ w.cell? ⟨g, j * 2 + 1, none⟩ = some (.string d[j]!.name) := by
  obtain ⟨cur, hb, _, h⟩ := h
  obtain ⟨h1, h2⟩ := h j hj
  rw [cell_of_row _ _ _ _ _ _ hb, cell_of_row _ _ _ _ _ _ hb]
  exact ⟨h1, h2⟩
theorem RowO.drew {w : World} {g : Nat} {d : Array Occ} (h : RowO w g d) : RowO w.drew g d := h
theorem RowO.below {w w' : World} {g B : Nat} {d : Array Occ} (h : RowO w g d) (hb : Below B w w') (hg : g < B) : RowO w' g d := by
  obtain ⟨cur, h1, h2⟩ := h
  exact ⟨cur, blk_below h1 hb hg, h2⟩
theorem RowO.put {w w' : World} {g kk : Nat} {d : Array Occ} {u : Occ} {old : Array Value} (h : RowO w g d) (ho : w.heap[g]? = some (.cells old 65 (0, 0))) (hP : Put w g (kk * 2) [.int .i64 u.pos, .string u.name] old 65 w') : RowO w' g (d.setIfInBounds kk u) := by
  obtain ⟨cur, h1, h2, h3⟩ := h
  rw [ho] at h1
  injection h1 with h1
  injection h1 with h1
  subst h1
  obtain ⟨cs, hb, hz, hout, hin⟩ := hP.blk
  refine ⟨cs, hb, by rw [Array.size_setIfInBounds, hz]; exact h2, fun j hj => ?_⟩
  rw [Array.size_setIfInBounds] at hj
  by_cases e : j = kk
  · subst e
    rw [Sort.getElem!_set_same d j u hj]
    have i0 := hin 0 _ rfl
    have i1 := hin 1 _ rfl
    exact ⟨by simpa using i0, i1⟩
  · rw [Sort.getElem!_set_other d kk j u e, hout (j * 2) (by simp; omega), hout (j * 2 + 1) (by simp; omega)]
    exact h3 j hj
theorem eqlO (x y : Occ) (b : Bool) (h : decide (x = y) = b) (W : World) : (binOp .eql 65 (.agg #[.int .i64 x.pos, .string x.name]) (.agg #[.int .i64 y.pos, .string y.name])).run Try.prog W = .ok (.bool b) W := by
  rw [run_eqlOcc]
  congr 2
  rw [← h]
  by_cases e : x = y
  · subst e
    simp
  · rw [decide_eq_false e]
    rw [Bool.and_eq_false_iff]
    by_cases hp : x.pos = y.pos
    · right
      rw [beq_eq_false_iff_ne, Lib.toList_data, Lib.toList_data]
      exact fun q => e (Occ.ext' hp q)
    · left
      exact beq_eq_false_iff_ne.2 hp
theorem neqO (x y : Occ) (b : Bool) (h : decide (x = y) = b) (W : World) : (binOp .neq 65 (.agg #[.int .i64 x.pos, .string x.name]) (.agg #[.int .i64 y.pos, .string y.name])).run Try.prog W = .ok (.bool !b) W := by
  have h1 := eqlO x y b h W
  rw [run_eqlOcc] at h1
  rw [run_neqOcc]
  injection h1 with h1
  injection h1 with h1
  rw [h1]
theorem run_clearO (w : World) (g o n c : Nat) (old : Array Value) (hg : w.heap[g]? = some (.cells old 65 (0, 0))) (hfit : o + n * 2 ≤ old.size) :
    ∃ w', (∀ ty, (Builtin.clear_ #[48] ty #[.slice (some ⟨g, o, none⟩) n c]).run Try.prog w = .ok (.tuple #[]) w') ∧ w.grownBy w' (some g) ∧ ∃ cur : Array Value, w'.heap[g]? = some (.cells cur 65 (0, 0)) ∧ ∀ i, i < o → cur[i]? = old[i]? := by
  cases n with
  | zero =>
    refine ⟨w, fun ty => ?_, ⟨rfl, rfl, rfl, Nat.le_refl _, fun _ _ _ => rfl⟩, old, hg, fun _ _ => rfl⟩
    simp [Builtin.clear_, run_underlying Try.underlying48]
  | succ m =>
    have hz := Try.zeroValue65
    obtain ⟨z, hzE⟩ : ∃ z : Value, z = .agg #[.int .i64 0, .string ByteArray.empty] := ⟨_, rfl⟩
    have hzc : z.cells.size = 2 := by rw [hzE]; rfl
    have hz1 : ∀ u ∈ z.cells.toList, u.oneCell' = true := by rw [hzE]; intro u hu; simp [Value.cells] at hu; rcases hu with rfl | rfl <;> rfl
    have hzv : ∀ w, (zeroValue 65).run Try.prog w = .ok z w := by rw [hzE]; exact hz
    obtain ⟨news, hnews⟩ : ∃ news, news = (Builtin.zeroCells z.cells (m + 1)).toList := ⟨_, rfl⟩
    have hlen : news.length = (m + 1) * 2 := by rw [hnews]; simp [Builtin.zeroCells, hzc]
    have h1 : ∀ u ∈ news, u.oneCell' = true := by
      intro u hu
      rw [hnews] at hu
      simp only [Builtin.zeroCells, Array.toList_map, List.mem_map, Array.mem_toList_iff, Array.mem_range] at hu
      obtain ⟨i, hi, rfl⟩ := hu
      refine hz1 _ ?_
      have hlt : i % z.cells.size < z.cells.size := Nat.mod_lt _ (by omega)
      rw [getElem!_pos z.cells _ hlt]
      simp
    have hst := run_storeCells_at Try.prog g o 65 news 0 old w hg (by omega) h1
    simp only [Nat.add_zero] at hst
    have hP := Put.of_row (w := w) (cs := news) hg (show o + news.length ≤ old.size by omega)
    obtain ⟨cs, hb, hz, hout, hin⟩ := hP.blk
    refine ⟨_, fun ty => ?_, ⟨hP.os, hP.tape, hP.output, Nat.le_of_eq hP.size.symm, fun k _ hk => hP.far k (fun e => hk (by rw [e]))⟩, cs, hb, fun i hi => hout i (.inl hi)⟩
    simp [Builtin.clear_, run_underlying Try.underlying48, hzv, ← hnews, hst]
end Go.Proofs.Ytaihdnlpdibkoaa
