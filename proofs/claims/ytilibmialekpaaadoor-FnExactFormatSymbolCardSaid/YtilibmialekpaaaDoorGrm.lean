/- Grammars: how one lies in memory; sizes, copies, comparisons. Conditions: sizes up to 2^20. -/
import Derived.Test.YtilibmialekpaaaDoorRul
import Derived.Test.YtilibmialekpaaaDoorSym
namespace Go.Proofs.YtilibmialekpaaaDoor
set_option maxRecDepth 100000
open Go.RowKit Go.WideShapes
set_option linter.unusedVariables false

structure Grm where
  symbols : List Sym
  rules : List Rul
def GrmR (D : Nat) : CR Grm := fun w x cs F => ∃ (v0 : Value) (F0 : List Nat) (v1 : Value) (F1 : List Nat), cs.length = 2 ∧ (cs[0]? = some v0 ∧ SlR 2 (SymR D) w x.symbols v0 F0) ∧ (cs[1]? = some v1 ∧ SlR 6 (RulR D) w x.rules v1 F1) ∧ F = F0 ++ (F1)
theorem GrmR.good (D : Nat) : Good 2 (GrmR D) where
  len := fun {w x cs F} h => by
    obtain ⟨v0, F0, v1, F1, hl, ⟨h0, g0⟩, ⟨h1, g1⟩, rfl⟩ := h
    exact hl
  frame := fun {w w' x cs F} h he hz => by
    obtain ⟨v0, F0, v1, F1, hl, ⟨h0, g0⟩, ⟨h1, g1⟩, rfl⟩ := h
    exact ⟨v0, F0, v1, F1, hl, ⟨h0, g0.frame (SymR.good D) (fun k hk' => he k (by simp only [List.mem_append]; simp [hk'])) hz⟩, ⟨h1, g1.frame (RulR.good D) (fun k hk' => he k (by simp only [List.mem_append]; simp [hk'])) hz⟩, rfl⟩
  lt := fun {w x cs F} h b hb => by
    obtain ⟨v0, F0, v1, F1, hl, ⟨h0, g0⟩, ⟨h1, g1⟩, rfl⟩ := h
    rcases List.mem_append.1 hb with hb | hb
    · exact g0.lt (SymR.good D) b hb
    · exact g1.lt (RulR.good D) b hb
theorem GrmR.up {D : Nat} {w : World} {x : Grm} {cs : List Value} {F : List Nat} (h : GrmR D w x cs F) (D' : Nat) (hd : D ≤ D') : GrmR D' w x cs F := by
  obtain ⟨v0, F0, v1, F1, hl, ⟨h0, g0⟩, ⟨h1, g1⟩, rfl⟩ := h
  exact ⟨v0, F0, v1, F1, hl, ⟨h0, g0.mono fun _ _ _ q => SymR.up q _ hd⟩, ⟨h1, g1.mono fun _ _ _ q => RulR.up q _ hd⟩, rfl⟩
theorem GrmR.one {D : Nat} {w : World} {x : Grm} {cs : List Value} {F : List Nat} (h : GrmR D w x cs F) : ∀ v ∈ cs, v.oneCell' = true := by
  obtain ⟨c0, c1, rfl⟩ := list2 ((GrmR.good D).len h)
  obtain ⟨v0, F0, v1, F1, hl, ⟨h0, g0⟩, ⟨h1, g1⟩, rfl⟩ := h
  intro v hv
  simp only [List.mem_cons, List.not_mem_nil, or_false] at hv
  rcases hv with rfl | rfl
  · obtain ⟨A, cap, hv, _, _⟩ := g0.form
    obtain rfl := Option.some.inj h0
    rw [hv]
    rfl
  · obtain ⟨A, cap, hv, _, _⟩ := g1.form
    obtain rfl := Option.some.inj h1
    rw [hv]
    rfl
def bulkGrm (D : Nat) (x : Grm) : Int := (x.symbols.length + sumBy (bulkSym D) x.symbols) + (x.rules.length + sumBy (bulkRul D) x.rules)
theorem bulkGrm_nonneg (D : Nat) (x : Grm) : 0 ≤ bulkGrm D x := by unfold bulkGrm; have := sumBy_nonneg (bulkSym_nonneg D) x.symbols; have := sumBy_nonneg (bulkRul_nonneg D) x.rules; omega
end Go.Proofs.YtilibmialekpaaaDoor
