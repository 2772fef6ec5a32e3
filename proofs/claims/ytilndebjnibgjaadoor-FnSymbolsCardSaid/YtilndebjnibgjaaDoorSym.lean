/- Attributes and symbols: how they lie in memory, their sizes, comparisons and copies. Conditions: a size is asked with at most 2^20; a copy is asked of what has at most that size. -/
import Derived.Test.YtilndebjnibgjaaDoorRows
import Derived.Test.YtilndebjnibgjaaDoorStrs
import Derived.Test.YtilndebjnibgjaaDoorFrame
import Derived.Deep.QuietTactic
namespace Go.Proofs.YtilndebjnibgjaaDoor
set_option maxRecDepth 100000
open Go.RowKit Go.WideShapes
set_option linter.unusedVariables false

structure Atr where
  name : ByteArray
  type : Int
  mode : Int
  circ : Bool
structure Atr.ok (x : Atr) : Prop where
  name : x.name.size ≤ maxLen
  type : (Lit.int .i64 x.type).wf = true
  mode : (Lit.int .i64 x.mode).wf = true
def AtrR (D : Nat) : CR Atr := fun w x cs F => cs.length = 4 ∧ x.ok ∧ cs[0]? = some (.string x.name) ∧ cs[1]? = some (.int .i64 x.type) ∧ cs[2]? = some (.int .i64 x.mode) ∧ cs[3]? = some (.bool x.circ) ∧ F = []
theorem AtrR.good (D : Nat) : Good 4 (AtrR D) where
  len := fun {w x cs F} h => by
    obtain ⟨hl, hk, h0, h1, h2, h3, rfl⟩ := h
    exact hl
  frame := fun {w w' x cs F} h he hz => by
    obtain ⟨hl, hk, h0, h1, h2, h3, rfl⟩ := h
    exact ⟨hl, hk, h0, h1, h2, h3, rfl⟩
  lt := fun {w x cs F} h b hb => by
    obtain ⟨hl, hk, h0, h1, h2, h3, rfl⟩ := h
    cases hb
theorem AtrR.up {D : Nat} {w : World} {x : Atr} {cs : List Value} {F : List Nat} (h : AtrR D w x cs F) (D' : Nat) (hd : D ≤ D') : AtrR D' w x cs F := by
  obtain ⟨hl, hk, h0, h1, h2, h3, rfl⟩ := h
  exact ⟨hl, hk, h0, h1, h2, h3, rfl⟩
theorem AtrR.one {D : Nat} {w : World} {x : Atr} {cs : List Value} {F : List Nat} (h : AtrR D w x cs F) : ∀ v ∈ cs, v.oneCell' = true := by
  obtain ⟨c0, c1, c2, c3, rfl⟩ := list4 ((AtrR.good D).len h)
  obtain ⟨hl, hk, h0, h1, h2, h3, rfl⟩ := h
  intro v hv
  simp only [List.mem_cons, List.not_mem_nil, or_false] at hv
  rcases hv with rfl | rfl | rfl | rfl
  · obtain rfl := Option.some.inj h0
    rfl
  · obtain rfl := Option.some.inj h1
    rfl
  · obtain rfl := Option.some.inj h2
    rfl
  · obtain rfl := Option.some.inj h3
    rfl
def bulkAtr (D : Nat) (x : Atr) : Int := (x.name.size : Int)
theorem bulkAtr_nonneg (D : Nat) (x : Atr) : 0 ≤ bulkAtr D x := by unfold bulkAtr; omega
structure Sym where
  name : ByteArray
  attrs : List Atr
structure Sym.ok (x : Sym) : Prop where
  name : x.name.size ≤ maxLen
def SymR (D : Nat) : CR Sym := fun w x cs F => ∃ (v1 : Value) (F1 : List Nat), cs.length = 2 ∧ x.ok ∧ cs[0]? = some (.string x.name) ∧ (cs[1]? = some v1 ∧ SlR 4 (AtrR D) w x.attrs v1 F1) ∧ F = F1
theorem SymR.good (D : Nat) : Good 2 (SymR D) where
  len := fun {w x cs F} h => by
    obtain ⟨v1, F1, hl, hk, h0, ⟨h1, g1⟩, rfl⟩ := h
    exact hl
  frame := fun {w w' x cs F} h he hz => by
    obtain ⟨v1, F1, hl, hk, h0, ⟨h1, g1⟩, rfl⟩ := h
    exact ⟨v1, F, hl, hk, h0, ⟨h1, g1.frame (AtrR.good D) (fun k hk' => he k (hk')) hz⟩, rfl⟩
  lt := fun {w x cs F} h b hb => by
    obtain ⟨v1, F1, hl, hk, h0, ⟨h1, g1⟩, rfl⟩ := h
    exact g1.lt (AtrR.good D) b hb
theorem SymR.up {D : Nat} {w : World} {x : Sym} {cs : List Value} {F : List Nat} (h : SymR D w x cs F) (D' : Nat) (hd : D ≤ D') : SymR D' w x cs F := by
  obtain ⟨v1, F1, hl, hk, h0, ⟨h1, g1⟩, rfl⟩ := h
  exact ⟨v1, F, hl, hk, h0, ⟨h1, g1.mono fun _ _ _ q => AtrR.up q _ hd⟩, rfl⟩
theorem SymR.one {D : Nat} {w : World} {x : Sym} {cs : List Value} {F : List Nat} (h : SymR D w x cs F) : ∀ v ∈ cs, v.oneCell' = true := by
  obtain ⟨c0, c1, rfl⟩ := list2 ((SymR.good D).len h)
  obtain ⟨v1, F1, hl, hk, h0, ⟨h1, g1⟩, rfl⟩ := h
  intro v hv
  simp only [List.mem_cons, List.not_mem_nil, or_false] at hv
  rcases hv with rfl | rfl
  · obtain rfl := Option.some.inj h0
    rfl
  · obtain ⟨A, cap, hv, _, _⟩ := g1.form
    obtain rfl := Option.some.inj h1
    rw [hv]
    rfl
def bulkSym (D : Nat) (x : Sym) : Int := (x.name.size : Int) + (x.attrs.length + sumBy (bulkAtr D) x.attrs)
theorem bulkSym_nonneg (D : Nat) (x : Sym) : 0 ≤ bulkSym D x := by unfold bulkSym; have := sumBy_nonneg (bulkAtr_nonneg D) x.attrs; omega
end Go.Proofs.YtilndebjnibgjaaDoor
