/- Symbols: an attribute sought by its name. Conditions: none beyond that the symbol can be read. -/
import Derived.Test.YtaihdnlpdibkoaaSym
namespace Go.Proofs.Ytaihdnlpdibkoaa
set_option maxRecDepth 100000
open Go.RowKit Go.WideShapes
set_option linter.unusedVariables false

theorem find_hit {α : Type} {p : α → Bool} : ∀ {l : List α} {j : Nat} {x : α}, (∀ (k : Nat) (y : α), k < j → l[k]? = some y → p y = false) → l[j]? = some x → p x = true → l.find? p = some x
  | [], _, _, _, h, _ => by cases h
  | a :: r, 0, x, _, h, hp => by
    simp at h
    subst h
    simp [List.find?, hp]
  | a :: r, j + 1, x, hn, h, hp => by
    have h0 := hn 0 a (by omega) rfl
    simp only [List.find?, h0]
    exact find_hit (fun (k : Nat) y (hk : k < j) hy => hn (k + 1) y (by omega) (by simpa using hy)) (by simpa using h) hp
theorem find_no {α : Type} {p : α → Bool} {l : List α} (h : ∀ (k : Nat) (y : α), l[k]? = some y → p y = false) : l.find? p = none := by
  rw [List.find?_eq_none]
  intro x hx
  obtain ⟨k, hk⟩ := List.getElem?_of_mem hx
  simp [h k x hk]
def Atr.zero : Atr := ⟨⟨#[]⟩, 0, 0, false⟩
def findA (l : List Atr) (s : ByteArray) : Option Atr := l.find? fun a => a.name.toList == s.toList
theorem AtrR.zero (D : Nat) (w : World) : AtrR D w Atr.zero [.string ⟨#[]⟩, .int .i64 0, .int .i64 0, .bool false] [] := ⟨rfl, ⟨by simp [Atr.zero, ByteArray.size, maxLen], by decide, by decide⟩, rfl, rfl, rfl, rfl, rfl⟩
def Found (D : Nat) (w : World) (o : Option Atr) (en : Ending) (w' : World) : Prop :=
  ∃ us F', en = .returned (.tuple #[.agg (List.toArray us), .bool o.isSome]) ∧ AtrR D w' (o.getD Atr.zero) us F' ∧ Fresh w.heap.size w' F' ∧ Below w.heap.size w w'
end Go.Proofs.Ytaihdnlpdibkoaa
