/- Equations and contributions overwritten by marks, and held against them. Conditions: numbers from 1 to 2^40. -/
import Derived.Test.YtilibmialekpaaaDoorMarkA
namespace Go.Proofs.YtilibmialekpaaaDoor
set_option maxRecDepth 100000
open Go.RowKit Go.WideShapes
set_option linter.unusedVariables false

def mk_Eqn (D k : Nat) (x : Eqn) : Eqn := ⟨mk_Occ (k) x.at_, mkE D (k + (ct_Occ x.at_)) x.expr⟩
def ct_Eqn (D : Nat) (x : Eqn) : Nat := (ct_Occ x.at_) + (ctE0 D x.expr)
theorem EqnR.succ {D : Nat} {w : World} {x : Eqn} {cs : List Value} {F : List Nat} (h : EqnR D w x cs F) : ∃ d, D = d + 1 := by
  obtain ⟨_, _, _, h0, h1, _⟩ := h
  match D, h1 with
  | d + 1, _ => exact ⟨d, rfl⟩
def mk_Con (D k : Nat) (x : Con) : Con := ⟨mkT (k), mkT (k + 1), mkE D (k + 2) x.target, mkE D (k + 2 + (ctE0 D x.target)) x.value⟩
def ct_Con (D : Nat) (x : Con) : Nat := 2 + (ctE0 D x.target) + (ctE0 D x.value)
theorem ConR.succ {D : Nat} {w : World} {x : Con} {cs : List Value} {F : List Nat} (h : ConR D w x cs F) : ∃ d, D = d + 1 := by
  obtain ⟨_, _, _, _, _, _, h2, h3, _⟩ := h
  match D, h2 with
  | d + 1, _ => exact ⟨d, rfl⟩
end Go.Proofs.YtilibmialekpaaaDoor
