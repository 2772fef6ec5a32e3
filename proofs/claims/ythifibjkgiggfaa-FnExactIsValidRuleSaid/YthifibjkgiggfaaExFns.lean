/- Expressions: levels, remote attributes. Conditions: none beyond that the expression can be read. -/
import Derived.Test.YthifibjkgiggfaaExCopy
namespace Go.Proofs.Ythifibjkgiggfaa
set_option maxRecDepth 100000
open Go.RowKit Go.WideShapes

def lvN (n : Int) : Int := if n = 9 ∨ n = 10 then 1 else if n = 1 ∨ n = 2 ∨ n = 6 ∨ n = 8 then 2 else if n = 3 ∨ n = 7 then 3 else 4
def levH (h : ExH) : Int := if h.kind = 5 then 0 else if h.kind = 4 then lvN h.n else 4
/-- A node that fulfils something. -/
def anyE (P : Ex → Bool) : Nat → Ex → Bool
  | 0, _ => false
  | d + 1, e => e.args.any (anyE P d) || P e
theorem any_take_false {α : Type} {f : α → Bool} {xs : List α} {k : Nat} {x : α} (hx : xs[k]? = some x) (h : (xs.take k).any f = false) (hf : f x = false) : (xs.take (k + 1)).any f = false := by rw [take_snoc hx, List.any_append, h]; simp [hf]
theorem any_hit {α : Type} {f : α → Bool} {xs : List α} {k : Nat} {x : α} (hx : xs[k]? = some x) (hf : f x = true) : xs.any f = true := List.any_eq_true.2 ⟨x, List.mem_of_getElem? hx, hf⟩
def isRem (e : Ex) : Bool := e.h.kind == 8
/-- All nodes fulfil something. -/
def allE (P : Ex → Bool) : Nat → Ex → Bool
  | 0, _ => true
  | d + 1, e => P e && e.args.all (allE P d)
def notRem (e : Ex) : Bool := e.h.kind != 8
/-- Does every argument fulfil it? -1, or the index of one that does not. -/
def IdxOf_rem (l : List Ex) (d : Nat) (en : Ending) : Prop := (en = .returned (.int .i64 (-1)) ∧ l.all (allE notRem d) = true) ∨ ∃ r : Nat, en = .returned (.int .i64 r) ∧ l.all (allE notRem d) = false
theorem all_any (P Q : Ex → Bool) (hPQ : ∀ e, P e = !(Q e)) : ∀ d e, allE P d e = !(anyE Q d e)
  | 0, _ => rfl
  | d + 1, e => by
    simp only [allE, anyE]
    rw [hPQ e]
    have : e.args.all (allE P d) = !(e.args.any (anyE Q d)) := by
      rw [show allE P d = fun x => !(anyE Q d x) from funext (all_any P Q hPQ d)]
      simp [List.all_eq_not_any_not]
    rw [this]
    cases e.args.any (anyE Q d) <;> cases Q e <;> rfl
end Go.Proofs.Ythifibjkgiggfaa
