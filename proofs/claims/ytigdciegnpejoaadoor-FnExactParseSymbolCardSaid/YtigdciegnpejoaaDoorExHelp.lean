/- Expressions: sizes, copies into new memory, comparisons. Conditions: a size is asked with at most 2^20; a copy is asked of at most 2^20 arguments a node. -/
import Derived.Test.YtigdciegnpejoaaDoorExpr
import Derived.Deep.OwnRows
import Derived.Deep.QuietTactic
import Derived.BigQuiet
import Derived.Deep.RegionHeld3
import Derived.Laws.MakeOwn
namespace Go.Proofs.YtigdciegnpejoaaDoor
set_option maxRecDepth 100000
open Go.RowKit Go.WideShapes

/-- Lengths of texts and of argument lists, together. -/
def bulkE : Nat → Ex → Int
  | 0, _ => 0
  | d + 1, e => e.h.symbol.size + e.h.name.size + (e.args.length + sumBy (bulkE d) e.args)
theorem bulkE_nonneg : ∀ d e, 0 ≤ bulkE d e
  | 0, _ => Int.le_refl _
  | d + 1, e => by have := sumBy_nonneg (bulkE_nonneg d) e.args; simp only [bulkE]; omega
/-- A node more than its arguments' lists hold. -/
theorem cnt_le_bulk : ∀ d e, cntE d e ≤ 1 + bulkE d e
  | 0, _ => by simp [cntE, bulkE]
  | d + 1, e => by
    have h : ∀ l : List Ex, sumBy (cntE d) l ≤ l.length + sumBy (bulkE d) l := by
      intro l
      induction l with
      | nil => simp [sumBy]
      | cons x r ih => have := cnt_le_bulk d x; simp only [sumBy, List.length_cons]; omega
    have := h e.args
    simp only [cntE, bulkE]
    omega

/-! ### Comparing -/
def eqHead (a b : ExH) : Bool := (a.kind == b.kind) && ((a.n == b.n) && ((a.pos == b.pos) && ((a.type == b.type) && ((a.symbol.toList == b.symbol.toList) && (a.name.toList == b.name.toList)))))
def eqL {α : Type} (f : α → α → Bool) : List α → List α → Bool
  | [], [] => true
  | x :: r, y :: r' => f x y && eqL f r r'
  | _, _ => false
theorem eqL_len {α : Type} {f : α → α → Bool} : ∀ {xs ys : List α}, xs.length ≠ ys.length → eqL f xs ys = false
  | [], [], h => absurd rfl h
  | [], _ :: _, _ => rfl
  | _ :: _, [], _ => rfl
  | _ :: _, _ :: _, h => by simp only [eqL]; rw [eqL_len (fun e => h (by simp [e]))]; simp
theorem eqL_bad {α : Type} {f : α → α → Bool} : ∀ {xs ys : List α} {k : Nat} {x y : α}, xs[k]? = some x → ys[k]? = some y → f x y = false → eqL f xs ys = false
  | [], _, _, _, _, h, _, _ => by cases h
  | _ :: _, [], _, _, _, _, h, _ => by cases h
  | a :: r, b :: r', 0, x, y, hx, hy, h => by
    simp at hx hy
    subst hx hy
    simp [eqL, h]
  | a :: r, b :: r', k + 1, x, y, hx, hy, h => by
    simp only [eqL]
    rw [eqL_bad (xs := r) (ys := r') (k := k) (by simpa using hx) (by simpa using hy) h]
    simp
theorem eqL_all {α : Type} {f : α → α → Bool} : ∀ {xs ys : List α}, xs.length = ys.length → (∀ (k : Nat) (x y : α), xs[k]? = some x → ys[k]? = some y → f x y = true) → eqL f xs ys = true
  | [], [], _, _ => rfl
  | [], _ :: _, h, _ => by cases h
  | _ :: _, [], h, _ => by cases h
  | a :: r, b :: r', h, hk => by
    simp only [eqL]
    rw [hk 0 a b rfl rfl, eqL_all (by simpa using h) (fun k x y hx hy => hk (k + 1) x y (by simpa using hx) (by simpa using hy))]
    rfl
def eqE : Nat → Ex → Ex → Bool
  | 0, _, _ => true
  | d + 1, a, b => eqHead a.h b.h && eqL (eqE d) a.args b.args
theorem eqE_refl : ∀ d e, eqE d e e = true
  | 0, _ => rfl
  | d + 1, e => by
    simp only [eqE]
    rw [eqL_all rfl (fun k x y hx hy => by rw [hx] at hy; injection hy with hy; rw [hy]; exact eqE_refl d y)]
    simp [eqHead]

theorem eqE_head {d : Nat} {a b : Ex} (h : eqHead a.h b.h = false) : eqE (d + 1) a b = false := by simp only [eqE]; rw [h]; rfl
theorem eqE_args {d : Nat} {a b : Ex} (h : eqHead a.h b.h = true) : eqE (d + 1) a b = eqL (eqE d) a.args b.args := by simp only [eqE]; rw [h]; rfl
end Go.Proofs.YtigdciegnpejoaaDoor
