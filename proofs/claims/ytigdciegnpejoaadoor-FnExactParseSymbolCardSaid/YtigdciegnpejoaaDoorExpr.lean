/- Expressions: how one lies in memory; the functions that only read one. Conditions: none beyond that it can be read. -/
import Derived.Test.YtigdciegnpejoaaDoorRows
import Derived.Test.YtigdciegnpejoaaDoorMem
import Derived.WalkLawsBesides
import Derived.WalkSpells
namespace Go.Proofs.YtigdciegnpejoaaDoor
set_option maxRecDepth 100000
open Go.RowKit Go.WideShapes

structure ExH where
  kind : Int
  n : Int
  pos : Int
  type : Int
  symbol : ByteArray
  name : ByteArray
inductive Ex where
  | mk (h : ExH) (args : List Ex)
def Ex.h : Ex → ExH
  | .mk h _ => h
def Ex.args : Ex → List Ex
  | .mk _ l => l
structure ExH.ok (h : ExH) : Prop where
  kind : (Lit.int .i64 h.kind).wf = true
  n : (Lit.int .i64 h.n).wf = true
  pos : (Lit.int .i64 h.pos).wf = true
  type : (Lit.int .i64 h.type).wf = true
  symbol : h.symbol.size ≤ maxLen
  name : h.name.size ≤ maxLen
def ExH.cells (h : ExH) (v : Value) : List Value := [.int .i64 h.kind, .int .i64 h.n, .int .i64 h.pos, .int .i64 h.type, .string h.symbol, .string h.name, v]
/-- An expression of depth at most d. -/
def ExR : Nat → CR Ex
  | 0, _, _, _, _ => False
  | d + 1, w, e, cs, F => ∃ v, cs = e.h.cells v ∧ e.h.ok ∧ SlR 7 (ExR d) w e.args v F
theorem ExR.good : ∀ d, Good 7 (ExR d)
  | 0 => ⟨fun h => h.elim, fun h => h.elim, fun h => h.elim⟩
  | d + 1 => by
    exact ⟨fun ⟨v, h, _⟩ => by rw [h]; rfl, fun ⟨v, h1, h2, h3⟩ hk hz => ⟨v, h1, h2, h3.frame (ExR.good d) hk hz⟩, fun ⟨v, h1, h2, h3⟩ => h3.lt (ExR.good d)⟩
theorem ExR.up : ∀ {d : Nat} {w : World} {e : Ex} {cs : List Value} {F : List Nat}, ExR d w e cs F → ∀ d', d ≤ d' → ExR d' w e cs F
  | 0, _, _, _, _, h, _, _ => h.elim
  | d + 1, w, e, cs, F, ⟨v, h1, h2, h3⟩, 0, hd => by omega
  | d + 1, w, e, cs, F, ⟨v, h1, h2, h3⟩, d' + 1, hd => ⟨v, h1, h2, h3.mono fun x cs F h => ExR.up h d' (by omega)⟩
/-- How many nodes. -/
def cntE : Nat → Ex → Int
  | 0, _ => 0
  | d + 1, e => 1 + sumBy (cntE d) e.args
theorem cntE_nonneg : ∀ d e, 0 ≤ cntE d e
  | 0, _ => Int.le_refl _
  | d + 1, e => by have := sumBy_nonneg (cntE_nonneg d) e.args; simp only [cntE]; omega

/-- Argument k of an expression: its seven cells, and how it lies. -/
theorem ex_get {d : Nat} {w : World} {l : List Ex} {A : Option Addr} {len cap : Nat} {F : List Nat} {k : Nat} {x : Ex} (h : SlR 7 (ExR d) w l (.slice A len cap) F) (hx : l[k]? = some x) :
    ∃ b off A' cap' Fk, A = some ⟨b, off, none⟩ ∧ b ∈ F ∧ (∀ j ∈ Fk, j ∈ F) ∧ x.h.ok ∧ x.args.length ≤ cap' ∧ cap' ≤ maxLen ∧
      CellsAt w b (off + k * 7) (x.h.cells (.slice A' x.args.length cap')) ∧ ExR d w x (x.h.cells (.slice A' x.args.length cap')) Fk := by
  obtain ⟨b, off, cs, Fk, hA, _, hbF, hFk, _, hc, hR⟩ := h.get (ExR.good d) hx
  match d, hR with
  | d + 1, hR =>
    obtain ⟨v, rfl, hok, hs⟩ := id hR
    obtain ⟨A', cap', rfl, hl, hm⟩ := hs.form
    exact ⟨b, off, A', cap', Fk, hA, hbF, hFk, hok, hl, hm, hc, hR⟩
/-- An expression by value: its form. -/
theorem ex_form {d : Nat} {w : World} {e : Ex} {cs : List Value} {F : List Nat} (h : ExR (d + 1) w e cs F) :
    ∃ A cap, cs = e.h.cells (.slice A e.args.length cap) ∧ e.h.ok ∧ e.args.length ≤ cap ∧ cap ≤ maxLen ∧ SlR 7 (ExR d) w e.args (.slice A e.args.length cap) F := by
  obtain ⟨v, rfl, hok, hs⟩ := h
  obtain ⟨A, cap, rfl, hl, hm⟩ := hs.form
  exact ⟨A, cap, rfl, hok, hl, hm, hs⟩

/-- How deep. -/
def maxBy {α : Type} (f : α → Int) : List α → Int
  | [] => 0
  | x :: r => max (f x) (maxBy f r)
theorem maxBy_snoc {α : Type} (f : α → Int) (hf : ∀ x, 0 ≤ f x) (xs : List α) (x : α) : maxBy f (xs ++ [x]) = max (maxBy f xs) (f x) := by
  induction xs with
  | nil => have := hf x; simp only [List.nil_append, maxBy]; omega
  | cons y r ih => simp only [List.cons_append, maxBy, ih]; omega
theorem maxBy_take_succ {α : Type} {f : α → Int} (hf : ∀ x, 0 ≤ f x) {xs : List α} {k : Nat} {x : α} (hx : xs[k]? = some x) : maxBy f (xs.take (k + 1)) = max (maxBy f (xs.take k)) (f x) := by rw [take_snoc hx, maxBy_snoc f hf]
theorem maxBy_le_sum {α : Type} {f g : α → Int} (hf : ∀ x, 0 ≤ f x) (h : ∀ x, f x ≤ g x) : ∀ xs : List α, 0 ≤ maxBy f xs ∧ maxBy f xs ≤ sumBy g xs
  | [] => ⟨Int.le_refl _, Int.le_refl _⟩
  | x :: r => by
    have h1 := maxBy_le_sum hf h r
    have h2 := hf x
    have h3 := h x
    have h4 := sumBy_nonneg (f := g) (fun y => by have := hf y; have := h y; omega) r
    simp only [maxBy, sumBy]
    omega
def depE : Nat → Ex → Int
  | 0, _ => 0
  | d + 1, e => maxBy (depE d) e.args + 1
theorem depE_le : ∀ d e, 0 ≤ depE d e ∧ depE d e ≤ cntE d e
  | 0, _ => ⟨Int.le_refl _, Int.le_refl _⟩
  | d + 1, e => by
    have := maxBy_le_sum (fun x => (depE_le d x).1) (fun x => (depE_le d x).2) e.args
    simp only [depE, cntE]
    omega

end Go.Proofs.YtigdciegnpejoaaDoor
