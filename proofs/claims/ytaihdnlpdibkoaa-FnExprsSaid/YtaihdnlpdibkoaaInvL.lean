/- Regions that draw their order: a struct loaded whole, rows that stay. Plain: no program. -/
import Derived.Test.YtaihdnlpdibkoaaInv
import Derived.Test.YtaihdnlpdibkoaaWhole
namespace Go.Proofs.Ytaihdnlpdibkoaa
set_option maxRecDepth 100000
open Go.RowKit
set_option linter.unusedVariables false

theorem updK {l : Nat → Bool} {i j : Nat} (h : l j = false) (hj : j ≠ i) : updL l i j = false := by
  unfold updL
  rw [h, show (j == i) = false from beq_eq_false_iff_ne.2 hj]
  rfl
/-- A struct loaded whole inside a region that draws its order. -/
theorem step_load {P : Program} {ops : Array Oper} {o : Oper} {a : Act} {w : World} {K : Act → World → Prop} {Q : Exit → Act → World → Prop} {E : Prop} (hgd : o.guard = none) (ty : TypeId) (x : Operand) (ho : o.op = .load ty x)
    {d : TypeDesc} (hu : P.underlying ty = some d) (hd : (match d with | .struct _ | .array _ _ => true | _ => false) = true)
    {b off n : Nat} {cs : List Value} (hi : (P.info? ty).map (·.size) = some n) (hx : a.eval x = .pointer (some ⟨b, off, none⟩)) (hn : cs.length = n) (hc : CellsAt w b off cs)
    (h : K (a.put o.dst (.agg cs.toArray)) w) : if Region.wanted o (yielded ops a.tmps) = true then Oper.wp P o a w K Q else E := by
  have hw : Region.wanted o (yielded ops a.tmps) = true := by simp [Region.wanted, hgd]
  rw [if_pos hw]
  subst hn
  unfold Oper.wp execOp
  simp only [ho, hx, Instr.loadAt, Instr.sureAddr, Sem.run_bind, Sem.run_pure, Result.andThen_ok, run_loadVar_at hu hd hi hc]
  exact h
theorem Stay.row {n : Nat} {w w' : World} {r : Option Nat} (hg : w.grownBy w' r) (hr : ∀ k, r = some k → k < n) : Stay n w w' := fun g o h => ⟨h.1, (hg.block g h.lt (fun e => by have := hr g e.symm; have := h.1; omega)).trans h.2⟩
theorem updL_f {l : Nat → Bool} {i j : Nat} (h : updL l i j = false) : l j = false := by
  unfold updL at h
  cases hl : l j with
  | false => rfl
  | true => rw [hl] at h; cases h
theorem updL_up {l : Nat → Bool} {i j : Nat} (h : l j = true) : updL l i j = true := by
  unfold updL
  rw [h]
  rfl
end Go.Proofs.Ytaihdnlpdibkoaa
