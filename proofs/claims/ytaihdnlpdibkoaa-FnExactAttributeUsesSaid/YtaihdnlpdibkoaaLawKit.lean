/- What the walks of laws with marks share: facts behind a marking call; how many marks a thing takes, against its size. Plain: no program. -/
import Derived.Test.YtaihdnlpdibkoaaMarks
namespace Go.Proofs.Ytaihdnlpdibkoaa
set_option maxRecDepth 100000
open Go.RowKit Go.WideShapes
set_option linter.unusedVariables false

/-- A cell of a box behind a call that wrote elsewhere. -/
theorem cell_apart {G : List Nat} {W W' : World} (ha : Apart G W W') {b i : Nat} {v : Value} (hc : W.cell? ⟨b, i, none⟩ = some v) (hb : b ∈ G → False) : ∀ X : World, Below W'.heap.size W' X → X.cell? ⟨b, i, none⟩ = some v := fun X hX => by
  have hlt : b < W.heap.size := cell_lt hc
  rw [cell_same (hX.block b (Nat.lt_of_lt_of_le hlt ha.size)) i, cell_same (ha.block b hlt hb) i]
  exact hc
theorem sumBy_le {α : Type} {f g : α → Int} (h : ∀ x, f x ≤ g x) : ∀ l : List α, sumBy f l ≤ sumBy g l
  | [] => Int.le_refl _
  | x :: r => by have := h x; have := sumBy_le h r; simp only [sumBy]; omega
theorem ctL_sum {α : Type} (ct : α → Nat) : ∀ l : List α, (ctL ct l : Int) = sumBy (fun x => (ct x : Int)) l
  | [] => rfl
  | x :: r => by have := ctL_sum ct r; simp only [ctL, sumBy]; omega
theorem sumBy_const_add {α : Type} (f : α → Int) (c : Int) : ∀ l : List α, sumBy (fun x => c + f x) l = c * l.length + sumBy f l
  | [] => by simp [sumBy]
  | x :: r => by have := sumBy_const_add f c r; simp only [sumBy, List.length_cons, this, Int.natCast_add, Int.mul_add]; omega
theorem sumBy_mul {α : Type} (f : α → Int) (c : Int) : ∀ l : List α, sumBy (fun x => c * f x) l = c * sumBy f l
  | [] => by simp [sumBy]
  | x :: r => by have := sumBy_mul f c r; simp only [sumBy, this, Int.mul_add]
theorem ctE0_le : ∀ (d : Nat) (e : Ex), (ctE0 d e : Int) ≤ 6 + 6 * bulkE d e
  | 0, e => by simp only [ctE0]; have := bulkE_nonneg 0 e; omega
  | d + 1, e => by
    have h1 := ctL_sum (ctE0 d) e.args
    have h2 := sumBy_le (fun x => ctE0_le d x) e.args
    rw [sumBy_const_add, sumBy_mul] at h2
    have h3 := sumBy_nonneg (bulkE_nonneg d) e.args
    simp only [ctE0, bulkE]
    omega
theorem ctE_args {d : Nat} (l : List Ex) : (ctL (ctE0 d) l : Int) ≤ 6 * l.length + 6 * sumBy (bulkE d) l := by
  have h1 := ctL_sum (ctE0 d) l
  have h2 := sumBy_le (fun x => ctE0_le d x) l
  rw [sumBy_const_add, sumBy_mul] at h2
  omega
theorem ctEqn_le (D : Nat) (x : Eqn) : (ct_Eqn D x : Int) ≤ 8 + 6 * bulkEqn D x := by
  have := ctE0_le D x.expr
  have := bulkOcc_nonneg D x.at_
  simp only [ct_Eqn, ct_Occ, bulkEqn]
  omega
theorem ctCon_le (D : Nat) (x : Con) : (ct_Con D x : Int) ≤ 14 + 6 * bulkCon D x := by
  have := ctE0_le D x.target
  have := ctE0_le D x.value
  simp only [ct_Con, bulkCon]
  omega
theorem ctAtr_le (D : Nat) : ∀ l : List Atr, (ctL (ct_Atr D) l : Int) = 4 * l.length
  | [] => rfl
  | x :: r => by
    have := ctAtr_le D r
    simp only [ctL, ct_Atr, List.length_cons]
    omega
theorem ctEqns_le (D : Nat) (l : List Eqn) : (ctL (ct_Eqn D) l : Int) ≤ 8 * l.length + 6 * sumBy (bulkEqn D) l := by
  have h1 := ctL_sum (ct_Eqn D) l
  have h2 := sumBy_le (fun x => ctEqn_le D x) l
  rw [sumBy_const_add, sumBy_mul] at h2
  omega
theorem ctCons_le (D : Nat) (l : List Con) : (ctL (ct_Con D) l : Int) ≤ 14 * l.length + 6 * sumBy (bulkCon D) l := by
  have h1 := ctL_sum (ct_Con D) l
  have h2 := sumBy_le (fun x => ctCon_le D x) l
  rw [sumBy_const_add, sumBy_mul] at h2
  omega
theorem scRul_le (D : Nat) (x : Rul) : (sc_Rul D x : Int) ≤ 14 * bulkRul D x := by
  have h1 := ctEqns_le D x.eqs
  have h2 := ctCons_le D x.cons
  have := bulkS_nonneg x.right
  have := sumBy_nonneg (bulkEqn_nonneg D) x.eqs
  have := sumBy_nonneg (bulkCon_nonneg D) x.cons
  simp only [sc_Rul, bulkRul]
  omega
theorem scSym_le (D : Nat) (x : Sym) : (sc_Sym D x : Int) ≤ 4 * bulkSym D x := by
  have h1 := ctAtr_le D x.attrs
  have := sumBy_nonneg (bulkAtr_nonneg D) x.attrs
  simp only [sc_Sym, bulkSym]
  omega
theorem scEx_le : ∀ (D : Nat) (x : Ex), (sc_Ex D x : Int) ≤ 6 * bulkE D x
  | 0, x => by simp only [sc_Ex]; have := bulkE_nonneg 0 x; omega
  | d + 1, x => by
    have := ctE_args (d := d) x.args
    simp only [sc_Ex, bulkE]
    omega
theorem Rul_cnt {D : Nat} {x : Rul} (h : bulkRul D x ≤ 1048576) : sc_Rul D x ≤ 100000000 := by have := scRul_le D x; omega
theorem Sym_cnt {D : Nat} {x : Sym} (h : bulkSym D x ≤ 1048576) : sc_Sym D x ≤ 100000000 := by have := scSym_le D x; omega
theorem Ex_cnt {D : Nat} {x : Ex} (h : bulkE D x ≤ 1048576) : sc_Ex D x ≤ 100000000 := by have := scEx_le D x; omega
theorem ctSym_le (D : Nat) (x : Sym) : (ct_Sym D x : Int) ≤ 1 + 4 * bulkSym D x := by
  have h1 := ctAtr_le D x.attrs
  have := sumBy_nonneg (bulkAtr_nonneg D) x.attrs
  simp only [ct_Sym, bulkSym]
  omega
theorem ctRul_le (D : Nat) (x : Rul) : (ct_Rul D x : Int) ≤ 3 + 14 * bulkRul D x := by
  have h1 := ctEqns_le D x.eqs
  have h2 := ctCons_le D x.cons
  have := bulkS_nonneg x.right
  have := sumBy_nonneg (bulkEqn_nonneg D) x.eqs
  have := sumBy_nonneg (bulkCon_nonneg D) x.cons
  simp only [ct_Rul, bulkRul]
  omega
theorem scGrm_le (D : Nat) (x : Grm) : (sc_Grm D x : Int) ≤ 14 * bulkGrm D x := by
  have a1 := ctL_sum (ct_Sym D) x.symbols
  have a2 := sumBy_le (fun x => ctSym_le D x) x.symbols
  rw [sumBy_const_add, sumBy_mul] at a2
  have b1 := ctL_sum (ct_Rul D) x.rules
  have b2 := sumBy_le (fun x => ctRul_le D x) x.rules
  rw [sumBy_const_add, sumBy_mul] at b2
  have := sumBy_nonneg (bulkSym_nonneg D) x.symbols
  have := sumBy_nonneg (bulkRul_nonneg D) x.rules
  simp only [sc_Grm, bulkGrm]
  omega
theorem Grm_cnt {D : Nat} {x : Grm} (h : bulkGrm D x ≤ 1048576) : sc_Grm D x ≤ 100000000 := by have := scGrm_le D x; omega
end Go.Proofs.Ytaihdnlpdibkoaa
