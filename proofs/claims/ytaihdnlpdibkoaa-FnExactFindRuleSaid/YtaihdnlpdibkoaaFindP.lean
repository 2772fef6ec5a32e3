/- Symbols, rules and equations sought in a grammar: the plain functions; sizes of what is found. Plain: no program. -/
import Derived.Test.YtaihdnlpdibkoaaGrm
import Derived.Test.YtaihdnlpdibkoaaSymFns
import Derived.Test.YtaihdnlpdibkoaaOccEq
import Derived.Test.YtaihdnlpdibkoaaRulFns
import Derived.Test.YtaihdnlpdibkoaaLawKit
namespace Go.Proofs.Ytaihdnlpdibkoaa
set_option maxRecDepth 100000
open Go.RowKit Go.WideShapes
set_option linter.unusedVariables false

def Sym.zero : Sym := ⟨⟨#[]⟩, []⟩
def Rul.zero : Rul := ⟨⟨#[]⟩, ⟨#[]⟩, [], false, [], []⟩
def Ex.zero : Ex := .mk ⟨0, 0, 0, 0, ⟨#[]⟩, ⟨#[]⟩⟩ []
def findS (l : List Sym) (s : ByteArray) : Option Sym := l.find? fun a => a.name.toList == s.toList
def findR (l : List Rul) (s : ByteArray) : Option Rul := l.find? fun a => a.name.toList == s.toList
def findQ (l : List Eqn) (o : Occ) : Option Ex := (l.find? fun q => eqOcc q.at_ o).map (·.expr)
def rulesOf (g : Grm) (s : ByteArray) : List ByteArray := (g.rules.filter fun r => r.left.toList == s.toList).map (·.name)
theorem empty_ok : (⟨#[]⟩ : ByteArray).size ≤ maxLen := by simp [ByteArray.size, maxLen]
theorem SymR.zero (D : Nat) (w : World) : SymR D w Sym.zero [.string ⟨#[]⟩, .slice none 0 0] [] :=
  ⟨.slice none 0 0, [], rfl, ⟨empty_ok⟩, rfl, ⟨rfl, none, 0, rfl, Nat.le_refl _, by simp [maxLen], .inl ⟨rfl, rfl⟩⟩, rfl⟩
theorem nilSlR {α : Type} {n : Nat} {R : CR α} (w : World) : SlR n R w [] (.slice none 0 0) [] := ⟨none, 0, rfl, Nat.le_refl _, by simp [maxLen], .inl ⟨rfl, rfl⟩⟩
theorem RulR.zero (D : Nat) (w : World) : RulR D w Rul.zero [.string ⟨#[]⟩, .string ⟨#[]⟩, .slice none 0 0, .bool false, .slice none 0 0, .slice none 0 0] [] :=
  ⟨.slice none 0 0, [], .slice none 0 0, [], .slice none 0 0, [], rfl, ⟨empty_ok, empty_ok⟩, rfl, rfl, ⟨rfl, nilSlR w⟩, rfl, ⟨rfl, nilSlR w⟩, ⟨rfl, nilSlR w⟩, rfl⟩
theorem ExR.zero (d : Nat) (w : World) : ExR (d + 1) w Ex.zero [.int .i64 0, .int .i64 0, .int .i64 0, .int .i64 0, .string ⟨#[]⟩, .string ⟨#[]⟩, .slice none 0 0] [] :=
  ⟨.slice none 0 0, rfl, ⟨by decide, by decide, by decide, by decide, empty_ok, empty_ok⟩, nilSlR w⟩
theorem bulkSym_zero (D : Nat) : bulkSym D Sym.zero = 0 := rfl
theorem bulkRul_zero (D : Nat) : bulkRul D Rul.zero = 0 := rfl
theorem bulkE_zero : ∀ D, bulkE D Ex.zero = 0
  | 0 => rfl
  | _ + 1 => rfl
theorem bulk_syms {D : Nat} {x : Grm} (h : bulkGrm D x ≤ 1048576) : ∀ y ∈ x.symbols, bulkSym D y ≤ 1048576 := fun y hy => by
  have := sumBy_mem (bulkSym_nonneg D) hy
  have := sumBy_nonneg (bulkRul_nonneg D) x.rules
  unfold bulkGrm at h
  omega
theorem bulk_rules {D : Nat} {x : Grm} (h : bulkGrm D x ≤ 1048576) : ∀ y ∈ x.rules, bulkRul D y ≤ 1048576 := fun y hy => by
  have := sumBy_mem (bulkRul_nonneg D) hy
  have := sumBy_nonneg (bulkSym_nonneg D) x.symbols
  unfold bulkGrm at h
  omega
theorem bulk_nsyms {D : Nat} {x : Grm} (h : bulkGrm D x ≤ 1048576) : x.symbols.length ≤ 1048576 := by
  have := sumBy_nonneg (bulkRul_nonneg D) x.rules
  have := sumBy_nonneg (bulkSym_nonneg D) x.symbols
  unfold bulkGrm at h
  omega
theorem bulk_nrules {D : Nat} {x : Grm} (h : bulkGrm D x ≤ 1048576) : x.rules.length ≤ 1048576 := by
  have := sumBy_nonneg (bulkRul_nonneg D) x.rules
  have := sumBy_nonneg (bulkSym_nonneg D) x.symbols
  unfold bulkGrm at h
  omega
theorem bulk_attrs {D : Nat} {x : Sym} (h : bulkSym D x ≤ 1048576) : x.attrs.length ≤ 1048576 := by
  have := sumBy_nonneg (bulkAtr_nonneg D) x.attrs
  unfold bulkSym at h
  omega
theorem bulk_rul {D : Nat} {x : Rul} (h : bulkRul D x ≤ 1048576) : x.right.length ≤ 1048576 ∧ x.eqs.length ≤ 1048576 ∧ x.cons.length ≤ 1048576 := by
  have := bulkS_nonneg x.right
  have := sumBy_nonneg (bulkEqn_nonneg D) x.eqs
  have := sumBy_nonneg (bulkCon_nonneg D) x.cons
  unfold bulkRul at h
  omega
theorem bulk_eqs {D : Nat} {x : Rul} (h : bulkRul D x ≤ 1048576) : ∀ y ∈ x.eqs, bulkE D y.expr ≤ 1048576 := fun y hy => by
  have := bulkS_nonneg x.right
  have := sumBy_mem (bulkEqn_nonneg D) hy
  have := sumBy_nonneg (bulkCon_nonneg D) x.cons
  have h2 := bulkOcc_nonneg D y.at_
  have h3 : bulkEqn D y = bulkOcc D y.at_ + bulkE D y.expr := rfl
  unfold bulkRul at h
  omega
theorem bulk_cons {D : Nat} {x : Rul} (h : bulkRul D x ≤ 1048576) : ∀ y ∈ x.cons, bulkE D y.target ≤ 1048576 ∧ bulkE D y.value ≤ 1048576 := fun y hy => by
  have := bulkS_nonneg x.right
  have := sumBy_mem (bulkCon_nonneg D) hy
  have := sumBy_nonneg (bulkEqn_nonneg D) x.eqs
  have h2 := bulkE_nonneg D y.target
  have h4 := bulkE_nonneg D y.value
  have h3 : bulkCon D y = (y.symbol.size : Int) + (y.name.size : Int) + bulkE D y.target + bulkE D y.value := rfl
  unfold bulkRul at h
  omega
theorem findS_bulk {D : Nat} {x : Grm} (h : bulkGrm D x ≤ 1048576) (s : ByteArray) : bulkSym D ((findS x.symbols s).getD Sym.zero) ≤ 1048576 := by
  cases hf : findS x.symbols s with
  | none => simp [bulkSym_zero]
  | some y => exact bulk_syms h y (List.mem_of_find?_eq_some hf)
theorem findR_bulk {D : Nat} {x : Grm} (h : bulkGrm D x ≤ 1048576) (s : ByteArray) : bulkRul D ((findR x.rules s).getD Rul.zero) ≤ 1048576 := by
  cases hf : findR x.rules s with
  | none => simp [bulkRul_zero]
  | some y => exact bulk_rules h y (List.mem_of_find?_eq_some hf)
theorem findQ_bulk {D : Nat} {x : Rul} (h : bulkRul D x ≤ 1048576) (o : Occ) : bulkE D ((findQ x.eqs o).getD Ex.zero) ≤ 1048576 := by
  unfold findQ
  cases hf : x.eqs.find? (fun q => eqOcc q.at_ o) with
  | none => simp [bulkE_zero]
  | some y => exact bulk_eqs h y (List.mem_of_find?_eq_some hf)
theorem findS_cnt {D : Nat} {x : Grm} (h : bulkGrm D x ≤ 1048576) {s : ByteArray} : sc_Sym D ((findS x.symbols s).getD Sym.zero) ≤ 100000000 := Sym_cnt (findS_bulk h s)
theorem findR_cnt {D : Nat} {x : Grm} (h : bulkGrm D x ≤ 1048576) {s : ByteArray} : sc_Rul D ((findR x.rules s).getD Rul.zero) ≤ 100000000 := Rul_cnt (findR_bulk h s)
theorem findQ_cnt {D : Nat} {x : Rul} (h : bulkRul D x ≤ 1048576) {o : Occ} : sc_Ex D ((findQ x.eqs o).getD Ex.zero) ≤ 100000000 := Ex_cnt (findQ_bulk h o)
theorem rulesOf_cnt {D : Nat} {x : Grm} (h : bulkGrm D x ≤ 1048576) {s : ByteArray} : (rulesOf x s).length ≤ 100000000 := by
  have := bulk_nrules h
  have := List.length_filter_le (fun r : Rul => r.left.toList == s.toList) x.rules
  unfold rulesOf
  rw [List.length_map]
  omega
/-- The attributes that a rule must define. -/
def dueMode (pos : Nat) : Int := if pos = 0 then 2 else 1
def dueAt (g : Grm) (x : Rul) (pos : Nat) : List Occ := (((findS g.symbols (symAt x pos)).getD Sym.zero).attrs.filter fun a => a.mode == dueMode pos).map fun a => ⟨pos, a.name⟩
def reqO (g : Grm) (x : Rul) : List Occ := (List.range (x.right.length + 1)).flatMap (dueAt g x)
theorem dueAt_len {D : Nat} {g : Grm} (h : bulkGrm D g ≤ 1048576) (x : Rul) (pos : Nat) : (dueAt g x pos).length ≤ 1048576 := by
  have := bulk_attrs (findS_bulk h (symAt x pos))
  have := List.length_filter_le (fun a : Atr => a.mode == dueMode pos) ((findS g.symbols (symAt x pos)).getD Sym.zero).attrs
  unfold dueAt
  rw [List.length_map]
  omega
end Go.Proofs.Ytaihdnlpdibkoaa
