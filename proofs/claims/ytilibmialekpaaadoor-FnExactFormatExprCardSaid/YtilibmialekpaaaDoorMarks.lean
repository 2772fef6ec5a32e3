/- Rules and grammars overwritten by marks, and held against them. Conditions: numbers from 1 to 2^40. -/
import Derived.Test.YtilibmialekpaaaDoorMarkQ
import Derived.Test.YtilibmialekpaaaDoorGrm
namespace Go.Proofs.YtilibmialekpaaaDoor
set_option maxRecDepth 100000
open Go.RowKit Go.WideShapes
set_option linter.unusedVariables false

def mk_Rul (D k : Nat) (x : Rul) : Rul := ⟨mkT (k), mkT (k + 1), marks (k + 2) x.right.length, (((k + 2 + (x.right.length) : Nat) : Int) % 3 == 0), mkL (mk_Eqn D) (ct_Eqn D) (k + 3 + (x.right.length)) x.eqs, mkL (mk_Con D) (ct_Con D) (k + 3 + (x.right.length) + (ctL (ct_Eqn D) x.eqs)) x.cons⟩
def ct_Rul (D : Nat) (x : Rul) : Nat := 3 + (x.right.length) + (ctL (ct_Eqn D) x.eqs) + (ctL (ct_Con D) x.cons)
def sk_Rul (D k : Nat) (x : Rul) : Rul := { x with right := marks (k) x.right.length, eqs := mkL (mk_Eqn D) (ct_Eqn D) (k + x.right.length) x.eqs, cons := mkL (mk_Con D) (ct_Con D) (k + x.right.length + ctL (ct_Eqn D) x.eqs) x.cons }
def sc_Rul (D : Nat) (x : Rul) : Nat := x.right.length + ctL (ct_Eqn D) x.eqs + ctL (ct_Con D) x.cons
def sk_Grm (D k : Nat) (x : Grm) : Grm := { x with symbols := mkL (mk_Sym D) (ct_Sym D) (k) x.symbols, rules := mkL (mk_Rul D) (ct_Rul D) (k + ctL (ct_Sym D) x.symbols) x.rules }
def sc_Grm (D : Nat) (x : Grm) : Nat := ctL (ct_Sym D) x.symbols + ctL (ct_Rul D) x.rules
end Go.Proofs.YtilibmialekpaaaDoor
