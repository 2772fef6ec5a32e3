/-
  No cell of these rows narrows 'for every input' (looked for: loops, veiled, ifaces, maps, wideKeys, modest, calm, conditions, laid).
  DERIVED. THE GIVEN ROWS OF THIS SEAT. 9 by the template 'for every input the law returns true; each argument reads behind the call as it read before'; 0 by the template 'total and deterministic' (their statements: YtbijjddkfeficaaTotals.lean).
  GIVEN WITH THE SEED: the statements are not yours to turn. If you find one false, say at which input.
  Laid BY PROGRAM, IN A SANDBOX (cutbox-rows.mjs): the forced cells as the released guide's own fill.sh prints them over the translation 38d1b89906c9e316… (all of the seat's roots in one cut). By AI agents, Wed Nov 11 2026. No macro, syntax, notation, axiom, sorry.
-/
import Derived.Test.YtbijjddkfeficaaChecked
import GoSem.Claim
import GoSem.ClaimJoined
import GoSem.ClaimMapViews
import Derived.JoinedTies
import Derived.KernelRfl
namespace Go.Proofs.Ytbijjddkfeficaa
/- THE CELL 'sum', in the pinned program and in every row, IS THE sha256 OF THE DUMP (.gsa) THAT YtbijjddkfeficaaProg.lean LOADS. Nothing in Lean hashes anything: it is a label: what it is worth is what the hold of that sum in a sandbox is worth. -/
noncomputable def Try.pinned : Pinned := { name := "ytbijjddkfeficaa", sum := "38d1b89906c9e316518102401cf9b4ddfe0856f09b258483bd88ae32192b7e8e", checked := Try.checked }
namespace Rows
def none {H : Type} : Left H := { results := [], args := [] }

/-- 'laws.FnExactConstants': WHATEVER THE INPUT: true; the input reads as it did. -/
def fnExactConstantsSpec : ChangeSpec := { name := "fnExactConstants", fn := fun _ => fun
  | [] => { results := [.lit (.bool true)], args := [] }
  | _ => none }
def fnExactConstantsRow : OpenClaim := { program := "ytbijjddkfeficaa", sum := "38d1b89906c9e316518102401cf9b4ddfe0856f09b258483bd88ae32192b7e8e", func := "loop.example/g00512/laws.FnExactConstants", spec := "fnExactConstants", apart := false }
def FnExactConstantsSaid : Prop := fnExactConstantsRow.holds Try.pinned (OpenSpec.ofChange fnExactConstantsSpec)

/-- ITS FALSE NEIGHBOUR: 'it returns false'. Refute it at one input. -/
def fnExactConstantsWrong : ChangeSpec := { name := "fnExactConstants", fn := fun _ => fun
  | [] => { results := [.lit (.bool false)], args := [] }
  | _ => none }
def FnExactConstantsWrongFalsely : Prop := fnExactConstantsRow.holds Try.pinned (OpenSpec.ofChange fnExactConstantsWrong)

/-- 'laws.FnExactSaturate': WHATEVER THE INPUT: true; the input reads as it did. -/
def fnExactSaturateSpec : ChangeSpec := { name := "fnExactSaturate", fn := fun _ => fun
  | [d] => { results := [.lit (.bool true)], args := [d] }
  | _ => none }
def fnExactSaturateRow : OpenClaim := { program := "ytbijjddkfeficaa", sum := "38d1b89906c9e316518102401cf9b4ddfe0856f09b258483bd88ae32192b7e8e", func := "loop.example/g00512/laws.FnExactSaturate", spec := "fnExactSaturate", apart := false }
def FnExactSaturateSaid : Prop := fnExactSaturateRow.holds Try.pinned (OpenSpec.ofChange fnExactSaturateSpec)

/-- ITS FALSE NEIGHBOUR: 'it returns false'. Refute it at one input. -/
def fnExactSaturateWrong : ChangeSpec := { name := "fnExactSaturate", fn := fun _ => fun
  | [d] => { results := [.lit (.bool false)], args := [d] }
  | _ => none }
def FnExactSaturateWrongFalsely : Prop := fnExactSaturateRow.holds Try.pinned (OpenSpec.ofChange fnExactSaturateWrong)

/-- 'laws.FnExactOperandTypes': WHATEVER THE INPUT: true; the input reads as it did. -/
def fnExactOperandTypesSpec : ChangeSpec := { name := "fnExactOperandTypes", fn := fun _ => fun
  | [d] => { results := [.lit (.bool true)], args := [d] }
  | _ => none }
def fnExactOperandTypesRow : OpenClaim := { program := "ytbijjddkfeficaa", sum := "38d1b89906c9e316518102401cf9b4ddfe0856f09b258483bd88ae32192b7e8e", func := "loop.example/g00512/laws.FnExactOperandTypes", spec := "fnExactOperandTypes", apart := false }
def FnExactOperandTypesSaid : Prop := fnExactOperandTypesRow.holds Try.pinned (OpenSpec.ofChange fnExactOperandTypesSpec)

/-- ITS FALSE NEIGHBOUR: 'it returns false'. Refute it at one input. -/
def fnExactOperandTypesWrong : ChangeSpec := { name := "fnExactOperandTypes", fn := fun _ => fun
  | [d] => { results := [.lit (.bool false)], args := [d] }
  | _ => none }
def FnExactOperandTypesWrongFalsely : Prop := fnExactOperandTypesRow.holds Try.pinned (OpenSpec.ofChange fnExactOperandTypesWrong)

/-- 'laws.FnExactCoerce': WHATEVER THE INPUT: true; the input reads as it did. -/
def fnExactCoerceSpec : ChangeSpec := { name := "fnExactCoerce", fn := fun _ => fun
  | [d1, d2] => { results := [.lit (.bool true)], args := [d1, d2] }
  | _ => none }
def fnExactCoerceRow : OpenClaim := { program := "ytbijjddkfeficaa", sum := "38d1b89906c9e316518102401cf9b4ddfe0856f09b258483bd88ae32192b7e8e", func := "loop.example/g00512/laws.FnExactCoerce", spec := "fnExactCoerce", apart := false }
def FnExactCoerceSaid : Prop := fnExactCoerceRow.holds Try.pinned (OpenSpec.ofChange fnExactCoerceSpec)

/-- ITS FALSE NEIGHBOUR: 'it returns false'. Refute it at one input. -/
def fnExactCoerceWrong : ChangeSpec := { name := "fnExactCoerce", fn := fun _ => fun
  | [d1, d2] => { results := [.lit (.bool false)], args := [d1, d2] }
  | _ => none }
def FnExactCoerceWrongFalsely : Prop := fnExactCoerceRow.holds Try.pinned (OpenSpec.ofChange fnExactCoerceWrong)

/-- 'laws.FnExactIsOfType': WHATEVER THE INPUT: true; the input reads as it did. -/
def fnExactIsOfTypeSpec : ChangeSpec := { name := "fnExactIsOfType", fn := fun _ => fun
  | [d1, d2] => { results := [.lit (.bool true)], args := [d1, d2] }
  | _ => none }
def fnExactIsOfTypeRow : OpenClaim := { program := "ytbijjddkfeficaa", sum := "38d1b89906c9e316518102401cf9b4ddfe0856f09b258483bd88ae32192b7e8e", func := "loop.example/g00512/laws.FnExactIsOfType", spec := "fnExactIsOfType", apart := false }
def FnExactIsOfTypeSaid : Prop := fnExactIsOfTypeRow.holds Try.pinned (OpenSpec.ofChange fnExactIsOfTypeSpec)

/-- ITS FALSE NEIGHBOUR: 'it returns false'. Refute it at one input. -/
def fnExactIsOfTypeWrong : ChangeSpec := { name := "fnExactIsOfType", fn := fun _ => fun
  | [d1, d2] => { results := [.lit (.bool false)], args := [d1, d2] }
  | _ => none }
def FnExactIsOfTypeWrongFalsely : Prop := fnExactIsOfTypeRow.holds Try.pinned (OpenSpec.ofChange fnExactIsOfTypeWrong)

/-- 'laws.FnExactApplyOp': WHATEVER THE INPUT: true; the input reads as it did. -/
def fnExactApplyOpSpec : ChangeSpec := { name := "fnExactApplyOp", fn := fun _ => fun
  | [d1, d2, d3] => { results := [.lit (.bool true)], args := [d1, d2, d3] }
  | _ => none }
def fnExactApplyOpRow : OpenClaim := { program := "ytbijjddkfeficaa", sum := "38d1b89906c9e316518102401cf9b4ddfe0856f09b258483bd88ae32192b7e8e", func := "loop.example/g00512/laws.FnExactApplyOp", spec := "fnExactApplyOp", apart := false }
def FnExactApplyOpSaid : Prop := fnExactApplyOpRow.holds Try.pinned (OpenSpec.ofChange fnExactApplyOpSpec)

/-- ITS FALSE NEIGHBOUR: 'it returns false'. Refute it at one input. -/
def fnExactApplyOpWrong : ChangeSpec := { name := "fnExactApplyOp", fn := fun _ => fun
  | [d1, d2, d3] => { results := [.lit (.bool false)], args := [d1, d2, d3] }
  | _ => none }
def FnExactApplyOpWrongFalsely : Prop := fnExactApplyOpRow.holds Try.pinned (OpenSpec.ofChange fnExactApplyOpWrong)

/-- 'laws.FnCoerced': WHATEVER THE INPUT: true; the input reads as it did. -/
def fnCoercedSpec : ChangeSpec := { name := "fnCoerced", fn := fun _ => fun
  | [d] => { results := [.lit (.bool true)], args := [d] }
  | _ => none }
def fnCoercedRow : OpenClaim := { program := "ytbijjddkfeficaa", sum := "38d1b89906c9e316518102401cf9b4ddfe0856f09b258483bd88ae32192b7e8e", func := "loop.example/g00512/laws.FnCoerced", spec := "fnCoerced", apart := false }
def FnCoercedSaid : Prop := fnCoercedRow.holds Try.pinned (OpenSpec.ofChange fnCoercedSpec)

/-- ITS FALSE NEIGHBOUR: 'it returns false'. Refute it at one input. -/
def fnCoercedWrong : ChangeSpec := { name := "fnCoerced", fn := fun _ => fun
  | [d] => { results := [.lit (.bool false)], args := [d] }
  | _ => none }
def FnCoercedWrongFalsely : Prop := fnCoercedRow.holds Try.pinned (OpenSpec.ofChange fnCoercedWrong)

/-- 'laws.FnOperators': WHATEVER THE INPUT: true; the input reads as it did. -/
def fnOperatorsSpec : ChangeSpec := { name := "fnOperators", fn := fun _ => fun
  | [d] => { results := [.lit (.bool true)], args := [d] }
  | _ => none }
def fnOperatorsRow : OpenClaim := { program := "ytbijjddkfeficaa", sum := "38d1b89906c9e316518102401cf9b4ddfe0856f09b258483bd88ae32192b7e8e", func := "loop.example/g00512/laws.FnOperators", spec := "fnOperators", apart := false }
def FnOperatorsSaid : Prop := fnOperatorsRow.holds Try.pinned (OpenSpec.ofChange fnOperatorsSpec)

/-- ITS FALSE NEIGHBOUR: 'it returns false'. Refute it at one input. -/
def fnOperatorsWrong : ChangeSpec := { name := "fnOperators", fn := fun _ => fun
  | [d] => { results := [.lit (.bool false)], args := [d] }
  | _ => none }
def FnOperatorsWrongFalsely : Prop := fnOperatorsRow.holds Try.pinned (OpenSpec.ofChange fnOperatorsWrong)

/-- 'laws.FnSets': WHATEVER THE INPUT: true; the input reads as it did. -/
def fnSetsSpec : ChangeSpec := { name := "fnSets", fn := fun _ => fun
  | [d] => { results := [.lit (.bool true)], args := [d] }
  | _ => none }
def fnSetsRow : OpenClaim := { program := "ytbijjddkfeficaa", sum := "38d1b89906c9e316518102401cf9b4ddfe0856f09b258483bd88ae32192b7e8e", func := "loop.example/g00512/laws.FnSets", spec := "fnSets", apart := false }
def FnSetsSaid : Prop := fnSetsRow.holds Try.pinned (OpenSpec.ofChange fnSetsSpec)

/-- ITS FALSE NEIGHBOUR: 'it returns false'. Refute it at one input. -/
def fnSetsWrong : ChangeSpec := { name := "fnSets", fn := fun _ => fun
  | [d] => { results := [.lit (.bool false)], args := [d] }
  | _ => none }
def FnSetsWrongFalsely : Prop := fnSetsRow.holds Try.pinned (OpenSpec.ofChange fnSetsWrong)

/- THE SECOND FORM. 'bulk': how many values and letters a reading holds, each counted each time it is reached (what is shared counts as often as it is met; a slice's spare places count too). A statement '..UptoSaid' is the law's where the arguments, and the package variables that the reading takes, are together of bulk at most 1048576: NARROWER than '..Said'. Prove '..Said' where nothing that the law and all that it calls make is longer than what came in: it says more and counts as full. Else prove '..UptoSaid'. A law counts once. -/
mutual
def uptoBulk {H : Type} : DataW H → Nat
  | .lit (.string bytes) => bytes.length + 1
  | .lit _ => 1
  | .nil => 1
  | .ptr d => uptoBulk d + 1
  | .slice elems spare => uptoBulkAll elems + uptoBulkAll spare + 1
  | .agg parts => uptoBulkAll parts + 1
  | .iface _ d => uptoBulk d + 1
  | .map entries => uptoBulkEntries entries + 1
  | .held _ => 1
def uptoBulkAll {H : Type} : List (DataW H) → Nat
  | [] => 0
  | d :: r => uptoBulk d + uptoBulkAll r
def uptoBulkEntries {H : Type} : List (Lit × DataW H) → Nat
  | [] => 0
  | x :: r => uptoBulkEntry x + uptoBulkEntries r
def uptoBulkEntry {H : Type} : Lit × DataW H → Nat
  | (.string bytes, d) => bytes.length + uptoBulk d + 1
  | (_, d) => uptoBulk d + 1
 end
def uptoSmall : (H : Type) → List (DataW H) → Bool := fun _ ds => decide (uptoBulkAll ds ≤ 1048576)
def OpenSpec.upto (s : _root_.Go.ChangeSpec) : _root_.Go.OpenSpec := { _root_.Go.OpenSpec.ofChange s with cond := some uptoSmall }

/-- 'laws.FnExactConstants', WHERE WHAT IT READS IS OF BULK AT MOST 1048576: true; the input reads as it did. -/
def fnExactConstantsUptoRow : OpenClaim := { program := "ytbijjddkfeficaa", sum := "38d1b89906c9e316518102401cf9b4ddfe0856f09b258483bd88ae32192b7e8e", func := "loop.example/g00512/laws.FnExactConstants", spec := "fnExactConstants", apart := false, narrowed := true }
def FnExactConstantsUptoSaid : Prop := fnExactConstantsUptoRow.holds Try.pinned (OpenSpec.upto fnExactConstantsSpec)

/-- 'laws.FnExactSaturate', WHERE WHAT IT READS IS OF BULK AT MOST 1048576: true; the input reads as it did. -/
def fnExactSaturateUptoRow : OpenClaim := { program := "ytbijjddkfeficaa", sum := "38d1b89906c9e316518102401cf9b4ddfe0856f09b258483bd88ae32192b7e8e", func := "loop.example/g00512/laws.FnExactSaturate", spec := "fnExactSaturate", apart := false, narrowed := true }
def FnExactSaturateUptoSaid : Prop := fnExactSaturateUptoRow.holds Try.pinned (OpenSpec.upto fnExactSaturateSpec)

/-- 'laws.FnExactOperandTypes', WHERE WHAT IT READS IS OF BULK AT MOST 1048576: true; the input reads as it did. -/
def fnExactOperandTypesUptoRow : OpenClaim := { program := "ytbijjddkfeficaa", sum := "38d1b89906c9e316518102401cf9b4ddfe0856f09b258483bd88ae32192b7e8e", func := "loop.example/g00512/laws.FnExactOperandTypes", spec := "fnExactOperandTypes", apart := false, narrowed := true }
def FnExactOperandTypesUptoSaid : Prop := fnExactOperandTypesUptoRow.holds Try.pinned (OpenSpec.upto fnExactOperandTypesSpec)

/-- 'laws.FnExactCoerce', WHERE WHAT IT READS IS OF BULK AT MOST 1048576: true; the input reads as it did. -/
def fnExactCoerceUptoRow : OpenClaim := { program := "ytbijjddkfeficaa", sum := "38d1b89906c9e316518102401cf9b4ddfe0856f09b258483bd88ae32192b7e8e", func := "loop.example/g00512/laws.FnExactCoerce", spec := "fnExactCoerce", apart := false, narrowed := true }
def FnExactCoerceUptoSaid : Prop := fnExactCoerceUptoRow.holds Try.pinned (OpenSpec.upto fnExactCoerceSpec)

/-- 'laws.FnExactIsOfType', WHERE WHAT IT READS IS OF BULK AT MOST 1048576: true; the input reads as it did. -/
def fnExactIsOfTypeUptoRow : OpenClaim := { program := "ytbijjddkfeficaa", sum := "38d1b89906c9e316518102401cf9b4ddfe0856f09b258483bd88ae32192b7e8e", func := "loop.example/g00512/laws.FnExactIsOfType", spec := "fnExactIsOfType", apart := false, narrowed := true }
def FnExactIsOfTypeUptoSaid : Prop := fnExactIsOfTypeUptoRow.holds Try.pinned (OpenSpec.upto fnExactIsOfTypeSpec)

/-- 'laws.FnExactApplyOp', WHERE WHAT IT READS IS OF BULK AT MOST 1048576: true; the input reads as it did. -/
def fnExactApplyOpUptoRow : OpenClaim := { program := "ytbijjddkfeficaa", sum := "38d1b89906c9e316518102401cf9b4ddfe0856f09b258483bd88ae32192b7e8e", func := "loop.example/g00512/laws.FnExactApplyOp", spec := "fnExactApplyOp", apart := false, narrowed := true }
def FnExactApplyOpUptoSaid : Prop := fnExactApplyOpUptoRow.holds Try.pinned (OpenSpec.upto fnExactApplyOpSpec)

/-- 'laws.FnCoerced', WHERE WHAT IT READS IS OF BULK AT MOST 1048576: true; the input reads as it did. -/
def fnCoercedUptoRow : OpenClaim := { program := "ytbijjddkfeficaa", sum := "38d1b89906c9e316518102401cf9b4ddfe0856f09b258483bd88ae32192b7e8e", func := "loop.example/g00512/laws.FnCoerced", spec := "fnCoerced", apart := false, narrowed := true }
def FnCoercedUptoSaid : Prop := fnCoercedUptoRow.holds Try.pinned (OpenSpec.upto fnCoercedSpec)

/-- 'laws.FnOperators', WHERE WHAT IT READS IS OF BULK AT MOST 1048576: true; the input reads as it did. -/
def fnOperatorsUptoRow : OpenClaim := { program := "ytbijjddkfeficaa", sum := "38d1b89906c9e316518102401cf9b4ddfe0856f09b258483bd88ae32192b7e8e", func := "loop.example/g00512/laws.FnOperators", spec := "fnOperators", apart := false, narrowed := true }
def FnOperatorsUptoSaid : Prop := fnOperatorsUptoRow.holds Try.pinned (OpenSpec.upto fnOperatorsSpec)

/-- 'laws.FnSets', WHERE WHAT IT READS IS OF BULK AT MOST 1048576: true; the input reads as it did. -/
def fnSetsUptoRow : OpenClaim := { program := "ytbijjddkfeficaa", sum := "38d1b89906c9e316518102401cf9b4ddfe0856f09b258483bd88ae32192b7e8e", func := "loop.example/g00512/laws.FnSets", spec := "fnSets", apart := false, narrowed := true }
def FnSetsUptoSaid : Prop := fnSetsUptoRow.holds Try.pinned (OpenSpec.upto fnSetsSpec)

end Rows
end Go.Proofs.Ytbijjddkfeficaa
