/-
  NARROWER THAN 'FOR EVERY INPUT', by the rows' own cells (each row's printed sentence says how): FnExactFindEquation: loops · FnExactIsValidRule: loops · FnExactAttributeUses: loops · FnExactEqualGrammar: loops · FnExactRulesOf: loops · FnExactFindSymbol: loops · FnExactFindRule: loops · FnExactMayUse: loops · FnExactMinHeight: loops · FnExactIsProductive: loops · FnExactRequiredOccurrences: loops.
  DERIVED. THE GIVEN ROWS OF THIS SEAT. 11 by the template 'for every input the law returns true; each argument reads behind the call as it read before'; 0 by the template 'total and deterministic' (their statements: YthifibjkgiggfaaTotals.lean).
  GIVEN WITH THE SEED: the statements are not yours to turn. If you find one false, say at which input.
  Laid BY PROGRAM, IN A SANDBOX (cutbox-rows.mjs): the forced cells as the released guide's own fill.sh prints them over the translation ff57fb7622448307… (all of the seat's roots in one cut). By AI agents, Wed Nov 11 2026. No macro, syntax, notation, axiom, sorry.
-/
import Derived.Test.YthifibjkgiggfaaChecked
import GoSem.Claim
import GoSem.ClaimJoined
import GoSem.ClaimMapViews
import Derived.JoinedTies
import Derived.KernelRfl
namespace Go.Proofs.Ythifibjkgiggfaa
/- THE CELL 'sum', in the pinned program and in every row, IS THE sha256 OF THE DUMP (.gsa) THAT YthifibjkgiggfaaProg.lean LOADS. Nothing in Lean hashes anything: it is a label: what it is worth is what the hold of that sum in a sandbox is worth. -/
noncomputable def Try.pinned : Pinned := { name := "ythifibjkgiggfaa", sum := "ff57fb7622448307f0244479e974a9d28c165f19b39d46a49c08799d61fddc93", checked := Try.checked }
namespace Rows
def none {H : Type} : Left H := { results := [], args := [] }

/-- 'laws.FnExactFindEquation': WHATEVER THE INPUT: true; the input reads as it did. -/
def fnExactFindEquationSpec : ChangeSpec := { name := "fnExactFindEquation", fn := fun _ => fun
  | [d1, d2] => { results := [.lit (.bool true)], args := [d1, d2] }
  | _ => none }
def fnExactFindEquationRow : OpenClaim := { program := "ythifibjkgiggfaa", sum := "ff57fb7622448307f0244479e974a9d28c165f19b39d46a49c08799d61fddc93", func := "loop.example/g00512/laws.FnExactFindEquation", spec := "fnExactFindEquation", recurses := true, loops := true, apart := false }
def FnExactFindEquationSaid : Prop := fnExactFindEquationRow.holds Try.pinned (OpenSpec.ofChange fnExactFindEquationSpec)

/-- ITS FALSE NEIGHBOUR: 'it returns false'. Refute it at one input. -/
def fnExactFindEquationWrong : ChangeSpec := { name := "fnExactFindEquation", fn := fun _ => fun
  | [d1, d2] => { results := [.lit (.bool false)], args := [d1, d2] }
  | _ => none }
def FnExactFindEquationWrongFalsely : Prop := fnExactFindEquationRow.holds Try.pinned (OpenSpec.ofChange fnExactFindEquationWrong)

/-- 'laws.FnExactIsValidRule': WHATEVER THE INPUT: true; the input reads as it did. -/
def fnExactIsValidRuleSpec : ChangeSpec := { name := "fnExactIsValidRule", fn := fun _ => fun
  | [d] => { results := [.lit (.bool true)], args := [d] }
  | _ => none }
def fnExactIsValidRuleRow : OpenClaim := { program := "ythifibjkgiggfaa", sum := "ff57fb7622448307f0244479e974a9d28c165f19b39d46a49c08799d61fddc93", func := "loop.example/g00512/laws.FnExactIsValidRule", spec := "fnExactIsValidRule", unfollowed := true, recurses := true, loops := true, apart := false }
def FnExactIsValidRuleSaid : Prop := fnExactIsValidRuleRow.holds Try.pinned (OpenSpec.ofChange fnExactIsValidRuleSpec)

/-- ITS FALSE NEIGHBOUR: 'it returns false'. Refute it at one input. -/
def fnExactIsValidRuleWrong : ChangeSpec := { name := "fnExactIsValidRule", fn := fun _ => fun
  | [d] => { results := [.lit (.bool false)], args := [d] }
  | _ => none }
def FnExactIsValidRuleWrongFalsely : Prop := fnExactIsValidRuleRow.holds Try.pinned (OpenSpec.ofChange fnExactIsValidRuleWrong)

/-- 'laws.FnExactAttributeUses': WHATEVER THE INPUT: true; the input reads as it did. -/
def fnExactAttributeUsesSpec : ChangeSpec := { name := "fnExactAttributeUses", fn := fun _ => fun
  | [d] => { results := [.lit (.bool true)], args := [d] }
  | _ => none }
def fnExactAttributeUsesRow : OpenClaim := { program := "ythifibjkgiggfaa", sum := "ff57fb7622448307f0244479e974a9d28c165f19b39d46a49c08799d61fddc93", func := "loop.example/g00512/laws.FnExactAttributeUses", spec := "fnExactAttributeUses", unfollowed := true, recurses := true, loops := true, apart := false }
def FnExactAttributeUsesSaid : Prop := fnExactAttributeUsesRow.holds Try.pinned (OpenSpec.ofChange fnExactAttributeUsesSpec)

/-- ITS FALSE NEIGHBOUR: 'it returns false'. Refute it at one input. -/
def fnExactAttributeUsesWrong : ChangeSpec := { name := "fnExactAttributeUses", fn := fun _ => fun
  | [d] => { results := [.lit (.bool false)], args := [d] }
  | _ => none }
def FnExactAttributeUsesWrongFalsely : Prop := fnExactAttributeUsesRow.holds Try.pinned (OpenSpec.ofChange fnExactAttributeUsesWrong)

/-- 'laws.FnExactEqualGrammar': WHATEVER THE INPUT: true; the input reads as it did. -/
def fnExactEqualGrammarSpec : ChangeSpec := { name := "fnExactEqualGrammar", fn := fun _ => fun
  | [d1, d2] => { results := [.lit (.bool true)], args := [d1, d2] }
  | _ => none }
def fnExactEqualGrammarRow : OpenClaim := { program := "ythifibjkgiggfaa", sum := "ff57fb7622448307f0244479e974a9d28c165f19b39d46a49c08799d61fddc93", func := "loop.example/g00512/laws.FnExactEqualGrammar", spec := "fnExactEqualGrammar", unfollowed := true, recurses := true, loops := true, apart := false }
def FnExactEqualGrammarSaid : Prop := fnExactEqualGrammarRow.holds Try.pinned (OpenSpec.ofChange fnExactEqualGrammarSpec)

/-- ITS FALSE NEIGHBOUR: 'it returns false'. Refute it at one input. -/
def fnExactEqualGrammarWrong : ChangeSpec := { name := "fnExactEqualGrammar", fn := fun _ => fun
  | [d1, d2] => { results := [.lit (.bool false)], args := [d1, d2] }
  | _ => none }
def FnExactEqualGrammarWrongFalsely : Prop := fnExactEqualGrammarRow.holds Try.pinned (OpenSpec.ofChange fnExactEqualGrammarWrong)

/-- 'laws.FnExactRulesOf': WHATEVER THE INPUT: true; the input reads as it did. -/
def fnExactRulesOfSpec : ChangeSpec := { name := "fnExactRulesOf", fn := fun _ => fun
  | [d1, d2] => { results := [.lit (.bool true)], args := [d1, d2] }
  | _ => none }
def fnExactRulesOfRow : OpenClaim := { program := "ythifibjkgiggfaa", sum := "ff57fb7622448307f0244479e974a9d28c165f19b39d46a49c08799d61fddc93", func := "loop.example/g00512/laws.FnExactRulesOf", spec := "fnExactRulesOf", recurses := true, loops := true, apart := false }
def FnExactRulesOfSaid : Prop := fnExactRulesOfRow.holds Try.pinned (OpenSpec.ofChange fnExactRulesOfSpec)

/-- ITS FALSE NEIGHBOUR: 'it returns false'. Refute it at one input. -/
def fnExactRulesOfWrong : ChangeSpec := { name := "fnExactRulesOf", fn := fun _ => fun
  | [d1, d2] => { results := [.lit (.bool false)], args := [d1, d2] }
  | _ => none }
def FnExactRulesOfWrongFalsely : Prop := fnExactRulesOfRow.holds Try.pinned (OpenSpec.ofChange fnExactRulesOfWrong)

/-- 'laws.FnExactFindSymbol': WHATEVER THE INPUT: true; the input reads as it did. -/
def fnExactFindSymbolSpec : ChangeSpec := { name := "fnExactFindSymbol", fn := fun _ => fun
  | [d1, d2] => { results := [.lit (.bool true)], args := [d1, d2] }
  | _ => none }
def fnExactFindSymbolRow : OpenClaim := { program := "ythifibjkgiggfaa", sum := "ff57fb7622448307f0244479e974a9d28c165f19b39d46a49c08799d61fddc93", func := "loop.example/g00512/laws.FnExactFindSymbol", spec := "fnExactFindSymbol", recurses := true, loops := true, apart := false }
def FnExactFindSymbolSaid : Prop := fnExactFindSymbolRow.holds Try.pinned (OpenSpec.ofChange fnExactFindSymbolSpec)

/-- ITS FALSE NEIGHBOUR: 'it returns false'. Refute it at one input. -/
def fnExactFindSymbolWrong : ChangeSpec := { name := "fnExactFindSymbol", fn := fun _ => fun
  | [d1, d2] => { results := [.lit (.bool false)], args := [d1, d2] }
  | _ => none }
def FnExactFindSymbolWrongFalsely : Prop := fnExactFindSymbolRow.holds Try.pinned (OpenSpec.ofChange fnExactFindSymbolWrong)

/-- 'laws.FnExactFindRule': WHATEVER THE INPUT: true; the input reads as it did. -/
def fnExactFindRuleSpec : ChangeSpec := { name := "fnExactFindRule", fn := fun _ => fun
  | [d1, d2] => { results := [.lit (.bool true)], args := [d1, d2] }
  | _ => none }
def fnExactFindRuleRow : OpenClaim := { program := "ythifibjkgiggfaa", sum := "ff57fb7622448307f0244479e974a9d28c165f19b39d46a49c08799d61fddc93", func := "loop.example/g00512/laws.FnExactFindRule", spec := "fnExactFindRule", recurses := true, loops := true, apart := false }
def FnExactFindRuleSaid : Prop := fnExactFindRuleRow.holds Try.pinned (OpenSpec.ofChange fnExactFindRuleSpec)

/-- ITS FALSE NEIGHBOUR: 'it returns false'. Refute it at one input. -/
def fnExactFindRuleWrong : ChangeSpec := { name := "fnExactFindRule", fn := fun _ => fun
  | [d1, d2] => { results := [.lit (.bool false)], args := [d1, d2] }
  | _ => none }
def FnExactFindRuleWrongFalsely : Prop := fnExactFindRuleRow.holds Try.pinned (OpenSpec.ofChange fnExactFindRuleWrong)

/-- 'laws.FnExactMayUse': WHATEVER THE INPUT: true; the input reads as it did. -/
def fnExactMayUseSpec : ChangeSpec := { name := "fnExactMayUse", fn := fun _ => fun
  | [d1, d2, d3] => { results := [.lit (.bool true)], args := [d1, d2, d3] }
  | _ => none }
def fnExactMayUseRow : OpenClaim := { program := "ythifibjkgiggfaa", sum := "ff57fb7622448307f0244479e974a9d28c165f19b39d46a49c08799d61fddc93", func := "loop.example/g00512/laws.FnExactMayUse", spec := "fnExactMayUse", recurses := true, loops := true, apart := false }
def FnExactMayUseSaid : Prop := fnExactMayUseRow.holds Try.pinned (OpenSpec.ofChange fnExactMayUseSpec)

/-- ITS FALSE NEIGHBOUR: 'it returns false'. Refute it at one input. -/
def fnExactMayUseWrong : ChangeSpec := { name := "fnExactMayUse", fn := fun _ => fun
  | [d1, d2, d3] => { results := [.lit (.bool false)], args := [d1, d2, d3] }
  | _ => none }
def FnExactMayUseWrongFalsely : Prop := fnExactMayUseRow.holds Try.pinned (OpenSpec.ofChange fnExactMayUseWrong)

/-- 'laws.FnExactMinHeight': WHATEVER THE INPUT: true; the input reads as it did. -/
def fnExactMinHeightSpec : ChangeSpec := { name := "fnExactMinHeight", fn := fun _ => fun
  | [d1, d2] => { results := [.lit (.bool true)], args := [d1, d2] }
  | _ => none }
def fnExactMinHeightRow : OpenClaim := { program := "ythifibjkgiggfaa", sum := "ff57fb7622448307f0244479e974a9d28c165f19b39d46a49c08799d61fddc93", func := "loop.example/g00512/laws.FnExactMinHeight", spec := "fnExactMinHeight", unfollowed := true, recurses := true, loops := true, apart := false }
def FnExactMinHeightSaid : Prop := fnExactMinHeightRow.holds Try.pinned (OpenSpec.ofChange fnExactMinHeightSpec)

/-- ITS FALSE NEIGHBOUR: 'it returns false'. Refute it at one input. -/
def fnExactMinHeightWrong : ChangeSpec := { name := "fnExactMinHeight", fn := fun _ => fun
  | [d1, d2] => { results := [.lit (.bool false)], args := [d1, d2] }
  | _ => none }
def FnExactMinHeightWrongFalsely : Prop := fnExactMinHeightRow.holds Try.pinned (OpenSpec.ofChange fnExactMinHeightWrong)

/-- 'laws.FnExactIsProductive': WHATEVER THE INPUT: true; the input reads as it did. -/
def fnExactIsProductiveSpec : ChangeSpec := { name := "fnExactIsProductive", fn := fun _ => fun
  | [d1, d2] => { results := [.lit (.bool true)], args := [d1, d2] }
  | _ => none }
def fnExactIsProductiveRow : OpenClaim := { program := "ythifibjkgiggfaa", sum := "ff57fb7622448307f0244479e974a9d28c165f19b39d46a49c08799d61fddc93", func := "loop.example/g00512/laws.FnExactIsProductive", spec := "fnExactIsProductive", unfollowed := true, recurses := true, loops := true, apart := false }
def FnExactIsProductiveSaid : Prop := fnExactIsProductiveRow.holds Try.pinned (OpenSpec.ofChange fnExactIsProductiveSpec)

/-- ITS FALSE NEIGHBOUR: 'it returns false'. Refute it at one input. -/
def fnExactIsProductiveWrong : ChangeSpec := { name := "fnExactIsProductive", fn := fun _ => fun
  | [d1, d2] => { results := [.lit (.bool false)], args := [d1, d2] }
  | _ => none }
def FnExactIsProductiveWrongFalsely : Prop := fnExactIsProductiveRow.holds Try.pinned (OpenSpec.ofChange fnExactIsProductiveWrong)

/-- 'laws.FnExactRequiredOccurrences': WHATEVER THE INPUT: true; the input reads as it did. -/
def fnExactRequiredOccurrencesSpec : ChangeSpec := { name := "fnExactRequiredOccurrences", fn := fun _ => fun
  | [d1, d2] => { results := [.lit (.bool true)], args := [d1, d2] }
  | _ => none }
def fnExactRequiredOccurrencesRow : OpenClaim := { program := "ythifibjkgiggfaa", sum := "ff57fb7622448307f0244479e974a9d28c165f19b39d46a49c08799d61fddc93", func := "loop.example/g00512/laws.FnExactRequiredOccurrences", spec := "fnExactRequiredOccurrences", recurses := true, loops := true, apart := false }
def FnExactRequiredOccurrencesSaid : Prop := fnExactRequiredOccurrencesRow.holds Try.pinned (OpenSpec.ofChange fnExactRequiredOccurrencesSpec)

/-- ITS FALSE NEIGHBOUR: 'it returns false'. Refute it at one input. -/
def fnExactRequiredOccurrencesWrong : ChangeSpec := { name := "fnExactRequiredOccurrences", fn := fun _ => fun
  | [d1, d2] => { results := [.lit (.bool false)], args := [d1, d2] }
  | _ => none }
def FnExactRequiredOccurrencesWrongFalsely : Prop := fnExactRequiredOccurrencesRow.holds Try.pinned (OpenSpec.ofChange fnExactRequiredOccurrencesWrong)

/- THE SECOND FORM. 'bulk': how many values and letters a reading holds, each counted each time it is reached (what is shared counts as often as it is met; a slice's spare places count too). A statement '..UptoSaid' is the law's where the arguments, and the package variables that the reading takes, are together of bulk at most 1048576: NARROWER than '..Said'. Prove '..Said' where nothing that the law and all that it calls make is longer than what came in: it says more and counts as full. Else prove '..UptoSaid'. A law counts once. -/
mutual
def uptoBulk {H : Type} : DataW H → Nat
  | .lit (.string bytes) => bytes.length + 1
  | .lit _ => 1
  | .nil => 1
  | .ptr d => uptoBulk d + 1
  | .slice elems spare => uptoBulkAll elems + uptoBulkAll spare + 1
  | .agg parts => uptoBulkAll parts + 1
  | .iface _ d => uptoBulk d + 1
  | .map entries => uptoBulkEntries entries + 1
  | .held _ => 1
def uptoBulkAll {H : Type} : List (DataW H) → Nat
  | [] => 0
  | d :: r => uptoBulk d + uptoBulkAll r
def uptoBulkEntries {H : Type} : List (Lit × DataW H) → Nat
  | [] => 0
  | x :: r => uptoBulkEntry x + uptoBulkEntries r
def uptoBulkEntry {H : Type} : Lit × DataW H → Nat
  | (.string bytes, d) => bytes.length + uptoBulk d + 1
  | (_, d) => uptoBulk d + 1
 end
def uptoSmall : (H : Type) → List (DataW H) → Bool := fun _ ds => decide (uptoBulkAll ds ≤ 1048576)
def OpenSpec.upto (s : _root_.Go.ChangeSpec) : _root_.Go.OpenSpec := { _root_.Go.OpenSpec.ofChange s with cond := some uptoSmall }

/-- 'laws.FnExactFindEquation', WHERE WHAT IT READS IS OF BULK AT MOST 1048576: true; the input reads as it did. -/
def fnExactFindEquationUptoRow : OpenClaim := { program := "ythifibjkgiggfaa", sum := "ff57fb7622448307f0244479e974a9d28c165f19b39d46a49c08799d61fddc93", func := "loop.example/g00512/laws.FnExactFindEquation", spec := "fnExactFindEquation", recurses := true, loops := true, apart := false, narrowed := true }
def FnExactFindEquationUptoSaid : Prop := fnExactFindEquationUptoRow.holds Try.pinned (OpenSpec.upto fnExactFindEquationSpec)

/-- 'laws.FnExactIsValidRule', WHERE WHAT IT READS IS OF BULK AT MOST 1048576: true; the input reads as it did. -/
def fnExactIsValidRuleUptoRow : OpenClaim := { program := "ythifibjkgiggfaa", sum := "ff57fb7622448307f0244479e974a9d28c165f19b39d46a49c08799d61fddc93", func := "loop.example/g00512/laws.FnExactIsValidRule", spec := "fnExactIsValidRule", unfollowed := true, recurses := true, loops := true, apart := false, narrowed := true }
def FnExactIsValidRuleUptoSaid : Prop := fnExactIsValidRuleUptoRow.holds Try.pinned (OpenSpec.upto fnExactIsValidRuleSpec)

/-- 'laws.FnExactAttributeUses', WHERE WHAT IT READS IS OF BULK AT MOST 1048576: true; the input reads as it did. -/
def fnExactAttributeUsesUptoRow : OpenClaim := { program := "ythifibjkgiggfaa", sum := "ff57fb7622448307f0244479e974a9d28c165f19b39d46a49c08799d61fddc93", func := "loop.example/g00512/laws.FnExactAttributeUses", spec := "fnExactAttributeUses", unfollowed := true, recurses := true, loops := true, apart := false, narrowed := true }
def FnExactAttributeUsesUptoSaid : Prop := fnExactAttributeUsesUptoRow.holds Try.pinned (OpenSpec.upto fnExactAttributeUsesSpec)

/-- 'laws.FnExactEqualGrammar', WHERE WHAT IT READS IS OF BULK AT MOST 1048576: true; the input reads as it did. -/
def fnExactEqualGrammarUptoRow : OpenClaim := { program := "ythifibjkgiggfaa", sum := "ff57fb7622448307f0244479e974a9d28c165f19b39d46a49c08799d61fddc93", func := "loop.example/g00512/laws.FnExactEqualGrammar", spec := "fnExactEqualGrammar", unfollowed := true, recurses := true, loops := true, apart := false, narrowed := true }
def FnExactEqualGrammarUptoSaid : Prop := fnExactEqualGrammarUptoRow.holds Try.pinned (OpenSpec.upto fnExactEqualGrammarSpec)

/-- 'laws.FnExactRulesOf', WHERE WHAT IT READS IS OF BULK AT MOST 1048576: true; the input reads as it did. -/
def fnExactRulesOfUptoRow : OpenClaim := { program := "ythifibjkgiggfaa", sum := "ff57fb7622448307f0244479e974a9d28c165f19b39d46a49c08799d61fddc93", func := "loop.example/g00512/laws.FnExactRulesOf", spec := "fnExactRulesOf", recurses := true, loops := true, apart := false, narrowed := true }
def FnExactRulesOfUptoSaid : Prop := fnExactRulesOfUptoRow.holds Try.pinned (OpenSpec.upto fnExactRulesOfSpec)

/-- 'laws.FnExactFindSymbol', WHERE WHAT IT READS IS OF BULK AT MOST 1048576: true; the input reads as it did. -/
def fnExactFindSymbolUptoRow : OpenClaim := { program := "ythifibjkgiggfaa", sum := "ff57fb7622448307f0244479e974a9d28c165f19b39d46a49c08799d61fddc93", func := "loop.example/g00512/laws.FnExactFindSymbol", spec := "fnExactFindSymbol", recurses := true, loops := true, apart := false, narrowed := true }
def FnExactFindSymbolUptoSaid : Prop := fnExactFindSymbolUptoRow.holds Try.pinned (OpenSpec.upto fnExactFindSymbolSpec)

/-- 'laws.FnExactFindRule', WHERE WHAT IT READS IS OF BULK AT MOST 1048576: true; the input reads as it did. -/
def fnExactFindRuleUptoRow : OpenClaim := { program := "ythifibjkgiggfaa", sum := "ff57fb7622448307f0244479e974a9d28c165f19b39d46a49c08799d61fddc93", func := "loop.example/g00512/laws.FnExactFindRule", spec := "fnExactFindRule", recurses := true, loops := true, apart := false, narrowed := true }
def FnExactFindRuleUptoSaid : Prop := fnExactFindRuleUptoRow.holds Try.pinned (OpenSpec.upto fnExactFindRuleSpec)

/-- 'laws.FnExactMayUse', WHERE WHAT IT READS IS OF BULK AT MOST 1048576: true; the input reads as it did. -/
def fnExactMayUseUptoRow : OpenClaim := { program := "ythifibjkgiggfaa", sum := "ff57fb7622448307f0244479e974a9d28c165f19b39d46a49c08799d61fddc93", func := "loop.example/g00512/laws.FnExactMayUse", spec := "fnExactMayUse", recurses := true, loops := true, apart := false, narrowed := true }
def FnExactMayUseUptoSaid : Prop := fnExactMayUseUptoRow.holds Try.pinned (OpenSpec.upto fnExactMayUseSpec)

/-- 'laws.FnExactMinHeight', WHERE WHAT IT READS IS OF BULK AT MOST 1048576: true; the input reads as it did. -/
def fnExactMinHeightUptoRow : OpenClaim := { program := "ythifibjkgiggfaa", sum := "ff57fb7622448307f0244479e974a9d28c165f19b39d46a49c08799d61fddc93", func := "loop.example/g00512/laws.FnExactMinHeight", spec := "fnExactMinHeight", unfollowed := true, recurses := true, loops := true, apart := false, narrowed := true }
def FnExactMinHeightUptoSaid : Prop := fnExactMinHeightUptoRow.holds Try.pinned (OpenSpec.upto fnExactMinHeightSpec)

/-- 'laws.FnExactIsProductive', WHERE WHAT IT READS IS OF BULK AT MOST 1048576: true; the input reads as it did. -/
def fnExactIsProductiveUptoRow : OpenClaim := { program := "ythifibjkgiggfaa", sum := "ff57fb7622448307f0244479e974a9d28c165f19b39d46a49c08799d61fddc93", func := "loop.example/g00512/laws.FnExactIsProductive", spec := "fnExactIsProductive", unfollowed := true, recurses := true, loops := true, apart := false, narrowed := true }
def FnExactIsProductiveUptoSaid : Prop := fnExactIsProductiveUptoRow.holds Try.pinned (OpenSpec.upto fnExactIsProductiveSpec)

/-- 'laws.FnExactRequiredOccurrences', WHERE WHAT IT READS IS OF BULK AT MOST 1048576: true; the input reads as it did. -/
def fnExactRequiredOccurrencesUptoRow : OpenClaim := { program := "ythifibjkgiggfaa", sum := "ff57fb7622448307f0244479e974a9d28c165f19b39d46a49c08799d61fddc93", func := "loop.example/g00512/laws.FnExactRequiredOccurrences", spec := "fnExactRequiredOccurrences", recurses := true, loops := true, apart := false, narrowed := true }
def FnExactRequiredOccurrencesUptoSaid : Prop := fnExactRequiredOccurrencesUptoRow.holds Try.pinned (OpenSpec.upto fnExactRequiredOccurrencesSpec)

end Rows
end Go.Proofs.Ythifibjkgiggfaa
