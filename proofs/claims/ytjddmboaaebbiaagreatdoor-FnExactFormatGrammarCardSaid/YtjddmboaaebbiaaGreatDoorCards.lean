/-
  DERIVED. GIVEN WITH THE SEED: THE CARDS: each row of YtjddmboaaebbiaaGreatDoorRows.lean that lists a variable, with what it lists TIED to the program's text (the seventh form; the later family's looks); each row that meets fmt, with fmt's text TOLD by the authors' own Lean function (tested against real Go, not proved from fmt's source: count such statements apart). THE CARD IS WHAT COUNTS. Prove the row's statement (the work); the ties are given (YtjddmboaaebbiaaGreatDoorTie.lean); close each card by the builder's one call (the guide's Derived/Test/ToyasCard.lean, 'card_holds'). Laid BY PROGRAM, IN A SANDBOX (cutbox-door.mjs). By AI agents, Wed Nov 11 2026. No macro, syntax, notation, axiom, sorry.
-/
import Derived.Test.YtjddmboaaebbiaaGreatDoorRows
import GoSem.ClaimSeven
namespace Go.Proofs.YtjddmboaaebbiaaGreatDoor
namespace Rows

/-- THE TIED CARD OF 'laws.FnExactFormatRule'. -/
def fnExactFormatRuleCard : Claim7 := { stood := { row := fnExactFormatRuleRow, standIns := [], harness := (true, "76516ba099224dc574bf2ce54a56aebf6214251692cac6b55763c019b0de660d"), looks := false }, kinds := [], alts := [], laidByText := true, laidKinds := [.data, .data, .data], laidTests := true, laidLooks := .later }
def FnExactFormatRuleCardSaid : Prop := Claim7.holds Tryz.pinned (.plain (OpenSpec.ofChange fnExactFormatRuleSpec)) fnExactFormatRuleCard

/-- THE TIED CARD OF 'laws.FnExactFormatGrammar'. -/
def fnExactFormatGrammarCard : Claim7 := { stood := { row := fnExactFormatGrammarRow, standIns := [], harness := (true, "76516ba099224dc574bf2ce54a56aebf6214251692cac6b55763c019b0de660d"), looks := false }, kinds := [], alts := [], laidByText := true, laidKinds := [.data, .data, .data, .widerDeep, .widerDeep], laidTests := true, laidLooks := .later }
def FnExactFormatGrammarCardSaid : Prop := Claim7.holds Tryz.pinned (.plain (OpenSpec.ofChange fnExactFormatGrammarSpec)) fnExactFormatGrammarCard

/-- THE SECOND FORM's CARD OF 'laws.FnExactFormatRule'. -/
def fnExactFormatRuleUptoCard : Claim7 := { stood := { row := fnExactFormatRuleUptoRow, standIns := [], harness := (true, "76516ba099224dc574bf2ce54a56aebf6214251692cac6b55763c019b0de660d"), looks := false }, kinds := [], alts := [], laidByText := true, laidKinds := [.data, .data, .data], laidTests := true, laidLooks := .later }
def FnExactFormatRuleUptoCardSaid : Prop := Claim7.holds Tryz.pinned (.plain (OpenSpec.upto fnExactFormatRuleSpec)) fnExactFormatRuleUptoCard

/-- THE SECOND FORM's CARD OF 'laws.FnExactFormatGrammar'. -/
def fnExactFormatGrammarUptoCard : Claim7 := { stood := { row := fnExactFormatGrammarUptoRow, standIns := [], harness := (true, "76516ba099224dc574bf2ce54a56aebf6214251692cac6b55763c019b0de660d"), looks := false }, kinds := [], alts := [], laidByText := true, laidKinds := [.data, .data, .data, .widerDeep, .widerDeep], laidTests := true, laidLooks := .later }
def FnExactFormatGrammarUptoCardSaid : Prop := Claim7.holds Tryz.pinned (.plain (OpenSpec.upto fnExactFormatGrammarSpec)) fnExactFormatGrammarUptoCard
end Rows
end Go.Proofs.YtjddmboaaebbiaaGreatDoor
