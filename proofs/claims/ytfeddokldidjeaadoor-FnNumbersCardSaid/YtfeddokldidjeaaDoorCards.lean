/-
  DERIVED. GIVEN WITH THE SEED: THE CARDS: each row of YtfeddokldidjeaaDoorRows.lean that lists a variable, with what it lists TIED to the program's text (the seventh form; the later family's looks); each row that meets fmt, with fmt's text TOLD by the authors' own Lean function (tested against real Go, not proved from fmt's source: count such statements apart). THE CARD IS WHAT COUNTS. Prove the row's statement (the work); the ties are given (YtfeddokldidjeaaDoorTie.lean); close each card by the builder's one call (the guide's Derived/Test/ToyasCard.lean, 'card_holds'). Laid BY PROGRAM, IN A SANDBOX (cutbox-door.mjs). By AI agents, Wed Nov 11 2026. No macro, syntax, notation, axiom, sorry.
-/
import Derived.Test.YtfeddokldidjeaaDoorRows
import GoSem.ClaimSeven
namespace Go.Proofs.YtfeddokldidjeaaDoor
namespace Rows

/-- THE TIED CARD OF 'laws.FnExactFormatInt'. -/
def fnExactFormatIntCard : Claim7 := { stood := { row := fnExactFormatIntRow, standIns := [], harness := (true, "d91346e697681c365464e79f1b2e0ec05c6c2c2b2e3455f9ce9dae63aecd9907"), looks := true }, kinds := [], alts := [], laidByText := true, laidKinds := [.data, .data, .data], laidTests := true, laidLooks := .later }
def FnExactFormatIntCardSaid : Prop := Claim7.holds Tryd.pinned (.plain (OpenSpec.ofChange fnExactFormatIntSpec)) fnExactFormatIntCard

/-- THE TIED CARD OF 'laws.FnExactParseInt'. -/
def fnExactParseIntCard : Claim7 := { stood := { row := fnExactParseIntRow, standIns := [], harness := (true, "d91346e697681c365464e79f1b2e0ec05c6c2c2b2e3455f9ce9dae63aecd9907"), looks := true }, kinds := [], alts := [], laidByText := true, laidKinds := [.data, .data, .data, .sentinel, .sentinel], laidTests := true, laidLooks := .later }
def FnExactParseIntCardSaid : Prop := Claim7.holds Tryd.pinned (.plain (OpenSpec.ofChange fnExactParseIntSpec)) fnExactParseIntCard

/-- THE TIED CARD OF 'laws.FnExactParseNumber'. -/
def fnExactParseNumberCard : Claim7 := { stood := { row := fnExactParseNumberRow, standIns := [], harness := (true, "d91346e697681c365464e79f1b2e0ec05c6c2c2b2e3455f9ce9dae63aecd9907"), looks := true }, kinds := [], alts := [], laidByText := true, laidKinds := [.data, .data, .data, .sentinel, .sentinel], laidTests := true, laidLooks := .later }
def FnExactParseNumberCardSaid : Prop := Claim7.holds Tryd.pinned (.plain (OpenSpec.ofChange fnExactParseNumberSpec)) fnExactParseNumberCard

/-- THE TIED CARD OF 'laws.FnExactSplitByte'. -/
def fnExactSplitByteCard : Claim7 := { stood := { row := fnExactSplitByteRow, standIns := [], harness := (true, "d91346e697681c365464e79f1b2e0ec05c6c2c2b2e3455f9ce9dae63aecd9907"), looks := true }, kinds := [], alts := [], laidByText := true, laidKinds := [.data, .pinned], laidTests := true, laidLooks := .later }
def FnExactSplitByteCardSaid : Prop := Claim7.holds Tryd.pinned (.plain (OpenSpec.ofChange fnExactSplitByteSpec)) fnExactSplitByteCard

/-- THE TIED CARD OF 'laws.FnExactFormatTyped'. -/
def fnExactFormatTypedCard : Claim7 := { stood := { row := fnExactFormatTypedRow, standIns := [], harness := (true, "d91346e697681c365464e79f1b2e0ec05c6c2c2b2e3455f9ce9dae63aecd9907"), looks := true }, kinds := [], alts := [], laidByText := true, laidKinds := [.data, .data, .data], laidTests := true, laidLooks := .later }
def FnExactFormatTypedCardSaid : Prop := Claim7.holds Tryd.pinned (.plain (OpenSpec.ofChange fnExactFormatTypedSpec)) fnExactFormatTypedCard

/-- THE TIED CARD OF 'laws.FnNumbers'. -/
def fnNumbersCard : Claim7 := { stood := { row := fnNumbersRow, standIns := [], harness := (true, "d91346e697681c365464e79f1b2e0ec05c6c2c2b2e3455f9ce9dae63aecd9907"), looks := true }, kinds := [], alts := [], laidByText := true, laidKinds := [.data, .data, .data, .sentinel, .sentinel], laidTests := true, laidLooks := .later }
def FnNumbersCardSaid : Prop := Claim7.holds Tryd.pinned (.plain (OpenSpec.ofChange fnNumbersSpec)) fnNumbersCard

/-- THE TIED CARD OF 'laws.FnSplit'. -/
def fnSplitCard : Claim7 := { stood := { row := fnSplitRow, standIns := [], harness := (true, "d91346e697681c365464e79f1b2e0ec05c6c2c2b2e3455f9ce9dae63aecd9907"), looks := true }, kinds := [], alts := [], laidByText := true, laidKinds := [.data, .pinned], laidTests := true, laidLooks := .later }
def FnSplitCardSaid : Prop := Claim7.holds Tryd.pinned (.plain (OpenSpec.ofChange fnSplitSpec)) fnSplitCard

/-- THE SECOND FORM's CARD OF 'laws.FnExactFormatInt'. -/
def fnExactFormatIntUptoCard : Claim7 := { stood := { row := fnExactFormatIntUptoRow, standIns := [], harness := (true, "d91346e697681c365464e79f1b2e0ec05c6c2c2b2e3455f9ce9dae63aecd9907"), looks := true }, kinds := [], alts := [], laidByText := true, laidKinds := [.data, .data, .data], laidTests := true, laidLooks := .later }
def FnExactFormatIntUptoCardSaid : Prop := Claim7.holds Tryd.pinned (.plain (OpenSpec.upto fnExactFormatIntSpec)) fnExactFormatIntUptoCard

/-- THE SECOND FORM's CARD OF 'laws.FnExactParseInt'. -/
def fnExactParseIntUptoCard : Claim7 := { stood := { row := fnExactParseIntUptoRow, standIns := [], harness := (true, "d91346e697681c365464e79f1b2e0ec05c6c2c2b2e3455f9ce9dae63aecd9907"), looks := true }, kinds := [], alts := [], laidByText := true, laidKinds := [.data, .data, .data, .sentinel, .sentinel], laidTests := true, laidLooks := .later }
def FnExactParseIntUptoCardSaid : Prop := Claim7.holds Tryd.pinned (.plain (OpenSpec.upto fnExactParseIntSpec)) fnExactParseIntUptoCard

/-- THE SECOND FORM's CARD OF 'laws.FnExactParseNumber'. -/
def fnExactParseNumberUptoCard : Claim7 := { stood := { row := fnExactParseNumberUptoRow, standIns := [], harness := (true, "d91346e697681c365464e79f1b2e0ec05c6c2c2b2e3455f9ce9dae63aecd9907"), looks := true }, kinds := [], alts := [], laidByText := true, laidKinds := [.data, .data, .data, .sentinel, .sentinel], laidTests := true, laidLooks := .later }
def FnExactParseNumberUptoCardSaid : Prop := Claim7.holds Tryd.pinned (.plain (OpenSpec.upto fnExactParseNumberSpec)) fnExactParseNumberUptoCard

/-- THE SECOND FORM's CARD OF 'laws.FnExactSplitByte'. -/
def fnExactSplitByteUptoCard : Claim7 := { stood := { row := fnExactSplitByteUptoRow, standIns := [], harness := (true, "d91346e697681c365464e79f1b2e0ec05c6c2c2b2e3455f9ce9dae63aecd9907"), looks := true }, kinds := [], alts := [], laidByText := true, laidKinds := [.data, .pinned], laidTests := true, laidLooks := .later }
def FnExactSplitByteUptoCardSaid : Prop := Claim7.holds Tryd.pinned (.plain (OpenSpec.upto fnExactSplitByteSpec)) fnExactSplitByteUptoCard

/-- THE SECOND FORM's CARD OF 'laws.FnExactFormatTyped'. -/
def fnExactFormatTypedUptoCard : Claim7 := { stood := { row := fnExactFormatTypedUptoRow, standIns := [], harness := (true, "d91346e697681c365464e79f1b2e0ec05c6c2c2b2e3455f9ce9dae63aecd9907"), looks := true }, kinds := [], alts := [], laidByText := true, laidKinds := [.data, .data, .data], laidTests := true, laidLooks := .later }
def FnExactFormatTypedUptoCardSaid : Prop := Claim7.holds Tryd.pinned (.plain (OpenSpec.upto fnExactFormatTypedSpec)) fnExactFormatTypedUptoCard

/-- THE SECOND FORM's CARD OF 'laws.FnNumbers'. -/
def fnNumbersUptoCard : Claim7 := { stood := { row := fnNumbersUptoRow, standIns := [], harness := (true, "d91346e697681c365464e79f1b2e0ec05c6c2c2b2e3455f9ce9dae63aecd9907"), looks := true }, kinds := [], alts := [], laidByText := true, laidKinds := [.data, .data, .data, .sentinel, .sentinel], laidTests := true, laidLooks := .later }
def FnNumbersUptoCardSaid : Prop := Claim7.holds Tryd.pinned (.plain (OpenSpec.upto fnNumbersSpec)) fnNumbersUptoCard

/-- THE SECOND FORM's CARD OF 'laws.FnSplit'. -/
def fnSplitUptoCard : Claim7 := { stood := { row := fnSplitUptoRow, standIns := [], harness := (true, "d91346e697681c365464e79f1b2e0ec05c6c2c2b2e3455f9ce9dae63aecd9907"), looks := true }, kinds := [], alts := [], laidByText := true, laidKinds := [.data, .pinned], laidTests := true, laidLooks := .later }
def FnSplitUptoCardSaid : Prop := Claim7.holds Tryd.pinned (.plain (OpenSpec.upto fnSplitSpec)) fnSplitUptoCard
end Rows
end Go.Proofs.YtfeddokldidjeaaDoor
