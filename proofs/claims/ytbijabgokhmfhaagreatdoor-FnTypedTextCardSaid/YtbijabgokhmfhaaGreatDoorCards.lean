/-
  DERIVED. GIVEN WITH THE SEED: THE CARDS: each row of YtbijabgokhmfhaaGreatDoorRows.lean that lists a variable, with what it lists TIED to the program's text (the seventh form; the later family's looks); each row that meets fmt, with fmt's text TOLD by the authors' own Lean function (tested against real Go, not proved from fmt's source: count such statements apart). THE CARD IS WHAT COUNTS. Prove the row's statement (the work); the ties are given (YtbijabgokhmfhaaGreatDoorTie.lean); close each card by the builder's one call (the guide's Derived/Test/ToyasCard.lean, 'card_holds'). Laid BY PROGRAM, IN A SANDBOX (cutbox-door.mjs). By AI agents, Wed Nov 11 2026. No macro, syntax, notation, axiom, sorry.
-/
import Derived.Test.YtbijabgokhmfhaaGreatDoorRows
import GoSem.ClaimSeven
namespace Go.Proofs.YtbijabgokhmfhaaGreatDoor
namespace Rows

/-- THE TIED CARD OF 'laws.FnExactParseTyped'. -/
def fnExactParseTypedCard : Claim7 := { stood := { row := fnExactParseTypedRow, standIns := [], harness := (true, "aa46bc5bcdc3bbd462898308c0f15fb2070bb41c96ee744be73540bdee6a8d08"), looks := true }, kinds := [], alts := [], laidByText := true, laidKinds := [.data, .data, .data, .data, .sentinel, .sentinel, .pinned], laidTests := true, laidLooks := .later }
def FnExactParseTypedCardSaid : Prop := Claim7.holds Tryz.pinned (.plain (OpenSpec.ofChange fnExactParseTypedSpec)) fnExactParseTypedCard

/-- THE TIED CARD OF 'laws.FnTypedText'. -/
def fnTypedTextCard : Claim7 := { stood := { row := fnTypedTextRow, standIns := [], harness := (true, "aa46bc5bcdc3bbd462898308c0f15fb2070bb41c96ee744be73540bdee6a8d08"), looks := true }, kinds := [], alts := [], laidByText := true, laidKinds := [.data, .data, .data, .data, .sentinel, .sentinel, .pinned], laidTests := true, laidLooks := .later }
def FnTypedTextCardSaid : Prop := Claim7.holds Tryz.pinned (.plain (OpenSpec.ofChange fnTypedTextSpec)) fnTypedTextCard

/-- THE SECOND FORM's CARD OF 'laws.FnExactParseTyped'. -/
def fnExactParseTypedUptoCard : Claim7 := { stood := { row := fnExactParseTypedUptoRow, standIns := [], harness := (true, "aa46bc5bcdc3bbd462898308c0f15fb2070bb41c96ee744be73540bdee6a8d08"), looks := true }, kinds := [], alts := [], laidByText := true, laidKinds := [.data, .data, .data, .data, .sentinel, .sentinel, .pinned], laidTests := true, laidLooks := .later }
def FnExactParseTypedUptoCardSaid : Prop := Claim7.holds Tryz.pinned (.plain (OpenSpec.upto fnExactParseTypedSpec)) fnExactParseTypedUptoCard

/-- THE SECOND FORM's CARD OF 'laws.FnTypedText'. -/
def fnTypedTextUptoCard : Claim7 := { stood := { row := fnTypedTextUptoRow, standIns := [], harness := (true, "aa46bc5bcdc3bbd462898308c0f15fb2070bb41c96ee744be73540bdee6a8d08"), looks := true }, kinds := [], alts := [], laidByText := true, laidKinds := [.data, .data, .data, .data, .sentinel, .sentinel, .pinned], laidTests := true, laidLooks := .later }
def FnTypedTextUptoCardSaid : Prop := Claim7.holds Tryz.pinned (.plain (OpenSpec.upto fnTypedTextSpec)) fnTypedTextUptoCard
end Rows
end Go.Proofs.YtbijabgokhmfhaaGreatDoor
