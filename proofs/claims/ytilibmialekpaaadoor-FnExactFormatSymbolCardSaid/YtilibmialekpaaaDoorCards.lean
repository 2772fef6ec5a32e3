/-
  DERIVED. GIVEN WITH THE SEED: THE CARDS: each row of YtilibmialekpaaaDoorRows.lean that lists a variable, with what it lists TIED to the program's text (the seventh form; the later family's looks); each row that meets fmt, with fmt's text TOLD by the authors' own Lean function (tested against real Go, not proved from fmt's source: count such statements apart). THE CARD IS WHAT COUNTS. Prove the row's statement (the work); the ties are given (YtilibmialekpaaaDoorTie.lean); close each card by the builder's one call (the guide's Derived/Test/ToyasCard.lean, 'card_holds'). Laid BY PROGRAM, IN A SANDBOX (cutbox-door.mjs). By AI agents, Wed Nov 11 2026. No macro, syntax, notation, axiom, sorry.
-/
import Derived.Test.YtilibmialekpaaaDoorRows
import GoSem.ClaimSeven
namespace Go.Proofs.YtilibmialekpaaaDoor
namespace Rows

/-- THE TIED CARD OF 'laws.FnExactFormatSymbol'. -/
def fnExactFormatSymbolCard : Claim7 := { stood := { row := fnExactFormatSymbolRow, standIns := [], harness := (true, "bdf918a1d7c683ce6f5ba06d59302ea52027dabb11903bf30625ae58bf8d2de1"), looks := true }, kinds := [], alts := [], laidByText := true, laidKinds := [.widerDeep, .widerDeep], laidTests := true, laidLooks := .later }
def FnExactFormatSymbolCardSaid : Prop := Claim7.holds Tryd.pinned (.plain (OpenSpec.ofChange fnExactFormatSymbolSpec)) fnExactFormatSymbolCard

/-- THE TIED CARD OF 'laws.FnExactParseSymbol'. -/
def fnExactParseSymbolCard : Claim7 := { stood := { row := fnExactParseSymbolRow, standIns := [], harness := (true, "bdf918a1d7c683ce6f5ba06d59302ea52027dabb11903bf30625ae58bf8d2de1"), looks := true }, kinds := [], alts := [], laidByText := true, laidKinds := [.data, .widerDeep, .widerDeep, .pinned], laidTests := true, laidLooks := .later }
def FnExactParseSymbolCardSaid : Prop := Claim7.holds Tryd.pinned (.plain (OpenSpec.ofChange fnExactParseSymbolSpec)) fnExactParseSymbolCard

/-- THE TIED CARD OF 'laws.FnSymbols'. -/
def fnSymbolsCard : Claim7 := { stood := { row := fnSymbolsRow, standIns := [], harness := (true, "bdf918a1d7c683ce6f5ba06d59302ea52027dabb11903bf30625ae58bf8d2de1"), looks := true }, kinds := [], alts := [], laidByText := true, laidKinds := [.data, .widerDeep, .widerDeep, .pinned], laidTests := true, laidLooks := .later }
def FnSymbolsCardSaid : Prop := Claim7.holds Tryd.pinned (.plain (OpenSpec.ofChange fnSymbolsSpec)) fnSymbolsCard

/-- THE TIED CARD OF 'laws.FnExactFormatTokens'. -/
def fnExactFormatTokensCard : Claim7 := { stood := { row := fnExactFormatTokensRow, standIns := [], harness := (true, "bdf918a1d7c683ce6f5ba06d59302ea52027dabb11903bf30625ae58bf8d2de1"), looks := true }, kinds := [], alts := [], laidByText := true, laidKinds := [.data, .data, .data], laidTests := true, laidLooks := .later }
def FnExactFormatTokensCardSaid : Prop := Claim7.holds Tryd.pinned (.plain (OpenSpec.ofChange fnExactFormatTokensSpec)) fnExactFormatTokensCard

/-- THE TIED CARD OF 'laws.FnExactTokenize'. -/
def fnExactTokenizeCard : Claim7 := { stood := { row := fnExactTokenizeRow, standIns := [], harness := (true, "bdf918a1d7c683ce6f5ba06d59302ea52027dabb11903bf30625ae58bf8d2de1"), looks := true }, kinds := [], alts := [], laidByText := true, laidKinds := [.data, .data, .data, .sentinel, .sentinel], laidTests := true, laidLooks := .later }
def FnExactTokenizeCardSaid : Prop := Claim7.holds Tryd.pinned (.plain (OpenSpec.ofChange fnExactTokenizeSpec)) fnExactTokenizeCard

/-- THE TIED CARD OF 'laws.FnTokens'. -/
def fnTokensCard : Claim7 := { stood := { row := fnTokensRow, standIns := [], harness := (true, "bdf918a1d7c683ce6f5ba06d59302ea52027dabb11903bf30625ae58bf8d2de1"), looks := true }, kinds := [], alts := [], laidByText := true, laidKinds := [.data, .data, .data, .sentinel, .sentinel], laidTests := true, laidLooks := .later }
def FnTokensCardSaid : Prop := Claim7.holds Tryd.pinned (.plain (OpenSpec.ofChange fnTokensSpec)) fnTokensCard

/-- THE TIED CARD OF 'laws.FnExactFormatExpr'. -/
def fnExactFormatExprCard : Claim7 := { stood := { row := fnExactFormatExprRow, standIns := [], harness := (true, "bdf918a1d7c683ce6f5ba06d59302ea52027dabb11903bf30625ae58bf8d2de1"), looks := true }, kinds := [], alts := [], laidByText := true, laidKinds := [.data, .data, .data], laidTests := true, laidLooks := .later }
def FnExactFormatExprCardSaid : Prop := Claim7.holds Tryd.pinned (.plain (OpenSpec.ofChange fnExactFormatExprSpec)) fnExactFormatExprCard

/-- THE SECOND FORM's CARD OF 'laws.FnExactFormatSymbol'. -/
def fnExactFormatSymbolUptoCard : Claim7 := { stood := { row := fnExactFormatSymbolUptoRow, standIns := [], harness := (true, "bdf918a1d7c683ce6f5ba06d59302ea52027dabb11903bf30625ae58bf8d2de1"), looks := true }, kinds := [], alts := [], laidByText := true, laidKinds := [.widerDeep, .widerDeep], laidTests := true, laidLooks := .later }
def FnExactFormatSymbolUptoCardSaid : Prop := Claim7.holds Tryd.pinned (.plain (OpenSpec.upto fnExactFormatSymbolSpec)) fnExactFormatSymbolUptoCard

/-- THE SECOND FORM's CARD OF 'laws.FnExactParseSymbol'. -/
def fnExactParseSymbolUptoCard : Claim7 := { stood := { row := fnExactParseSymbolUptoRow, standIns := [], harness := (true, "bdf918a1d7c683ce6f5ba06d59302ea52027dabb11903bf30625ae58bf8d2de1"), looks := true }, kinds := [], alts := [], laidByText := true, laidKinds := [.data, .widerDeep, .widerDeep, .pinned], laidTests := true, laidLooks := .later }
def FnExactParseSymbolUptoCardSaid : Prop := Claim7.holds Tryd.pinned (.plain (OpenSpec.upto fnExactParseSymbolSpec)) fnExactParseSymbolUptoCard

/-- THE SECOND FORM's CARD OF 'laws.FnSymbols'. -/
def fnSymbolsUptoCard : Claim7 := { stood := { row := fnSymbolsUptoRow, standIns := [], harness := (true, "bdf918a1d7c683ce6f5ba06d59302ea52027dabb11903bf30625ae58bf8d2de1"), looks := true }, kinds := [], alts := [], laidByText := true, laidKinds := [.data, .widerDeep, .widerDeep, .pinned], laidTests := true, laidLooks := .later }
def FnSymbolsUptoCardSaid : Prop := Claim7.holds Tryd.pinned (.plain (OpenSpec.upto fnSymbolsSpec)) fnSymbolsUptoCard

/-- THE SECOND FORM's CARD OF 'laws.FnExactFormatTokens'. -/
def fnExactFormatTokensUptoCard : Claim7 := { stood := { row := fnExactFormatTokensUptoRow, standIns := [], harness := (true, "bdf918a1d7c683ce6f5ba06d59302ea52027dabb11903bf30625ae58bf8d2de1"), looks := true }, kinds := [], alts := [], laidByText := true, laidKinds := [.data, .data, .data], laidTests := true, laidLooks := .later }
def FnExactFormatTokensUptoCardSaid : Prop := Claim7.holds Tryd.pinned (.plain (OpenSpec.upto fnExactFormatTokensSpec)) fnExactFormatTokensUptoCard

/-- THE SECOND FORM's CARD OF 'laws.FnExactTokenize'. -/
def fnExactTokenizeUptoCard : Claim7 := { stood := { row := fnExactTokenizeUptoRow, standIns := [], harness := (true, "bdf918a1d7c683ce6f5ba06d59302ea52027dabb11903bf30625ae58bf8d2de1"), looks := true }, kinds := [], alts := [], laidByText := true, laidKinds := [.data, .data, .data, .sentinel, .sentinel], laidTests := true, laidLooks := .later }
def FnExactTokenizeUptoCardSaid : Prop := Claim7.holds Tryd.pinned (.plain (OpenSpec.upto fnExactTokenizeSpec)) fnExactTokenizeUptoCard

/-- THE SECOND FORM's CARD OF 'laws.FnTokens'. -/
def fnTokensUptoCard : Claim7 := { stood := { row := fnTokensUptoRow, standIns := [], harness := (true, "bdf918a1d7c683ce6f5ba06d59302ea52027dabb11903bf30625ae58bf8d2de1"), looks := true }, kinds := [], alts := [], laidByText := true, laidKinds := [.data, .data, .data, .sentinel, .sentinel], laidTests := true, laidLooks := .later }
def FnTokensUptoCardSaid : Prop := Claim7.holds Tryd.pinned (.plain (OpenSpec.upto fnTokensSpec)) fnTokensUptoCard

/-- THE SECOND FORM's CARD OF 'laws.FnExactFormatExpr'. -/
def fnExactFormatExprUptoCard : Claim7 := { stood := { row := fnExactFormatExprUptoRow, standIns := [], harness := (true, "bdf918a1d7c683ce6f5ba06d59302ea52027dabb11903bf30625ae58bf8d2de1"), looks := true }, kinds := [], alts := [], laidByText := true, laidKinds := [.data, .data, .data], laidTests := true, laidLooks := .later }
def FnExactFormatExprUptoCardSaid : Prop := Claim7.holds Tryd.pinned (.plain (OpenSpec.upto fnExactFormatExprSpec)) fnExactFormatExprUptoCard
end Rows
end Go.Proofs.YtilibmialekpaaaDoor
