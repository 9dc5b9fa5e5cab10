/-
  DERIVED. GIVEN WITH THE SEED: THE CARDS: each row of YtoegiepfcdkjaaaDoorRows.lean that lists a variable, with what it lists TIED to the program's text (the seventh form; the later family's looks); each row that meets fmt, with fmt's text TOLD by the authors' own Lean function (tested against real Go, not proved from fmt's source: count such statements apart). THE CARD IS WHAT COUNTS. Prove the row's statement (the work); the ties are given (YtoegiepfcdkjaaaDoorTie.lean); close each card by the builder's one call (the guide's Derived/Test/ToyasCard.lean, 'card_holds'). Laid BY PROGRAM, IN A SANDBOX (cutbox-door.mjs). By AI agents, Wed Nov 11 2026. No macro, syntax, notation, axiom, sorry.
-/
import Derived.Test.YtoegiepfcdkjaaaDoorRows
import GoSem.ClaimSeven
namespace Go.Proofs.YtoegiepfcdkjaaaDoor
namespace Rows

/-- THE TIED CARD OF 'laws.FnExactTermParse'. -/
def fnExactTermParseCard : Claim7 := { stood := { row := fnExactTermParseRow, standIns := [], harness := (true, "fe0cb25e23ecfe3da6e3324f18c509d00e53689cc2916d3e2038a95973404c30"), looks := true }, kinds := [], alts := [], laidByText := true, laidKinds := [.data, .data, .data, .sentinel, .sentinel], laidTests := true, laidLooks := .later }
def FnExactTermParseCardSaid : Prop := Claim7.holds Tryd.pinned (.plain (OpenSpec.ofChange fnExactTermParseSpec)) fnExactTermParseCard

/-- THE TIED CARD OF 'laws.FnPrinted'. -/
def fnPrintedCard : Claim7 := { stood := { row := fnPrintedRow, standIns := [], harness := (true, "fe0cb25e23ecfe3da6e3324f18c509d00e53689cc2916d3e2038a95973404c30"), looks := true }, kinds := [], alts := [], laidByText := true, laidKinds := [.data, .data, .data, .sentinel, .sentinel], laidTests := true, laidLooks := .later }
def FnPrintedCardSaid : Prop := Claim7.holds Tryd.pinned (.plain (OpenSpec.ofChange fnPrintedSpec)) fnPrintedCard

/-- THE TIED CARD OF 'laws.FnParsed'. -/
def fnParsedCard : Claim7 := { stood := { row := fnParsedRow, standIns := [], harness := (true, "fe0cb25e23ecfe3da6e3324f18c509d00e53689cc2916d3e2038a95973404c30"), looks := true }, kinds := [], alts := [], laidByText := true, laidKinds := [.data, .data, .data, .sentinel, .sentinel], laidTests := true, laidLooks := .later }
def FnParsedCardSaid : Prop := Claim7.holds Tryd.pinned (.plain (OpenSpec.ofChange fnParsedSpec)) fnParsedCard

/-- THE SECOND FORM's CARD OF 'laws.FnExactTermParse'. -/
def fnExactTermParseUptoCard : Claim7 := { stood := { row := fnExactTermParseUptoRow, standIns := [], harness := (true, "fe0cb25e23ecfe3da6e3324f18c509d00e53689cc2916d3e2038a95973404c30"), looks := true }, kinds := [], alts := [], laidByText := true, laidKinds := [.data, .data, .data, .sentinel, .sentinel], laidTests := true, laidLooks := .later }
def FnExactTermParseUptoCardSaid : Prop := Claim7.holds Tryd.pinned (.plain (OpenSpec.upto fnExactTermParseSpec)) fnExactTermParseUptoCard

/-- THE SECOND FORM's CARD OF 'laws.FnPrinted'. -/
def fnPrintedUptoCard : Claim7 := { stood := { row := fnPrintedUptoRow, standIns := [], harness := (true, "fe0cb25e23ecfe3da6e3324f18c509d00e53689cc2916d3e2038a95973404c30"), looks := true }, kinds := [], alts := [], laidByText := true, laidKinds := [.data, .data, .data, .sentinel, .sentinel], laidTests := true, laidLooks := .later }
def FnPrintedUptoCardSaid : Prop := Claim7.holds Tryd.pinned (.plain (OpenSpec.upto fnPrintedSpec)) fnPrintedUptoCard

/-- THE SECOND FORM's CARD OF 'laws.FnParsed'. -/
def fnParsedUptoCard : Claim7 := { stood := { row := fnParsedUptoRow, standIns := [], harness := (true, "fe0cb25e23ecfe3da6e3324f18c509d00e53689cc2916d3e2038a95973404c30"), looks := true }, kinds := [], alts := [], laidByText := true, laidKinds := [.data, .data, .data, .sentinel, .sentinel], laidTests := true, laidLooks := .later }
def FnParsedUptoCardSaid : Prop := Claim7.holds Tryd.pinned (.plain (OpenSpec.upto fnParsedSpec)) fnParsedUptoCard
end Rows
end Go.Proofs.YtoegiepfcdkjaaaDoor
