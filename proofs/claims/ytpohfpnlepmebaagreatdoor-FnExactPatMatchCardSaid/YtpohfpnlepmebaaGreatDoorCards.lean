/-
  DERIVED. GIVEN WITH THE SEED: THE CARDS: each row of YtpohfpnlepmebaaGreatDoorRows.lean that lists a variable, with what it lists TIED to the program's text (the seventh form; the later family's looks); each row that meets fmt, with fmt's text TOLD by the authors' own Lean function (tested against real Go, not proved from fmt's source: count such statements apart). THE CARD IS WHAT COUNTS. Prove the row's statement (the work); the ties are given (YtpohfpnlepmebaaGreatDoorTie.lean); close each card by the builder's one call (the guide's Derived/Test/ToyasCard.lean, 'card_holds'). Laid BY PROGRAM, IN A SANDBOX (cutbox-door.mjs). By AI agents, Wed Nov 11 2026. No macro, syntax, notation, axiom, sorry.
-/
import Derived.Test.YtpohfpnlepmebaaGreatDoorRows
import GoSem.ClaimSeven
namespace Go.Proofs.YtpohfpnlepmebaaGreatDoor
namespace Rows

/-- THE TIED CARD OF 'laws.FnExactPatMatch'. -/
def fnExactPatMatchCard : Claim7 := { stood := { row := fnExactPatMatchRow, standIns := [], harness := (true, "7f764a4e5318dabff0507bcbba2a09dde1b2cd26281b0a919677b5fd1a8d1ff6"), looks := true }, kinds := [], alts := [], laidByText := true, laidKinds := [.data, .data, .data, .sentinel, .sentinel], laidTests := true, laidLooks := .later }
def FnExactPatMatchCardSaid : Prop := Claim7.holds Tryz.pinned (.plain (OpenSpec.ofChange fnExactPatMatchSpec)) fnExactPatMatchCard

/-- THE SECOND FORM's CARD OF 'laws.FnExactPatMatch'. -/
def fnExactPatMatchUptoCard : Claim7 := { stood := { row := fnExactPatMatchUptoRow, standIns := [], harness := (true, "7f764a4e5318dabff0507bcbba2a09dde1b2cd26281b0a919677b5fd1a8d1ff6"), looks := true }, kinds := [], alts := [], laidByText := true, laidKinds := [.data, .data, .data, .sentinel, .sentinel], laidTests := true, laidLooks := .later }
def FnExactPatMatchUptoCardSaid : Prop := Claim7.holds Tryz.pinned (.plain (OpenSpec.upto fnExactPatMatchSpec)) fnExactPatMatchUptoCard
end Rows
end Go.Proofs.YtpohfpnlepmebaaGreatDoor
