/-
  DERIVED. GIVEN WITH THE SEED: THE CARDS: each row of YtealijdcolmchaaGreatDoorRows.lean that lists a variable, with what it lists TIED to the program's text (the seventh form; the later family's looks); each row that meets fmt, with fmt's text TOLD by the authors' own Lean function (tested against real Go, not proved from fmt's source: count such statements apart). THE CARD IS WHAT COUNTS. Prove the row's statement (the work); the ties are given (YtealijdcolmchaaGreatDoorTie.lean); close each card by the builder's one call (the guide's Derived/Test/ToyasCard.lean, 'card_holds'). Laid BY PROGRAM, IN A SANDBOX (cutbox-door.mjs). By AI agents, Wed Nov 11 2026. No macro, syntax, notation, axiom, sorry.
-/
import Derived.Test.YtealijdcolmchaaGreatDoorRows
import GoSem.ClaimSeven
namespace Go.Proofs.YtealijdcolmchaaGreatDoor
namespace Rows

/-- THE TIED CARD OF 'laws.FnExactRecipeRun'. -/
def fnExactRecipeRunCard : Claim7 := { stood := { row := fnExactRecipeRunRow, standIns := [], harness := (true, "2a084199abd1843317ccde8e1f6d643ebbe09bc13e04f75895a97dee98a39d5b"), looks := true }, kinds := [], alts := [], laidByText := true, laidKinds := [.data, .data, .data, .sentinel, .sentinel], laidTests := true, laidLooks := .later }
def FnExactRecipeRunCardSaid : Prop := Claim7.holds Tryz.pinned (.plain (OpenSpec.ofChange fnExactRecipeRunSpec)) fnExactRecipeRunCard

/-- THE SECOND FORM's CARD OF 'laws.FnExactRecipeRun'. -/
def fnExactRecipeRunUptoCard : Claim7 := { stood := { row := fnExactRecipeRunUptoRow, standIns := [], harness := (true, "2a084199abd1843317ccde8e1f6d643ebbe09bc13e04f75895a97dee98a39d5b"), looks := true }, kinds := [], alts := [], laidByText := true, laidKinds := [.data, .data, .data, .sentinel, .sentinel], laidTests := true, laidLooks := .later }
def FnExactRecipeRunUptoCardSaid : Prop := Claim7.holds Tryz.pinned (.plain (OpenSpec.upto fnExactRecipeRunSpec)) fnExactRecipeRunUptoCard
end Rows
end Go.Proofs.YtealijdcolmchaaGreatDoor
