/-
  DERIVED. GIVEN WITH THE SEED: THE CARDS: each row of YtijileoflejgpaaDoorRows.lean that lists a variable, with what it lists TIED to the program's text (the seventh form; the later family's looks); each row that meets fmt, with fmt's text TOLD by the authors' own Lean function (tested against real Go, not proved from fmt's source: count such statements apart). THE CARD IS WHAT COUNTS. Prove the row's statement (the work); the ties are given (YtijileoflejgpaaDoorTie.lean); close each card by the builder's one call (the guide's Derived/Test/ToyasCard.lean, 'card_holds'). Laid BY PROGRAM, IN A SANDBOX (cutbox-door.mjs). By AI agents, Wed Nov 11 2026. No macro, syntax, notation, axiom, sorry.
-/
import Derived.Test.YtijileoflejgpaaDoorRows
import GoSem.ClaimSeven
namespace Go.Proofs.YtijileoflejgpaaDoor
namespace Rows

/-- THE TIED CARD OF 'laws.FnExactRecipeOf'. -/
def fnExactRecipeOfCard : Claim7 := { stood := { row := fnExactRecipeOfRow, standIns := [], harness := (true, "e966dee764ca3b945dae56470c211fda48277c443385f5fb7a576f1b8b524811"), looks := false }, kinds := [], alts := [], laidByText := true, laidKinds := [.data, .data, .data], laidTests := true, laidLooks := .later }
def FnExactRecipeOfCardSaid : Prop := Claim7.holds Tryd.pinned (.plain (OpenSpec.ofChange fnExactRecipeOfSpec)) fnExactRecipeOfCard

/-- THE SECOND FORM's CARD OF 'laws.FnExactRecipeOf'. -/
def fnExactRecipeOfUptoCard : Claim7 := { stood := { row := fnExactRecipeOfUptoRow, standIns := [], harness := (true, "e966dee764ca3b945dae56470c211fda48277c443385f5fb7a576f1b8b524811"), looks := false }, kinds := [], alts := [], laidByText := true, laidKinds := [.data, .data, .data], laidTests := true, laidLooks := .later }
def FnExactRecipeOfUptoCardSaid : Prop := Claim7.holds Tryd.pinned (.plain (OpenSpec.upto fnExactRecipeOfSpec)) fnExactRecipeOfUptoCard
end Rows
end Go.Proofs.YtijileoflejgpaaDoor
