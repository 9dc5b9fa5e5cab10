/-
  DERIVED. GIVEN WITH THE SEED: THE CARDS: each row of YtmlfacjgfjmdeaaDoorRows.lean that lists a variable, with what it lists TIED to the program's text (the seventh form; the later family's looks); each row that meets fmt, with fmt's text TOLD by the authors' own Lean function (tested against real Go, not proved from fmt's source: count such statements apart). THE CARD IS WHAT COUNTS. Prove the row's statement (the work); the ties are given (YtmlfacjgfjmdeaaDoorTie.lean); close each card by the builder's one call (the guide's Derived/Test/ToyasCard.lean, 'card_holds'). Laid BY PROGRAM, IN A SANDBOX (cutbox-door.mjs). By AI agents, Wed Nov 11 2026. No macro, syntax, notation, axiom, sorry.
-/
import Derived.Test.YtmlfacjgfjmdeaaDoorRows
import GoSem.ClaimSeven
namespace Go.Proofs.YtmlfacjgfjmdeaaDoor
namespace Rows

/-- THE TIED CARD OF 'laws.FnExactPatOk'. -/
def fnExactPatOkCard : Claim7 := { stood := { row := fnExactPatOkRow, standIns := [], harness := (true, "c46a29e47f1b923bbd504f0aad97ad95103fe525f249dd53f90f367aaf3c1a79"), looks := true }, kinds := [], alts := [], laidByText := true, laidKinds := [.data, .data, .data, .sentinel, .sentinel], laidTests := true, laidLooks := .later }
def FnExactPatOkCardSaid : Prop := Claim7.holds Tryd.pinned (.plain (OpenSpec.ofChange fnExactPatOkSpec)) fnExactPatOkCard

/-- THE TIED CARD OF 'laws.FnExactPatLetters'. -/
def fnExactPatLettersCard : Claim7 := { stood := { row := fnExactPatLettersRow, standIns := [], harness := (true, "c46a29e47f1b923bbd504f0aad97ad95103fe525f249dd53f90f367aaf3c1a79"), looks := true }, kinds := [], alts := [], laidByText := true, laidKinds := [.data, .data, .data, .sentinel, .sentinel], laidTests := true, laidLooks := .later }
def FnExactPatLettersCardSaid : Prop := Claim7.holds Tryd.pinned (.plain (OpenSpec.ofChange fnExactPatLettersSpec)) fnExactPatLettersCard

/-- THE TIED CARD OF 'laws.FnExactActOk'. -/
def fnExactActOkCard : Claim7 := { stood := { row := fnExactActOkRow, standIns := [], harness := (true, "c46a29e47f1b923bbd504f0aad97ad95103fe525f249dd53f90f367aaf3c1a79"), looks := true }, kinds := [], alts := [], laidByText := true, laidKinds := [.data, .data, .data, .sentinel, .sentinel], laidTests := true, laidLooks := .later }
def FnExactActOkCardSaid : Prop := Claim7.holds Tryd.pinned (.plain (OpenSpec.ofChange fnExactActOkSpec)) fnExactActOkCard

/-- THE TIED CARD OF 'laws.FnExactRoleOk'. -/
def fnExactRoleOkCard : Claim7 := { stood := { row := fnExactRoleOkRow, standIns := [], harness := (true, "c46a29e47f1b923bbd504f0aad97ad95103fe525f249dd53f90f367aaf3c1a79"), looks := true }, kinds := [], alts := [], laidByText := true, laidKinds := [.data, .data, .data, .sentinel, .sentinel], laidTests := true, laidLooks := .later }
def FnExactRoleOkCardSaid : Prop := Claim7.holds Tryd.pinned (.plain (OpenSpec.ofChange fnExactRoleOkSpec)) fnExactRoleOkCard

/-- THE TIED CARD OF 'laws.FnExactRolePrint'. -/
def fnExactRolePrintCard : Claim7 := { stood := { row := fnExactRolePrintRow, standIns := [], harness := (true, "c46a29e47f1b923bbd504f0aad97ad95103fe525f249dd53f90f367aaf3c1a79"), looks := true }, kinds := [], alts := [], laidByText := true, laidKinds := [.data, .data, .data, .sentinel, .sentinel], laidTests := true, laidLooks := .later }
def FnExactRolePrintCardSaid : Prop := Claim7.holds Tryd.pinned (.plain (OpenSpec.ofChange fnExactRolePrintSpec)) fnExactRolePrintCard

/-- THE TIED CARD OF 'laws.FnActs'. -/
def fnActsCard : Claim7 := { stood := { row := fnActsRow, standIns := [], harness := (true, "c46a29e47f1b923bbd504f0aad97ad95103fe525f249dd53f90f367aaf3c1a79"), looks := true }, kinds := [], alts := [], laidByText := true, laidKinds := [.data, .data, .data, .sentinel, .sentinel], laidTests := true, laidLooks := .later }
def FnActsCardSaid : Prop := Claim7.holds Tryd.pinned (.plain (OpenSpec.ofChange fnActsSpec)) fnActsCard

/-- THE TIED CARD OF 'laws.FnExactRoleParse'. -/
def fnExactRoleParseCard : Claim7 := { stood := { row := fnExactRoleParseRow, standIns := [], harness := (true, "c46a29e47f1b923bbd504f0aad97ad95103fe525f249dd53f90f367aaf3c1a79"), looks := true }, kinds := [], alts := [], laidByText := true, laidKinds := [.data, .data, .data, .sentinel, .sentinel], laidTests := true, laidLooks := .later }
def FnExactRoleParseCardSaid : Prop := Claim7.holds Tryd.pinned (.plain (OpenSpec.ofChange fnExactRoleParseSpec)) fnExactRoleParseCard

/-- THE TIED CARD OF 'laws.FnExactPatMake'. -/
def fnExactPatMakeCard : Claim7 := { stood := { row := fnExactPatMakeRow, standIns := [], harness := (true, "c46a29e47f1b923bbd504f0aad97ad95103fe525f249dd53f90f367aaf3c1a79"), looks := true }, kinds := [], alts := [], laidByText := true, laidKinds := [.data, .data, .data, .sentinel, .sentinel], laidTests := true, laidLooks := .later }
def FnExactPatMakeCardSaid : Prop := Claim7.holds Tryd.pinned (.plain (OpenSpec.ofChange fnExactPatMakeSpec)) fnExactPatMakeCard

/-- THE SECOND FORM's CARD OF 'laws.FnExactPatOk'. -/
def fnExactPatOkUptoCard : Claim7 := { stood := { row := fnExactPatOkUptoRow, standIns := [], harness := (true, "c46a29e47f1b923bbd504f0aad97ad95103fe525f249dd53f90f367aaf3c1a79"), looks := true }, kinds := [], alts := [], laidByText := true, laidKinds := [.data, .data, .data, .sentinel, .sentinel], laidTests := true, laidLooks := .later }
def FnExactPatOkUptoCardSaid : Prop := Claim7.holds Tryd.pinned (.plain (OpenSpec.upto fnExactPatOkSpec)) fnExactPatOkUptoCard

/-- THE SECOND FORM's CARD OF 'laws.FnExactPatLetters'. -/
def fnExactPatLettersUptoCard : Claim7 := { stood := { row := fnExactPatLettersUptoRow, standIns := [], harness := (true, "c46a29e47f1b923bbd504f0aad97ad95103fe525f249dd53f90f367aaf3c1a79"), looks := true }, kinds := [], alts := [], laidByText := true, laidKinds := [.data, .data, .data, .sentinel, .sentinel], laidTests := true, laidLooks := .later }
def FnExactPatLettersUptoCardSaid : Prop := Claim7.holds Tryd.pinned (.plain (OpenSpec.upto fnExactPatLettersSpec)) fnExactPatLettersUptoCard

/-- THE SECOND FORM's CARD OF 'laws.FnExactActOk'. -/
def fnExactActOkUptoCard : Claim7 := { stood := { row := fnExactActOkUptoRow, standIns := [], harness := (true, "c46a29e47f1b923bbd504f0aad97ad95103fe525f249dd53f90f367aaf3c1a79"), looks := true }, kinds := [], alts := [], laidByText := true, laidKinds := [.data, .data, .data, .sentinel, .sentinel], laidTests := true, laidLooks := .later }
def FnExactActOkUptoCardSaid : Prop := Claim7.holds Tryd.pinned (.plain (OpenSpec.upto fnExactActOkSpec)) fnExactActOkUptoCard

/-- THE SECOND FORM's CARD OF 'laws.FnExactRoleOk'. -/
def fnExactRoleOkUptoCard : Claim7 := { stood := { row := fnExactRoleOkUptoRow, standIns := [], harness := (true, "c46a29e47f1b923bbd504f0aad97ad95103fe525f249dd53f90f367aaf3c1a79"), looks := true }, kinds := [], alts := [], laidByText := true, laidKinds := [.data, .data, .data, .sentinel, .sentinel], laidTests := true, laidLooks := .later }
def FnExactRoleOkUptoCardSaid : Prop := Claim7.holds Tryd.pinned (.plain (OpenSpec.upto fnExactRoleOkSpec)) fnExactRoleOkUptoCard

/-- THE SECOND FORM's CARD OF 'laws.FnExactRolePrint'. -/
def fnExactRolePrintUptoCard : Claim7 := { stood := { row := fnExactRolePrintUptoRow, standIns := [], harness := (true, "c46a29e47f1b923bbd504f0aad97ad95103fe525f249dd53f90f367aaf3c1a79"), looks := true }, kinds := [], alts := [], laidByText := true, laidKinds := [.data, .data, .data, .sentinel, .sentinel], laidTests := true, laidLooks := .later }
def FnExactRolePrintUptoCardSaid : Prop := Claim7.holds Tryd.pinned (.plain (OpenSpec.upto fnExactRolePrintSpec)) fnExactRolePrintUptoCard

/-- THE SECOND FORM's CARD OF 'laws.FnActs'. -/
def fnActsUptoCard : Claim7 := { stood := { row := fnActsUptoRow, standIns := [], harness := (true, "c46a29e47f1b923bbd504f0aad97ad95103fe525f249dd53f90f367aaf3c1a79"), looks := true }, kinds := [], alts := [], laidByText := true, laidKinds := [.data, .data, .data, .sentinel, .sentinel], laidTests := true, laidLooks := .later }
def FnActsUptoCardSaid : Prop := Claim7.holds Tryd.pinned (.plain (OpenSpec.upto fnActsSpec)) fnActsUptoCard

/-- THE SECOND FORM's CARD OF 'laws.FnExactRoleParse'. -/
def fnExactRoleParseUptoCard : Claim7 := { stood := { row := fnExactRoleParseUptoRow, standIns := [], harness := (true, "c46a29e47f1b923bbd504f0aad97ad95103fe525f249dd53f90f367aaf3c1a79"), looks := true }, kinds := [], alts := [], laidByText := true, laidKinds := [.data, .data, .data, .sentinel, .sentinel], laidTests := true, laidLooks := .later }
def FnExactRoleParseUptoCardSaid : Prop := Claim7.holds Tryd.pinned (.plain (OpenSpec.upto fnExactRoleParseSpec)) fnExactRoleParseUptoCard

/-- THE SECOND FORM's CARD OF 'laws.FnExactPatMake'. -/
def fnExactPatMakeUptoCard : Claim7 := { stood := { row := fnExactPatMakeUptoRow, standIns := [], harness := (true, "c46a29e47f1b923bbd504f0aad97ad95103fe525f249dd53f90f367aaf3c1a79"), looks := true }, kinds := [], alts := [], laidByText := true, laidKinds := [.data, .data, .data, .sentinel, .sentinel], laidTests := true, laidLooks := .later }
def FnExactPatMakeUptoCardSaid : Prop := Claim7.holds Tryd.pinned (.plain (OpenSpec.upto fnExactPatMakeSpec)) fnExactPatMakeUptoCard
end Rows
end Go.Proofs.YtmlfacjgfjmdeaaDoor
