/- The Go functions of this seat as plain Lean functions, and the proofs that each call answers as its function says; laid by a program (gp.py of this repository). Conditions: those that each theorem names. -/
import Derived.Test.YtofmobmmoideiaaPx19
import Derived.Test.YtofmobmmoideiaaPg
namespace Go.Proofs.Ytofmobmmoideiaa.P
open Go.RowKit Go.Proofs.YtofmobmmoideiaaW.PrintWords
/-- THE ONE PURE STATEMENT of laws_FnExactStepNeeds. -/
def laws_FnExactStepNeeds.Pure : Prop := ∀ (l0_0 : List (S76)) (a1_0 : Int) (a1_1 : Int) (a1_2 : Int) (a1_3 : Int), (l0_0.length ≤ maxLen ∧ ∀ y_ ∈ l0_0, G76 y_) → Op.I64 a1_0 → Op.I64 a1_1 → Op.I64 a1_2 → Op.I64 a1_3 → ∃ k, laws_FnExactStepNeeds.f k l0_0 a1_0 a1_1 a1_2 a1_3 = some true
end Go.Proofs.Ytofmobmmoideiaa.P
