/- The Go functions of this seat as plain Lean functions, and the proofs that each call answers as its function says; laid by a program (gp.py of this repository). Conditions: those that each theorem names. -/
import Derived.Test.YtofmobmmoideiaaPx13
import Derived.Test.YtofmobmmoideiaaPg
namespace Go.Proofs.Ytofmobmmoideiaa.P
open Go.RowKit Go.Proofs.YtofmobmmoideiaaW.PrintWords
/-- THE ONE PURE STATEMENT of laws_FnExactLinkNew. -/
def laws_FnExactLinkNew.Pure : Prop := ∀ (l0_0 : List (S76)) (a1 : Int), (l0_0.length ≤ maxLen ∧ ∀ y_ ∈ l0_0, G76 y_) → Op.I64 a1 → ∃ k, laws_FnExactLinkNew.f k l0_0 a1 = some true
end Go.Proofs.Ytofmobmmoideiaa.P
