/- The Go functions of this seat as plain Lean functions, and the proofs that each call answers as its function says; laid by a program (gp.py of this repository). Conditions: those that each theorem names. -/
import Derived.Test.YtofmobmmoideiaaPx11
import Derived.Test.YtofmobmmoideiaaPg
namespace Go.Proofs.Ytofmobmmoideiaa.P
open Go.RowKit Go.Proofs.YtofmobmmoideiaaW.PrintWords
/-- THE ONE PURE STATEMENT of laws_FnExactLinkOk. -/
def laws_FnExactLinkOk.Pure : Prop := ∀ (l0_0 : List (S76)) (a1_0 : Int) (a1_1 : Int) (a1_2 : Int) (a1_3 : Bool), (l0_0.length ≤ maxLen ∧ ∀ y_ ∈ l0_0, G76 y_) → Op.I64 a1_0 → Op.I64 a1_1 → Op.I64 a1_2 → ∃ k, laws_FnExactLinkOk.f k l0_0 a1_0 a1_1 a1_2 a1_3 = some true
end Go.Proofs.Ytofmobmmoideiaa.P
