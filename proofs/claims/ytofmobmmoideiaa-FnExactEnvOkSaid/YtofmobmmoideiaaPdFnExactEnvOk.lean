/- The Go functions of this seat as plain Lean functions, and the proofs that each call answers as its function says; laid by a program (gp.py of this repository). Conditions: those that each theorem names. -/
import Derived.Test.YtofmobmmoideiaaPx16
import Derived.Test.YtofmobmmoideiaaPg
namespace Go.Proofs.Ytofmobmmoideiaa.P
open Go.RowKit Go.Proofs.YtofmobmmoideiaaW.PrintWords
/-- THE ONE PURE STATEMENT of laws_FnExactEnvOk. -/
def laws_FnExactEnvOk.Pure : Prop := ∀ (l0_0 : List (S76)) (l1 : List Int), (l0_0.length ≤ maxLen ∧ ∀ y_ ∈ l0_0, G76 y_) → (l1.length ≤ maxLen ∧ ∀ y_ ∈ l1, Op.I64 y_) → ∃ k, laws_FnExactEnvOk.f k l0_0 l1 = some true
end Go.Proofs.Ytofmobmmoideiaa.P
