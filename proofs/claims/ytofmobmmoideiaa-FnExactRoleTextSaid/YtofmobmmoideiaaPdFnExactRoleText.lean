/- The Go functions of this seat as plain Lean functions, and the proofs that each call answers as its function says; laid by a program (gp.py of this repository). Conditions: those that each theorem names. -/
import Derived.Test.YtofmobmmoideiaaPf3
import Derived.Test.YtofmobmmoideiaaPg
namespace Go.Proofs.Ytofmobmmoideiaa.P
open Go.RowKit Go.Proofs.YtofmobmmoideiaaW.PrintWords
/-- THE ONE PURE STATEMENT of laws_FnExactRoleText. -/
def laws_FnExactRoleText.Pure : Prop := ∀ (a0 : Int) (a1 : Int), Op.I64 a0 → Op.I64 a1 → ∃ k, laws_FnExactRoleText.f k a0 a1 = some true
end Go.Proofs.Ytofmobmmoideiaa.P
