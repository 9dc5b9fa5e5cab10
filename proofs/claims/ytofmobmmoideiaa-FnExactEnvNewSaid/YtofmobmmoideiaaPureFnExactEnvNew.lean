/- What plain functions of this seat answer. Conditions: those that each theorem names. -/
import Derived.Test.YtofmobmmoideiaaP0
import Derived.Test.YtofmobmmoideiaaPf15
import Derived.Test.YtofmobmmoideiaaPdFnExactEnvNew
namespace Go.Proofs.Ytofmobmmoideiaa.P
open Go.RowKit Go.Proofs.YtofmobmmoideiaaW.PrintWords
set_option linter.unusedVariables false
set_option linter.unusedSimpArgs false

theorem pure_FnExactEnvNew : laws_FnExactEnvNew.Pure := by
  refine ⟨60, ?_⟩
  decide +kernel
end Go.Proofs.Ytofmobmmoideiaa.P
