/- What plain functions of this seat answer. Conditions: those that each theorem names. -/
import Derived.Test.YtofmobmmoideiaaPx0
import Derived.Test.YtofmobmmoideiaaPx7
import Derived.Test.YtofmobmmoideiaaPx9
import Derived.Test.YtofmobmmoideiaaPlpool
namespace Go.Proofs.Ytofmobmmoideiaa.P
open Go.RowKit Go.Proofs.YtofmobmmoideiaaW.PrintWords
set_option linter.unusedVariables false
set_option linter.unusedSimpArgs false

def linkB (l : List Nd) (key epoch seq : Int) : Bool := poolB l && (hasB l key && (decide (0 ≤ epoch ∧ epoch ≤ 20) && decide (0 ≤ seq ∧ seq ≤ 20)))
theorem spec_LinkOk_ev (l : List Nd) (key epoch seq : Int) (over : Bool) (hl : l.length ≤ 4611686018427387904) : Ev (fun k => spec_LinkOk.f k l key epoch seq over) (linkB l key epoch seq) := by
  unfold spec_LinkOk.f spec_l18Link.f linkB
  refine Ev.bind (spec_PoolOk_ev l) ?_
  simp only [l1Has_f l key hl, l1In_f, Option.bind_some]
  cases poolB l <;> cases hasB l key <;> by_cases h1 : 0 ≤ epoch ∧ epoch ≤ 20 <;> simp [h1] <;> exact ev_now (by simp)
theorem impl_LinkOk_f (l : List Nd) (key epoch seq : Int) (over : Bool) (hl : l.length ≤ 4611686018427387904) : impl_LinkOk.f l key epoch seq over = some (linkB l key epoch seq) := by
  unfold impl_LinkOk.f linkB impl_PoolOk.f
  simp only [isTerm_f l key hl, inRange_f, Option.bind_some]
  cases poolB l <;> cases hasB l key <;> by_cases h1 : 0 ≤ epoch ∧ epoch ≤ 20 <;> by_cases h2 : 0 ≤ seq ∧ seq ≤ 20 <;> simp [h1, h2]
end Go.Proofs.Ytofmobmmoideiaa.P
