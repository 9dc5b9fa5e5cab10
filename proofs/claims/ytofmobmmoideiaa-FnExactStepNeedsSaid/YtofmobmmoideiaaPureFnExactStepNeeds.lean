/- What plain functions of this seat answer. Conditions: those that each theorem names. -/
import Derived.Test.YtofmobmmoideiaaPx0
import Derived.Test.YtofmobmmoideiaaPx17
import Derived.Test.YtofmobmmoideiaaPx19
import Derived.Test.YtofmobmmoideiaaPllawpool
import Derived.Test.YtofmobmmoideiaaPlneeds
import Derived.Test.YtofmobmmoideiaaPdFnExactStepNeeds
namespace Go.Proofs.Ytofmobmmoideiaa.P
open Go.RowKit Go.Proofs.YtofmobmmoideiaaW.PrintWords
set_option linter.unusedVariables false
set_option linter.unusedSimpArgs false

theorem pure_FnExactStepNeeds : laws_FnExactStepNeeds.Pure := by
  intro l r t a b hl h0 h1 h2 h3
  refine Ev.rounds ?_
  unfold laws_FnExactStepNeeds.f
  rw [szPool_f l 1048576 hl.1 (by omega)]
  simp only [Option.bind_some, laws_toStep.f]
  refine ev_ite (fun _ => ev_now rfl) (fun h => ?_)
  have hlen : l.length ≤ 1048576 := by
    by_cases hc : (1048576 : Int) - l.length < 0
    · rw [if_pos hc] at h; omega
    · omega
  have hm : (l.map toN).length ≤ 4611686018427387904 := by rw [List.length_map]; omega
  have ht := toPool_ev l hlen
  refine Ev.bind ht (Ev.bind (spec_StepNeeds_ev _ r t a b hm) (Ev.bind ht (Ev.bind (impl_StepNeeds_ev _ r t a b hm) ?_)))
  refine ev_pos rfl (Ev.bind ht (Ev.bind (eqPool_ev _ _ hm) ?_))
  exact ev_pos (by simp) (ev_now rfl)
end Go.Proofs.Ytofmobmmoideiaa.P
