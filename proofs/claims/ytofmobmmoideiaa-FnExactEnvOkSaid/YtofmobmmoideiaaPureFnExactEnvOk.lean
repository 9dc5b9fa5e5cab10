/- What plain functions of this seat answer. Conditions: those that each theorem names. -/
import Derived.Test.YtofmobmmoideiaaPx0
import Derived.Test.YtofmobmmoideiaaPx16
import Derived.Test.YtofmobmmoideiaaPllawpool
import Derived.Test.YtofmobmmoideiaaPlenv
import Derived.Test.YtofmobmmoideiaaPdFnExactEnvOk
namespace Go.Proofs.Ytofmobmmoideiaa.P
open Go.RowKit Go.Proofs.YtofmobmmoideiaaW.PrintWords
set_option linter.unusedVariables false
set_option linter.unusedSimpArgs false

theorem pure_FnExactEnvOk : laws_FnExactEnvOk.Pure := by
  intro l env hl he
  refine Ev.rounds ?_
  unfold laws_FnExactEnvOk.f
  rw [szPool_f l 1048576 hl.1 (by omega)]
  simp only [Option.bind_some]
  refine ev_ite (fun _ => ev_now rfl) (fun h0 => ev_ite (fun _ => ev_now rfl) (fun h => ?_))
  have hlen : l.length ≤ 1048576 := by
    by_cases hc : (1048576 : Int) - l.length < 0
    · rw [if_pos hc] at h; omega
    · omega
  have helen : env.length ≤ 1048576 := by omega
  have hm : (l.map toN).length ≤ 4611686018427387904 := by rw [List.length_map]; omega
  have ht := toPool_ev l hlen
  have hte := toIntS_ev env helen
  refine Ev.bind ht (Ev.bind hte (Ev.bind (spec_EnvOk_ev _ env hm) (Ev.bind ht (Ev.bind hte (Ev.bind (impl_EnvOk_ev _ env hm (by omega)) ?_)))))
  refine ev_neg (by simp) (Ev.bind ht (Ev.bind (eqPool_ev _ _ hm) ?_))
  refine ev_pos (by simp) (Ev.bind hte (Ev.bind (eqIntS_ev env env (by omega)) ?_))
  exact ev_pos (by simp) (ev_now rfl)
end Go.Proofs.Ytofmobmmoideiaa.P
