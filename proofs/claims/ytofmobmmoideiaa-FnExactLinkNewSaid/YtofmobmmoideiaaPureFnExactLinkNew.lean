/- What plain functions of this seat answer. Conditions: those that each theorem names. -/
import Derived.Test.YtofmobmmoideiaaPx0
import Derived.Test.YtofmobmmoideiaaPx7
import Derived.Test.YtofmobmmoideiaaPx12
import Derived.Test.YtofmobmmoideiaaPx13
import Derived.Test.YtofmobmmoideiaaPllawpool
import Derived.Test.YtofmobmmoideiaaPllink
import Derived.Test.YtofmobmmoideiaaPdFnExactLinkNew
namespace Go.Proofs.Ytofmobmmoideiaa.P
open Go.RowKit Go.Proofs.YtofmobmmoideiaaW.PrintWords
set_option linter.unusedVariables false
set_option linter.unusedSimpArgs false

theorem pure_FnExactLinkNew : laws_FnExactLinkNew.Pure := by
  intro l a hl h0
  refine Ev.rounds ?_
  unfold laws_FnExactLinkNew.f
  rw [szPool_f l 1048576 hl.1 (by omega)]
  simp only [Option.bind_some]
  refine ev_ite (fun _ => ev_now rfl) (fun h => ?_)
  have hlen : l.length ≤ 1048576 := by
    by_cases hc : (1048576 : Int) - l.length < 0
    · rw [if_pos hc] at h; omega
    · omega
  have hm : (l.map toN).length ≤ 4611686018427387904 := by rw [List.length_map]; omega
  have ht := toPool_ev l hlen
  have hs : Ev (fun k => spec_LinkNew.f k (l.map toN) a) (if linkB (l.map toN) a 0 0 = true then (a, 0, 0, false, true) else (0, 0, 0, false, false)) := by
    unfold spec_LinkNew.f
    refine Ev.bind (spec_LinkOk_ev _ a 0 0 false hm) (ev_ite (fun h => ev_now ?_) (fun h => ev_now ?_))
    · rw [if_pos h]
    · rw [if_neg h]
  have hi : impl_LinkNew.f (l.map toN) a = some (if linkB (l.map toN) a 0 0 = true then (a, 0, 0, false, true) else (0, 0, 0, false, false)) := by
    unfold impl_LinkNew.f
    rw [impl_LinkOk_f _ a 0 0 false hm]
    simp only [Option.bind_some]
    split <;> rfl
  refine Ev.bind ht (Ev.bind hs (Ev.bind ht ?_))
  rw [hi]
  simp only [Option.bind_some]
  generalize (if linkB (l.map toN) a 0 0 = true then (a, 0, 0, false, true) else (0, 0, 0, false, false) : Int × Int × Int × Bool × Bool) = v
  have hq : laws_eqLink.f v.1 v.2.1 v.2.2.1 v.2.2.2.1 v.1 v.2.1 v.2.2.1 v.2.2.2.1 = some true := by unfold laws_eqLink.f; simp
  rw [hq]
  simp only [Option.bind_some, if_true]
  refine ev_shift ?_
  simp only [laws_FnExactLinkNew.j0]
  refine ev_neg (by simp) ?_
  have ht1 : Ev (fun n => laws_toPool.f n l) (l.map toN) := ht
  refine Ev.bind ht1 (Ev.bind (eqPool_ev _ _ hm) ?_)
  exact ev_pos (by simp) (ev_now rfl)
end Go.Proofs.Ytofmobmmoideiaa.P
