/- What plain functions of this seat answer. Conditions: those that each theorem names. -/
import Derived.Test.YtofmobmmoideiaaPx0
import Derived.Test.YtofmobmmoideiaaPx9
import Derived.Test.YtofmobmmoideiaaPx14
import Derived.Test.YtofmobmmoideiaaPx15
import Derived.Test.YtofmobmmoideiaaPlpool
namespace Go.Proofs.Ytofmobmmoideiaa.P
open Go.RowKit Go.Proofs.YtofmobmmoideiaaW.PrintWords
set_option linter.unusedVariables false
set_option linter.unusedSimpArgs false

def envB (l : List Nd) (env : List Int) : Bool := decide (env.length = 26) && (poolB l && env.all fun t => t == -1 || hasB l t)
theorem l11Env_loop (l : List Nd) (env : List Int) (hl : l.length ≤ 4611686018427387904) (he : env.length = 26) (d : Nat) : ∀ i : Int, 0 ≤ i → i ≤ 26 → 26 - i = d → Ev (fun k => spec_l11Env.l0 k env i l) ((env.drop i.toNat).all fun t => t == -1 || hasB l t) := by
  induction d with
  | zero =>
    intro i h0 h1 hd
    refine ev_shift ?_
    simp only [spec_l11Env.l0]
    refine ev_neg (by omega) (ev_now ?_)
    rw [List.drop_of_length_le (by omega)]
    rfl
  | succ d ih =>
    intro i h0 h1 hd
    refine ev_shift ?_
    simp only [spec_l11Env.l0, l1Has_f l _ hl, Option.bind_some]
    have hlt : i.toNat < env.length := by omega
    refine ev_pos (by omega) (ev_pos h0 (ev_pos (by omega) ?_))
    have e1 : rd env i = env.getD i.toNat 0 := rfl
    rw [drop_cons 0 hlt, List.all_cons, wrap_id (by omega), e1]
    have h := ih (i + 1) (by omega) (by omega) (by omega)
    rw [show (i + 1).toNat = i.toNat + 1 by omega] at h
    refine ev_ite (fun hn => ?_) (fun hn => ev_ite (fun hb => ?_) (fun hb => ev_now ?_))
    · rw [hn]; simpa using h
    · rw [hb]; simpa using h
    · rw [Bool.eq_false_iff.2 hb, beq_eq_false_iff_ne.2 hn]; rfl
theorem spec_EnvOk_ev (l : List Nd) (env : List Int) (hl : l.length ≤ 4611686018427387904) : Ev (fun k => spec_EnvOk.f k l env) (envB l env) := by
  unfold spec_EnvOk.f spec_l11Env.f envB
  refine Ev.bind (spec_PoolOk_ev l) ?_
  refine ev_ite (fun h => ?_) (fun h => ev_now ?_)
  · rw [h]
    by_cases he : env.length = 26
    · have h2 := l11Env_loop l env hl he 26 0 (by omega) (by omega) (by omega)
      refine Ev.bind (r := _) (a := env.all fun t => t == -1 || hasB l t) (ev_pos (by omega) h2) (ev_now ?_)
      simp [he]
    · refine Ev.bind (a := false) (ev_neg (by omega) (ev_now rfl)) (ev_now ?_)
      simp [he]
  · rw [Bool.eq_false_iff.2 h]; simp
theorem impl_EnvOk_loop (l : List Nd) (env : List Int) (hl : l.length ≤ 4611686018427387904) (he : env.length ≤ 4611686018427387904) (d : Nat) : ∀ i : Int, 0 ≤ i → i ≤ (env.length : Int) → (env.length : Int) - i = d → Ev (fun k => impl_EnvOk.l0 k env env (env.length : Int) i l) (decide (env.length = 26) && (poolB l && (env.drop i.toNat).all fun t => t == -1 || hasB l t)) := by
  induction d with
  | zero =>
    intro i h0 h1 hd
    refine ev_shift ?_
    simp only [impl_EnvOk.l0, impl_PoolOk.f, Option.bind_some]
    refine ev_neg (by omega) ?_
    rw [List.drop_of_length_le (by omega)]
    refine ev_ite (fun h => ev_now ?_) (fun h => ev_now ?_)
    · rw [decide_eq_true (by omega)]; simp
    · rw [decide_eq_false (by omega)]; rfl
  | succ d ih =>
    intro i h0 h1 hd
    refine ev_shift ?_
    simp only [impl_EnvOk.l0, isTerm_f l _ hl, Option.bind_some]
    have hlt : i.toNat < env.length := by omega
    refine ev_pos (by omega) (ev_pos h0 (ev_pos (by omega) ?_))
    have e1 : rd env i = env.getD i.toNat 0 := rfl
    rw [drop_cons 0 hlt, List.all_cons, wrap_id (by omega), e1]
    have h := ih (i + 1) (by omega) (by omega) (by omega)
    rw [show (i + 1).toNat = i.toNat + 1 by omega] at h
    refine ev_ite (fun hn => ?_) (fun hn => ev_ite (fun hb => ?_) (fun hb => ev_now ?_))
    · rw [hn]; simpa using h
    · rw [hb]; simpa using h
    · rw [Bool.eq_false_iff.2 hb, beq_eq_false_iff_ne.2 hn]; simp
theorem impl_EnvOk_ev (l : List Nd) (env : List Int) (hl : l.length ≤ 4611686018427387904) (he : env.length ≤ 4611686018427387904) : Ev (fun k => impl_EnvOk.f k l env) (envB l env) := by
  unfold impl_EnvOk.f envB
  exact impl_EnvOk_loop l env hl he env.length 0 (by omega) (by omega) (by omega)
end Go.Proofs.Ytofmobmmoideiaa.P
