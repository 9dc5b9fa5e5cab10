/- What plain functions of this seat answer. Conditions: those that each theorem names. -/
import Derived.Test.YtofmobmmoideiaaPx0
import Derived.Test.YtofmobmmoideiaaPx9
import Derived.Test.YtofmobmmoideiaaPx17
import Derived.Test.YtofmobmmoideiaaPx18
import Derived.Test.YtofmobmmoideiaaPlpool
namespace Go.Proofs.Ytofmobmmoideiaa.P
open Go.RowKit Go.Proofs.YtofmobmmoideiaaW.PrintWords
set_option linter.unusedVariables false
set_option linter.unusedSimpArgs false

/-- How many steps a step needs. -/
def needsN (l : List Nd) (rule term : Int) : Int :=
  if rule = 1 ∨ rule = 2 then 0 else if rule = 3 then kindN (l.getD term.toNat z73).f0 else if rule = 4 ∨ rule = 7 then 2 else if rule = 5 ∨ rule = 6 ∨ rule = 8 then 1 else -1
theorem l9Needs_ev (l : List Nd) (r t a b : Int) (h0 : 0 ≤ t) (h1 : t < (l.length : Int)) : Ev (fun k => spec_l9Needs.f k l r t a b) (needsN l r t) := by
  unfold spec_l9Needs.f needsN
  have hj : ∀ c : Bool, (c = true ↔ r = 1 ∨ r = 2) → Ev (fun k => spec_l9Needs.j0 k r c l r t a b) (needsN l r t) := by
    intro c hc
    unfold needsN
    refine ev_shift ?_
    simp only [spec_l9Needs.j0]
    refine ev_ite (fun h => ev_now ?_) (fun h => ?_)
    · rw [if_pos (hc.1 h)]
    · rw [if_neg (fun e => h (hc.2 e))]
      refine ev_ite (fun h3 => ?_) (fun h3 => ?_)
      · rw [if_pos h3]
        refine ev_pos h0 (ev_pos h1 (Ev.bind (l1Parts_ev _) (ev_now rfl)))
      · rw [if_neg h3]
        have hj1 : ∀ c : Bool, (c = true ↔ r = 4 ∨ r = 7) → Ev (fun k => spec_l9Needs.j1 k r c) (if r = 4 ∨ r = 7 then 2 else if r = 5 ∨ r = 6 ∨ r = 8 then 1 else -1) := by
          intro c hc
          refine ev_shift ?_
          simp only [spec_l9Needs.j1]
          refine ev_ite (fun h => ev_now ?_) (fun h => ?_)
          · rw [if_pos (hc.1 h)]
          · rw [if_neg (fun e => h (hc.2 e))]
            refine ev_ite (fun h5 => ev_now ?_) (fun h5 => ev_ite (fun h6 => ev_now ?_) (fun h6 => ev_ite (fun h8 => ev_now ?_) (fun h8 => ev_now ?_)))
            · rw [if_pos (.inl h5)]
            · rw [if_pos (.inr (.inl h6))]
            · rw [if_pos (.inr (.inr h8))]
            · rw [if_neg (by omega)]
        refine ev_ite (fun h4 => hj1 _ (by simp [h4])) (fun h4 => hj1 _ (by simp [h4]))
  refine ev_ite (fun h => hj _ (by simp [h])) (fun h => hj _ (by simp [h]))
theorem parts_ev (l : List Nd) (t : Int) (h0 : 0 ≤ t) (h1 : t < (l.length : Int)) : Ev (fun k => impl_Pool_parts.f k l t) (if kindN (l.getD t.toNat z73).f0 = 1 then [(l.getD t.toNat z73).f1] else if kindN (l.getD t.toNat z73).f0 = 2 then [(l.getD t.toNat z73).f1, (l.getD t.toNat z73).f2] else []) := by
  unfold impl_Pool_parts.f
  refine ev_pos h0 (ev_pos h1 (Ev.bind (count_ev _) ?_))
  rw [rdN]
  refine ev_ite (fun h => ev_now ?_) (fun h => ev_ite (fun h2 => ev_now ?_) (fun h2 => ev_now ?_))
  · rw [if_pos h]
  · rw [if_neg h, if_pos h2]
  · rw [if_neg h, if_neg h2]
theorem kindN_cases (k : Int) : kindN k = 0 ∨ kindN k = 1 ∨ kindN k = 2 ∨ kindN k = -1 := by
  unfold kindN
  split
  · simp
  · split
    · simp
    · split <;> simp
/-- A right node's kind. -/
theorem nodeB_kind {n : Nd} {m : Int} (h : nodeB n m = true) : kindN n.f0 = 0 ∨ kindN n.f0 = 1 ∨ kindN n.f0 = 2 := by
  rcases kindN_cases n.f0 with h1 | h1 | h1 | h1
  · exact .inl h1
  · exact .inr (.inl h1)
  · exact .inr (.inr h1)
  · unfold nodeB at h
    rw [h1] at h
    simp at h
theorem pool_node {l : List Nd} (h : poolB l = true) {i : Nat} (hi : i < l.length) : nodeB (l.getD i z73) i = true := by
  have := ((poolB_iff l).1 h).2 i hi
  unfold okAt at this
  rw [Bool.and_eq_true] at this
  exact this.2
theorem pool_kind {l : List Nd} (h : poolB l = true) {i : Nat} (hi : i < l.length) : kindN (l.getD i z73).f0 = 0 ∨ kindN (l.getD i z73).f0 = 1 ∨ kindN (l.getD i z73).f0 = 2 := nodeB_kind (pool_node h hi)
theorem needs_ev (l : List Nd) (r t a b : Int) (hp : poolB l = true) (h0 : 0 ≤ t) (h1 : t < (l.length : Int)) : Ev (fun k => impl_Pool_needs.f k l r t a b) (needsN l r t) := by
  unfold impl_Pool_needs.f
  have hj : ∀ c : Bool, (c = true ↔ r = 1 ∨ r = 2) → Ev (fun k => impl_Pool_needs.j0 k r c l r t a b) (needsN l r t) := by
    intro c hc
    unfold needsN
    refine ev_shift ?_
    simp only [impl_Pool_needs.j0]
    refine ev_ite (fun h => ev_now ?_) (fun h => ?_)
    · rw [if_pos (hc.1 h)]
    · rw [if_neg (fun e => h (hc.2 e))]
      refine ev_ite (fun h3 => ?_) (fun h3 => ?_)
      · rw [if_pos h3]
        refine Ev.bind (parts_ev l t h0 h1) (ev_now ?_)
        rcases pool_kind hp (i := t.toNat) (by omega) with hk | hk | hk <;> rw [hk] <;> simp
      · rw [if_neg h3]
        have hj1 : ∀ c : Bool, (c = true ↔ r = 4 ∨ r = 7) → Ev (fun k => impl_Pool_needs.j1 k r c) (if r = 4 ∨ r = 7 then 2 else if r = 5 ∨ r = 6 ∨ r = 8 then 1 else -1) := by
          intro c hc
          refine ev_shift ?_
          simp only [impl_Pool_needs.j1]
          refine ev_ite (fun h => ev_now ?_) (fun h => ?_)
          · rw [if_pos (hc.1 h)]
          · rw [if_neg (fun e => h (hc.2 e))]
            refine ev_ite (fun h5 => ev_now ?_) (fun h5 => ev_ite (fun h6 => ev_now ?_) (fun h6 => ev_ite (fun h8 => ev_now ?_) (fun h8 => ev_now ?_)))
            · rw [if_pos (.inl h5)]
            · rw [if_pos (.inr (.inl h6))]
            · rw [if_pos (.inr (.inr h8))]
            · rw [if_neg (by omega)]
        refine ev_ite (fun h4 => hj1 _ (by simp [h4])) (fun h4 => hj1 _ (by simp [h4]))
  refine ev_ite (fun h => hj _ (by simp [h])) (fun h => hj _ (by simp [h]))
def stepNeeds (l : List Nd) (r t : Int) : Int := if poolB l = true ∧ hasB l t = true then needsN l r t else -1
theorem spec_StepNeeds_ev (l : List Nd) (r t a b : Int) (hl : l.length ≤ 4611686018427387904) : Ev (fun k => spec_StepNeeds.f k l r t a b) (stepNeeds l r t) := by
  unfold spec_StepNeeds.f stepNeeds
  refine Ev.bind (spec_PoolOk_ev l) (ev_ite (fun h => ?_) (fun h => ev_now ?_))
  · rw [l1Has_f l t hl]
    simp only [Option.bind_some]
    refine ev_ite (fun h2 => ?_) (fun h2 => ev_now ?_)
    · rw [if_pos ⟨h, h2⟩]
      obtain ⟨h3, h4⟩ := hasB_iff.1 h2
      exact Ev.bind (l9Needs_ev l r t a b h3 h4) (ev_now rfl)
    · rw [if_neg (fun e => h2 e.2)]
  · rw [if_neg (fun e => h e.1)]
theorem impl_StepNeeds_ev (l : List Nd) (r t a b : Int) (hl : l.length ≤ 4611686018427387904) : Ev (fun k => impl_StepNeeds.f k l r t a b) (stepNeeds l r t) := by
  unfold impl_StepNeeds.f stepNeeds impl_PoolOk.f
  rw [isTerm_f l t hl]
  simp only [Option.bind_some]
  refine ev_ite (fun h2 => ev_ite (fun h => ?_) (fun h => ev_now ?_)) (fun h2 => ev_now ?_)
  · rw [if_pos ⟨h, h2⟩]
    obtain ⟨h3, h4⟩ := hasB_iff.1 h2
    exact Ev.bind (needs_ev l r t a b h h3 h4) (ev_now rfl)
  · rw [if_neg (fun e => h e.1)]
  · rw [if_neg (fun e => h2 e.2)]
end Go.Proofs.Ytofmobmmoideiaa.P
