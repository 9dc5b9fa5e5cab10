/- What plain functions of this seat answer. Conditions: those that each theorem names. -/
import Derived.Test.YtofmobmmoideiaaP0
import Derived.Test.YtofmobmmoideiaaPf3
import Derived.Test.YtofmobmmoideiaaPf9
import Derived.Test.YtofmobmmoideiaaPdFnExactRoleText
namespace Go.Proofs.Ytofmobmmoideiaa.P
open Go.RowKit Go.Proofs.YtofmobmmoideiaaW.PrintWords
set_option linter.unusedVariables false
set_option linter.unusedSimpArgs false

theorem ite_some {c : Prop} [Decidable c] {x y : Option ByteArray} (hx : ∃ r, x = some r) (hy : ∃ r, y = some r) : ∃ r, (if c then x else y) = some r := by
  split
  · exact hx
  · exact hy
theorem pure_FnExactRoleText : laws_FnExactRoleText.Pure := by
  intro a0 a1 _ _
  refine ⟨20, ?_⟩
  have h : ∃ r, spec_RoleText.f 20 a0 a1 = some r := by
    unfold spec_RoleText.f
    simp only [spec_RoleText.j0, spec_RoleText.j1, spec_RoleText.j2, spec_RoleText.j3, spec_RoleText.j4]
    repeat' (first | exact ⟨_, rfl⟩ | apply ite_some)
  obtain ⟨r, h⟩ := h
  unfold laws_FnExactRoleText.f impl_RoleText.f
  rw [h]
  simp
end Go.Proofs.Ytofmobmmoideiaa.P
