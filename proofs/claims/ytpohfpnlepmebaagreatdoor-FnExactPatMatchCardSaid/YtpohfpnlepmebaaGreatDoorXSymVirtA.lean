/- A call that is handed a nil slice, told as one that is handed a row of none. Conditions: those that each theorem names. -/
import Derived.Test.YtpohfpnlepmebaaGreatDoorXSymVirt
set_option linter.unusedVariables false
set_option linter.unusedSimpArgs false
namespace Go.Sym
/-- What is nil may name row n. -/
def NilR (n : Nat) : List A → List A → Prop
  | [], [] => True
  | x :: xs, y :: ys => (y = x ∨ x = .nil ∧ y = .ref n 0 0 0) ∧ NilR n xs ys
  | _, _ => False
theorem VRs.nilR {c : Cx} {n esz : Nat} (hv : c.H n = some ⟨0, true, esz, [], none⟩) : ∀ {xs ys : List A} {vs : List Value}, NilR n xs ys → VRs c xs vs → VRs c ys vs
  | [], [], vs, _, h => h
  | x :: xs, y :: ys, vs, hn, h => by
    simp only [NilR] at hn
    simp only [VRs] at h ⊢
    obtain ⟨v, vs', e, h1, h2⟩ := h
    refine ⟨v, vs', e, ?_, VRs.nilR hv hn.2 h2⟩
    rcases hn.1 with rfl | ⟨rfl, rfl⟩
    · exact h1
    · simp only [VR] at h1 ⊢
      obtain ⟨a, rfl⟩ := h1
      exact ⟨_, a, 0, hv, Nat.le_refl _, rfl, ⟨Nat.le_refl _, by omega⟩, fun _ => .inl rfl⟩
  | [], y :: ys, vs, hn, h => by simp [NilR] at hn
  | x :: xs, [], vs, hn, h => by simp [NilR] at hn
theorem SemT.virtA {P : Program} {f : FuncId} {xs ys : List A} {H : List Blk} {r : A} {H' : List Blk} {esz : Nat} (hn : NilR H.length xs ys) (h : SemT P f ys (H ++ [⟨0, true, esz, [], none⟩]) r H') : SemT P f xs H r H' := by
  intro c vs hgd hr hH hvs
  obtain ⟨h1, h2⟩ := T_avirt hr (n := H.length) (k := ⟨0, true, esz, [], none⟩) (by rw [hH]; exact List.getElem?_eq_none (Nat.le_refl _)) rfl rfl rfl
  have hv1 : (c.avirt H.length ⟨0, true, esz, [], none⟩).H H.length = some ⟨0, true, esz, [], none⟩ := by simp only [Cx.avirt, upd_same]
  refine (h _ vs (hgd.step h2) h1 ?_ (VRs.nilR hv1 hn (VRs.step h2 _ _ hvs))).mono ?_
  · simp only [Cx.avirt]
    funext d
    by_cases e2 : d = H.length
    · subst e2
      rw [upd_same, List.getElem?_append_right (by simp)]
      simp
    · rw [upd_other _ _ e2, hH]
      simp only
      rcases Nat.lt_or_ge d H.length with g | g
      · rw [List.getElem?_append_left g]
      · rw [List.getElem?_eq_none g, List.getElem?_eq_none (by simp; omega)]
  · rintro e w' ⟨v, c', g1, g2, g3, g4, g5, g6⟩
    exact ⟨v, c', g1, g2, g3, g4, g5, h2.trans g6⟩
end Go.Sym
