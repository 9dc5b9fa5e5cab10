/- A state in which a nil slice stands in a row, told with a row of none that it names. Conditions: those that each theorem names. -/
import Derived.Test.YtealijdcolmchaaGreatDoorXSymIce
set_option linter.unusedVariables false
set_option linter.unusedSimpArgs false
namespace Go.Sym
open Go.RowKit
def Cx.recell (c : Cx) (b : Nat) (k : Blk) : Cx := ⟨upd c.H b (some k), c.io, c.w, c.X⟩
/-- A row's cells, told in another way. -/
theorem T_recell {c : Cx} (hr : RelH c) {b : Nat} {k : Blk} {cs : List A} (hb : c.H b = some k) (hro : k.ro = false) (hmp : k.mp = none) (hcs : ∀ (j : Nat) (y : A), cs[j]? = some y → ∃ v, c.w.cell? (c.at b j) = some v ∧ VR c y v) :
    RelH (c.recell b { k with cs := cs }) ∧ Step c (c.recell b { k with cs := cs }) := by
  have hcase : ∀ d kd, (c.recell b { k with cs := cs }).H d = some kd → d = b ∧ kd = { k with cs := cs } ∨ d ≠ b ∧ c.H d = some kd := by
    intro d kd h
    by_cases e : d = b
    · subst e; simp only [Cx.recell, upd_same, Option.some.injEq] at h; exact .inl ⟨rfl, h.symm⟩
    · simp only [Cx.recell, upd_other _ _ e] at h; exact .inr ⟨e, h⟩
  have hback : ∀ d kd, (c.recell b { k with cs := cs }).H d = some kd → ∃ k0, c.H d = some k0 ∧ kd.ro = k0.ro ∧ kd.mp = k0.mp := by
    intro d kd h
    rcases hcase d kd h with ⟨rfl, rfl⟩ | ⟨_, h⟩
    · exact ⟨k, hb, rfl, rfl⟩
    · exact ⟨kd, h, rfl, rfl⟩
  have hS : Step c (c.recell b { k with cs := cs }) := by
    refine ⟨rfl, rfl, rfl, Nat.le_refl _, fun _ _ _ => rfl, ?_, ?_, rfl, fun _ h => h, MPers.refl _⟩
    · rintro q ⟨d, blk, h1, h2, h3⟩
      obtain ⟨k0, g1, g2, _⟩ := hback d blk h1
      exact .inl ⟨d, k0, g1, by rw [← g2]; exact h2, h3⟩
    · intro d k0 h0
      by_cases e : d = b
      · subst e
        rw [hb] at h0
        cases h0
        exact ⟨{ k with cs := cs }, by simp only [Cx.recell]; exact upd_same _ _ _, Nat.le_refl _, fun _ => ⟨rfl, rfl, rfl⟩⟩
      · exact ⟨k0, by simp only [Cx.recell, upd_other _ _ e, h0], Nat.le_refl _, fun _ => ⟨rfl, rfl, rfl⟩⟩
  refine ⟨⟨?_, ?_, ?_, ?_, ?_, ?_, ?_, fun k hk => hr.xlt k hk⟩, hS⟩
  · intro d kd hd j x hj
    rcases hcase d kd hd with ⟨rfl, rfl⟩ | ⟨_, h⟩
    · obtain ⟨v, h1, h2⟩ := hcs j x hj
      exact ⟨v, h1, VR.step hS x v h2⟩
    · obtain ⟨v, h1, h2⟩ := hr.cell d kd h j x hj
      exact ⟨v, h1, VR.step hS x v h2⟩
  · intro d kd hd h
    rcases hcase d kd hd with ⟨rfl, rfl⟩ | ⟨_, h'⟩
    · simp only [hro] at h; cases h
    · exact hr.vz d kd h' h
  · intro d kd hd h
    obtain ⟨k0, g1, g2, g3⟩ := hback d kd hd
    exact hr.lt d k0 g1 (by rw [← g2]; exact h)
  · intro d kd hd h hm
    obtain ⟨k0, g1, g2, g3⟩ := hback d kd hd
    exact hr.fz d k0 g1 (by rw [← g2]; exact h) (by rw [← g3]; exact hm)
  · intro d kd st l hd hm
    rcases hcase d kd hd with ⟨rfl, rfl⟩ | ⟨_, h'⟩
    · simp only [hmp] at hm; cases hm
    · exact hr.mz d kd st l h' hm
  · intro d d' kd kd' hd hd' h h' hne
    obtain ⟨k0, g1, g2, _⟩ := hback d kd hd
    obtain ⟨k1, q1, q2, _⟩ := hback d' kd' hd'
    exact hr.uni d d' k0 k1 g1 q1 (by rw [← g2]; exact h) (by rw [← q2]; exact h') hne
  · intro d kd hd h
    obtain ⟨k0, g1, g2, _⟩ := hback d kd hd
    exact hr.nx d k0 g1 (by rw [← g2]; exact h)
/-- A call where a nil slice stands in a row: as one where that slice names a row of none. -/
theorem SemT.virt {P : Program} {f : FuncId} {xs : List A} {H : List Blk} {r : A} {H' : List Blk} {b off esz : Nat} {k : Blk} (hb : H[b]? = some k) (hro : k.ro = false) (hmp : k.mp = none) (hoff : k.cs[off]? = some .nil)
    (h : SemT P f xs (H.set b { k with cs := k.cs.set off (.ref H.length 0 0 0) } ++ [⟨0, true, esz, [], none⟩]) r H') : SemT P f xs H r H' := by
  intro c vs hgd hr hH hvs
  have hbl : b < H.length := (List.getElem?_eq_some_iff.1 hb).1
  obtain ⟨h1, h2⟩ := T_avirt hr (n := H.length) (k := ⟨0, true, esz, [], none⟩) (by rw [hH]; exact List.getElem?_eq_none (Nat.le_refl _)) rfl rfl rfl
  have hb1 : (c.avirt H.length ⟨0, true, esz, [], none⟩).H b = some k := by
    simp only [Cx.avirt, upd_other _ _ (show b ≠ H.length by omega), hH]
    exact hb
  have hv1 : (c.avirt H.length ⟨0, true, esz, [], none⟩).H H.length = some ⟨0, true, esz, [], none⟩ := by simp only [Cx.avirt, upd_same]
  obtain ⟨h3, h4⟩ := T_recell h1 (cs := k.cs.set off (.ref H.length 0 0 0)) hb1 hro hmp (fun j y hj => by
    rw [List.getElem?_set] at hj
    split at hj
    · rename_i e
      subst e
      split at hj
      · cases hj
        obtain ⟨v, g1, g2⟩ := h1.cell b k hb1 off .nil hoff
        refine ⟨v, g1, ?_⟩
        simp only [VR] at g2 ⊢
        obtain ⟨a, rfl⟩ := g2
        exact ⟨_, a, 0, hv1, Nat.le_refl _, rfl, ⟨Nat.le_refl _, by omega⟩, fun _ => .inl rfl⟩
      · cases hj
    · exact h1.cell b k hb1 j y hj)
  have hs := h2.trans h4
  refine (h _ vs (hgd.step hs) h3 ?_ (VRs.step hs _ _ hvs)).mono ?_
  · simp only [Cx.recell, Cx.avirt]
    funext d
    by_cases e : d = b
    · subst e
      rw [upd_same, List.getElem?_append_left (by simpa using hbl)]
      simp [hbl]
    · rw [upd_other _ _ e]
      by_cases e2 : d = H.length
      · subst e2
        rw [upd_same, List.getElem?_append_right (by simp)]
        simp
      · rw [upd_other _ _ e2, hH]
        simp only
        rcases Nat.lt_or_ge d H.length with g | g
        · rw [List.getElem?_append_left (by simpa using g), List.getElem?_set_ne (Ne.symm e)]
        · rw [List.getElem?_eq_none g, List.getElem?_eq_none (by simp; omega)]
  · rintro e w' ⟨v, c', g1, g2, g3, g4, g5, g6⟩
    exact ⟨v, c', g1, g2, g3, g4, g5, hs.trans g6⟩
end Go.Sym
