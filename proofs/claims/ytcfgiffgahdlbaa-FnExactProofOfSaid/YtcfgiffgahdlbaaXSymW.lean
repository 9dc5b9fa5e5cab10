/- More ways to tell one state: a cell that is nil, told as a row of none; places that nobody reads. Conditions: those that each theorem names. -/
import Derived.Test.YtcfgiffgahdlbaaXSymU
set_option linter.unusedVariables false
set_option linter.unusedSimpArgs false
namespace Go.Sym
open Go.RowKit
/-- At a loop's head: places that nobody reads are left out. -/
theorem WLoop_env {P : Program} {S : FuncId → Bool} {B : Nat} {c : IC} {Q : Ex → Env → List Blk → Prop} {e : Env} {H : List Blk} (e' : Env) (he : ∀ t y, get e' t = some y → get e t = some y) (h : @WLoop' P S B c ⟨Q⟩ e' H) : @WLoop' P S B c ⟨Q⟩ e H :=
  WLoop_tell (fun c0 c _ hr hH hs => ⟨c, rfl, hH, hr, hs, fun _ ha t y hy => ha t y (he t y hy)⟩) h
/-- A row's cells, told in another way that fits whatever fitted. -/
def Cx.row (c : Cx) (b : Nat) (k : Blk) : Cx := ⟨upd c.H b (some k), c.io, c.w, c.X⟩
theorem T_row {c : Cx} (hr : RelH c) {b : Nat} {k k' : Blk} (hb : c.H b = some k) (hro : k.ro = false) (hmp : k.mp = none) (hv : k'.v = k.v) (hro' : k'.ro = k.ro) (hes : k'.esz = k.esz) (hmp' : k'.mp = k.mp)
    (hcs : ∀ (j : Nat) (x' : A), k'.cs[j]? = some x' → ∃ x : A, k.cs[j]? = some x ∧ ∀ v, VR c x v → VR (c.row b k') x' v) : RelH (c.row b k') ∧ Step c (c.row b k') := by
  have hcase : ∀ d kd, (c.row b k').H d = some kd → d = b ∧ kd = k' ∨ d ≠ b ∧ c.H d = some kd := by
    intro d kd h
    by_cases e : d = b
    · subst e; simp only [Cx.row, upd_same, Option.some.injEq] at h; exact .inl ⟨rfl, h.symm⟩
    · simp only [Cx.row, upd_other _ _ e] at h; exact .inr ⟨e, h⟩
  have hS : Step c (c.row b k') := by
    refine ⟨rfl, rfl, rfl, Nat.le_refl _, fun _ _ _ => rfl, ?_, ?_, rfl, fun _ h => h, MPers.refl _⟩
    · rintro q ⟨d, blk, h1, h2, h3⟩
      rcases hcase d blk h1 with ⟨rfl, rfl⟩ | ⟨_, h⟩
      · exact .inl ⟨d, k, hb, hro, h3⟩
      · exact .inl ⟨d, blk, h, h2, h3⟩
    · intro d k0 h0
      by_cases e : d = b
      · subst e
        rw [hb] at h0
        cases h0
        exact ⟨k', by simp [Cx.row, upd_same], by omega, fun _ => ⟨rfl, hes, hro'⟩⟩
      · exact ⟨k0, by simp [Cx.row, upd_other _ _ e, h0], Nat.le_refl _, fun _ => ⟨rfl, rfl, rfl⟩⟩
  refine ⟨⟨?_, ?_, ?_, ?_, ?_, ?_, ?_, fun k hk => hr.xlt k hk⟩, hS⟩
  · intro d kd hd j x hj
    rcases hcase d kd hd with ⟨rfl, rfl⟩ | ⟨_, h⟩
    · obtain ⟨x0, g1, g2⟩ := hcs j x hj
      obtain ⟨v, h1, h2⟩ := hr.cell d k hb j x0 g1
      exact ⟨v, h1, g2 v h2⟩
    · obtain ⟨v, h1, h2⟩ := hr.cell d kd h j x hj
      exact ⟨v, h1, VR.step hS x v h2⟩
  · intro d kd hd h
    rcases hcase d kd hd with ⟨rfl, rfl⟩ | ⟨_, h'⟩
    · rw [hro', hro] at h; cases h
    · exact hr.vz d kd h' h
  · intro d kd hd h
    rcases hcase d kd hd with ⟨rfl, rfl⟩ | ⟨_, h'⟩
    · exact hr.lt d k hb hro
    · exact hr.lt d kd h' h
  · intro d kd hd h hm
    rcases hcase d kd hd with ⟨rfl, rfl⟩ | ⟨_, h'⟩
    · exact hr.fz d k hb hro hmp
    · exact hr.fz d kd h' h hm
  · intro d kd st l hd hm
    rcases hcase d kd hd with ⟨rfl, rfl⟩ | ⟨_, h'⟩
    · rw [hmp', hmp] at hm; cases hm
    · exact hr.mz d kd st l h' hm
  · intro d d' kd kd' hd hd' h h' hne
    rcases hcase d kd hd with ⟨rfl, rfl⟩ | ⟨_, g⟩
    · rcases hcase d' kd' hd' with ⟨rfl, rfl⟩ | ⟨_, g'⟩
      · exact absurd rfl hne
      · exact hr.uni d d' k kd' hb g' hro h' hne
    · rcases hcase d' kd' hd' with ⟨rfl, rfl⟩ | ⟨_, g'⟩
      · exact hr.uni d d' kd k g hb h hro hne
      · exact hr.uni d d' kd kd' g g' h h' hne
  · intro d kd hd h
    rcases hcase d kd hd with ⟨rfl, rfl⟩ | ⟨_, h'⟩
    · exact hr.nx d k hb hro
    · exact hr.nx d kd h' h
theorem upd_set {H : List Blk} {b : Nat} (h : b < H.length) (k : Blk) : upd (fun d => H[d]?) b (some k) = fun d => (H.set b k)[d]? := by
  funext d
  by_cases e : d = b
  · subst e; simp [upd_same, h]
  · rw [upd_other _ _ e, List.getElem?_set_ne (Ne.symm e)]
/-- A cell that is nil stands as a row of none. -/
theorem Le.virtC {B : Nat} {e : Env} {H : List Blk} (esz : Nat) {b off : Nat} {k : Blk} (hb : H[b]? = some k) (hro : k.ro = false) (hmp : k.mp = none) (hc : k.cs[off]? = some .nil) :
    Le B e H e (H.set b { k with cs := k.cs.set off (.ref H.length 0 0 0) } ++ [⟨0, true, esz, [], none⟩]) := by
  intro c0 c hB hr hH hs
  have hbl : b < H.length := (List.getElem?_eq_some_iff.1 hb).1
  have hol : off < k.cs.length := (List.getElem?_eq_some_iff.1 hc).1
  obtain ⟨h1, h2⟩ := T_avirt hr (n := H.length) (k := ⟨0, true, esz, [], none⟩) (by rw [hH]; exact List.getElem?_eq_none (Nat.le_refl _)) rfl rfl rfl
  have hb1 : (c.avirt H.length ⟨0, true, esz, [], none⟩).H b = some k := by
    simp only [Cx.avirt]
    rw [upd_other _ _ (by omega), hH]
    exact hb
  have hn1 : ∀ k', ((c.avirt H.length ⟨0, true, esz, [], none⟩).row b k').H H.length = some ⟨0, true, esz, [], none⟩ := fun k' => by
    simp only [Cx.row, Cx.avirt]
    rw [upd_other _ _ (by omega), upd_same]
  have hcs : ∀ (j : Nat) (x' : A), (k.cs.set off (.ref H.length 0 0 0))[j]? = some x' → ∃ x : A, k.cs[j]? = some x ∧ ∀ v, VR (c.avirt H.length ⟨0, true, esz, [], none⟩) x v → VR ((c.avirt H.length ⟨0, true, esz, [], none⟩).row b { k with cs := k.cs.set off (.ref H.length 0 0 0) }) x' v := by
    intro j x' hj
    by_cases e : j = off
    · subst e
      simp only [List.getElem?_set_self hol, Option.some.injEq] at hj
      subst hj
      refine ⟨.nil, hc, fun v hv => ?_⟩
      simp only [VR] at hv ⊢
      obtain ⟨a, rfl⟩ := hv
      exact ⟨_, a, 0, hn1 _, Nat.le_refl _, rfl, Nat.le_refl _, fun _ => .inl rfl⟩
    · simp only [List.getElem?_set_ne (Ne.symm e)] at hj
      refine ⟨x', hj, fun v hv => ?_⟩
      have hS : Step (c.avirt H.length ⟨0, true, esz, [], none⟩) ((c.avirt H.length ⟨0, true, esz, [], none⟩).row b { k with cs := k.cs.set off (.ref H.length 0 0 0) }) := by
        refine ⟨rfl, rfl, rfl, Nat.le_refl _, fun _ _ _ => rfl, ?_, ?_, rfl, fun _ h => h, MPers.refl _⟩
        · rintro q ⟨d, blk, z1, z2, z3⟩
          by_cases ed : d = b
          · subst ed; exact .inl ⟨d, k, hb1, hro, z3⟩
          · simp only [Cx.row] at z1
            rw [upd_other _ _ ed] at z1
            exact .inl ⟨d, blk, z1, z2, z3⟩
        · intro d k0 h0
          by_cases ed : d = b
          · subst ed
            rw [hb1] at h0
            cases h0
            exact ⟨{ k with cs := k.cs.set off (.ref H.length 0 0 0) }, by simp only [Cx.row]; rw [upd_same], Nat.le_refl _, fun _ => ⟨rfl, rfl, rfl⟩⟩
          · exact ⟨k0, by simp only [Cx.row]; rw [upd_other _ _ ed]; exact h0, Nat.le_refl _, fun _ => ⟨rfl, rfl, rfl⟩⟩
      exact VR.step hS _ _ hv
  obtain ⟨g1, g2⟩ := T_row (k' := { k with cs := k.cs.set off (.ref H.length 0 0 0) }) h1 hb1 hro hmp rfl rfl rfl rfl hcs
  refine ⟨(c.avirt H.length ⟨0, true, esz, [], none⟩).row b { k with cs := k.cs.set off (.ref H.length 0 0 0) }, rfl, ?_, g1, (hs.trans h2).trans g2, fun a ha t y hy => VR.step g2 _ _ (VR.step h2 _ _ (ha t y hy))⟩
  show upd (upd c.H H.length _) b _ = _
  rw [hH, upd_app]
  rw [upd_set (by rw [List.length_append]; omega), List.set_append_left _ _ hbl]
theorem WLoop_virtC {P : Program} {S : FuncId → Bool} {B : Nat} {c : IC} {Q : Ex → Env → List Blk → Prop} {e : Env} {H : List Blk} (esz : Nat) {b off : Nat} {k : Blk} (hb : H[b]? = some k) (hro : k.ro = false) (hmp : k.mp = none) (hc : k.cs[off]? = some .nil)
    (h : @WLoop' P S B c ⟨Q⟩ e (H.set b { k with cs := k.cs.set off (.ref H.length 0 0 0) } ++ [⟨0, true, esz, [], none⟩])) : @WLoop' P S B c ⟨Q⟩ e H := WLoop_tell (Le.virtC esz hb hro hmp hc) h
end Go.Sym
