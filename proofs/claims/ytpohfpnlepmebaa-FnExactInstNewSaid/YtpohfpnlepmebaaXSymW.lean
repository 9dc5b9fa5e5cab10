/- More ways to tell one state: a cell that is nil, told as a row of none; places that nobody reads. Conditions: those that each theorem names. -/
import Derived.Test.YtpohfpnlepmebaaXSymU
set_option linter.unusedVariables false
set_option linter.unusedSimpArgs false
namespace Go.Sym
open Go.RowKit
/-- At a loop's head: places that nobody reads are left out. -/
theorem WLoop_env {P : Program} {S : FuncId → Bool} {B : Nat} {c : IC} {Q : Ex → Env → List Blk → Prop} {e : Env} {H : List Blk} (e' : Env) (he : ∀ t y, get e' t = some y → get e t = some y) (h : @WLoop' P S B c ⟨Q⟩ e' H) : @WLoop' P S B c ⟨Q⟩ e H :=
  WLoop_tell (fun c0 c _ hr hH hs => ⟨c, rfl, hH, hr, hs, fun _ ha t y hy => ha t y (he t y hy)⟩) h
/-- A row's cells, told in another way that fits whatever fitted. -/
def Cx.row (c : Cx) (b : Nat) (k : Blk) : Cx := ⟨upd c.H b (some k), c.io, c.w, c.X⟩
theorem T_row {c : Cx} (hr : RelH c) {b : Nat} {k k' : Blk} (hb : c.H b = some k) (hro : k.ro = false) (hmp : k.mp = none) (hv : k'.v = k.v) (hro' : k'.ro = k.ro) (hes : k'.esz = k.esz) (hmp' : k'.mp = k.mp)
    (hcs : ∀ (j : Nat) (x' : A), k'.cs[j]? = some x' → ∃ x : A, k.cs[j]? = some x ∧ ∀ v, VR c x v → VR (c.row b k') x' v) : RelH (c.row b k') ∧ Step c (c.row b k') := by
  have hcase : ∀ d kd, (c.row b k').H d = some kd → d = b ∧ kd = k' ∨ d ≠ b ∧ c.H d = some kd := by
    intro d kd h
    by_cases e : d = b
    · subst e; simp only [Cx.row, upd_same, Option.some.injEq] at h; exact .inl ⟨rfl, h.symm⟩
    · simp only [Cx.row, upd_other _ _ e] at h; exact .inr ⟨e, h⟩
  have hS : Step c (c.row b k') := by
    refine ⟨rfl, rfl, rfl, Nat.le_refl _, fun _ _ _ => rfl, ?_, ?_, rfl, fun _ h => h, MPers.refl _⟩
    · rintro q ⟨d, blk, h1, h2, h3⟩
      rcases hcase d blk h1 with ⟨rfl, rfl⟩ | ⟨_, h⟩
      · exact .inl ⟨d, k, hb, hro, h3⟩
      · exact .inl ⟨d, blk, h, h2, h3⟩
    · intro d k0 h0
      by_cases e : d = b
      · subst e
        rw [hb] at h0
        cases h0
        exact ⟨k', by simp [Cx.row, upd_same], by omega, fun _ => ⟨rfl, hes, hro'⟩⟩
      · exact ⟨k0, by simp [Cx.row, upd_other _ _ e, h0], Nat.le_refl _, fun _ => ⟨rfl, rfl, rfl⟩⟩
  refine ⟨⟨?_, ?_, ?_, ?_, ?_, ?_, ?_, fun k hk => hr.xlt k hk⟩, hS⟩
  · intro d kd hd j x hj
    rcases hcase d kd hd with ⟨rfl, rfl⟩ | ⟨_, h⟩
    · obtain ⟨x0, g1, g2⟩ := hcs j x hj
      obtain ⟨v, h1, h2⟩ := hr.cell d k hb j x0 g1
      exact ⟨v, h1, g2 v h2⟩
    · obtain ⟨v, h1, h2⟩ := hr.cell d kd h j x hj
      exact ⟨v, h1, VR.step hS x v h2⟩
  · intro d kd hd h
    rcases hcase d kd hd with ⟨rfl, rfl⟩ | ⟨_, h'⟩
    · rw [hro', hro] at h; cases h
    · exact hr.vz d kd h' h
  · intro d kd hd h
    rcases hcase d kd hd with ⟨rfl, rfl⟩ | ⟨_, h'⟩
    · exact hr.lt d k hb hro
    · exact hr.lt d kd h' h
  · intro d kd hd h hm
    rcases hcase d kd hd with ⟨rfl, rfl⟩ | ⟨_, h'⟩
    · exact hr.fz d k hb hro hmp
    · exact hr.fz d kd h' h hm
  · intro d kd st l hd hm
    rcases hcase d kd hd with ⟨rfl, rfl⟩ | ⟨_, h'⟩
    · rw [hmp', hmp] at hm; cases hm
    · exact hr.mz d kd st l h' hm
  · intro d d' kd kd' hd hd' h h' hne
    rcases hcase d kd hd with ⟨rfl, rfl⟩ | ⟨_, g⟩
    · rcases hcase d' kd' hd' with ⟨rfl, rfl⟩ | ⟨_, g'⟩
      · exact absurd rfl hne
      · exact hr.uni d d' k kd' hb g' hro h' hne
    · rcases hcase d' kd' hd' with ⟨rfl, rfl⟩ | ⟨_, g'⟩
      · exact hr.uni d d' kd k g hb h hro hne
      · exact hr.uni d d' kd kd' g g' h h' hne
  · intro d kd hd h
    rcases hcase d kd hd with ⟨rfl, rfl⟩ | ⟨_, h'⟩
    · exact hr.nx d k hb hro
    · exact hr.nx d kd h' h
theorem upd_set {H : List Blk} {b : Nat} (h : b < H.length) (k : Blk) : upd (fun d => H[d]?) b (some k) = fun d => (H.set b k)[d]? := by
  funext d
  by_cases e : d = b
  · subst e; simp [upd_same, h]
  · rw [upd_other _ _ e, List.getElem?_set_ne (Ne.symm e)]
/-- A cell that is nil stands as a row of none. -/
theorem Le.virtC {B : Nat} {e : Env} {H : List Blk} (esz : Nat) {b off : Nat} {k : Blk} (hb : H[b]? = some k) (hro : k.ro = false) (hmp : k.mp = none) (hc : k.cs[off]? = some .nil) :
    Le B e H e (H.set b { k with cs := k.cs.set off (.ref H.length 0 0 0) } ++ [⟨0, true, esz, [], none⟩]) := by
  intro c0 c hB hr hH hs
  have hbl : b < H.length := (List.getElem?_eq_some_iff.1 hb).1
  have hol : off < k.cs.length := (List.getElem?_eq_some_iff.1 hc).1
  obtain ⟨h1, h2⟩ := T_avirt hr (n := H.length) (k := ⟨0, true, esz, [], none⟩) (by rw [hH]; exact List.getElem?_eq_none (Nat.le_refl _)) rfl rfl rfl
  have hb1 : (c.avirt H.length ⟨0, true, esz, [], none⟩).H b = some k := by
    simp only [Cx.avirt]
    rw [upd_other _ _ (by omega), hH]
    exact hb
  have hn1 : ∀ k', ((c.avirt H.length ⟨0, true, esz, [], none⟩).row b k').H H.length = some ⟨0, true, esz, [], none⟩ := fun k' => by
    simp only [Cx.row, Cx.avirt]
    rw [upd_other _ _ (by omega), upd_same]
  have hcs : ∀ (j : Nat) (x' : A), (k.cs.set off (.ref H.length 0 0 0))[j]? = some x' → ∃ x : A, k.cs[j]? = some x ∧ ∀ v, VR (c.avirt H.length ⟨0, true, esz, [], none⟩) x v → VR ((c.avirt H.length ⟨0, true, esz, [], none⟩).row b { k with cs := k.cs.set off (.ref H.length 0 0 0) }) x' v := by
    intro j x' hj
    by_cases e : j = off
    · subst e
      simp only [List.getElem?_set_self hol, Option.some.injEq] at hj
      subst hj
      refine ⟨.nil, hc, fun v hv => ?_⟩
      simp only [VR] at hv ⊢
      obtain ⟨a, rfl⟩ := hv
      exact ⟨_, a, 0, hn1 _, Nat.le_refl _, rfl, ⟨Nat.le_refl _, by omega⟩, fun _ => .inl rfl⟩
    · simp only [List.getElem?_set_ne (Ne.symm e)] at hj
      refine ⟨x', hj, fun v hv => ?_⟩
      have hS : Step (c.avirt H.length ⟨0, true, esz, [], none⟩) ((c.avirt H.length ⟨0, true, esz, [], none⟩).row b { k with cs := k.cs.set off (.ref H.length 0 0 0) }) := by
        refine ⟨rfl, rfl, rfl, Nat.le_refl _, fun _ _ _ => rfl, ?_, ?_, rfl, fun _ h => h, MPers.refl _⟩
        · rintro q ⟨d, blk, z1, z2, z3⟩
          by_cases ed : d = b
          · subst ed; exact .inl ⟨d, k, hb1, hro, z3⟩
          · simp only [Cx.row] at z1
            rw [upd_other _ _ ed] at z1
            exact .inl ⟨d, blk, z1, z2, z3⟩
        · intro d k0 h0
          by_cases ed : d = b
          · subst ed
            rw [hb1] at h0
            cases h0
            exact ⟨{ k with cs := k.cs.set off (.ref H.length 0 0 0) }, by simp only [Cx.row]; rw [upd_same], Nat.le_refl _, fun _ => ⟨rfl, rfl, rfl⟩⟩
          · exact ⟨k0, by simp only [Cx.row]; rw [upd_other _ _ ed]; exact h0, Nat.le_refl _, fun _ => ⟨rfl, rfl, rfl⟩⟩
      exact VR.step hS _ _ hv
  obtain ⟨g1, g2⟩ := T_row (k' := { k with cs := k.cs.set off (.ref H.length 0 0 0) }) h1 hb1 hro hmp rfl rfl rfl rfl hcs
  refine ⟨(c.avirt H.length ⟨0, true, esz, [], none⟩).row b { k with cs := k.cs.set off (.ref H.length 0 0 0) }, rfl, ?_, g1, (hs.trans h2).trans g2, fun a ha t y hy => VR.step g2 _ _ (VR.step h2 _ _ (ha t y hy))⟩
  show upd (upd c.H H.length _) b _ = _
  rw [hH, upd_app]
  rw [upd_set (by rw [List.length_append]; omega), List.set_append_left _ _ hbl]
theorem WLoop_virtC {P : Program} {S : FuncId → Bool} {B : Nat} {c : IC} {Q : Ex → Env → List Blk → Prop} {e : Env} {H : List Blk} (esz : Nat) {b off : Nat} {k : Blk} (hb : H[b]? = some k) (hro : k.ro = false) (hmp : k.mp = none) (hc : k.cs[off]? = some .nil)
    (h : @WLoop' P S B c ⟨Q⟩ e (H.set b { k with cs := k.cs.set off (.ref H.length 0 0 0) } ++ [⟨0, true, esz, [], none⟩])) : @WLoop' P S B c ⟨Q⟩ e H := WLoop_tell (Le.virtC esz hb hro hmp hc) h

/-- What an environment tells, told in another's words. -/
def tellO (H H' : List Blk) (g : List (Option Nat)) (o : Option A) (y : A) : Prop := match o with | some x => Tell H H' g x y | none => False
@[simp] theorem tellO_s (H H' : List Blk) (g : List (Option Nat)) (x y : A) : tellO H H' g (some x) y = Tell H H' g x y := rfl
def TellE (H H' : List Blk) (g : List (Option Nat)) (e : Env) : Env → Prop
  | [] => True
  | (t, y) :: e' => tellO H H' g (get e t) y ∧ TellE H H' g e e'
@[simp] theorem TellE_nil (H H' : List Blk) (g : List (Option Nat)) (e : Env) : TellE H H' g e [] = True := rfl
@[simp] theorem TellE_cons (H H' : List Blk) (g : List (Option Nat)) (e e' : Env) (t : Nat) (y : A) : TellE H H' g e ((t, y) :: e') = (tellO H H' g (get e t) y ∧ TellE H H' g e e') := rfl
theorem TellE.get {H H' : List Blk} {g : List (Option Nat)} {e : Env} : ∀ {e' : Env}, TellE H H' g e e' → ∀ {t : Nat} {y : A}, Sym.get e' t = some y → ∃ x, Sym.get e t = some x ∧ Tell H H' g x y
  | [], _, t, y, h => by simp [Sym.get] at h
  | (s, z) :: e', he, t, y, h => by
    simp only [TellE] at he
    simp only [Sym.get] at h
    split at h
    · rename_i e1
      cases h
      subst e1
      have h1 := he.1
      unfold tellO at h1
      split at h1
      · rename_i x hx; exact ⟨x, hx, h1⟩
      · exact h1.elim
    · exact TellE.get he.2 h
/-- At a loop's head: rows numbered anew. -/
theorem Le.tell {e e' : Env} {H H' : List Blk} (g : List (Option Nat)) (hg : (g.filterMap id).Nodup) (hT : TellB H H' g g H') (he : TellE H H' g e e') : Le 0 e H e' H' := by
  intro c0 c hB hr hH hs
  obtain ⟨hlen, hget⟩ := TellB.get hT
  have hinj : ∀ (a b q : Nat), g[a]? = some (some q) → g[b]? = some (some q) → a = b := by
    have key : ∀ (g : List (Option Nat)), (g.filterMap id).Nodup → ∀ (a b q : Nat), g[a]? = some (some q) → g[b]? = some (some q) → a = b := by
      intro g
      induction g with
      | nil => intro _ a b q h; simp at h
      | cons x g ih =>
        intro hn a b q ha hb
        have hmem : ∀ j, g[j]? = some (some q) → q ∈ g.filterMap id := fun j hj => List.mem_filterMap.2 ⟨some q, List.mem_of_getElem? hj, rfl⟩
        have hn' : (g.filterMap id).Nodup := by
          cases x with
          | none => simpa using hn
          | some x => simp at hn; exact hn.2
        cases a with
        | zero =>
          cases b with
          | zero => rfl
          | succ b =>
            simp at ha
            subst ha
            simp at hn
            exact absurd (hmem b (by simpa using hb)) (by simpa using hn.1)
        | succ a =>
          cases b with
          | zero =>
            simp at hb
            subst hb
            simp at hn
            exact absurd (hmem a (by simpa using ha)) (by simpa using hn.1)
          | succ b => rw [ih hn' a b q (by simpa using ha) (by simpa using hb)]
    exact key g hg
  refine ⟨c.tell g H', rfl, rfl, ⟨?_, ?_, ?_, ?_, ?_, ?_, ?_, hr.xlt⟩, ⟨hs.os, hs.tape, hs.output, hs.size, hs.blk, fun k hk => hs.own k (tell_own hH hget k hk), fun b k hb => (by rw [hB b (Nat.zero_le _)] at hb; cases hb), hs.x, hs.cells, hs.maps⟩, fun a ha t y hy => (by
    obtain ⟨x, e1, e2⟩ := TellE.get he hy
    exact VR.tell hH hget x y _ e2 (ha t x e1))⟩
  · intro b k hb j y hj
    rcases hget b k hb with ⟨_, _, h, _⟩ | ⟨b0, k0, g1, g2, g3, g4, g5, g6⟩
    · rw [h] at hj; simp at hj
    · obtain ⟨vs, i1, i2⟩ := rowVals hr (b := b0) (k := k0) (by rw [hH]; exact g2)
      have i3 := VRs.tell hH hget _ _ _ g6 i2
      obtain ⟨v, e1, e2⟩ := i3.get hj
      refine ⟨v, ?_, e2⟩
      have := i1 j v e1
      simp only [Cx.at, Nat.add_zero] at this
      simpa [Cx.at, Cx.tell, g1] using this
  · intro b k hb hro
    rcases hget b k hb with ⟨_, _, h, _⟩ | ⟨b0, k0, g1, g2, g3, g4, g5, g6⟩
    · exact h
    · have := hr.vz b0 k0 (by rw [hH]; exact g2) (by rw [← g3]; exact hro)
      rw [this] at g6
      revert g6
      cases k.cs <;> simp [Tells]
  · intro b k hb hro
    rcases hget b k hb with ⟨_, h, _⟩ | ⟨b0, k0, g1, g2, g3, g4, g5, g6⟩
    · rw [h] at hro; cases hro
    · have := hr.lt b0 k0 (by rw [hH]; exact g2) (by rw [← g3]; exact hro)
      simpa [Cx.tell, g1] using this
  · intro b k hb hro hmp
    rcases hget b k hb with ⟨_, h, _⟩ | ⟨b0, k0, g1, g2, g3, g4, g5, g6⟩
    · rw [h] at hro; cases hro
    · have := hr.fz b0 k0 (by rw [hH]; exact g2) (by rw [← g3]; exact hro) (by rw [← g5]; exact hmp)
      simpa [Cx.tell, g1] using this
  · intro b k st l hb hmp
    rcases hget b k hb with ⟨_, _, _, h⟩ | ⟨b0, k0, g1, g2, g3, g4, g5, g6⟩
    · rw [h] at hmp; cases hmp
    · obtain ⟨m1, m2, m3⟩ := hr.mz b0 k0 st l (by rw [hH]; exact g2) (by rw [← g5]; exact hmp)
      rw [m2] at g6
      refine ⟨by rw [g3, m1], by revert g6; cases k.cs <;> simp [Tells], ?_⟩
      simpa [Cx.tell, g1] using m3
  · intro b b' k k' hb hb' hro hro' hne
    rcases hget b k hb with ⟨_, h, _⟩ | ⟨b0, k0, g1, g2, g3, g4, g5, g6⟩
    · rw [h] at hro; cases hro
    · rcases hget b' k' hb' with ⟨_, h, _⟩ | ⟨b0', k0', g1', g2', g3', g4', g5', g6'⟩
      · rw [h] at hro'; cases hro'
      · have := hr.uni b0 b0' k0 k0' (by rw [hH]; exact g2) (by rw [hH]; exact g2') (by rw [← g3]; exact hro) (by rw [← g3']; exact hro') (fun e => hne (hinj b b' b0 g1 (by rw [e]; exact g1')))
        simpa [Cx.tell, g1, g1'] using this
  · intro b k hb hro
    rcases hget b k hb with ⟨_, h, _⟩ | ⟨b0, k0, g1, g2, g3, g4, g5, g6⟩
    · rw [h] at hro; cases hro
    · have := hr.nx b0 k0 (by rw [hH]; exact g2) (by rw [← g3]; exact hro)
      simpa [Cx.tell, g1] using this


theorem WLoop_ren {P : Program} {S : FuncId → Bool} {c : IC} {Q : Ex → Env → List Blk → Prop} {e : Env} {H : List Blk} (g : List (Option Nat)) (e' : Env) (H' : List Blk) (hg : (g.filterMap id).Nodup) (hT : TellB H H' g g H') (he : TellE H H' g e e')
    (h : @WLoop' P S 0 c ⟨Q⟩ e' H') : @WLoop' P S 0 c ⟨Q⟩ e H := WLoop_tell (Le.tell g hg hT he) h
end Go.Sym
