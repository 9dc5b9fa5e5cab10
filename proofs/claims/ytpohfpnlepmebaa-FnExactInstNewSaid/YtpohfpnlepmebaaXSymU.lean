/- One state told in two ways: rows left out, numbered anew, told as there where they are not yet. Conditions: those that each theorem names. -/
import Derived.Test.YtpohfpnlepmebaaXSymT
set_option linter.unusedVariables false
set_option linter.unusedSimpArgs false
namespace Go.Sym
open Go.RowKit

/-! ### A row that isn't there yet -/
def Cx.avirt (c : Cx) (n : Nat) (k : Blk) : Cx := ⟨upd c.H n (some k), c.io, c.w, c.X⟩
theorem T_avirt {c : Cx} (hr : RelH c) {n : Nat} {k : Blk} (hn : c.H n = none) (hro : k.ro = true) (hcs : k.cs = []) (hmp : k.mp = none) : RelH (c.avirt n k) ∧ Step c (c.avirt n k) := by
  have hcase : ∀ d kd, (c.avirt n k).H d = some kd → d = n ∧ kd = k ∨ d ≠ n ∧ c.H d = some kd := by
    intro d kd h
    by_cases e : d = n
    · subst e; simp only [Cx.avirt, upd_same, Option.some.injEq] at h; exact .inl ⟨rfl, h.symm⟩
    · simp only [Cx.avirt, upd_other _ _ e] at h; exact .inr ⟨e, h⟩
  have hS : Step c (c.avirt n k) := by
    refine ⟨rfl, rfl, rfl, Nat.le_refl _, fun _ _ _ => rfl, ?_, ?_, rfl, fun _ h => h, MPers.refl _⟩
    · rintro q ⟨d, blk, h1, h2, h3⟩
      rcases hcase d blk h1 with ⟨_, rfl⟩ | ⟨_, h⟩
      · rw [hro] at h2; cases h2
      · exact .inl ⟨d, blk, h, h2, h3⟩
    · intro d k0 h0
      by_cases e : d = n
      · subst e; rw [hn] at h0; cases h0
      · exact ⟨k0, by simp [Cx.avirt, upd_other _ _ e, h0], Nat.le_refl _, fun _ => ⟨rfl, rfl, rfl⟩⟩
  refine ⟨⟨?_, ?_, ?_, ?_, ?_, ?_, ?_, fun k hk => hr.xlt k hk⟩, hS⟩
  · intro d kd hd j x hj
    rcases hcase d kd hd with ⟨_, rfl⟩ | ⟨_, h⟩
    · rw [hcs] at hj; simp at hj
    · obtain ⟨v, h1, h2⟩ := hr.cell d kd h j x hj
      exact ⟨v, h1, VR.step hS x v h2⟩
  · intro d kd hd h
    rcases hcase d kd hd with ⟨_, rfl⟩ | ⟨_, h'⟩
    · exact hcs
    · exact hr.vz d kd h' h
  · intro d kd hd h
    rcases hcase d kd hd with ⟨_, rfl⟩ | ⟨_, h'⟩
    · rw [hro] at h; cases h
    · exact hr.lt d kd h' h
  · intro d kd hd h hm
    rcases hcase d kd hd with ⟨_, rfl⟩ | ⟨_, h'⟩
    · rw [hro] at h; cases h
    · exact hr.fz d kd h' h hm
  · intro d kd st l hd hm
    rcases hcase d kd hd with ⟨_, rfl⟩ | ⟨_, h'⟩
    · rw [hmp] at hm; cases hm
    · exact hr.mz d kd st l h' hm
  · intro d d' kd kd' hd hd' h h' hne
    rcases hcase d kd hd with ⟨_, rfl⟩ | ⟨_, g⟩
    · rw [hro] at h; cases h
    · rcases hcase d' kd' hd' with ⟨_, rfl⟩ | ⟨_, g'⟩
      · rw [hro] at h'; cases h'
      · exact hr.uni d d' kd kd' g g' h h' hne
  · intro d kd hd h
    rcases hcase d kd hd with ⟨_, rfl⟩ | ⟨_, h'⟩
    · rw [hro] at h; cases h
    · exact hr.nx d kd h' h

theorem upd_app (H : List Blk) (k : Blk) : upd (fun b => H[b]?) H.length (some k) = fun b => (H ++ [k])[b]? := by
  funext b
  by_cases e : b = H.length
  · subst e; simp [upd_same]
  · rw [upd_other _ _ e]
    rcases Nat.lt_or_ge b H.length with h | h
    · rw [List.getElem?_append_left h]
    · rw [List.getElem?_append_right h, List.getElem?_eq_none h, List.getElem?_eq_none (by simp; omega)]

/-- At a loop's head: what is nil stands as a row of none. -/
theorem Le.virt {B esz : Nat} {e e' : Env} {H : List Blk} (he : ∀ t y, get e' t = some y → get e t = some y ∨ get e t = some .nil ∧ y = .ref H.length 0 0 0) : Le B e H e' (H ++ [⟨0, true, esz, [], none⟩]) := by
  intro c0 c hB hr hH hs
  obtain ⟨h1, h2⟩ := T_avirt hr (n := H.length) (k := ⟨0, true, esz, [], none⟩) (by rw [hH]; exact List.getElem?_eq_none (Nat.le_refl _)) rfl rfl rfl
  refine ⟨c.avirt H.length ⟨0, true, esz, [], none⟩, rfl, ?_, h1, hs.trans h2, fun a ha t y hy => ?_⟩
  · show upd c.H _ _ = _
    rw [hH, upd_app]
  · rcases he t y hy with h | ⟨h, rfl⟩
    · exact VR.step h2 _ _ (ha t y h)
    · have := ha t _ h
      simp only [VR] at this ⊢
      obtain ⟨ad, h3⟩ := this
      exact ⟨_, ad, 0, by simp [Cx.avirt, upd_same]; rfl, Nat.le_refl _, h3, ⟨Nat.le_refl _, by omega⟩, fun _ => .inl rfl⟩

/-! ### Rows left out at the end -/
mutual
/-- Every row that is named in it has a number below n. -/
def inA (n : Nat) : A → Bool
  | .ref b _ _ _ => decide (b < n)
  | .ptr b _ _ => decide (b < n)
  | .mref b _ => decide (b < n)
  | .stamp b _ _ _ => decide (b < n)
  | .sl _ cs => inAs n cs
  | .pt cs => inAs n cs
  | .fn _ cs => inAs n cs
  | .agg cs => inAs n cs
  | .tup cs => inAs n cs
  | _ => true
def inAs (n : Nat) : List A → Bool
  | [] => true
  | x :: xs => inA n x && inAs n xs
end
def Closed1 (n : Nat) (H : List Blk) : Bool := H.all fun k => inAs n k.cs

def Cx.cut (c : Cx) (n : Nat) : Cx := ⟨fun b => if b < n then c.H b else none, c.io, c.w, c.X⟩
theorem cut_z (c : Cx) (n k : Nat) : (c.cut n).Z k → c.Z k := by
  rintro (h | ⟨b, blk, h1, h2, h3⟩)
  · exact .inl h
  · simp only [Cx.cut] at h1
    split at h1
    · exact .inr ⟨b, blk, h1, h2, h3⟩
    · cases h1
mutual
theorem VR.cut {c : Cx} {n : Nat} : ∀ (x : A) (v : Value), inA n x = true → VR c x v → VR (c.cut n) x v
  | .bool _, _, _, h => h
  | .int _ _, _, _, h => h
  | .str _, _, _, h => h
  | .nil, _, _, h => h
  | .nilp, _, _, h => h
  | .nilf, _, _, h => h
  | .ub, _, _, h => h
  | .err _, _, _, h => h
  | .sl m cs, v, ho, h => by
    simp only [VR] at h ⊢
    obtain ⟨a, cap, rfl, hn, h⟩ := h
    exact ⟨a, cap, rfl, hn, h.imp id fun ⟨ad, vs, h1, h2, h3, h4, h5, h6⟩ => ⟨ad, vs, h1, h2, h3, fun hz => h4 (cut_z c n _ hz), h5, VRs.cut cs vs (by simpa [inA] using ho) h6⟩⟩
  | .pt cs, v, ho, h => by
    simp only [VR] at h ⊢
    obtain ⟨ad, vs, h1, h2, h3, h4, h5, h6⟩ := h
    exact ⟨ad, vs, h1, h2, h3, fun hz => h4 (cut_z c n _ hz), h5, VRs.cut cs vs (by simpa [inA] using ho) h6⟩
  | .ref b ver off m, v, ho, h => by
    simp only [VR] at h ⊢
    obtain ⟨k, a, cap, g1, g⟩ := h
    have hb : b < n := by simpa [inA] using ho
    exact ⟨k, a, cap, by simp [Cx.cut, hb, g1], g⟩
  | .ptr b ver off, v, ho, h => by
    simp only [VR] at h ⊢
    obtain ⟨k, p, g1, g⟩ := h
    have hb : b < n := by simpa [inA] using ho
    exact ⟨k, p, by simp [Cx.cut, hb, g1], g⟩
  | .mref b ver, v, ho, h => by
    simp only [VR] at h ⊢
    obtain ⟨k, p, g1, g⟩ := h
    have hb : b < n := by simpa [inA] using ho
    exact ⟨k, p, by simp [Cx.cut, hb, g1], g⟩
  | .stamp b ver st ks, v, ho, h => by
    simp only [VR] at h ⊢
    obtain ⟨k, s, g1, g⟩ := h
    have hb : b < n := by simpa [inA] using ho
    exact ⟨k, s, by simp [Cx.cut, hb, g1], g⟩
  | .fn f cs, v, ho, h => by
    simp only [VR] at h ⊢
    obtain ⟨vs, h1, h2⟩ := h
    exact ⟨vs, h1, VRs.cut cs _ (by simpa [inA] using ho) h2⟩
  | .agg cs, v, ho, h => by
    simp only [VR] at h ⊢
    obtain ⟨vs, h1, h2⟩ := h
    exact ⟨vs, h1, VRs.cut cs _ (by simpa [inA] using ho) h2⟩
  | .tup cs, v, ho, h => by
    simp only [VR] at h ⊢
    obtain ⟨vs, h1, h2⟩ := h
    exact ⟨vs, h1, VRs.cut cs _ (by simpa [inA] using ho) h2⟩
theorem VRs.cut {c : Cx} {n : Nat} : ∀ (xs : List A) (vs : List Value), inAs n xs = true → VRs c xs vs → VRs (c.cut n) xs vs
  | [], _, _, h => h
  | x :: xs, vs, ho, h => by
    simp only [VRs] at h ⊢
    simp [inAs] at ho
    obtain ⟨v, vs', h1, h2, h3⟩ := h
    exact ⟨v, vs', h1, VR.cut x v ho.1 h2, VRs.cut xs vs' ho.2 h3⟩
end
theorem inAs_mem {n : Nat} : ∀ {xs : List A}, inAs n xs = true → ∀ {j : Nat} {x : A}, xs[j]? = some x → inA n x = true
  | [], _, j, x, h => by simp at h
  | y :: xs, ho, 0, x, h => by simp [inAs] at ho; simp at h; subst h; exact ho.1
  | y :: xs, ho, j + 1, x, h => by simp [inAs] at ho; exact inAs_mem ho.2 (by simpa using h)

theorem T_cut {c0 c : Cx} {B : Nat} {H1 T : List Blk} (hB : ∀ b, B ≤ b → c0.H b = none) (hr : RelH c) (hH : c.H = fun b => (H1 ++ T)[b]?) (hs : Step c0 c) (hlen : B ≤ H1.length) (hcl : Closed1 H1.length H1 = true) :
    (c.cut H1.length).H = (fun b => H1[b]?) ∧ RelH (c.cut H1.length) ∧ Step c0 (c.cut H1.length) := by
  have hin : ∀ b k, (c.cut H1.length).H b = some k → c.H b = some k ∧ b < H1.length := by
    intro b k h
    simp only [Cx.cut] at h
    split at h
    · exact ⟨h, ‹_›⟩
    · cases h
  refine ⟨?_, ⟨?_, ?_, ?_, ?_, ?_, ?_, ?_, hr.xlt⟩, ⟨hs.os, hs.tape, hs.output, hs.size, hs.blk, ?_, ?_, hs.x, hs.cells, hs.maps⟩⟩
  · funext b
    simp only [Cx.cut, hH]
    split
    · rw [List.getElem?_append_left ‹_›]
    · rw [List.getElem?_eq_none (by omega)]
  · intro b k hb j x hj
    obtain ⟨h1, h2⟩ := hin b k hb
    obtain ⟨v, g1, g2⟩ := hr.cell b k h1 j x hj
    refine ⟨v, g1, VR.cut x v ?_ g2⟩
    rw [hH] at h1
    simp only [List.getElem?_append_left h2] at h1
    exact inAs_mem (List.all_eq_true.1 hcl k (List.mem_of_getElem? h1)) hj
  · intro b k hb; exact hr.vz b k (hin b k hb).1
  · intro b k hb; exact hr.lt b k (hin b k hb).1
  · intro b k hb; exact hr.fz b k (hin b k hb).1
  · intro b k st l hb; exact hr.mz b k st l (hin b k hb).1
  · intro b b' k k' hb hb'; exact hr.uni b b' k k' (hin b k hb).1 (hin b' k' hb').1
  · intro b k hb; exact hr.nx b k (hin b k hb).1
  · rintro k ⟨b, blk, h1, h2, h3⟩
    exact hs.own k ⟨b, blk, (hin b blk h1).1, h2, h3⟩
  · intro b k hb
    have hlt : b < H1.length := by
      rcases Nat.lt_or_ge b B with h | h
      · omega
      · rw [hB b h] at hb; cases hb
    obtain ⟨k', h1, h2⟩ := hs.ids b k hb
    exact ⟨k', by simp [Cx.cut, hlt, h1], h2⟩

/-- A result: rows at the end that nothing names are left out. -/
theorem LeV.drop {B : Nat} {r : A} {H1 T : List Blk} (hlen : B ≤ H1.length) (hcl : Closed1 H1.length H1 = true) (hin : inA H1.length r = true) : LeV B r (H1 ++ T) r H1 := by
  intro c0 c hB hr hH hs
  obtain ⟨h1, h2, h3⟩ := T_cut hB hr hH hs hlen hcl
  exact ⟨c.cut H1.length, rfl, h1, h2, h3, fun v hv => VR.cut r v hin hv⟩
def inE (n : Nat) : Env → Bool
  | [] => true
  | (_, x) :: e => inA n x && inE n e
theorem inE_get {n : Nat} : ∀ {e : Env}, inE n e = true → ∀ {t : Nat} {x : A}, get e t = some x → inA n x = true
  | [], _, t, x, h => by simp [Sym.get] at h
  | (s, y) :: e, ho, t, x, h => by
    simp [inE] at ho
    simp only [Sym.get] at h
    split at h
    · cases h; exact ho.1
    · exact inE_get ho.2 h
/-- The same at a loop's head. -/
theorem Le.drop {B : Nat} {e : Env} {H1 T : List Blk} (hlen : B ≤ H1.length) (hcl : Closed1 H1.length H1 = true) (hin : inE H1.length e = true) : Le B e (H1 ++ T) e H1 := by
  intro c0 c hB hr hH hs
  obtain ⟨h1, h2, h3⟩ := T_cut hB hr hH hs hlen hcl
  exact ⟨c.cut H1.length, rfl, h1, h2, h3, fun a ha t x hx => VR.cut x _ (inE_get hin hx) (ha t x hx)⟩
theorem Le.trans {B : Nat} {e e1 e2 : Env} {H H1 H2 : List Blk} (h : Le B e H e1 H1) (g : Le B e1 H1 e2 H2) : Le B e H e2 H2 := by
  intro c0 c hB hr hH hs
  obtain ⟨c1, a1, a2, a3, a4, a5⟩ := h c0 c hB hr hH hs
  obtain ⟨c2, b1, b2, b3, b4, b5⟩ := g c0 c1 hB a3 a2 a4
  exact ⟨c2, b1.trans a1, b2, b3, b4, fun a ha => b5 a (a5 a ha)⟩
theorem LeV.trans {B : Nat} {e e1 e2 : A} {H H1 H2 : List Blk} (h : LeV B e H e1 H1) (g : LeV B e1 H1 e2 H2) : LeV B e H e2 H2 := by
  intro c0 c hB hr hH hs
  obtain ⟨c1, a1, a2, a3, a4, a5⟩ := h c0 c hB hr hH hs
  obtain ⟨c2, b1, b2, b3, b4, b5⟩ := g c0 c1 hB a3 a2 a4
  exact ⟨c2, b1.trans a1, b2, b3, b4, fun a ha => b5 a (a5 a ha)⟩

/-- A loop, its state told in another way ahead of it. -/
theorem WLoop_tell {P : Program} {S : FuncId → Bool} {B : Nat} {c : IC} {Q : Ex → Env → List Blk → Prop} {e e1 : Env} {H H1 : List Blk} (hl : Le B e H e1 H1) (h : @WLoop' P S B c ⟨Q⟩ e1 H1) : @WLoop' P S B c ⟨Q⟩ e H := by
  have key : ∃ e2 H2, Le B e1 H1 e2 H2 ∧ @WC P S B c (@Ex.andThen (@WLoop P S B c Q) Q) e2 H2 :=
    h (fun e1 H1 => ∃ e2 H2, Le B e1 H1 e2 H2 ∧ @WC P S B c (@Ex.andThen (@WLoop P S B c Q) Q) e2 H2) fun e H ⟨e2, H2, g1, g2⟩ =>
      ⟨e2, H2, g1, WC_mono (andThen_mono (fun e H ⟨e3, H3, g3, g4⟩ => WLoop_le g3 g4) (fun _ _ _ x => x)) g2⟩
  obtain ⟨e2, H2, g1, g2⟩ := key
  exact WLoop_le (Q := Q) (hl.trans g1) g2

theorem WLoop_drop {P : Program} {S : FuncId → Bool} {B : Nat} {c : IC} {Q : Ex → Env → List Blk → Prop} {e : Env} {H : List Blk} (H1 T : List Blk) (hH : H = H1 ++ T) (hlen : B ≤ H1.length) (hcl : Closed1 H1.length H1 = true) (hin : inE H1.length e = true)
    (h : @WLoop' P S B c ⟨Q⟩ e H1) : @WLoop' P S B c ⟨Q⟩ e H := by
  subst hH
  exact WLoop_tell (Le.drop hlen hcl hin) h
theorem WLoop_virt {P : Program} {S : FuncId → Bool} {B : Nat} {c : IC} {Q : Ex → Env → List Blk → Prop} {e : Env} {H : List Blk} (esz : Nat) (e' : Env) (he : ∀ t y, get e' t = some y → get e t = some y ∨ get e t = some .nil ∧ y = .ref H.length 0 0 0)
    (h : @WLoop' P S B c ⟨Q⟩ e' (H ++ [⟨0, true, esz, [], none⟩])) : @WLoop' P S B c ⟨Q⟩ e H := WLoop_tell (Le.virt he) h

attribute [simp] inA inAs inE
@[simp] theorem Closed1_nil (n : Nat) : Closed1 n [] = true := rfl
@[simp] theorem Closed1_cons (n : Nat) (k : Blk) (H : List Blk) : Closed1 n (k :: H) = (inAs n k.cs && Closed1 n H) := rfl

theorem inAs_scals {n : Nat} : ∀ (xs : List A), scals xs = true → inAs n xs = true
  | [], _ => rfl
  | x :: xs, h => by
    simp [scals] at h
    have := inAs_scals (n := n) xs h.2
    cases x <;> simp [scal] at h <;> simp [inAs, inA, this]
theorem inAs_app (n : Nat) : ∀ (xs ys : List A), inAs n (xs ++ ys) = (inAs n xs && inAs n ys)
  | [], ys => rfl
  | x :: xs, ys => by simp [inAs, inAs_app n xs ys, Bool.and_assoc]

/-! ### Rows numbered anew, behind a call that was handed none -/
def bv (H : List Blk) (b : Nat) : Option Nat := (H[b]?).map (·.v)
theorem bv_some {H : List Blk} {b v : Nat} (h : bv H b = some v) : ∃ k, H[b]? = some k ∧ k.v = v := by simpa [bv] using h
mutual
/-- What y is of x, where row b' of the new ones is row g b' of the old ones (none: it isn't there yet). -/
def Tell (H H' : List Blk) (g : List (Option Nat)) : A → A → Prop
  | .nil, .nil => True
  | .nil, .ref b' v' o n => o = 0 ∧ n = 0 ∧ bv H' b' = some v'
  | .ref b v o n, .ref b' v' o' n' => o' = o ∧ n' = n ∧ g[b']? = some (some b) ∧ bv H b = some v ∧ bv H' b' = some v'
  | .ptr b v o, .ptr b' v' o' => o' = o ∧ g[b']? = some (some b) ∧ bv H b = some v ∧ bv H' b' = some v'
  | .mref b v, .mref b' v' => g[b']? = some (some b) ∧ bv H b = some v ∧ bv H' b' = some v'
  | .sl n cs, .sl n' cs' => n' = n ∧ cs' = cs ∧ noOwns cs = true
  | .pt cs, .pt cs' => cs' = cs ∧ noOwns cs = true
  | .fn f cs, .fn f' ys => f' = f ∧ Tells H H' g cs ys
  | .agg cs, .agg ys => Tells H H' g cs ys
  | .tup cs, .tup ys => Tells H H' g cs ys
  | .bool a, .bool b => b = a
  | .int k a, .int k' b => k' = k ∧ b = a
  | .str a, .str b => b = a
  | .nilp, .nilp => True
  | .nilf, .nilf => True
  | .ub, .ub => True
  | .err a, .err b => b = a
  | _, _ => False
def Tells (H H' : List Blk) (g : List (Option Nat)) : List A → List A → Prop
  | [], [] => True
  | x :: xs, y :: ys => Tell H H' g x y ∧ Tells H H' g xs ys
  | _, _ => False
end
def TellB (H H' : List Blk) (g : List (Option Nat)) : List (Option Nat) → List Blk → Prop
  | [], [] => True
  | none :: gs, k' :: ks => k'.ro = true ∧ k'.cs = [] ∧ k'.mp = none ∧ TellB H H' g gs ks
  | some b :: gs, k' :: ks => (match H[b]? with | some k => k'.ro = k.ro ∧ k'.esz = k.esz ∧ k'.mp = k.mp ∧ Tells H H' g k.cs k'.cs | none => False) ∧ TellB H H' g gs ks
  | _, _ => False

theorem TellB.get {H H' : List Blk} {g : List (Option Nat)} : ∀ {gs : List (Option Nat)} {ks : List Blk}, TellB H H' g gs ks → ks.length = gs.length ∧ ∀ (j : Nat) (k' : Blk), ks[j]? = some k' →
    (gs[j]? = some none ∧ k'.ro = true ∧ k'.cs = [] ∧ k'.mp = none) ∨ ∃ b k, gs[j]? = some (some b) ∧ H[b]? = some k ∧ k'.ro = k.ro ∧ k'.esz = k.esz ∧ k'.mp = k.mp ∧ Tells H H' g k.cs k'.cs
  | [], [], h => by simp
  | [], _ :: _, h => by simp [TellB] at h
  | none :: gs, [], h => by simp [TellB] at h
  | some _ :: gs, [], h => by simp [TellB] at h
  | none :: gs, k' :: ks', h => by
    simp only [TellB] at h
    obtain ⟨h1, h2, h3, h4⟩ := h
    obtain ⟨i1, i2⟩ := TellB.get h4
    refine ⟨by simp [i1], fun j k hj => ?_⟩
    cases j with
    | zero => simp at hj; subst hj; exact .inl ⟨rfl, h1, h2, h3⟩
    | succ j => exact i2 j k (by simpa using hj)
  | some b :: gs, k' :: ks', h => by
    simp only [TellB] at h
    obtain ⟨h0, h6⟩ := h
    split at h0
    · rename_i k0 h1
      obtain ⟨h2, h3, h4, h5⟩ := h0
      obtain ⟨i1, i2⟩ := TellB.get h6
      refine ⟨by simp [i1], fun j k hj => ?_⟩
      cases j with
      | zero => simp at hj; subst hj; exact .inr ⟨b, k0, rfl, h1, h2, h3, h4, h5⟩
      | succ j => exact i2 j k (by simpa using hj)
    · exact h0.elim

def Cx.tell (c : Cx) (g : List (Option Nat)) (H' : List Blk) : Cx := ⟨fun b => H'[b]?, fun b => match g[b]? with | some (some a) => c.io a | _ => (0, 0), c.w, c.X⟩

theorem tell_own {c : Cx} {H H' : List Blk} {g : List (Option Nat)} (hH : c.H = fun b => H[b]?) (hB : ∀ (j : Nat) (k' : Blk), H'[j]? = some k' →
    (g[j]? = some none ∧ k'.ro = true ∧ k'.cs = [] ∧ k'.mp = none) ∨ ∃ b k, g[j]? = some (some b) ∧ H[b]? = some k ∧ k'.ro = k.ro ∧ k'.esz = k.esz ∧ k'.mp = k.mp ∧ Tells H H' g k.cs k'.cs) (k : Nat) : (c.tell g H').Own k → c.Own k := by
  rintro ⟨b, blk, h1, h2, h3⟩
  rcases hB b blk h1 with ⟨_, h, _⟩ | ⟨b0, k0, g1, g2, g3, _⟩
  · rw [h] at h2; cases h2
  · refine ⟨b0, k0, by rw [hH]; exact g2, by rw [← g3]; exact h2, ?_⟩
    rw [← h3]
    simp [Cx.tell, g1]
theorem tell_z {c : Cx} {H H' : List Blk} {g : List (Option Nat)} (hH : c.H = fun b => H[b]?) (hB : ∀ (j : Nat) (k' : Blk), H'[j]? = some k' →
    (g[j]? = some none ∧ k'.ro = true ∧ k'.cs = [] ∧ k'.mp = none) ∨ ∃ b k, g[j]? = some (some b) ∧ H[b]? = some k ∧ k'.ro = k.ro ∧ k'.esz = k.esz ∧ k'.mp = k.mp ∧ Tells H H' g k.cs k'.cs) (k : Nat) : (c.tell g H').Z k → c.Z k := fun h => h.imp id (tell_own hH hB k)
mutual
theorem VR.tell {c : Cx} {H H' : List Blk} {g : List (Option Nat)} (hH : c.H = fun b => H[b]?) (hB : ∀ (j : Nat) (k' : Blk), H'[j]? = some k' →
    (g[j]? = some none ∧ k'.ro = true ∧ k'.cs = [] ∧ k'.mp = none) ∨ ∃ b k, g[j]? = some (some b) ∧ H[b]? = some k ∧ k'.ro = k.ro ∧ k'.esz = k.esz ∧ k'.mp = k.mp ∧ Tells H H' g k.cs k'.cs) : ∀ (x y : A) (v : Value), Tell H H' g x y → VR c x v → VR (c.tell g H') y v
  | x, y, v, h, hv => by
    cases x with
    | nil =>
      cases y <;> simp only [Tell] at h
      · exact hv
      · obtain ⟨rfl, rfl, h⟩ := h
        obtain ⟨k', h1, h2⟩ := bv_some h
        simp only [VR] at hv ⊢
        obtain ⟨a, rfl⟩ := hv
        exact ⟨k', a, 0, h1, by omega, rfl, ⟨Nat.le_refl _, by omega⟩, fun _ => .inl rfl⟩
    | bool a => cases y <;> simp only [Tell] at h; subst h; exact hv
    | int k a => cases y <;> simp only [Tell] at h; obtain ⟨rfl, rfl⟩ := h; exact hv
    | str a => cases y <;> simp only [Tell] at h; subst h; exact hv
    | nilp => cases y <;> simp only [Tell] at h; exact hv
    | nilf => cases y <;> simp only [Tell] at h; exact hv
    | ub => cases y <;> simp only [Tell] at h; exact hv
    | err a => cases y <;> simp only [Tell] at h; subst h; exact hv
    | stamp _ _ _ _ => cases y <;> simp only [Tell] at h
    | sl m cs =>
      cases y <;> simp only [Tell] at h
      obtain ⟨rfl, rfl, h0⟩ := h
      simp only [VR] at hv ⊢
      obtain ⟨a, cap, rfl, hn, hv⟩ := hv
      exact ⟨a, cap, rfl, hn, hv.imp id fun ⟨ad, vs, h1, h2, h3, h4, h5, h6⟩ => ⟨ad, vs, h1, h2, h3, fun hz => h4 (tell_z hH hB _ hz), h5, VRs.keep hH hB _ vs h0 h6⟩⟩
    | pt cs =>
      cases y <;> simp only [Tell] at h
      obtain ⟨rfl, h0⟩ := h
      simp only [VR] at hv ⊢
      obtain ⟨ad, vs, h1, h2, h3, h4, h5, h6⟩ := hv
      exact ⟨ad, vs, h1, h2, h3, fun hz => h4 (tell_z hH hB _ hz), h5, VRs.keep hH hB _ vs h0 h6⟩
    | ref b ver off m =>
      cases y <;> simp only [Tell] at h
      rename_i b' v' o' n'
      obtain ⟨rfl, rfl, h1, h23, h4⟩ := h
      obtain ⟨k, h2, h3⟩ := bv_some h23
      obtain ⟨k', h4, h5⟩ := bv_some h4
      simp only [VR] at hv ⊢
      obtain ⟨q, a, cap, g1, g2, rfl, gn, g4⟩ := hv
      rw [hH] at g1
      simp only [h2, Option.some.injEq] at g1
      subst g1
      have hio : ∀ o, (c.tell g H').at b' o = c.at b o := fun o => by simp [Cx.at, Cx.tell, h1]
      refine ⟨k', a, cap, h4, by omega, rfl, gn, fun _ => ?_⟩
      rcases hB b' k' h4 with ⟨e1, _⟩ | ⟨b0, k0, e1, e2, e3, e4, _⟩
      · rw [h1] at e1; cases e1
      · rw [h1] at e1
        cases e1
        rw [h2] at e2
        cases e2
        simp only [hio, e3, e4]
        exact g4 h3.symm
    | ptr b ver off =>
      cases y <;> simp only [Tell] at h
      obtain ⟨rfl, h1, h23, h4⟩ := h
      obtain ⟨k, h2, h3⟩ := bv_some h23
      obtain ⟨k', h4, h5⟩ := bv_some h4
      simp only [VR] at hv ⊢
      obtain ⟨q, p, g1, g2, rfl, g4⟩ := hv
      rw [hH] at g1
      simp only [h2, Option.some.injEq] at g1
      subst g1
      exact ⟨k', p, h4, by omega, rfl, fun _ => by rw [g4 h3.symm]; simp [Cx.at, Cx.tell, h1]⟩
    | mref b ver =>
      cases y <;> simp only [Tell] at h
      obtain ⟨h1, h23, h4⟩ := h
      obtain ⟨k, h2, h3⟩ := bv_some h23
      obtain ⟨k', h4, h5⟩ := bv_some h4
      simp only [VR] at hv ⊢
      obtain ⟨q, p, g1, g2, rfl, g4⟩ := hv
      rw [hH] at g1
      simp only [h2, Option.some.injEq] at g1
      subst g1
      exact ⟨k', p, h4, by omega, rfl, fun _ => by rw [g4 h3.symm]; simp [Cx.tell, h1]⟩
    | fn f cs =>
      cases y <;> simp only [Tell] at h
      obtain ⟨rfl, h⟩ := h
      simp only [VR] at hv ⊢
      obtain ⟨vs, h1, h2⟩ := hv
      exact ⟨vs, h1, VRs.tell hH hB cs _ _ h h2⟩
    | agg cs =>
      cases y <;> simp only [Tell] at h
      simp only [VR] at hv ⊢
      obtain ⟨vs, h1, h2⟩ := hv
      exact ⟨vs, h1, VRs.tell hH hB cs _ _ h h2⟩
    | tup cs =>
      cases y <;> simp only [Tell] at h
      simp only [VR] at hv ⊢
      obtain ⟨vs, h1, h2⟩ := hv
      exact ⟨vs, h1, VRs.tell hH hB cs _ _ h h2⟩
theorem VRs.tell {c : Cx} {H H' : List Blk} {g : List (Option Nat)} (hH : c.H = fun b => H[b]?) (hB : ∀ (j : Nat) (k' : Blk), H'[j]? = some k' →
    (g[j]? = some none ∧ k'.ro = true ∧ k'.cs = [] ∧ k'.mp = none) ∨ ∃ b k, g[j]? = some (some b) ∧ H[b]? = some k ∧ k'.ro = k.ro ∧ k'.esz = k.esz ∧ k'.mp = k.mp ∧ Tells H H' g k.cs k'.cs) : ∀ (xs ys : List A) (vs : List Value), Tells H H' g xs ys → VRs c xs vs → VRs (c.tell g H') ys vs
  | [], [], vs, h, hv => hv
  | [], _ :: _, vs, h, hv => by simp [Tells] at h
  | _ :: _, [], vs, h, hv => by simp [Tells] at h
  | x :: xs, y :: ys', vs, h, hv => by
    simp only [Tells] at h
    obtain ⟨h1, h2⟩ := h
    simp only [VRs] at hv ⊢
    obtain ⟨v, vs', e, g1, g2⟩ := hv
    exact ⟨v, vs', e, VR.tell hH hB x y v h1 g1, VRs.tell hH hB xs ys' vs' h2 g2⟩
theorem VR.keep {c : Cx} {H H' : List Blk} {g : List (Option Nat)} (hH : c.H = fun b => H[b]?) (hB : ∀ (j : Nat) (k' : Blk), H'[j]? = some k' →
    (g[j]? = some none ∧ k'.ro = true ∧ k'.cs = [] ∧ k'.mp = none) ∨ ∃ b k, g[j]? = some (some b) ∧ H[b]? = some k ∧ k'.ro = k.ro ∧ k'.esz = k.esz ∧ k'.mp = k.mp ∧ Tells H H' g k.cs k'.cs) : ∀ (x : A) (v : Value), noOwn x = true → VR c x v → VR (c.tell g H') x v
  | .bool _, _, _, h => h
  | .int _ _, _, _, h => h
  | .str _, _, _, h => h
  | .nil, _, _, h => h
  | .nilp, _, _, h => h
  | .nilf, _, _, h => h
  | .ub, _, _, h => h
  | .err _, _, _, h => h
  | .sl n cs, v, ho, h => by
    simp only [VR] at h ⊢
    obtain ⟨a, cap, rfl, hn, h⟩ := h
    exact ⟨a, cap, rfl, hn, h.imp id fun ⟨ad, vs, h1, h2, h3, h4, h5, h6⟩ => ⟨ad, vs, h1, h2, h3, fun hz => h4 (tell_z hH hB _ hz), h5, VRs.keep hH hB cs vs (by simpa [noOwn] using ho) h6⟩⟩
  | .pt cs, v, ho, h => by
    simp only [VR] at h ⊢
    obtain ⟨ad, vs, h1, h2, h3, h4, h5, h6⟩ := h
    exact ⟨ad, vs, h1, h2, h3, fun hz => h4 (tell_z hH hB _ hz), h5, VRs.keep hH hB cs vs (by simpa [noOwn] using ho) h6⟩
  | .ref _ _ _ _, _, ho, _ => by simp [noOwn] at ho
  | .ptr _ _ _, _, ho, _ => by simp [noOwn] at ho
  | .mref _ _, _, ho, _ => by simp [noOwn] at ho
  | .stamp _ _ _ _, _, ho, _ => by simp [noOwn] at ho
  | .fn f cs, v, ho, h => by
    simp only [VR] at h ⊢
    obtain ⟨vs, h1, h2⟩ := h
    exact ⟨vs, h1, VRs.keep hH hB cs _ (by simpa [noOwn] using ho) h2⟩
  | .agg cs, v, ho, h => by
    simp only [VR] at h ⊢
    obtain ⟨vs, h1, h2⟩ := h
    exact ⟨vs, h1, VRs.keep hH hB cs _ (by simpa [noOwn] using ho) h2⟩
  | .tup cs, v, ho, h => by
    simp only [VR] at h ⊢
    obtain ⟨vs, h1, h2⟩ := h
    exact ⟨vs, h1, VRs.keep hH hB cs _ (by simpa [noOwn] using ho) h2⟩
theorem VRs.keep {c : Cx} {H H' : List Blk} {g : List (Option Nat)} (hH : c.H = fun b => H[b]?) (hB : ∀ (j : Nat) (k' : Blk), H'[j]? = some k' →
    (g[j]? = some none ∧ k'.ro = true ∧ k'.cs = [] ∧ k'.mp = none) ∨ ∃ b k, g[j]? = some (some b) ∧ H[b]? = some k ∧ k'.ro = k.ro ∧ k'.esz = k.esz ∧ k'.mp = k.mp ∧ Tells H H' g k.cs k'.cs) : ∀ (xs : List A) (vs : List Value), noOwns xs = true → VRs c xs vs → VRs (c.tell g H') xs vs
  | [], _, _, h => h
  | x :: xs, vs, ho, h => by
    simp only [VRs] at h ⊢
    simp [noOwns] at ho
    obtain ⟨v, vs', h1, h2, h3⟩ := h
    exact ⟨v, vs', h1, VR.keep hH hB x v ho.1 h2, VRs.keep hH hB xs vs' ho.2 h3⟩
end

theorem VRs.get' {c : Cx} {xs : List A} {vs : List Value} (h : VRs c xs vs) {j : Nat} {v : Value} (hj : vs[j]? = some v) : ∃ x, xs[j]? = some x ∧ VR c x v := by
  have hl := h.length
  have hjl : j < xs.length := by rw [← hl]; exact (List.getElem?_eq_some_iff.1 hj).1
  obtain ⟨u, h1, h2⟩ := h.get (List.getElem?_eq_getElem hjl)
  rw [hj] at h1
  cases h1
  exact ⟨_, List.getElem?_eq_getElem hjl, h2⟩

/-- A result, its rows numbered anew. -/
theorem LeV.tell {r r' : A} {H H' : List Blk} (g : List (Option Nat)) (hg : (g.filterMap id).Nodup) (hT : TellB H H' g g H') (hr' : Tell H H' g r r') : LeV 0 r H r' H' := by
  intro c0 c hB hr hH hs
  obtain ⟨hlen, hget⟩ := TellB.get hT
  have hinj : ∀ (a b q : Nat), g[a]? = some (some q) → g[b]? = some (some q) → a = b := by
    have key : ∀ (g : List (Option Nat)), (g.filterMap id).Nodup → ∀ (a b q : Nat), g[a]? = some (some q) → g[b]? = some (some q) → a = b := by
      intro g
      induction g with
      | nil => intro _ a b q h; simp at h
      | cons x g ih =>
        intro hn a b q ha hb
        have hmem : ∀ j, g[j]? = some (some q) → q ∈ g.filterMap id := fun j hj => List.mem_filterMap.2 ⟨some q, List.mem_of_getElem? hj, rfl⟩
        have hn' : (g.filterMap id).Nodup := by
          cases x with
          | none => simpa using hn
          | some x => simp at hn; exact hn.2
        cases a with
        | zero =>
          cases b with
          | zero => rfl
          | succ b =>
            simp at ha
            subst ha
            simp at hn
            exact absurd (hmem b (by simpa using hb)) (by simpa using hn.1)
        | succ a =>
          cases b with
          | zero =>
            simp at hb
            subst hb
            simp at hn
            exact absurd (hmem a (by simpa using ha)) (by simpa using hn.1)
          | succ b => rw [ih hn' a b q (by simpa using ha) (by simpa using hb)]
    exact key g hg
  refine ⟨c.tell g H', rfl, rfl, ⟨?_, ?_, ?_, ?_, ?_, ?_, ?_, hr.xlt⟩, ⟨hs.os, hs.tape, hs.output, hs.size, hs.blk, fun k hk => hs.own k (tell_own hH hget k hk), fun b k hb => (by rw [hB b (Nat.zero_le _)] at hb; cases hb), hs.x, hs.cells, hs.maps⟩, fun v hv => VR.tell hH hget r r' v hr' hv⟩
  · intro b k hb j y hj
    rcases hget b k hb with ⟨_, _, h, _⟩ | ⟨b0, k0, g1, g2, g3, g4, g5, g6⟩
    · rw [h] at hj; simp at hj
    · obtain ⟨vs, i1, i2⟩ := rowVals hr (b := b0) (k := k0) (by rw [hH]; exact g2)
      have i3 := VRs.tell hH hget _ _ _ g6 i2
      obtain ⟨v, e1, e2⟩ := i3.get hj
      refine ⟨v, ?_, e2⟩
      have := i1 j v e1
      simp only [Cx.at, Nat.add_zero] at this
      simpa [Cx.at, Cx.tell, g1] using this
  · intro b k hb hro
    rcases hget b k hb with ⟨_, _, h, _⟩ | ⟨b0, k0, g1, g2, g3, g4, g5, g6⟩
    · exact h
    · have := hr.vz b0 k0 (by rw [hH]; exact g2) (by rw [← g3]; exact hro)
      rw [this] at g6
      revert g6
      cases k.cs <;> simp [Tells]
  · intro b k hb hro
    rcases hget b k hb with ⟨_, h, _⟩ | ⟨b0, k0, g1, g2, g3, g4, g5, g6⟩
    · rw [h] at hro; cases hro
    · have := hr.lt b0 k0 (by rw [hH]; exact g2) (by rw [← g3]; exact hro)
      simpa [Cx.tell, g1] using this
  · intro b k hb hro hmp
    rcases hget b k hb with ⟨_, h, _⟩ | ⟨b0, k0, g1, g2, g3, g4, g5, g6⟩
    · rw [h] at hro; cases hro
    · have := hr.fz b0 k0 (by rw [hH]; exact g2) (by rw [← g3]; exact hro) (by rw [← g5]; exact hmp)
      simpa [Cx.tell, g1] using this
  · intro b k st l hb hmp
    rcases hget b k hb with ⟨_, _, _, h⟩ | ⟨b0, k0, g1, g2, g3, g4, g5, g6⟩
    · rw [h] at hmp; cases hmp
    · obtain ⟨m1, m2, m3⟩ := hr.mz b0 k0 st l (by rw [hH]; exact g2) (by rw [← g5]; exact hmp)
      rw [m2] at g6
      refine ⟨by rw [g3, m1], by revert g6; cases k.cs <;> simp [Tells], ?_⟩
      simpa [Cx.tell, g1] using m3
  · intro b b' k k' hb hb' hro hro' hne
    rcases hget b k hb with ⟨_, h, _⟩ | ⟨b0, k0, g1, g2, g3, g4, g5, g6⟩
    · rw [h] at hro; cases hro
    · rcases hget b' k' hb' with ⟨_, h, _⟩ | ⟨b0', k0', g1', g2', g3', g4', g5', g6'⟩
      · rw [h] at hro'; cases hro'
      · have := hr.uni b0 b0' k0 k0' (by rw [hH]; exact g2) (by rw [hH]; exact g2') (by rw [← g3]; exact hro) (by rw [← g3']; exact hro') (fun e => hne (hinj b b' b0 g1 (by rw [e]; exact g1')))
        simpa [Cx.tell, g1, g1'] using this
  · intro b k hb hro
    rcases hget b k hb with ⟨_, h, _⟩ | ⟨b0, k0, g1, g2, g3, g4, g5, g6⟩
    · rw [h] at hro; cases hro
    · have := hr.nx b0 k0 (by rw [hH]; exact g2) (by rw [← g3]; exact hro)
      simpa [Cx.tell, g1] using this

theorem Tells_scals {H H' : List Blk} {g : List (Option Nat)} : ∀ (xs : List A), scals xs = true → Tells H H' g xs xs
  | [], _ => by simp [Tells]
  | x :: xs, h => by
    simp [scals] at h
    have := Tells_scals (H := H) (H' := H') (g := g) xs h.2
    cases x <;> simp [scal] at h <;> exact ⟨by simp [Tell], this⟩
attribute [simp] Tell Tells TellB bv

/-! ### Rows at a list's end -/
@[simp] theorem last_get {α : Type} (G : List α) (x : α) : (G ++ [x])[G.length]? = some x := by simp
@[simp] theorem last_set {α : Type} (G : List α) (x y : α) : (G ++ [x]).set G.length y = G ++ [y] := by simp
theorem get_left {α : Type} {G T : List α} {b : Nat} (h : b < G.length) : (G ++ T)[b]? = G[b]? := List.getElem?_append_left h
theorem set_left {α : Type} {G T : List α} {b : Nat} (h : b < G.length) (x : α) : (G ++ T).set b x = G.set b x ++ T := List.set_append_left _ _ h
theorem set_drop {α : Type} : ∀ (cs : List α) (off : Nat) (x : α), off < cs.length → (cs.set off x).drop off = x :: cs.drop (off + 1)
  | [], off, x, h => by simp at h
  | c :: cs, 0, x, h => by simp
  | c :: cs, off + 1, x, h => by simpa using set_drop cs off x (by simpa using h)
theorem inAs_set {n : Nat} {x : A} (hx : inA n x = true) : ∀ (cs : List A) (off : Nat), inAs n cs = true → inAs n (cs.set off x) = true
  | [], off, h => by simp
  | c :: cs, 0, h => by simp [inAs] at h ⊢; exact ⟨hx, h.2⟩
  | c :: cs, off + 1, h => by simp [inAs] at h ⊢; exact ⟨h.1, inAs_set hx cs off h.2⟩
theorem Closed1_set {n : Nat} {k : Blk} (hk : inAs n k.cs = true) : ∀ (H : List Blk) (b : Nat), Closed1 n H = true → Closed1 n (H.set b k) = true
  | [], b, h => by simp
  | c :: cs, 0, h => by simp at h ⊢; exact ⟨hk, h.2⟩
  | c :: cs, b + 1, h => by simp at h ⊢; exact ⟨h.1, Closed1_set hk cs b h.2⟩
end Go.Sym
