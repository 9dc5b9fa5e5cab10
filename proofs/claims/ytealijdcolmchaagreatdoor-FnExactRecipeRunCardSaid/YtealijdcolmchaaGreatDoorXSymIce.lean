/- The last row is frozen: what names it is told as a view, in the result and in the other rows. Conditions: those that each theorem names. -/
import Derived.Test.YtealijdcolmchaaGreatDoorXSymX
set_option linter.unusedVariables false
set_option linter.unusedSimpArgs false
set_option linter.unusedSectionVars false
namespace Go.Sym
open Go.RowKit
mutual
/-- What y is of x, where row n (k) is frozen. -/
def Ice (n : Nat) (k : Blk) : A → A → Prop
  | .ref b v o m, y => (b < n ∧ y = .ref b v o m) ∨ (b = n ∧ v = k.v ∧ o + m * k.esz ≤ k.cs.length ∧ y = .sl m ((k.cs.drop o).take (m * k.esz)))
  | .nil, y => y = .nil ∨ y = .sl 0 []
  | .agg cs, y => ∃ ys, y = .agg ys ∧ Ices n k cs ys
  | .tup cs, y => ∃ ys, y = .tup ys ∧ Ices n k cs ys
  | x, y => y = x ∧ inA n x = true
def Ices (n : Nat) (k : Blk) : List A → List A → Prop
  | [], ys => ys = []
  | x :: xs, ys => ∃ y ys', ys = y :: ys' ∧ Ice n k x y ∧ Ices n k xs ys'
end
def IceB (n : Nat) (k : Blk) : List Blk → List Blk → Prop
  | [], ys => ys = []
  | a :: as, ys => ∃ b bs, ys = b :: bs ∧ (b.v = a.v ∧ b.ro = a.ro ∧ b.esz = a.esz ∧ b.mp = a.mp ∧ Ices n k a.cs b.cs) ∧ IceB n k as bs
theorem IceB.get {n : Nat} {k : Blk} : ∀ {H H' : List Blk}, IceB n k H H' → H'.length = H.length ∧ ∀ (j : Nat) (b : Blk), H'[j]? = some b → ∃ a, H[j]? = some a ∧ b.v = a.v ∧ b.ro = a.ro ∧ b.esz = a.esz ∧ b.mp = a.mp ∧ Ices n k a.cs b.cs
  | [], H', h => by simp only [IceB] at h; subst h; exact ⟨rfl, fun j b h => by simp at h⟩
  | a :: as, H', h => by
    simp only [IceB] at h
    obtain ⟨b, bs, rfl, h1, h2⟩ := h
    obtain ⟨g1, g2⟩ := IceB.get h2
    refine ⟨by simp [g1], fun j x hj => ?_⟩
    cases j with
    | zero => simp at hj; subst hj; exact ⟨a, rfl, h1⟩
    | succ j => exact g2 j x (by simpa using hj)
theorem Ices.get {n : Nat} {k : Blk} : ∀ {xs ys : List A}, Ices n k xs ys → ∀ {j : Nat} {y : A}, ys[j]? = some y → ∃ x, xs[j]? = some x ∧ Ice n k x y
  | [], ys, h, j, y, hj => by simp only [Ices] at h; subst h; simp at hj
  | x :: xs, ys, h, j, y, hj => by
    simp only [Ices] at h
    obtain ⟨y0, ys', rfl, h1, h2⟩ := h
    cases j with
    | zero => simp at hj; subst hj; exact ⟨x, rfl, h1⟩
    | succ j => exact Ices.get h2 (by simpa using hj)
def Cx.ice (c : Cx) (H' : List Blk) : Cx := ⟨fun b => H'[b]?, c.io, c.w, c.X⟩
section
variable {c : Cx} {H1 H1' : List Blk} {k : Blk} (hr : RelH c) (hH : c.H = fun b => (H1 ++ [k])[b]?) (hro : k.ro = false) (hin : inAs H1.length k.cs = true) (hI : IceB H1.length k H1 H1')
include hH hI
theorem ice_row {b : Nat} {k' : Blk} (h : (c.ice H1').H b = some k') : ∃ k0, b < H1.length ∧ c.H b = some k0 ∧ k'.v = k0.v ∧ k'.ro = k0.ro ∧ k'.esz = k0.esz ∧ k'.mp = k0.mp ∧ Ices H1.length k k0.cs k'.cs := by
  obtain ⟨g1, g2⟩ := IceB.get hI
  obtain ⟨a, h1, h2⟩ := g2 b k' h
  have hb : b < H1.length := (List.getElem?_eq_some_iff.1 h1).1
  exact ⟨a, hb, by rw [hH]; simp only [List.getElem?_append_left hb, h1], h2⟩
theorem ice_old {b : Nat} {k0 : Blk} (hb : b < H1.length) (h : c.H b = some k0) : ∃ k', (c.ice H1').H b = some k' ∧ k'.v = k0.v ∧ k'.ro = k0.ro ∧ k'.esz = k0.esz := by
  obtain ⟨g1, g2⟩ := IceB.get hI
  have hb' : b < H1'.length := by omega
  obtain ⟨a, h1, h2, h3, h4, _⟩ := g2 b _ (List.getElem?_eq_getElem hb')
  rw [hH] at h
  simp only [List.getElem?_append_left hb, h1, Option.some.injEq] at h
  subst h
  exact ⟨_, List.getElem?_eq_getElem hb', h2, h3, h4⟩
theorem ice_own (q : Nat) (h : (c.ice H1').Own q) : c.Own q := by
  obtain ⟨b, blk, h1, h2, h3⟩ := h
  obtain ⟨k0, hb, g1, _, g2, _⟩ := ice_row hH hI h1
  exact ⟨b, k0, g1, by rw [← g2]; exact h2, h3⟩
theorem ice_step : Step (c.cut H1.length) (c.ice H1') := by
  refine ⟨rfl, rfl, rfl, Nat.le_refl _, fun _ _ _ => rfl, ?_, ?_, rfl, fun _ h => h, MPers.refl _⟩
  · rintro q ⟨b, blk, h1, h2, h3⟩
    obtain ⟨k0, hb, g1, _, g2, _⟩ := ice_row hH hI h1
    exact .inl ⟨b, k0, by simp [Cx.cut, hb, g1], by rw [← g2]; exact h2, h3⟩
  · intro b k0 h
    simp only [Cx.cut] at h
    split at h
    · rename_i hb
      obtain ⟨k', g1, g2, g3, g4⟩ := ice_old hH hI hb h
      exact ⟨k', g1, by omega, fun _ => ⟨rfl, g4, g3⟩⟩
    · cases h
include hr hro hin
mutual
theorem VR.ice : ∀ (x y : A) (v : Value), Ice H1.length k x y → VR c x v → VR (c.ice H1') y v
  | .ref b ver o m, y, v, h, hv => by
    simp only [Ice] at h
    rcases h with ⟨hb, rfl⟩ | ⟨rfl, rfl, hm, rfl⟩
    · exact VR.step (ice_step hH hI) _ _ (VR.cut _ _ (by simpa [inA] using hb) hv)
    · simp only [VR] at hv ⊢
      obtain ⟨k', a, cap, g1, g2, rfl, gn, g4⟩ := hv
      have hk : c.H H1.length = some k := by rw [hH]; simp
      rw [hk] at g1
      cases g1
      refine ⟨a, cap, rfl, gn.1, ?_⟩
      rcases g4 rfl with g4 | ⟨_, rfl, g5⟩
      · left; omega
      · right
        obtain ⟨vs, i1, i2⟩ := rowVals hr hk
        have nz : ¬ (c.ice H1').Z (c.io H1.length).1 := by
          rintro (hx | ⟨b, blk, h1, h2, h3⟩)
          · exact hr.nx _ k hk hro hx
          · obtain ⟨k0, hb, q1, _, q2, _⟩ := ice_row hH hI h1
            exact hr.uni b H1.length k0 k q1 hk (by rw [← q2]; exact h2) hro (by omega) h3
        have i3 := ((i2.drop o).take (m * k.esz))
        refine ⟨c.at H1.length o, (vs.drop o).take (m * k.esz), rfl, rfl, hr.lt _ k hk hro, nz, ?_, ?_⟩
        · intro j u hj
          have := ((i1.drop o).take (m * k.esz)) j u hj
          show c.w.cell? _ = some u
          simpa [Cx.at] using this
        · have hin2 : inAs H1.length ((k.cs.drop o).take (m * k.esz)) = true := by
            have key : ∀ (l : List A), inAs H1.length l = true ↔ ∀ x ∈ l, inA H1.length x = true := by
              intro l
              induction l with
              | nil => simp [inAs]
              | cons x l ih => simp [inAs, ih]
            rw [key] at hin ⊢
            exact fun x hx => hin x (List.mem_of_mem_drop (List.mem_of_mem_take hx))
          exact VRs.step (ice_step hH hI) _ _ (VRs.cut _ _ hin2 i3)
  | .bool b, y, v, h, hv => by
    simp only [Ice] at h
    obtain ⟨rfl, h⟩ := h
    exact VR.step (ice_step hH hI) _ _ (VR.cut _ _ h hv)
  | .int a b, y, v, h, hv => by
    simp only [Ice] at h
    obtain ⟨rfl, h⟩ := h
    exact VR.step (ice_step hH hI) _ _ (VR.cut _ _ h hv)
  | .str a, y, v, h, hv => by
    simp only [Ice] at h
    obtain ⟨rfl, h⟩ := h
    exact VR.step (ice_step hH hI) _ _ (VR.cut _ _ h hv)
  | .nilp, y, v, h, hv => by
    simp only [Ice] at h
    obtain ⟨rfl, h⟩ := h
    exact VR.step (ice_step hH hI) _ _ (VR.cut _ _ h hv)
  | .nilf, y, v, h, hv => by
    simp only [Ice] at h
    obtain ⟨rfl, h⟩ := h
    exact VR.step (ice_step hH hI) _ _ (VR.cut _ _ h hv)
  | .ub, y, v, h, hv => by
    simp only [Ice] at h
    obtain ⟨rfl, h⟩ := h
    exact VR.step (ice_step hH hI) _ _ (VR.cut _ _ h hv)
  | .err a, y, v, h, hv => by
    simp only [Ice] at h
    obtain ⟨rfl, h⟩ := h
    exact VR.step (ice_step hH hI) _ _ (VR.cut _ _ h hv)
  | .stamp a b d e, y, v, h, hv => by
    simp only [Ice] at h
    obtain ⟨rfl, h⟩ := h
    exact VR.step (ice_step hH hI) _ _ (VR.cut _ _ h hv)
  | .mref a b, y, v, h, hv => by
    simp only [Ice] at h
    obtain ⟨rfl, h⟩ := h
    exact VR.step (ice_step hH hI) _ _ (VR.cut _ _ h hv)
  | .ptr a b d, y, v, h, hv => by
    simp only [Ice] at h
    obtain ⟨rfl, h⟩ := h
    exact VR.step (ice_step hH hI) _ _ (VR.cut _ _ h hv)
  | .sl a b, y, v, h, hv => by
    simp only [Ice] at h
    obtain ⟨rfl, h⟩ := h
    exact VR.step (ice_step hH hI) _ _ (VR.cut _ _ h hv)
  | .pt a, y, v, h, hv => by
    simp only [Ice] at h
    obtain ⟨rfl, h⟩ := h
    exact VR.step (ice_step hH hI) _ _ (VR.cut _ _ h hv)
  | .fn a b, y, v, h, hv => by
    simp only [Ice] at h
    obtain ⟨rfl, h⟩ := h
    exact VR.step (ice_step hH hI) _ _ (VR.cut _ _ h hv)
  | .nil, y, v, h, hv => by
    simp only [Ice] at h
    rcases h with rfl | rfl
    · exact VR.step (ice_step hH hI) _ _ (VR.cut _ _ (by simp [inA]) hv)
    · simp only [VR] at hv ⊢
      obtain ⟨a, rfl⟩ := hv
      exact ⟨a, 0, rfl, Nat.le_refl _, by simp⟩
  | .agg cs, y, v, h, hv => by
    simp only [Ice] at h
    obtain ⟨ys, rfl, h⟩ := h
    simp only [VR] at hv ⊢
    obtain ⟨vs, rfl, hv⟩ := hv
    exact ⟨vs, rfl, VRs.ice cs ys _ h hv⟩
  | .tup cs, y, v, h, hv => by
    simp only [Ice] at h
    obtain ⟨ys, rfl, h⟩ := h
    simp only [VR] at hv ⊢
    obtain ⟨vs, rfl, hv⟩ := hv
    exact ⟨vs, rfl, VRs.ice cs ys _ h hv⟩
theorem VRs.ice : ∀ (xs ys : List A) (vs : List Value), Ices H1.length k xs ys → VRs c xs vs → VRs (c.ice H1') ys vs
  | [], ys, vs, h, hv => by simp only [Ices] at h; subst h; exact hv
  | x :: xs, ys, vs, h, hv => by
    simp only [Ices] at h
    obtain ⟨y, ys', rfl, h1, h2⟩ := h
    simp only [VRs] at hv ⊢
    obtain ⟨v, vs', rfl, g1, g2⟩ := hv
    exact ⟨v, vs', rfl, VR.ice x y v h1 g1, VRs.ice xs ys' vs' h2 g2⟩
end
theorem ice_rel : RelH (c.ice H1') := by
  refine ⟨?_, ?_, ?_, ?_, ?_, ?_, ?_, hr.xlt⟩
  · intro b k' hb j y hj
    obtain ⟨k0, hlt, g1, _, _, _, _, g2⟩ := ice_row hH hI hb
    obtain ⟨x, h1, h2⟩ := Ices.get g2 hj
    obtain ⟨v, h3, h4⟩ := hr.cell b k0 g1 j x h1
    exact ⟨v, h3, VR.ice hr hH hro hin hI x y v h2 h4⟩
  · intro b k' hb hr'
    obtain ⟨k0, hlt, g1, _, g3, _, _, g2⟩ := ice_row hH hI hb
    have := hr.vz b k0 g1 (by rw [← g3]; exact hr')
    rw [this] at g2
    simpa [Ices] using g2
  · intro b k' hb hr'
    obtain ⟨k0, hlt, g1, _, g3, _, _, g2⟩ := ice_row hH hI hb
    exact hr.lt b k0 g1 (by rw [← g3]; exact hr')
  · intro b k' hb hr' hmp
    obtain ⟨k0, hlt, g1, _, g3, _, g5, g2⟩ := ice_row hH hI hb
    exact hr.fz b k0 g1 (by rw [← g3]; exact hr') (by rw [← g5]; exact hmp)
  · intro b k' st l hb hmp
    obtain ⟨k0, hlt, g1, _, g3, _, g5, g2⟩ := ice_row hH hI hb
    obtain ⟨m1, m2, m3⟩ := hr.mz b k0 st l g1 (by rw [← g5]; exact hmp)
    rw [m2] at g2
    exact ⟨by rw [g3]; exact m1, by simpa [Ices] using g2, m3⟩
  · intro b b' k' k'' hb hb' h1 h2 hne
    obtain ⟨k0, _, g1, _, g3, _⟩ := ice_row hH hI hb
    obtain ⟨k1, _, q1, _, q3, _⟩ := ice_row hH hI hb'
    exact hr.uni b b' k0 k1 g1 q1 (by rw [← g3]; exact h1) (by rw [← q3]; exact h2) hne
  · intro b k' hb h1
    obtain ⟨k0, _, g1, _, g3, _⟩ := ice_row hH hI hb
    exact hr.nx b k0 g1 (by rw [← g3]; exact h1)
end
/-- A result whose last row is frozen. -/
theorem LeV.ice {B : Nat} {r r' : A} {H1 H1' : List Blk} {k : Blk} (hB : B ≤ H1.length) (hro : k.ro = false) (hin : inAs H1.length k.cs = true) (hI : IceB H1.length k H1 H1') (hx : Ice H1.length k r r') : LeV B r (H1 ++ [k]) r' H1' := by
  intro c0 c hB0 hr hH hs
  refine ⟨c.ice H1', rfl, rfl, ice_rel hr hH hro hin hI, ?_, fun v hv => VR.ice hr hH hro hin hI r r' v hx hv⟩
  refine ⟨hs.os, hs.tape, hs.output, hs.size, hs.blk, fun q hq => hs.own q (ice_own hH hI q hq), ?_, hs.x, hs.cells, hs.maps⟩
  intro b k0 hb
  have hlt : b < H1.length := by
    rcases Nat.lt_or_ge b B with h | h
    · omega
    · rw [hB0 b h] at hb; cases hb
  obtain ⟨k1, h1, h2, h3⟩ := hs.ids b k0 hb
  obtain ⟨k', g1, g2, g3, g4⟩ := ice_old hH hI hlt h1
  refine ⟨k', g1, by omega, fun e => ?_⟩
  have e1 : k1.v = k0.v := by omega
  obtain ⟨q1, q2, q3⟩ := h3 e1
  exact ⟨q1, by rw [g4, q2], by rw [g3, q3]⟩
end Go.Sym
