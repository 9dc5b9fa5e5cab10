/- Each operation of Go does what stepK says of it (the rest). Conditions: those that each theorem names. -/
import Derived.Test.YtpohfpnlepmebaaXSymD
set_option linter.unusedVariables false
set_option linter.unusedSimpArgs false
namespace Go.Sym
open Go.RowKit

theorem cellsV {c : Cx} {x : A} {v : Value} (h : VR c x v) : VRs c (cellsA x) v.cells.toList := by
  cases x with
  | agg cs =>
    simp only [VR] at h
    obtain ⟨vs, rfl, h⟩ := h
    exact h
  | bool b => simp only [VR] at h; subst h; exact ⟨_, _, rfl, rfl, rfl⟩
  | int k n => simp only [VR] at h; subst h; exact ⟨_, _, rfl, rfl, rfl⟩
  | str s => simp only [VR] at h; subst h; exact ⟨_, _, rfl, rfl, rfl⟩
  | nil => have h' := h; simp only [VR] at h; obtain ⟨a, rfl⟩ := h; exact ⟨_, _, rfl, h', rfl⟩
  | nilp => have h' := h; simp only [VR] at h; subst h; exact ⟨_, _, rfl, h', rfl⟩
  | nilf => have h' := h; simp only [VR] at h; subst h; exact ⟨_, _, rfl, h', rfl⟩
  | sl n cs => have h' := h; simp only [VR] at h; obtain ⟨a, cap, rfl, _⟩ := h; exact ⟨_, _, rfl, h', rfl⟩
  | ref b v o n => have h' := h; simp only [VR] at h; obtain ⟨k, a, cap, _, _, rfl, _⟩ := h; exact ⟨_, _, rfl, h', rfl⟩
  | ptr b v o => have h' := h; simp only [VR] at h; obtain ⟨k, p, _, _, rfl, _⟩ := h; exact ⟨_, _, rfl, h', rfl⟩
  | pt cs => have h' := h; simp only [VR] at h; obtain ⟨ad, vs, rfl, _⟩ := h; exact ⟨_, _, rfl, h', rfl⟩
  | fn f cs => have h' := h; simp only [VR] at h; obtain ⟨vs, rfl, _⟩ := h; exact ⟨_, _, rfl, h', rfl⟩
  | tup cs => have h' := h; simp only [VR] at h; obtain ⟨vs, rfl, _⟩ := h; exact ⟨_, _, rfl, h', rfl⟩
  | stamp b v st ks => have h' := h; simp only [VR] at h; obtain ⟨k, s, _, _, rfl, _⟩ := h; exact ⟨_, _, rfl, h', rfl⟩
  | err b => have h' := h; simp only [VR] at h; cases b <;> simp at h; (subst h; exact ⟨_, _, rfl, h', rfl⟩); (obtain ⟨t, u, rfl⟩ := h; exact ⟨_, _, rfl, h', rfl⟩)
  | ub => have h' := h; simp only [VR] at h; obtain ⟨b, rfl⟩ := h; exact ⟨_, _, rfl, h', rfl⟩
  | mref b v => have h' := h; simp only [VR] at h; obtain ⟨k, p, _, _, rfl, _⟩ := h; exact ⟨_, _, rfl, h', rfl⟩

theorem oneV {c : Cx} {x : A} {v : Value} (h : VR c x v) (ho : x.one = true) : v.oneCell' = true := by
  cases x with
  | agg cs => simp [A.one] at ho
  | tup cs => simp [A.one] at ho
  | bool b => simp only [VR] at h; subst h; rfl
  | int k n => simp only [VR] at h; subst h; rfl
  | str s => simp only [VR] at h; subst h; rfl
  | nil => simp only [VR] at h; obtain ⟨a, rfl⟩ := h; rfl
  | nilp => simp only [VR] at h; subst h; rfl
  | nilf => simp only [VR] at h; subst h; rfl
  | sl n cs => simp only [VR] at h; obtain ⟨a, cap, rfl, _⟩ := h; rfl
  | ref b v o n => simp only [VR] at h; obtain ⟨k, a, cap, _, _, rfl, _⟩ := h; rfl
  | ptr b v o => simp only [VR] at h; obtain ⟨k, p, _, _, rfl, _⟩ := h; rfl
  | pt cs => simp only [VR] at h; obtain ⟨ad, vs, rfl, _⟩ := h; rfl
  | fn f cs => simp only [VR] at h; obtain ⟨vs, rfl, _⟩ := h; rfl
  | mref b v => simp only [VR] at h; obtain ⟨k, p, _, _, rfl, _⟩ := h; rfl
  | err b => simp only [VR] at h; cases b <;> simp at h; (subst h; rfl); (obtain ⟨t, u, rfl⟩ := h; rfl)
  | ub => simp only [VR] at h; obtain ⟨b, rfl⟩ := h; rfl
  | stamp b v st ks => simp only [VR] at h; obtain ⟨k, s, _, _, rfl, _⟩ := h; rfl

theorem onesV {c : Cx} {xs : List A} {vs : List Value} (h : VRs c xs vs) (ho : xs.all A.one = true) : ∀ v ∈ vs, v.oneCell' = true := by
  intro v hv
  obtain ⟨j, hj, rfl⟩ := List.getElem_of_mem hv
  have hl := h.length
  have hx : xs[j]? = some (xs[j]'(by omega)) := List.getElem?_eq_getElem (by omega)
  obtain ⟨u, h1, h2⟩ := h.get hx
  rw [List.getElem?_eq_getElem hj] at h1
  injection h1 with h1
  rw [h1]
  exact oneV h2 (List.all_eq_true.1 ho _ (List.getElem_mem _))

theorem splice_get {α : Type} : ∀ (ys cs : List α) (off j : Nat), (splice cs off ys)[j]? = if off ≤ j ∧ j < off + ys.length ∧ j < cs.length then ys[j - off]? else cs[j]?
  | [], cs, off, j => by
    simp only [splice, List.length_nil, Nat.add_zero]
    rw [if_neg (by omega)]
  | y :: ys, cs, off, j => by
    rw [splice, splice_get ys]
    simp only [List.length_set, List.length_cons]
    by_cases h : off ≤ j ∧ j < off + (ys.length + 1) ∧ j < cs.length
    · rw [if_pos h]
      by_cases e : j = off
      · subst e
        rw [if_neg (by omega)]
        simp [h.2.2]
      · rw [if_pos (by omega)]
        rw [show j - off = (j - (off + 1)) + 1 by omega]
        simp
    · rw [if_neg h]
      rw [if_neg (by omega)]
      rw [List.getElem?_set]
      split
      · rename_i e
        subst e
        have : cs.length ≤ off := by omega
        simp [List.getElem?_eq_none this, this]
      · rfl

section
variable {P : Program} {c : Cx} {e : Env} {a : Act} {H : List Blk} (hr : RelH c) (he : EnvRel c e a) (hsub : Sub c H)
include hr he

theorem does_mv {x : Operand} {y : Opd} (hx : okO y x = true) {r : A} {d : Dl} (h : stepK (.mv y) e H (fun z b => z = r ∧ b = d)) :
    Does P c H.length (pure (.value (a.eval x))) r d := by
  simp only [stepK] at h
  split at h
  · rename_i z hz
    obtain ⟨rfl, rfl⟩ := h
    exact Does.plain hr rfl (evO he hx hz)
  · exact h.elim

theorem does_pick {x y z : Operand} {x' y' z' : Opd} (hx : okO x' x = true) (hy : okO y' y = true) (hz : okO z' z = true) {r : A} {d : Dl}
    (h : stepK (.pick x' y' z') e H (fun u b => u = r ∧ b = d)) :
    Does P c H.length (do pure (.value (if ← asBool (a.eval x) then a.eval y else a.eval z))) r d := by
  simp only [stepK] at h
  split at h
  · rename_i t ht
    have hv := evO he hx ht
    simp only [VR] at hv
    cases t <;> simp only [Bool.false_eq_true, if_false, if_true] at h <;> split at h
    · rename_i u hu
      obtain ⟨rfl, rfl⟩ := h
      exact Does.plain hr (by simp [hv, asBool]) (evO he hz hu)
    · exact h.elim
    · rename_i u hu
      obtain ⟨rfl, rfl⟩ := h
      exact Does.plain hr (by simp [hv, asBool]) (evO he hy hu)
    · exact h.elim
  · exact h.elim

omit he in
/-- A row that nothing names. -/
theorem does_push {n : Nat} {arr : Array Value} {ty : TypeId} (x : A) (v : Value) (hx : ∀ c', VR c' x v)
    {s : Sem Next} (hs : s.run P c.w = .ok (.value v) { c.w with heap := c.w.heap.push (.cells arr ty) }) : Does P c n s x .no := by
  obtain ⟨h1, h2⟩ := T_push hr (w' := { c.w with heap := c.w.heap.push (.cells arr ty) }) (obj := .cells arr ty) rfl rfl rfl rfl
  exact ⟨v, _, .inl hs, hx _, h1, h2, rfl⟩

omit he in
theorem does_anewr {n : Nat} (hn : c.H n = none) {cs : List A} {arr : Array Value} {ty : TypeId} (hv : VRs c cs arr.toList) (esz : Nat) (ro : Bool) (hro : ro = true → cs = []) (x : A) (v : Value)
    (hx : VR (c.anew n ⟨0, ro, esz, cs, none⟩ { c.w with heap := c.w.heap.push (.cells arr ty) }) x v)
    {s : Sem Next} (hs : s.run P c.w = .ok (.value v) { c.w with heap := c.w.heap.push (.cells arr ty) }) :
    Does P c n s x (.new ⟨0, ro, esz, cs, none⟩) := by
  obtain ⟨h1, h2⟩ := T_new hr (n := n) (k := ⟨0, ro, esz, cs, none⟩) (fun k0 h0 => by rw [hn] at h0; cases h0) rfl hro (w' := { c.w with heap := c.w.heap.push (.cells arr ty) }) (arr := arr) (ty := ty) rfl rfl rfl rfl
    (fun j y hj => by obtain ⟨u, g1, g2⟩ := hv.get hj; exact ⟨u, by simpa using g1, g2⟩)
  exact ⟨v, _, .inl hs, hx, h1, h2, rfl⟩

omit he in
theorem does_anew {n : Nat} (hn : c.H n = none) {cs : List A} {arr : Array Value} {ty : TypeId} (hv : VRs c cs arr.toList) (esz : Nat) (x : A) (v : Value)
    (hx : VR (c.anew n ⟨0, false, esz, cs, none⟩ { c.w with heap := c.w.heap.push (.cells arr ty) }) x v)
    {s : Sem Next} (hs : s.run P c.w = .ok (.value v) { c.w with heap := c.w.heap.push (.cells arr ty) }) :
    Does P c n s x (.new ⟨0, false, esz, cs, none⟩) := by
  obtain ⟨h1, h2⟩ := T_new hr (n := n) (k := ⟨0, false, esz, cs, none⟩) (fun k0 h0 => by rw [hn] at h0; cases h0) rfl (by simp) (w' := { c.w with heap := c.w.heap.push (.cells arr ty) }) (arr := arr) (ty := ty) rfl rfl rfl rfl
    (fun j y hj => by obtain ⟨u, g1, g2⟩ := hv.get hj; exact ⟨u, by simpa using g1, g2⟩)
  exact ⟨v, _, .inl hs, hx, h1, h2, rfl⟩

omit hr he in
theorem vr_new_ptr (n esz : Nat) (cs : List A) (w : World) : VR (c.anew n ⟨0, false, esz, cs, none⟩ w) (.ptr n 0 0) (.pointer (some ⟨c.w.heap.size, 0, none⟩)) := by
  simp [VR, Cx.anew, upd_same, Cx.at]

def zeroIs (P : Program) (t : TypeId) (zs : List A) : Bool :=
  match P.info? t with
  | some i => match i.zero with
    | some z => okAs zs z.cells.toList
    | none => false
  | none => false

omit hr he in
theorem zeroIs.run {t : TypeId} {zs : List A} (h : zeroIs P t zs = true) : ∃ z, (∀ w, (zeroValue t).run P w = .ok z w) ∧ okAs zs z.cells.toList = true := by
  unfold zeroIs at h
  split at h
  · rename_i i hi
    split at h
    · rename_i z hz
      exact ⟨z, fun w => by simp [zeroValue, typeInfo, hi, hz], h⟩
    · simp at h
  · simp at h

omit he in
theorem does_new {t : TypeId} {zs : List A} (hz : zeroIs P t zs = true) {r : A} {d : Dl} (hn : ∀ k, d = .new k → c.H H.length = none) (h : stepK (.new zs) e H (fun u b => u = r ∧ b = d)) :
    Does P c H.length (do pure (.value (← Instr.alloc t true (.tuple #[])))) r d := by
  simp only [stepK] at h
  obtain ⟨rfl, rfl⟩ := h
  obtain ⟨z, h1, h2⟩ := zeroIs.run hz
  refine does_anew hr (hn _ rfl) (VRs.ok zs _ h2) 1 _ _ (vr_new_ptr H.length 1 zs _) (ty := t) ?_
  simp [Instr.alloc, h1, newVar, newRow]

theorem does_box {t : TypeId} {x : Operand} {y : Opd} (hx : okO y x = true) {r : A} {d : Dl} (hn : ∀ k, d = .new k → c.H H.length = none) (h : stepK (.box y) e H (fun u b => u = r ∧ b = d)) :
    Does P c H.length (do pure (.value (← Instr.box t (a.eval x)))) r d := by
  simp only [stepK] at h
  split at h
  · rename_i z hz
    obtain ⟨rfl, rfl⟩ := h
    refine does_anew hr (hn _ rfl) (cellsV (evO he hx hz)) 1 _ _ (vr_new_ptr H.length 1 _ _) (ty := t) ?_
    simp [Instr.box, newVar, newRow]
  · exact h.elim

include hsub in
theorem does_st {t : TypeId} {x y : Operand} {x' y' : Opd} {sz : Nat} (hx : okO x' x = true) (hy : okO y' y = true) (hsz : sizeIs P t sz = true) {r : A} {d : Dl}
    (h : stepK (.st sz x' y') e H (fun u b => u = r ∧ b = d)) :
    Does P c H.length (do Instr.storeAt t (a.eval x) (a.eval y); pure .skip) r d := by
  simp only [stepK] at h
  split at h
  · rename_i b ver off z hb hz
    split at h
    · rename_i k hk
      obtain ⟨h1, h2, h3, h4, h5, rfl, rfl⟩ := h
      have hmp := (Blk.own_iff h2).2
      replace h2 := (Blk.own_iff h2).1
      have hv := evO he hx hb
      simp only [VR] at hv
      obtain ⟨k', p, g1, g2, g4, g3⟩ := hv
      have hck : c.H b = some k := by rcases hsub b k hk with h' | h' <;> simp_all
      rw [hck] at g1
      injection g1 with g1
      subst g1
      rw [g3 h1.symm] at g4
      have hu := evO he hy hz
      have hcs := cellsV hu
      have hlen : (a.eval y).cells.size = sz := by have := hcs.length; simp at this; omega
      have hone := onesV hcs h5
      obtain ⟨arr, ty, hblk⟩ := hr.fz b k hck h2 hmp
      obtain ⟨vs, i1, i2⟩ := rowVals hr hck
      have hthere : ∀ j, j < (a.eval y).cells.toList.length → (c.w.cell? ⟨(c.io b).1, (c.io b).2 + off + j, none⟩).isSome = true := by
        intro j hj
        simp at hj
        have hjl : off + j < vs.length := by rw [i2.length]; omega
        have := i1 (off + j) _ (List.getElem?_eq_getElem hjl)
        simp only [Cx.at, Nat.add_zero] at this
        rw [Nat.add_assoc, this]; rfl
      have hst := run_storeCells_cells (P := P) (c.io b).1 ((c.io b).2 + off) (a.eval y).cells.toList 0 c.w (by simpa using hthere) (fun j _ => frozen_of hblk _) hone
      obtain ⟨arr', hb', hs'⟩ := setCells_block (c.io b).1 ty (a.eval y).cells.toList ((c.io b).2 + off + 0) c.w arr hblk
      obtain ⟨o1, o2, o3⟩ := setCells_rest (c.io b).1 (a.eval y).cells.toList ((c.io b).2 + off + 0) c.w
      obtain ⟨j1, j2⟩ := T_set hr hck h2 (k' := { k with cs := splice k.cs off (cellsA z) }) h2 hmp (Nat.le_refl _) rfl
        (w' := c.w.setCells (c.io b).1 ((c.io b).2 + off + 0) (a.eval y).cells.toList)
        (fun q hq => setCells_other _ _ _ _ _ hq) (setCells_size _ _ _ _) o1 o2 o3 hblk hb' hs' (fun j x hj => by
          simp only [splice_get] at hj
          simp only [Nat.add_zero]
          split at hj
          · rename_i hjr
            obtain ⟨u, k1, k2⟩ := hcs.get hj
            have hjl : j - off < (a.eval y).cells.toList.length := by
              rcases Nat.lt_or_ge (j - off) (a.eval y).cells.toList.length with h' | h'
              · exact h'
              · rw [List.getElem?_eq_none h'] at k1; cases k1
            have := World.cell?_setCells_in (c.io b).1 (a.eval y).cells.toList ((c.io b).2 + off) c.w hthere (j - off) hjl
            refine ⟨u, ?_, k2⟩
            rw [List.getElem?_eq_getElem hjl] at k1
            injection k1 with k1
            rw [show c.at b j = ⟨(c.io b).1, (c.io b).2 + off + (j - off), none⟩ by simp [Cx.at]; omega, this, k1]
          · rename_i hjr
            obtain ⟨u, k1, k2⟩ := hr.cell b k hck j x hj
            refine ⟨u, ?_, k2⟩
            have hjc : j < k.cs.length := by
              rcases Nat.lt_or_ge j k.cs.length with h' | h'
              · exact h'
              · rw [List.getElem?_eq_none h'] at hj; cases hj
            have hl := hcs.length
            rw [World.cell?_setCells_out _ _ _ _ _ (fun _ _ => by simp only [Cx.at]; omega), k1])
      refine ⟨undef, c.aset b _ _, .inr ⟨?_, rfl⟩, ⟨#[], rfl, by simp [VRs]⟩, j1, j2, rfl⟩
      simp only [Instr.storeAt, g4, Instr.sureAddr, storeVar, Sem.run_bind, Sem.run_pure, Result.andThen_ok, sizeIs.run hsz, hlen, ne_eq, not_true_eq_false, if_false, Sem.run_ite, Cx.at, hst]
      rfl
    · exact h.elim
  · exact h.elim
end
end Go.Sym
