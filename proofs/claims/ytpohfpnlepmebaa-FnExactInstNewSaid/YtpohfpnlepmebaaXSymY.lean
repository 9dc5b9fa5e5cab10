/- A call by contract that lays a row of numbers anew in its place. Conditions: those that each theorem names. -/
import Derived.Test.YtpohfpnlepmebaaXSymX
import Derived.Sort.Row
import Derived.Sort.Grow
set_option linter.unusedVariables false
set_option linter.unusedSimpArgs false
namespace Go.Sym
open Go.RowKit Go.Sort
abbrev intsY (xs : List Int) : List A := xs.map fun n => .int .i64 n
def Cx.more (c : Cx) (os : Array Obj) : Cx := ⟨c.H, c.io, Sort.grow c.w os, c.X⟩
/-- Blocks that nobody tells of. -/
theorem T_grow {c : Cx} (hr : RelH c) (os : Array Obj) : RelH (c.more os) ∧ Step c (c.more os) := by
  have hcell : ∀ ad : Addr, (c.w.cell? ad).isSome = true → (Sort.grow c.w os).cell? ad = c.w.cell? ad := fun ad h => by
    obtain ⟨u, hu⟩ := Option.isSome_iff_exists.1 h
    exact cell?_grow _ _ _ (World.block_lt_of_cell? _ _ hu)
  have hS : Step c (c.more os) := by
    refine ⟨rfl, rfl, rfl, ?_, fun k hk _ => heap_grow_old c.w os hk, fun k hk => .inl hk, fun b k h => ⟨k, h, Nat.le_refl _, fun _ => ⟨rfl, rfl, rfl⟩⟩, rfl, fun ad h => ?_, MPers.of_blk fun k hk => heap_grow_old c.w os hk⟩
    · show _ ≤ (Sort.grow c.w os).heap.size
      rw [size_grow]; omega
    · show ((Sort.grow c.w os).cell? ad).isSome = true
      rw [hcell ad h]; exact h
  have hsz : c.w.heap.size ≤ (Sort.grow c.w os).heap.size := by rw [size_grow]; omega
  refine ⟨⟨?_, hr.vz, ?_, ?_, ?_, hr.uni, hr.nx, ?_⟩, hS⟩
  · intro b k hb j x hj
    obtain ⟨v, h1, h2⟩ := hr.cell b k hb j x hj
    refine ⟨v, ?_, VR.step hS _ _ h2⟩
    show (Sort.grow c.w os).cell? (c.at b j) = some v
    rw [hcell _ (by rw [h1]; rfl), h1]
  · intro b k hb ho
    have := hr.lt b k hb ho
    show (c.io b).1 < (Sort.grow c.w os).heap.size
    omega
  · intro b k hb ho hm
    obtain ⟨cs, ty, h⟩ := hr.fz b k hb ho hm
    exact ⟨cs, ty, by show (Sort.grow c.w os).heap[(c.io b).1]? = _; rw [heap_grow_old _ _ (hr.lt b k hb ho)]; exact h⟩
  · intro b k st l hb hm
    obtain ⟨h1, h2, L, cl, h3, h4⟩ := hr.mz b k st l hb hm
    exact ⟨h1, h2, L, cl, by show (Sort.grow c.w os).heap[(c.io b).1]? = _; rw [heap_grow_old _ _ (hr.lt b k hb h1)]; exact h3, h4⟩
  · intro k hk
    have := hr.xlt k hk
    show k < (Sort.grow c.w os).heap.size
    omega
theorem upd_list {H : List Blk} {b : Nat} {k k' : Blk} (h : H[b]? = some k) : (fun q => if q = b then some k' else H[q]?) = fun q => (H.set b k')[q]? := by
  funext q
  have hl : b < H.length := by
    rcases Nat.lt_or_ge b H.length with g | g
    · exact g
    · rw [List.getElem?_eq_none g] at h; cases h
  by_cases e : q = b
  · subst e; simp [hl]
  · rw [if_neg e, List.getElem?_set_ne (Ne.symm e)]
/-- A row of numbers that a contract lays anew in its place. -/
theorem semT_row {P : Program} {f : FuncId} {H : List Blk} {b : Nat} {k : Blk} {xs ys : List Int} (hk : H[b]? = some k) (hro : k.ro = false) (hmp : k.mp = none) (hesz : k.esz = 1) (hcs : k.cs = intsY xs) (hlen : ys.length = xs.length) (hne : xs ≠ [])
    (h : ∀ (B off cap : Nat) (w : World), Holds (Value.int .i64) w B off xs.toArray → B < w.heap.size → Calls P f #[.slice (some ⟨B, off, none⟩) xs.length cap] w fun e w' =>
      e = .returned (.tuple #[]) ∧ ∃ n os, w' = Sort.grow (putRow (Value.int .i64) (Sort.ahead w n) B off ys.toArray) os) :
    SemT P f [.ref b k.v 0 xs.length] H (.tup []) (H.set b ⟨k.v, k.ro, k.esz, intsY ys, k.mp⟩) := by
  intro c vs hgd hr hH hvs
  have hck : c.H b = some k := by rw [hH]; exact hk
  have h0 : 0 < xs.length := List.length_pos_iff.2 hne
  simp only [VRs] at hvs
  obtain ⟨v, vs', hv1, hv, rfl⟩ := hvs
  simp only [VR] at hv
  obtain ⟨k1, a, cap, e1, _, rfl, e4, e5⟩ := hv
  rw [hck] at e1
  obtain rfl : k = k1 := Option.some.inj e1
  rcases e5 rfl with e | ⟨_, rfl, hcell⟩
  · omega
  obtain rfl : vs = #[.slice (some (c.at b 0)) xs.length cap] := by
    cases vs; simp only at hv1; rw [hv1]
  obtain ⟨arr, ty, hblk⟩ := hr.fz b k hck hro hmp
  have hlt := hr.lt b k hck hro
  have hHold : Holds (Value.int .i64) c.w (c.io b).1 ((c.io b).2 + 0) xs.toArray := by
    intro j hj
    have hj' : j < xs.length := by simpa using hj
    obtain ⟨u, h1, h2⟩ := hr.cell b k hck j (.int .i64 xs[j]) (by rw [hcs]; simp [intsY, hj'])
    simp only [VR] at h2
    subst h2
    refine ⟨?_, frozen_of hblk _⟩
    rw [show (xs.toArray)[j]! = xs[j] by simp [hj']]
    exact h1
  refine (h (c.io b).1 ((c.io b).2 + 0) cap c.w hHold hlt).mono ?_
  rintro e w' ⟨rfl, n, os, rfl⟩
  have hys : ys.toArray.size = xs.toArray.size := by simpa using hlen
  have hH2 := holds_putRow (Value.int .i64) (Sort.ahead c.w n) (c.io b).1 ((c.io b).2 + 0) xs.toArray ys.toArray (holds_ahead _ _ n _ _ _ hHold) hys
  obtain ⟨j1, j2⟩ := T_set hr hck hro (k' := ⟨k.v, k.ro, k.esz, intsY ys, k.mp⟩) hro hmp (Nat.le_refl _) rfl
    (w' := putRow (Value.int .i64) (Sort.ahead c.w n) (c.io b).1 ((c.io b).2 + 0) ys.toArray)
    (fun q hq => by
      show ((Sort.ahead c.w n).heap.modify _ _)[q]? = _
      rw [Array.getElem?_modify, if_neg (Ne.symm hq)]; rfl)
    (by simp) rfl rfl rfl hblk (cs' := putCells (Value.int .i64) ((c.io b).2 + 0) ys.toArray arr)
    (by
      show ((Sort.ahead c.w n).heap.modify _ _)[_]? = _
      rw [Array.getElem?_modify, if_pos rfl]
      show Option.map _ c.w.heap[(c.io b).1]? = _
      rw [hblk]; rfl)
    (by simp [putCells])
    (fun j x hj => by
      have hj2 : j < ys.length := by
        rcases Nat.lt_or_ge j ys.length with g | g
        · exact g
        · rw [show (intsY ys)[j]? = none from List.getElem?_eq_none (by simpa using g)] at hj; cases hj
      have hx : x = .int .i64 ys[j] := by
        rw [show (intsY ys)[j]? = some (.int .i64 ys[j]) by simp [intsY, hj2]] at hj
        exact (Option.some.inj hj).symm
      subst hx
      refine ⟨.int .i64 ys[j], ?_, rfl⟩
      have := (hH2 j (by simpa using hj2)).1
      rw [show (ys.toArray)[j]! = ys[j] by simp [hj2]] at this
      exact this)
  obtain ⟨g1, g2⟩ := T_grow j1 os
  refine ⟨.tuple #[], _, rfl, rfl, ?_, g1, ?_, j2.trans g2⟩
  · show (c.aset b _ _).H = _
    rw [← upd_list hk]
    simp only [Cx.aset, hH]
    funext q
    simp only [upd]
  · simp only [VR]
    exact ⟨#[], rfl, rfl⟩
/-- The same, of no row. -/
theorem semT_row0 {P : Program} {f : FuncId} {H : List Blk} {b v : Nat} (h : ∀ (a : Option Addr) (cap : Nat) (w : World), Calls P f #[.slice a 0 cap] w fun e w' => e = .returned (.tuple #[]) ∧ w' = w) : SemT P f [.ref b v 0 0] H (.tup []) H := by
  intro c vs hgd hr hH hvs
  simp only [VRs] at hvs
  obtain ⟨x, vs', hv1, hv, rfl⟩ := hvs
  simp only [VR] at hv
  obtain ⟨k1, a, cap, e1, _, rfl, e4, e5⟩ := hv
  obtain rfl : vs = #[.slice a 0 cap] := by
    cases vs; simp only at hv1; rw [hv1]
  refine (h a cap c.w).mono ?_
  rintro e w' ⟨rfl, rfl⟩
  refine ⟨.tuple #[], c, rfl, rfl, hH, hr, ?_, Step.refl c⟩
  simp only [VR]
  exact ⟨#[], rfl, rfl⟩
/-- A row of numbers that a contract lays anew in its place, and hands back its first. -/
theorem semT_cut {P : Program} {f : FuncId} {H : List Blk} {b : Nat} {k : Blk} {xs ys : List Int} {m : Nat} (hk : H[b]? = some k) (hro : k.ro = false) (hmp : k.mp = none) (hesz : k.esz = 1) (hcs : k.cs = intsY xs) (hlen : ys.length = xs.length) (hne : xs ≠ []) (hm : m ≤ xs.length)
    (h : ∀ (B off cap : Nat) (w : World), Holds (Value.int .i64) w B off xs.toArray → B < w.heap.size → xs.length ≤ cap → Calls P f #[.slice (some ⟨B, off, none⟩) xs.length cap] w fun e w' =>
      e = .returned (.slice (some ⟨B, off, none⟩) m cap) ∧ ∃ n, w' = putRow (Value.int .i64) (Sort.ahead w n) B off ys.toArray) :
    SemT P f [.ref b k.v 0 xs.length] H (.ref b k.v 0 m) (H.set b ⟨k.v, k.ro, k.esz, intsY ys, k.mp⟩) := by
  intro c vs hgd hr hH hvs
  have hck : c.H b = some k := by rw [hH]; exact hk
  have h0 : 0 < xs.length := List.length_pos_iff.2 hne
  simp only [VRs] at hvs
  obtain ⟨v, vs', hv1, hv, rfl⟩ := hvs
  simp only [VR] at hv
  obtain ⟨k1, a, cap, e1, _, rfl, e4, e5⟩ := hv
  rw [hck] at e1
  obtain rfl : k = k1 := Option.some.inj e1
  rcases e5 rfl with e | ⟨_, rfl, hcell⟩
  · omega
  obtain rfl : vs = #[.slice (some (c.at b 0)) xs.length cap] := by
    cases vs; simp only at hv1; rw [hv1]
  obtain ⟨arr, ty, hblk⟩ := hr.fz b k hck hro hmp
  have hlt := hr.lt b k hck hro
  have hHold : Holds (Value.int .i64) c.w (c.io b).1 ((c.io b).2 + 0) xs.toArray := by
    intro j hj
    have hj' : j < xs.length := by simpa using hj
    obtain ⟨u, h1, h2⟩ := hr.cell b k hck j (.int .i64 xs[j]) (by rw [hcs]; simp [intsY, hj'])
    simp only [VR] at h2
    subst h2
    refine ⟨?_, frozen_of hblk _⟩
    rw [show (xs.toArray)[j]! = xs[j] by simp [hj']]
    exact h1
  refine (h (c.io b).1 ((c.io b).2 + 0) cap c.w hHold hlt e4.1).mono ?_
  rintro e w' ⟨rfl, n, rfl⟩
  have hys : ys.toArray.size = xs.toArray.size := by simpa using hlen
  have hH2 := holds_putRow (Value.int .i64) (Sort.ahead c.w n) (c.io b).1 ((c.io b).2 + 0) xs.toArray ys.toArray (holds_ahead _ _ n _ _ _ hHold) hys
  obtain ⟨j1, j2⟩ := T_set hr hck hro (k' := ⟨k.v, k.ro, k.esz, intsY ys, k.mp⟩) hro hmp (Nat.le_refl _) rfl
    (w' := putRow (Value.int .i64) (Sort.ahead c.w n) (c.io b).1 ((c.io b).2 + 0) ys.toArray)
    (fun q hq => by
      show ((Sort.ahead c.w n).heap.modify _ _)[q]? = _
      rw [Array.getElem?_modify, if_neg (Ne.symm hq)]; rfl)
    (by simp) rfl rfl rfl hblk (cs' := putCells (Value.int .i64) ((c.io b).2 + 0) ys.toArray arr)
    (by
      show ((Sort.ahead c.w n).heap.modify _ _)[_]? = _
      rw [Array.getElem?_modify, if_pos rfl]
      show Option.map _ c.w.heap[(c.io b).1]? = _
      rw [hblk]; rfl)
    (by simp [putCells])
    (fun j x hj => by
      have hj2 : j < ys.length := by
        rcases Nat.lt_or_ge j ys.length with g | g
        · exact g
        · rw [show (intsY ys)[j]? = none from List.getElem?_eq_none (by simpa using g)] at hj; cases hj
      have hx : x = .int .i64 ys[j] := by
        rw [show (intsY ys)[j]? = some (.int .i64 ys[j]) by simp [intsY, hj2]] at hj
        exact (Option.some.inj hj).symm
      subst hx
      refine ⟨.int .i64 ys[j], ?_, rfl⟩
      have := (hH2 j (by simpa using hj2)).1
      rw [show (ys.toArray)[j]! = ys[j] by simp [hj2]] at this
      exact this)
  refine ⟨_, _, rfl, rfl, ?_, j1, ?_, j2⟩
  · show (c.aset b _ _).H = _
    rw [← upd_list hk]
    simp only [Cx.aset, hH]
    funext q
    simp only [upd]
  · simp only [VR]
    refine ⟨⟨k.v, k.ro, k.esz, intsY ys, k.mp⟩, _, cap, by simp [Cx.aset, upd], Nat.le_refl _, rfl, by omega, fun _ => .inr ⟨hro, ?_, fun j hj => ?_⟩⟩
    · simp [Cx.at, Cx.aset, upd]
    · have e : (c.aset b ⟨k.v, k.ro, k.esz, intsY ys, k.mp⟩ (putRow (Value.int .i64) (Sort.ahead c.w n) (c.io b).1 ((c.io b).2 + 0) ys.toArray)).at b (0 + j) = c.at b (0 + j) := by simp [Cx.at, Cx.aset, upd]
      rw [e]
      exact j2.cells _ (hcell j hj)
/-- The same, of no row. -/
theorem semT_cut0 {P : Program} {f : FuncId} {H : List Blk} {b v : Nat} (h : ∀ (a : Option Addr) (cap : Nat) (w : World), Calls P f #[.slice a 0 cap] w fun e w' => e = .returned (.slice a 0 cap) ∧ w' = w) : SemT P f [.ref b v 0 0] H (.ref b v 0 0) H := by
  intro c vs hgd hr hH hvs
  simp only [VRs] at hvs
  obtain ⟨x, vs', hv1, hv, rfl⟩ := hvs
  have hv0 := hv
  simp only [VR] at hv
  obtain ⟨k1, a, cap, e1, _, rfl, e4, e5⟩ := hv
  obtain rfl : vs = #[.slice a 0 cap] := by
    cases vs; simp only at hv1; rw [hv1]
  refine (h a cap c.w).mono ?_
  rintro e w' ⟨rfl, rfl⟩
  exact ⟨.slice a 0 cap, c, rfl, rfl, hH, hr, hv0, Step.refl c⟩
/-- A row of which the end is no more told of. -/
theorem LeV.trim {B : Nat} {r : A} {H : List Blk} {b n : Nat} {k : Blk} (hk : H[b]? = some k) (hb : B ≤ b) (hmp : k.mp = none) : LeV B r H r (H.set b ⟨k.v, k.ro, k.esz, k.cs.take n, none⟩) := by
  intro c0 c hB hr hH hs
  have hck : c.H b = some k := by rw [hH]; exact hk
  have key : ∀ (k' : Blk), (fun q => if q = b then some k' else H[q]?) = fun q => (H.set b k')[q]? := fun k' => upd_list hk
  cases hro : k.ro with
  | true =>
    have hz := hr.vz b k hck hro
    have e : (⟨k.v, true, k.esz, k.cs.take n, none⟩ : Blk) = k := by
      obtain ⟨v, ro, esz, cs, mp⟩ := k
      simp only at hz hro hmp
      subst hz hro hmp
      simp
    rw [e]
    refine ⟨c, rfl, ?_, hr, hs, fun v h => h⟩
    rw [hH, ← key k]
    funext q
    split
    · rename_i e; subst e; exact hk
    · rfl
  | false =>
    obtain ⟨arr, ty, hblk⟩ := hr.fz b k hck hro hmp
    obtain ⟨j1, j2⟩ := T_set hr hck hro (k' := ⟨k.v, false, k.esz, k.cs.take n, none⟩) rfl rfl (Nat.le_refl _) rfl (w' := c.w) (fun _ _ => rfl) rfl rfl rfl rfl hblk hblk rfl (fun j x hj => by
      have hj' : k.cs[j]? = some x := by
        simp only [List.getElem?_take] at hj
        split at hj
        · exact hj
        · cases hj
      exact hr.cell b k hck j x hj')
    refine ⟨c.aset b ⟨k.v, false, k.esz, k.cs.take n, none⟩ c.w, rfl, ?_, j1, hs.trans j2, fun v h => VR.step j2 _ _ h⟩
    rw [← key]
    simp only [Cx.aset, hH]
    funext q
    simp only [upd]
end Go.Sym
