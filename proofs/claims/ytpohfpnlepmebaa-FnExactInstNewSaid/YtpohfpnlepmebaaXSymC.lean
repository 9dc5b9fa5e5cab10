/- What a new block, a store and a draw do to the relation between trees and the world. Conditions: those that each theorem names. -/
import Derived.Test.YtpohfpnlepmebaaXSymB
import Derived.Deep.AppendSrc
set_option linter.unusedVariables false
set_option linter.unusedSimpArgs false
namespace Go.Sym
open Go.RowKit

def upd {α : Type} (f : Nat → α) (n : Nat) (x : α) : Nat → α := fun b => if b = n then x else f b
theorem upd_same {α : Type} (f : Nat → α) (n : Nat) (x : α) : upd f n x n = x := by simp [upd]
theorem upd_other {α : Type} (f : Nat → α) {n b : Nat} (x : α) (h : b ≠ n) : upd f n x b = f b := by simp [upd, h]

def Cx.anew (c : Cx) (n : Nat) (k : Blk) (w : World) : Cx := ⟨upd c.H n (some k), upd c.io n (c.w.heap.size, 0), w, c.X⟩
def Cx.aset (c : Cx) (b : Nat) (k : Blk) (w : World) : Cx := ⟨upd c.H b (some k), c.io, w, c.X⟩

theorem cell_lt {w : World} {ad : Addr} (h : (w.cell? ad).isSome = true) : ad.block < w.heap.size := by
  rcases Nat.lt_or_ge ad.block w.heap.size with h' | h'
  · exact h'
  · simp [World.cell?, Array.getElem?_eq_none h'] at h

theorem T_newo {c : Cx} (hr : RelH c) {n : Nat} {k : Blk} (hn : ∀ k0, c.H n = some k0 → k0.v < k.v) {w' : World} {obj : Obj}
    (hh : w'.heap = c.w.heap.push obj) (ho : w'.os = c.w.os) (ht : w'.tape = c.w.tape) (hu : w'.output = c.w.output)
    (hcs : ∀ (j : Nat) (x : A), k.cs[j]? = some x → ∃ v, w'.cell? ⟨c.w.heap.size, j, none⟩ = some v ∧ VR c x v)
    (hvz : k.ro = true → k.cs = []) (hfz : k.mp = none → ∃ arr ty, obj = .cells arr ty (0, 0)) (hmz : ∀ st l, k.mp = some (st, l) → k.ro = false ∧ k.cs = [] ∧ ∃ L clock, obj = .map (entsV st L) clock ∧ MInv st L clock l) :
    RelH (c.anew n k w') ∧ Step c (c.anew n k w') := by
  have hblk : ∀ q, q < c.w.heap.size → w'.heap[q]? = c.w.heap[q]? := fun q hq => by rw [hh, Array.getElem?_push, if_neg (by omega)]
  have hnew : w'.heap[c.w.heap.size]? = some obj := by simp [hh]
  have hsz : w'.heap.size = c.w.heap.size + 1 := by simp [hh]
  have hcell : ∀ ad : Addr, ad.block < c.w.heap.size → w'.cell? ad = c.w.cell? ad := fun ad h => World.cell?_of_block (w := c.w) (hblk _ h)
  have hS : Step c (c.anew n k w') := by
    refine ⟨ho, ht, hu, by show _ ≤ w'.heap.size; omega, fun q hq _ => hblk q hq, ?_, ?_, rfl, fun ad h => ?_, MPers.of_blk hblk⟩
    · rintro q ⟨b, blk, h1, h2, h3⟩
      by_cases hb : b = n
      · subst hb
        simp only [Cx.anew, upd_same] at h3
        right; omega
      · simp only [Cx.anew, upd_other _ _ hb] at h1 h3
        exact .inl ⟨b, blk, h1, h2, h3⟩
    · intro b k0 h0
      by_cases hb : b = n
      · subst hb
        have := hn k0 h0
        exact ⟨k, by simp [Cx.anew, upd_same], by omega, fun e => by omega⟩
      · exact ⟨k0, by simp [Cx.anew, upd_other _ _ hb, h0], Nat.le_refl _, fun _ => ⟨by simp [Cx.anew, upd_other _ _ hb], rfl, rfl⟩⟩
    · show (w'.cell? ad).isSome = true
      rw [hcell ad (cell_lt h)]; exact h
  refine ⟨⟨?_, ?_, ?_, ?_, ?_, ?_, ?_, ?_⟩, hS⟩
  · intro b kb hb j x hj
    by_cases e : b = n
    · subst e
      simp only [Cx.anew, upd_same, Option.some.injEq] at hb
      subst hb
      obtain ⟨v, h1, h2⟩ := hcs j x hj
      refine ⟨v, ?_, VR.step hS x v h2⟩
      simpa [Cx.at, Cx.anew, upd_same] using h1
    · simp only [Cx.anew, upd_other _ _ e] at hb
      obtain ⟨v, h1, h2⟩ := hr.cell b kb hb j x hj
      refine ⟨v, ?_, VR.step hS x v h2⟩
      have hat : (c.anew n k w').at b j = c.at b j := by simp [Cx.at, Cx.anew, upd_other _ _ e]
      rw [hat]
      show w'.cell? _ = _
      rw [hcell _ (cell_lt (by rw [h1]; rfl)), h1]
  · intro b kb hb hro
    by_cases e : b = n
    · subst e
      simp only [Cx.anew, upd_same, Option.some.injEq] at hb
      subst hb
      exact hvz hro
    · simp only [Cx.anew, upd_other _ _ e] at hb
      exact hr.vz b kb hb hro
  · intro b kb hb hro
    show _ < w'.heap.size
    by_cases e : b = n
    · subst e; simp [Cx.anew, upd_same]; omega
    · simp only [Cx.anew, upd_other _ _ e] at hb ⊢
      have := hr.lt b kb hb hro; omega
  · intro b kb hb hro hmp
    by_cases e : b = n
    · subst e
      simp only [Cx.anew, upd_same, Option.some.injEq] at hb
      subst hb
      obtain ⟨arr, ty, e⟩ := hfz hmp
      exact ⟨arr, ty, by simp [Cx.anew, upd_same, hnew, e]⟩
    · simp only [Cx.anew, upd_other _ _ e] at hb ⊢
      obtain ⟨cs, t, h⟩ := hr.fz b kb hb hro hmp
      exact ⟨cs, t, by rw [hblk _ (hr.lt b kb hb hro), h]⟩
  · intro b kb st l hb hmp
    by_cases e : b = n
    · subst e
      simp only [Cx.anew, upd_same, Option.some.injEq] at hb
      subst hb
      obtain ⟨g1, g2, L, cl, g3, g4⟩ := hmz st l hmp
      exact ⟨g1, g2, L, cl, by simp [Cx.anew, upd_same, hnew, g3], g4⟩
    · simp only [Cx.anew, upd_other _ _ e] at hb ⊢
      obtain ⟨g1, g2, L, cl, g3, g4⟩ := hr.mz b kb st l hb hmp
      exact ⟨g1, g2, L, cl, by rw [hblk _ (hr.lt b kb hb g1), g3], g4⟩
  · intro b b' kb kb' hb hb' hro hro' hne
    by_cases e : b = n
    · subst e
      have e' : b' ≠ b := fun h => hne h.symm
      simp only [Cx.anew, upd_same, upd_other _ _ e'] at hb' ⊢
      have := hr.lt b' kb' hb' hro'; omega
    · by_cases e' : b' = n
      · subst e'
        simp only [Cx.anew, upd_same, upd_other _ _ e] at hb ⊢
        have := hr.lt b kb hb hro; omega
      · simp only [Cx.anew, upd_other _ _ e, upd_other _ _ e'] at hb hb' ⊢
        exact hr.uni b b' kb kb' hb hb' hro hro' hne
  · intro b kb hb hro
    by_cases e : b = n
    · subst e
      simp only [Cx.anew, upd_same]
      intro hx
      have := hr.xlt _ hx; omega
    · simp only [Cx.anew, upd_other _ _ e] at hb ⊢
      exact hr.nx b kb hb hro
  · intro q hq
    show q < w'.heap.size
    have := hr.xlt q hq; omega

/-- A block that nothing names. -/
theorem T_push {c : Cx} (hr : RelH c) {w' : World} {obj : Obj}
    (hh : w'.heap = c.w.heap.push obj) (ho : w'.os = c.w.os) (ht : w'.tape = c.w.tape) (hu : w'.output = c.w.output) : RelH ⟨c.H, c.io, w', c.X⟩ ∧ Step c ⟨c.H, c.io, w', c.X⟩ := by
  have hblk : ∀ q, q < c.w.heap.size → w'.heap[q]? = c.w.heap[q]? := fun q hq => by rw [hh, Array.getElem?_push, if_neg (by omega)]
  have hsz : w'.heap.size = c.w.heap.size + 1 := by simp [hh]
  have hcell : ∀ ad : Addr, ad.block < c.w.heap.size → w'.cell? ad = c.w.cell? ad := fun ad h => World.cell?_of_block (w := c.w) (hblk _ h)
  have hS : Step c ⟨c.H, c.io, w', c.X⟩ := by
    refine ⟨ho, ht, hu, by show _ ≤ w'.heap.size; omega, fun q hq _ => hblk q hq, ?_, ?_, rfl, fun ad h => ?_, MPers.of_blk hblk⟩
    · rintro q ⟨b, blk, h1, h2, h3⟩
      exact .inl ⟨b, blk, h1, h2, h3⟩
    · intro b k0 h0
      exact ⟨k0, h0, Nat.le_refl _, fun _ => ⟨rfl, rfl, rfl⟩⟩
    · show (w'.cell? ad).isSome = true
      rw [hcell ad (cell_lt h)]; exact h
  refine ⟨⟨?_, fun b kb hb hro => hr.vz b kb hb hro, ?_, ?_, ?_, fun b b' kb kb' hb hb' hro hro' hne => hr.uni b b' kb kb' hb hb' hro hro' hne, fun b kb hb hro => hr.nx b kb hb hro, ?_⟩, hS⟩
  · intro b kb hb j x hj
    obtain ⟨v, h1, h2⟩ := hr.cell b kb hb j x hj
    refine ⟨v, ?_, VR.step hS x v h2⟩
    show w'.cell? _ = _
    rw [show (Cx.mk c.H c.io w' c.X).at b j = c.at b j from rfl, hcell _ (cell_lt (by rw [h1]; rfl)), h1]
  · intro b kb hb hro
    show _ < w'.heap.size
    have := hr.lt b kb hb hro
    have : (c.io b).1 < w'.heap.size := by omega
    exact this
  · intro b kb hb hro hmp
    obtain ⟨cs, t, h⟩ := hr.fz b kb hb hro hmp
    exact ⟨cs, t, by show w'.heap[_]? = _; rw [hblk _ (hr.lt b kb hb hro), h]⟩
  · intro b kb st l hb hmp
    obtain ⟨g1, g2, L, cl, g3, g4⟩ := hr.mz b kb st l hb hmp
    exact ⟨g1, g2, L, cl, by show w'.heap[_]? = _; rw [hblk _ (hr.lt b kb hb g1), g3], g4⟩
  · intro q hq
    show q < w'.heap.size
    have := hr.xlt q hq; omega

theorem T_new {c : Cx} (hr : RelH c) {n : Nat} {k : Blk} (hn : ∀ k0, c.H n = some k0 → k0.v < k.v) (hmp : k.mp = none) (hvz : k.ro = true → k.cs = []) {w' : World} {arr : Array Value} {ty : TypeId}
    (hh : w'.heap = c.w.heap.push (.cells arr ty)) (ho : w'.os = c.w.os) (ht : w'.tape = c.w.tape) (hu : w'.output = c.w.output)
    (hcs : ∀ (j : Nat) (x : A), k.cs[j]? = some x → ∃ v, arr[j]? = some v ∧ VR c x v) :
    RelH (c.anew n k w') ∧ Step c (c.anew n k w') :=
  T_newo hr hn hh ho ht hu (fun j x hj => by
    obtain ⟨v, h1, h2⟩ := hcs j x hj
    exact ⟨v, by simp [World.cell?, hh, h1], h2⟩) hvz (fun _ => ⟨arr, ty, rfl⟩) (fun st l h => by rw [hmp] at h; cases h)

/-- A row that turns in its own block. -/
structure SetO (k' : Blk) (o o' : Obj) : Prop where
  cells : ∀ cs ty fr, o = .cells cs ty fr → ∃ cs', o' = .cells cs' ty (0, 0) ∧ cs'.size = cs.size
  fz : k'.mp = none → ∃ cs ty, o' = .cells cs ty (0, 0)
  mz : ∀ st l, k'.mp = some (st, l) → k'.cs = [] ∧ ∃ L clock, o' = .map (entsV st L) clock ∧ MInv st L clock l
  maps : ∀ es cl, o = .map es cl → ∃ es' cl', o' = .map es' cl' ∧ ∀ e ∈ es.toList, ∃ e' ∈ es'.toList, e'.key = e.key ∧ e'.born = e.born

theorem T_seto {c : Cx} (hr : RelH c) {b : Nat} {k k' : Blk} (hb : c.H b = some k) (hro : k.ro = false) (hro' : k'.ro = false) (hv : k.v ≤ k'.v) (hesz : k'.esz = k.esz)
    {w' : World} (hsame : ∀ q, q ≠ (c.io b).1 → w'.heap[q]? = c.w.heap[q]?) (hsz : w'.heap.size = c.w.heap.size) (ho : w'.os = c.w.os) (ht : w'.tape = c.w.tape) (hu : w'.output = c.w.output)
    {o o' : Obj} (h0 : c.w.heap[(c.io b).1]? = some o) (h1 : w'.heap[(c.io b).1]? = some o') (h2 : SetO k' o o')
    (hcs : ∀ (j : Nat) (x : A), k'.cs[j]? = some x → ∃ v, w'.cell? (c.at b j) = some v ∧ VR c x v) :
    RelH (c.aset b k' w') ∧ Step c (c.aset b k' w') := by
  have hcell : ∀ ad : Addr, ad.block ≠ (c.io b).1 → w'.cell? ad = c.w.cell? ad := fun ad h => World.cell?_of_block (w := c.w) (hsame _ h)
  have hown : c.Own (c.io b).1 := ⟨b, k, hb, hro, rfl⟩
  have hS : Step c (c.aset b k' w') := by
    refine ⟨ho, ht, hu, by show _ ≤ w'.heap.size; omega, fun q _ hno => hsame q (fun e => hno (e ▸ hown)), ?_, ?_, rfl, fun ad h => ?_, ?_⟩
    · rintro q ⟨d, blk, g1, g2, g3⟩
      by_cases e : d = b
      · subst e; exact .inl ⟨d, k, hb, hro, g3⟩
      · simp only [Cx.aset, upd_other _ _ e] at g1 g3
        exact .inl ⟨d, blk, g1, g2, g3⟩
    · intro d k0 g0
      by_cases e : d = b
      · subst e
        rw [hb] at g0
        injection g0 with g0
        subst g0
        exact ⟨k', by simp [Cx.aset, upd_same], hv, fun _ => ⟨rfl, hesz, by rw [hro, hro']⟩⟩
      · exact ⟨k0, by simp [Cx.aset, upd_other _ _ e, g0], Nat.le_refl _, fun _ => ⟨rfl, rfl, rfl⟩⟩
    · show (w'.cell? ad).isSome = true
      by_cases e : ad.block = (c.io b).1
      · cases o with
        | cells cs ty fr =>
          obtain ⟨cs', rfl, h2⟩ := h2.cells cs ty fr rfl
          have hsp : ad.spot.isSome = false := by
            cases hs : ad.spot.isSome with
            | false => rfl
            | true => simp [World.cell?, e, h0, hs] at h
          simp only [World.cell?, e, h0, h1, hsp, Bool.false_eq_true, if_false] at h ⊢
          have : ad.off < cs.size := by
            rcases Nat.lt_or_ge ad.off cs.size with h' | h'
            · exact h'
            · simp [Array.getElem?_eq_none h'] at h
          simp [Array.getElem?_eq_getElem (by omega : ad.off < cs'.size)]
        | _ => simp [World.cell?, e, h0] at h
      · rw [hcell ad e]; exact h
    · intro a es cl ha
      show ∃ es' cl', w'.heap[a]? = _ ∧ _
      by_cases e : a = (c.io b).1
      · subst e
        rw [h0] at ha
        cases ha
        obtain ⟨es', cl', g1, g2⟩ := h2.maps es cl rfl
        exact ⟨es', cl', by rw [h1, g1], g2⟩
      · exact ⟨es, cl, by rw [hsame a e, ha], fun x hx => ⟨x, hx, rfl, rfl⟩⟩
  refine ⟨⟨?_, ?_, ?_, ?_, ?_, ?_, ?_, ?_⟩, hS⟩
  · intro d kd hd j x hj
    by_cases e : d = b
    · subst e
      simp only [Cx.aset, upd_same, Option.some.injEq] at hd
      subst hd
      obtain ⟨v, g1, g2⟩ := hcs j x hj
      exact ⟨v, g1, VR.step hS x v g2⟩
    · simp only [Cx.aset, upd_other _ _ e] at hd
      obtain ⟨v, g1, g2⟩ := hr.cell d kd hd j x hj
      refine ⟨v, ?_, VR.step hS x v g2⟩
      show w'.cell? (c.at d j) = _
      have hrd : kd.ro = false := by
        cases h : kd.ro with
        | false => rfl
        | true => rw [hr.vz d kd hd h] at hj; simp at hj
      rw [hcell _ (by show (c.io d).1 ≠ _; exact (hr.uni b d k kd hb hd hro hrd (Ne.symm e)).symm), g1]
  · intro d kd hd hrd
    by_cases e : d = b
    · subst e
      simp only [Cx.aset, upd_same, Option.some.injEq] at hd
      subst hd
      rw [hro'] at hrd; cases hrd
    · simp only [Cx.aset, upd_other _ _ e] at hd
      exact hr.vz d kd hd hrd
  · intro d kd hd hrd
    show (c.io d).1 < w'.heap.size
    by_cases e : d = b
    · subst e; have := hr.lt d k hb hro; omega
    · simp only [Cx.aset, upd_other _ _ e] at hd
      have := hr.lt d kd hd hrd; omega
  · intro d kd hd hrd hmp
    show ∃ cs ty, w'.heap[(c.io d).1]? = _
    by_cases e : d = b
    · subst e
      simp only [Cx.aset, upd_same, Option.some.injEq] at hd
      subst hd
      obtain ⟨cs, ty, e⟩ := h2.fz hmp
      exact ⟨cs, ty, by rw [h1, e]⟩
    · simp only [Cx.aset, upd_other _ _ e] at hd
      rw [hsame _ (hr.uni b d k kd hb hd hro hrd (Ne.symm e)).symm]
      exact hr.fz d kd hd hrd hmp
  · intro d kd st l hd hmp
    show _ ∧ _ ∧ ∃ L clock, w'.heap[(c.io d).1]? = _ ∧ _
    by_cases e : d = b
    · subst e
      simp only [Cx.aset, upd_same, Option.some.injEq] at hd
      subst hd
      obtain ⟨g1, L, cl, g2, g3⟩ := h2.mz st l hmp
      exact ⟨hro', g1, L, cl, by rw [h1, g2], g3⟩
    · simp only [Cx.aset, upd_other _ _ e] at hd
      rw [hsame _ (hr.uni b d k kd hb hd hro (hr.mz d kd st l hd hmp).1 (Ne.symm e)).symm]
      exact hr.mz d kd st l hd hmp
  · intro d d' kd kd' hd hd' hrd hrd' hne
    show (c.io d).1 ≠ (c.io d').1
    have hd1 : ∃ q, c.H d = some q ∧ q.ro = false := by
      by_cases e : d = b
      · subst e; exact ⟨k, hb, hro⟩
      · simp only [Cx.aset, upd_other _ _ e] at hd; exact ⟨kd, hd, hrd⟩
    have hd2 : ∃ q, c.H d' = some q ∧ q.ro = false := by
      by_cases e : d' = b
      · subst e; exact ⟨k, hb, hro⟩
      · simp only [Cx.aset, upd_other _ _ e] at hd'; exact ⟨kd', hd', hrd'⟩
    obtain ⟨q, hq, hqr⟩ := hd1
    obtain ⟨q', hq', hqr'⟩ := hd2
    exact hr.uni d d' q q' hq hq' hqr hqr' hne
  · intro d kd hd hrd
    show ¬ c.X (c.io d).1
    by_cases e : d = b
    · subst e; exact hr.nx d k hb hro
    · simp only [Cx.aset, upd_other _ _ e] at hd; exact hr.nx d kd hd hrd
  · intro q hq
    show q < w'.heap.size
    have := hr.xlt q hq; omega

theorem T_set {c : Cx} (hr : RelH c) {b : Nat} {k k' : Blk} (hb : c.H b = some k) (hro : k.ro = false) (hro' : k'.ro = false) (hmp : k'.mp = none) (hv : k.v ≤ k'.v) (hesz : k'.esz = k.esz)
    {w' : World} (hsame : ∀ q, q ≠ (c.io b).1 → w'.heap[q]? = c.w.heap[q]?) (hsz : w'.heap.size = c.w.heap.size) (ho : w'.os = c.w.os) (ht : w'.tape = c.w.tape) (hu : w'.output = c.w.output)
    {cs cs' : Array Value} {ty : TypeId} (h0 : c.w.heap[(c.io b).1]? = some (.cells cs ty (0, 0))) (h1 : w'.heap[(c.io b).1]? = some (.cells cs' ty (0, 0))) (h2 : cs'.size = cs.size)
    (hcs : ∀ (j : Nat) (x : A), k'.cs[j]? = some x → ∃ v, w'.cell? (c.at b j) = some v ∧ VR c x v) :
    RelH (c.aset b k' w') ∧ Step c (c.aset b k' w') :=
  T_seto hr hb hro hro' hv hesz hsame hsz ho ht hu h0 h1 ⟨fun cs0 ty0 fr0 e => by cases e; exact ⟨cs', rfl, h2⟩, fun _ => ⟨cs', ty, rfl⟩, (fun st l h => by rw [hmp] at h; cases h), (fun es cl e => by cases e)⟩ hcs

/-- A row that isn't there yet, told anew. -/
theorem T_virt {c : Cx} (hr : RelH c) {b : Nat} {k k' : Blk} (hb : c.H b = some k) (hro : k.ro = true) (hv : k.v < k'.v) (hro' : k'.ro = true) (hcs : k'.cs = []) (hmp : k'.mp = none) :
    RelH (c.aset b k' c.w) ∧ Step c (c.aset b k' c.w) := by
  have hcase : ∀ d kd, (c.aset b k' c.w).H d = some kd → d = b ∧ kd = k' ∨ d ≠ b ∧ c.H d = some kd := by
    intro d kd h
    by_cases e : d = b
    · subst e; simp only [Cx.aset, upd_same, Option.some.injEq] at h; exact .inl ⟨rfl, h.symm⟩
    · simp only [Cx.aset, upd_other _ _ e] at h; exact .inr ⟨e, h⟩
  have hS : Step c (c.aset b k' c.w) := by
    refine ⟨rfl, rfl, rfl, Nat.le_refl _, fun _ _ _ => rfl, ?_, ?_, rfl, fun _ h => h, MPers.refl _⟩
    · rintro q ⟨d, blk, h1, h2, h3⟩
      rcases hcase d blk h1 with ⟨_, rfl⟩ | ⟨_, h⟩
      · rw [hro'] at h2; cases h2
      · exact .inl ⟨d, blk, h, h2, h3⟩
    · intro d k0 h0
      by_cases e : d = b
      · subst e
        rw [hb] at h0
        cases h0
        exact ⟨k', by simp [Cx.aset, upd_same], by omega, fun e => by omega⟩
      · exact ⟨k0, by simp [Cx.aset, upd_other _ _ e, h0], Nat.le_refl _, fun _ => ⟨rfl, rfl, rfl⟩⟩
  refine ⟨⟨?_, ?_, ?_, ?_, ?_, ?_, ?_, fun k hk => hr.xlt k hk⟩, hS⟩
  · intro d kd hd j x hj
    rcases hcase d kd hd with ⟨_, rfl⟩ | ⟨_, h⟩
    · rw [hcs] at hj; simp at hj
    · obtain ⟨v, h1, h2⟩ := hr.cell d kd h j x hj
      exact ⟨v, h1, VR.step hS x v h2⟩
  · intro d kd hd h
    rcases hcase d kd hd with ⟨_, rfl⟩ | ⟨_, h'⟩
    · exact hcs
    · exact hr.vz d kd h' h
  · intro d kd hd h
    rcases hcase d kd hd with ⟨_, rfl⟩ | ⟨_, h'⟩
    · rw [hro'] at h; cases h
    · exact hr.lt d kd h' h
  · intro d kd hd h hm
    rcases hcase d kd hd with ⟨_, rfl⟩ | ⟨_, h'⟩
    · rw [hro'] at h; cases h
    · exact hr.fz d kd h' h hm
  · intro d kd st l hd hm
    rcases hcase d kd hd with ⟨_, rfl⟩ | ⟨_, h'⟩
    · rw [hmp] at hm; cases hm
    · exact hr.mz d kd st l h' hm
  · intro d d' kd kd' hd hd' h h' hne
    rcases hcase d kd hd with ⟨_, rfl⟩ | ⟨_, g⟩
    · rw [hro'] at h; cases h
    · rcases hcase d' kd' hd' with ⟨_, rfl⟩ | ⟨_, g'⟩
      · rw [hro'] at h'; cases h'
      · exact hr.uni d d' kd kd' g g' h h' hne
  · intro d kd hd h
    rcases hcase d kd hd with ⟨_, rfl⟩ | ⟨_, h'⟩
    · rw [hro'] at h; cases h
    · exact hr.nx d kd h' h

theorem setCells_other (b : Nat) : ∀ (vs : List Value) (o : Nat) (w : World) (q : Nat), q ≠ b → (w.setCells b o vs).heap[q]? = w.heap[q]?
  | [], _, _, _, _ => rfl
  | v :: r, o, w, q, h => by
    rw [World.setCells, setCells_other b r (o + 1) _ q h]
    exact Below.heap_setCell w ⟨b, o, none⟩ v q h

theorem setCells_size (b : Nat) : ∀ (vs : List Value) (o : Nat) (w : World), (w.setCells b o vs).heap.size = w.heap.size
  | [], _, _ => rfl
  | v :: r, o, w => by rw [World.setCells, setCells_size b r]; simp [World.setCell]

theorem setCells_rest (b : Nat) : ∀ (vs : List Value) (o : Nat) (w : World), (w.setCells b o vs).os = w.os ∧ (w.setCells b o vs).tape = w.tape ∧ (w.setCells b o vs).output = w.output
  | [], _, _ => ⟨rfl, rfl, rfl⟩
  | v :: r, o, w => by rw [World.setCells]; exact setCells_rest b r (o + 1) (w.setCell ⟨b, o, none⟩ v)

theorem setCells_block (b : Nat) (ty : TypeId) : ∀ (vs : List Value) (o : Nat) (w : World) (cs : Array Value), w.heap[b]? = some (.cells cs ty (0, 0)) →
    ∃ cs', (w.setCells b o vs).heap[b]? = some (.cells cs' ty (0, 0)) ∧ cs'.size = cs.size
  | [], _, _, cs, h => ⟨cs, h, rfl⟩
  | v :: r, o, w, cs, h => by
    obtain ⟨cs', h1, h2⟩ := setCells_block b ty r (o + 1) (w.setCell ⟨b, o, none⟩ v) (cs.setIfInBounds o v) (by simp [World.setCell, Array.getElem?_modify, h])
    exact ⟨cs', h1, by simpa using h2⟩

theorem frozen_of {w : World} {b : Nat} {cs : Array Value} {ty : TypeId} (h : w.heap[b]? = some (.cells cs ty (0, 0))) (o : Nat) : w.frozen? ⟨b, o, none⟩ = false := by
  simp [World.frozen?, h]

/-- The world's count of draws alone has turned. -/
theorem T_drew {c : Cx} (hr : RelH c) (n : Nat) : RelH { c with w := { c.w with drawn := n } } ∧ Step c { c with w := { c.w with drawn := n } } := by
  have hS : Step c { c with w := { c.w with drawn := n } } :=
    ⟨rfl, rfl, rfl, Nat.le_refl _, fun _ _ _ => rfl, fun _ h => .inl h, fun _ k h => ⟨k, h, Nat.le_refl _, fun _ => ⟨rfl, rfl, rfl⟩⟩, rfl, fun _ h => h, MPers.refl _⟩
  refine ⟨⟨fun b k hb j x hj => ?_, hr.vz, hr.lt, hr.fz, hr.mz, hr.uni, hr.nx, hr.xlt⟩, hS⟩
  obtain ⟨v, h1, h2⟩ := hr.cell b k hb j x hj
  exact ⟨v, h1, VR.step hS x v h2⟩
end Go.Sym
