/- What the law FnExactLinkTake stands upon: words about memory, the Go functions that it reaches as plain Lean functions with the proofs that each call answers as its function says, and the plain laws. Laid by a program of this repository (pack.py). Conditions: those that each theorem names. -/
import Derived.ArgAppend
import Derived.Below
import Derived.BigQuiet
import Derived.ChangeArms
import Derived.ChangeSame
import Derived.Deep.AppendLies
import Derived.Deep.CutBlock
import Derived.Deep.DeepCutAuto
import Derived.Deep.Draws
import Derived.Deep.LoopGhost
import Derived.Deep.OwnRows
import Derived.Deep.QuietTactic
import Derived.Deep.RegionHeld3
import Derived.Deep.Slices
import Derived.KernelRfl
import Derived.Laws.BytesArg
import Derived.Laws.IdiomCopy
import Derived.Laws.MakeOwn
import Derived.Laws.OwnMore
import Derived.Laws.Rows
import Derived.Laws.Slices
import Derived.Lib.AppendStr
import Derived.Lib.ConvBytes
import Derived.Maps.AppendAt
import Derived.OpenShut
import Derived.OwnWalk
import Derived.ProofKit
import Derived.RowKit
import Derived.RowKit3
import Derived.ShutString
import Derived.Tactics
import Derived.WalkKit
import Derived.WideLaws
import Derived.Test.YtnbodfakblbmbaaBFnExactLinkTake0
section
namespace Go.Proofs.Ytnbodfakblbmbaa.Op
open Go.Proofs.YtnbodfakblbmbaaW.PrintWords
open Go.ChangeShapes Go.WideShapes Go.ChangeAt Go.RowKit
open Go.ChangeMaps (open_string)
def I64 (a : Int) : Prop := -9223372036854775808 ≤ a ∧ a ≤ 9223372036854775807
def Opens (P : Program) (t : TypeId) {α : Type} (d : Kd α) (G : α → Prop) : Prop :=
  ∀ (H : Type) (enc : TypeId × Value → H) (W : World) (base : Nat) (sp : Nat → Bool) (held : Bool) (fuel : Nat) (cs : List Value) (x : DataW H × List MemPlace), DataW.trod enc P W base sp held fuel t cs = some x → ∃ v, d.K W v cs ∧ G v
section
variable {P : Program} {t e : TypeId} {α β : Type} {d : Kd α} {d2 : Kd β} {G : α → Prop} {G2 : β → Prop}
theorem opens_i64 (ht : P.underlying t = some (.int .i64)) : Opens P t (Kd.int .i64) I64 := by
  intro H enc W base sp held fuel cs x h
  obtain ⟨n, rfl, _, hw⟩ := DataW.trod_int ht h
  refine ⟨n, rfl, ?_⟩
  simp [Lit.wf, IntKind.min, IntKind.max, IntKind.bits, IntKind.signed] at hw
  unfold I64
  omega
theorem opens_bool (ht : P.underlying t = some .bool) : Opens P t Kd.bool (fun _ => True) := by
  intro H enc W base sp held fuel cs x h
  obtain ⟨b, rfl, _⟩ := DataW.trod_bool ht h
  exact ⟨b, rfl, trivial⟩
theorem choose_list {R : Nat → α → Prop} : ∀ n : Nat, (∀ i, i < n → ∃ v, R i v) → ∃ l : List α, l.length = n ∧ ∀ i v, l[i]? = some v → R i v
  | 0, _ => ⟨[], rfl, fun i v h => by simp at h⟩
  | n + 1, h => by
    obtain ⟨l, hl, hr⟩ := choose_list n (fun i hi => h i (by omega))
    obtain ⟨v, hv⟩ := h n (by omega)
    refine ⟨l ++ [v], by simp [hl], fun i u hu => ?_⟩
    rcases Nat.lt_or_ge i l.length with hi | hi
    · rw [List.getElem?_append_left hi] at hu
      exact hr i u hu
    · rw [List.getElem?_append_right hi] at hu
      have hi0 : i - l.length = 0 := by
        have := (List.getElem?_eq_some_iff.1 hu).1
        simp at this
        omega
      rw [hi0] at hu
      have : v = u := by simpa using hu
      have hin : i = n := by omega
      rw [hin, ← this]
      exact hv
theorem opens_slice (ht : P.underlying t = some (.slice e)) (hs : P.cellsOf e = d.sz) (hd : Opens P e d G) : Opens P t (Kd.slice e d) (fun l => l.length ≤ maxLen ∧ ∀ x ∈ l, G x) := by
  intro H enc W base sp held fuel cs x h
  rcases Go.Deep.open_slice ht h with ⟨rfl, _⟩ | ⟨a, len, cap, m, n, D, Pl, rfl, _, hl, hm, hmm, _, hel⟩
  · exact ⟨[], ⟨none, 0, rfl, Nat.le_refl _, rfl, by simp, fun h0 => by simp at h0⟩, by simp, fun x hx => by cases hx⟩
  · have hlm : len ≤ m := by rw [hmm]; split <;> omega
    obtain ⟨l, hll, hR⟩ := choose_list (R := fun i v => ∃ cs', W.cells? base (a.add (i * P.cellsOf e)) (P.cellsOf e) = some cs' ∧ d.K W v cs' ∧ G v) len (fun i hi => by
      obtain ⟨cs', h1, h2⟩ := hel i (by omega)
      obtain ⟨v, hv, hg⟩ := hd _ _ _ _ _ _ _ _ _ h2
      exact ⟨v, cs', h1, hv, hg⟩)
    subst hll
    refine ⟨l, ⟨some a, cap, rfl, hl, rfl, by unfold maxLen at hm; omega, fun _ => ⟨a, rfl, fun j p hj => ?_⟩⟩, by omega, fun x hx => ?_⟩
    · obtain ⟨cs', h1, h2, _⟩ := hR j p hj
      obtain ⟨_, hlen, hat⟩ := World.cells?_some h1
      refine ⟨cs', d.K_len h2, h2, fun i u hu => ?_⟩
      have hi : i < P.cellsOf e := by rw [← hlen]; exact (List.getElem?_eq_some_iff.1 hu).1
      have := hat i hi
      rw [hs] at this
      rw [← Go.Deep.add_add, this, hu]
    · obtain ⟨i, hi⟩ := List.mem_iff_getElem?.1 hx
      obtain ⟨_, _, _, hg⟩ := hR i x hi
      exact hg
theorem arg_i64 {r : Reach} {b0 : Nat} {H : Type} {enc : TypeId × Value → H} {W : World} {base : Nat} {sp : Nat → Bool} {held : Bool} {v : Value} {x : DataW H} {ps : List MemPlace} (ht : P.underlying t = some (.int .i64)) (hv : Value.okWide P W r b0 t v)
    (h : DataW.Trod enc P W base sp held t v x ps) : ∃ a, v = .int .i64 a ∧ I64 a := by
  obtain ⟨a, rfl, _, _, hw⟩ := open_int ht hv h
  refine ⟨a, rfl, ?_⟩
  simp [Lit.wf, IntKind.min, IntKind.max, IntKind.bits, IntKind.signed] at hw
  unfold I64
  omega
def Part (W : World) (off : Nat) {α : Type} (d : Kd α) (G : α → Prop) (cs : List Value) : Prop := ∃ v, d.K W v ((cs.drop off).take d.sz) ∧ G v
theorem Part.pair {W : World} {off : Nat} {cs : List Value} (h1 : Part W off d G cs) (h2 : Part W (off + d.sz) d2 G2 cs) : Part W off (Kd.pair d d2) (fun v => G v.1 ∧ G2 v.2) cs := by
  obtain ⟨v, hv, hg⟩ := h1
  obtain ⟨u, hu, hg2⟩ := h2
  refine ⟨(v, u), ⟨_, _, ?_, hv, hu⟩, hg, hg2⟩
  show (cs.drop off).take (d.sz + d2.sz) = _
  rw [List.take_add, List.drop_drop]
theorem Part.iso {W : World} {off : Nat} {cs : List Value} {f : β → α} (g : α → β) (hfg : ∀ x, f (g x) = x) (h : Part W off d G cs) : Part W off (Kd.iso d f) (fun v => G (f v)) cs := by
  obtain ⟨v, hv, hg⟩ := h
  exact ⟨g v, by show d.K W (f (g v)) _; rw [hfg]; exact hv, by show G (f (g v)); rw [hfg]; exact hg⟩
theorem Part.mono {W : World} {off : Nat} {cs : List Value} {G' : α → Prop} (h : Part W off d G cs) (hG : ∀ v, G v → G' v) : Part W off d G' cs := by
  obtain ⟨v, hv, hg⟩ := h
  exact ⟨v, hv, hG v hg⟩
theorem Part.of {H : Type} {enc : TypeId × Value → H} {W : World} {base : Nat} {sp : Nat → Bool} {held : Bool} {n off : Nat} {cs : List Value} {y : DataW H × List MemPlace} (ho : Opens P t d G) (hs : P.cellsOf t = d.sz) (h : DataW.trod enc P W base sp held n t ((cs.drop off).take (P.cellsOf t)) = some y) : Part W off d G cs := by
  obtain ⟨v, hv, hg⟩ := ho _ _ _ _ _ _ _ _ _ h
  rw [hs] at hv
  exact ⟨v, hv, hg⟩
theorem arg_struct {r : Reach} {b0 : Nat} {H : Type} {enc : TypeId × Value → H} {W : World} {base : Nat} {sp : Nat → Bool} {held : Bool} {fs : Array Field} {v : Value} {x : DataW H} {ps : List MemPlace} (ht : P.underlying t = some (.struct fs)) (hv : Value.okWide P W r b0 t v) (ho : Opens P t d G)
    (h : DataW.Trod enc P W base sp held t v x ps) : ∃ (a : α) (cs : List Value), v = .agg cs.toArray ∧ d.K W a cs ∧ G a := by
  obtain ⟨cs, rfl, _⟩ := okWide_struct ht hv
  obtain ⟨fuel, hf⟩ := h
  obtain ⟨a, ha, hg⟩ := ho _ _ _ _ _ _ _ _ _ hf
  exact ⟨a, cs.toList, by simp, by simpa [Value.cells] using ha, hg⟩
theorem opens_struct {fs : Array Field} (ht : P.underlying t = some (.struct fs)) (hs : P.cellsOf t = d.sz)
    (hp : ∀ (H : Type) (enc : TypeId × Value → H) (W : World) (base : Nat) (sp : Nat → Bool) (held : Bool) (n : Nat) (cs : List Value), cs.length = d.sz → (∀ (j : Nat) (f : Field), fs[j]? = some f → ∃ y, DataW.trod enc P W base sp held n f.type ((cs.drop f.offset).take (P.cellsOf f.type)) = some y) → Part W 0 d G cs) : Opens P t d G := by
  intro H enc W base sp held fuel cs x h
  obtain ⟨ys, n, hn, _, hlen, hyl, hf⟩ := DataW.trod_struct ht h
  obtain ⟨v, hv, hg⟩ := hp H enc W base sp held n cs (by rw [← hs]; exact hlen) (fun j f hj => by
    have h1 := hf j f hj
    have hj2 : j < ys.length := by rw [hyl]; exact (Array.getElem?_eq_some_iff.1 hj).1
    exact ⟨ys[j], by rw [h1]; exact List.getElem?_eq_getElem hj2⟩)
  have : ((cs.drop 0).take d.sz) = cs := by rw [List.drop_zero, List.take_of_length_le]; rw [← hs, ← hlen]; exact Nat.le_refl _
  rw [this] at hv
  exact ⟨v, hv, hg⟩
end
end Go.Proofs.Ytnbodfakblbmbaa.Op
end
