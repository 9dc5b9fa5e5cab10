/- What the law FnExactLinkTake stands upon: words about memory, the Go functions that it reaches as plain Lean functions with the proofs that each call answers as its function says, and the plain laws. Laid by a program of this repository (pack.py). Conditions: those that each theorem names. -/
import Derived.ArgAppend
import Derived.Below
import Derived.BigQuiet
import Derived.ChangeArms
import Derived.ChangeSame
import Derived.Deep.AppendLies
import Derived.Deep.CutBlock
import Derived.Deep.DeepCutAuto
import Derived.Deep.Draws
import Derived.Deep.LoopGhost
import Derived.Deep.OwnRows
import Derived.Deep.QuietTactic
import Derived.Deep.RegionHeld3
import Derived.Deep.Slices
import Derived.KernelRfl
import Derived.Laws.BitsLemmas
import Derived.Laws.BytesArg
import Derived.Laws.IdiomCopy
import Derived.Laws.MakeOwn
import Derived.Laws.OwnMore
import Derived.Laws.Rows
import Derived.Laws.Slices
import Derived.Laws.StructEq
import Derived.Lib.AppendStr
import Derived.Lib.ConvBytes
import Derived.Maps.AppendAt
import Derived.OpenShut
import Derived.OrdersHeld
import Derived.OwnWalk
import Derived.ProofKit
import Derived.RowKit
import Derived.RowKit3
import Derived.ShutString
import Derived.Tactics
import Derived.Test.YtnbodfakblbmbaaProg
import Derived.WalkKit
import Derived.WideLaws
import Derived.Test.YtnbodfakblbmbaaBFnExactLinkTake0
import Derived.Test.YtnbodfakblbmbaaBFnExactLinkTake1
import Derived.Test.YtnbodfakblbmbaaBFnExactLinkTake2
import Derived.Test.YtnbodfakblbmbaaBFnExactLinkTake3
import Derived.Test.YtnbodfakblbmbaaBFnExactLinkTake4
import Derived.Test.YtnbodfakblbmbaaBFnExactLinkTake10
section
namespace Go.Proofs.Ytnbodfakblbmbaa.P
open Go.RowKit Go.Proofs.YtnbodfakblbmbaaW.PrintWords
set_option linter.unusedVariables false
def G117 (x : S117) : Prop := Op.I64 x.f0 ∧ Op.I64 x.f1 ∧ Op.I64 x.f2
def G24 (x : S24) : Prop := (x.f0.length ≤ maxLen ∧ ∀ y_ ∈ x.f0, G117 y_)
def G26 (x : S26) : Prop := Op.I64 x.f0 ∧ Op.I64 x.f1 ∧ Op.I64 x.f2 ∧ True
theorem opens117 : Op.Opens Try.prog 117 k117 G117 := by
  refine Op.opens_struct Try.underlying117 (by kernel_rfl) ?_
  intro H enc W base sp held n cs hlen hf
  obtain ⟨y0, h0⟩ := hf 0 _ rfl
  have p0 := Op.Part.of (off := 0) (Op.opens_i64 Try.underlying3) (by kernel_rfl) h0
  obtain ⟨y1, h1⟩ := hf 1 _ rfl
  have p1 := Op.Part.of (off := 1) (Op.opens_i64 Try.underlying3) (by kernel_rfl) h1
  obtain ⟨y2, h2⟩ := hf 2 _ rfl
  have p2 := Op.Part.of (off := 2) (Op.opens_i64 Try.underlying3) (by kernel_rfl) h2
  exact (Op.Part.iso (fun p => (⟨p.1, p.2.1, p.2.2⟩ : S117)) (fun _ => rfl) (Op.Part.pair p0 (Op.Part.pair p1 p2))).mono (fun v h => h)
theorem opens24 : Op.Opens Try.prog 24 k24 G24 := by
  refine Op.opens_struct Try.underlying24 (by kernel_rfl) ?_
  intro H enc W base sp held n cs hlen hf
  obtain ⟨y0, h0⟩ := hf 0 _ rfl
  have p0 := Op.Part.of (off := 0) (Op.opens_slice Try.underlying22 (by kernel_rfl) opens117) (by kernel_rfl) h0
  exact (Op.Part.iso (fun p => (⟨p⟩ : S24)) (fun _ => rfl) p0).mono (fun v h => h)
theorem opens26 : Op.Opens Try.prog 26 k26 G26 := by
  refine Op.opens_struct Try.underlying26 (by kernel_rfl) ?_
  intro H enc W base sp held n cs hlen hf
  obtain ⟨y0, h0⟩ := hf 0 _ rfl
  have p0 := Op.Part.of (off := 0) (Op.opens_i64 Try.underlying3) (by kernel_rfl) h0
  obtain ⟨y1, h1⟩ := hf 1 _ rfl
  have p1 := Op.Part.of (off := 1) (Op.opens_i64 Try.underlying3) (by kernel_rfl) h1
  obtain ⟨y2, h2⟩ := hf 2 _ rfl
  have p2 := Op.Part.of (off := 2) (Op.opens_i64 Try.underlying3) (by kernel_rfl) h2
  obtain ⟨y3, h3⟩ := hf 3 _ rfl
  have p3 := Op.Part.of (off := 3) (Op.opens_bool Try.underlying4) (by kernel_rfl) h3
  exact (Op.Part.iso (fun p => (⟨p.1, p.2.1, p.2.2.1, p.2.2.2⟩ : S26)) (fun _ => rfl) (Op.Part.pair p0 (Op.Part.pair p1 (Op.Part.pair p2 p3)))).mono (fun v h => h)
end Go.Proofs.Ytnbodfakblbmbaa.P
end

section
namespace Go.Proofs.Ytnbodfakblbmbaa.P
open Go.RowKit Go.Proofs.YtnbodfakblbmbaaW.PrintWords
set_option linter.unusedVariables false
set_option linter.unusedSimpArgs false
theorem ev_ite {α : Type} {c : Prop} [Decidable c] {a b : Nat → Option α} {r : α} (h1 : c → Ev a r) (h2 : ¬ c → Ev b r) : Ev (fun n => if c then a n else b n) r := by
  by_cases h : c
  · obtain ⟨K, hk⟩ := h1 h
    exact ⟨K, fun k hkk => by simp only [if_pos h]; exact hk k hkk⟩
  · obtain ⟨K, hk⟩ := h2 h
    exact ⟨K, fun k hkk => by simp only [if_neg h]; exact hk k hkk⟩
theorem ev_pos {α : Type} {c : Prop} [Decidable c] {a b : Nat → Option α} {r : α} (h : c) (h1 : Ev a r) : Ev (fun n => if c then a n else b n) r := ev_ite (fun _ => h1) (fun h2 => absurd h h2)
theorem ev_neg {α : Type} {c : Prop} [Decidable c] {a b : Nat → Option α} {r : α} (h : ¬ c) (h1 : Ev b r) : Ev (fun n => if c then a n else b n) r := ev_ite (fun h2 => absurd h2 h) (fun _ => h1)
theorem ev_succ {α : Type} {g : Nat → Option α} {r : α} (h : ∀ k, g (k + 1) = some r) : Ev g r := ⟨1, fun k hk => by obtain ⟨m, rfl⟩ : ∃ m, k = m + 1 := ⟨k - 1, by omega⟩; exact h m⟩
theorem ev_const {α : Type} {a : Option α} {r : α} (h : a = some r) : Ev (fun _ => a) r := ⟨0, fun _ _ => h⟩
theorem ev_now {α : Type} {x r : α} (h : x = r) : Ev (fun _ => some x) r := ev_const (by rw [h])
theorem ev_shift {α : Type} {g : Nat → Option α} {r : α} (h : Ev (fun k => g (k + 1)) r) : Ev g r := by
  obtain ⟨K, h⟩ := h
  exact ⟨K + 1, fun k hk => by obtain ⟨m, rfl⟩ : ∃ m, k = m + 1 := ⟨k - 1, by omega⟩; exact h m (by omega)⟩
theorem wrap_id {x : Int} (h : -9223372036854775808 ≤ x ∧ x ≤ 9223372036854775807) : wrap64 x = x := by unfold wrap64; omega
theorem getD_of {α : Type} {l : List α} {i : Nat} {z : α} (h : i < l.length) : l.getD i z = l[i] := by rw [List.getD_eq_getElem?_getD, List.getElem?_eq_getElem h]; rfl
theorem drop_cons {α : Type} {l : List α} {i : Nat} (z : α) (h : i < l.length) : l.drop i = l.getD i z :: l.drop (i + 1) := by rw [getD_of h, List.getElem_cons_drop]
end Go.Proofs.Ytnbodfakblbmbaa.P
end
