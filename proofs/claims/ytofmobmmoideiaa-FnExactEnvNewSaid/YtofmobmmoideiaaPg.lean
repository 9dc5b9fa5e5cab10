/- The Go functions of this seat as plain Lean functions, and the proofs that each call answers as its function says; laid by a program (gp.py of this repository). Conditions: those that each theorem names. -/
import Derived.Test.YtofmobmmoideiaaP0
import Derived.Test.YtofmobmmoideiaaPk0
import Derived.Test.YtofmobmmoideiaaOp
namespace Go.Proofs.Ytofmobmmoideiaa.P
open Go.RowKit Go.Proofs.YtofmobmmoideiaaW.PrintWords
set_option linter.unusedVariables false

def G76 (x : S76) : Prop := Op.I64 x.f0 ∧ Op.I64 x.f1 ∧ Op.I64 x.f2
def G31 (x : S31) : Prop := (x.f0.length ≤ maxLen ∧ ∀ y_ ∈ x.f0, G76 y_)
def G33 (x : S33) : Prop := Op.I64 x.f0 ∧ Op.I64 x.f1 ∧ Op.I64 x.f2 ∧ True
def G52 (x : S52) : Prop := Op.I64 x.f0 ∧ Op.I64 x.f1 ∧ Op.I64 x.f2 ∧ Op.I64 x.f3
theorem opens76 : Op.Opens Try.prog 76 k76 G76 := by
  refine Op.opens_struct Try.underlying76 (by kernel_rfl) ?_
  intro H enc W base sp held n cs hlen hf
  obtain ⟨y0, h0⟩ := hf 0 _ rfl
  have p0 := Op.Part.of (off := 0) (Op.opens_i64 Try.underlying3) (by kernel_rfl) h0
  obtain ⟨y1, h1⟩ := hf 1 _ rfl
  have p1 := Op.Part.of (off := 1) (Op.opens_i64 Try.underlying3) (by kernel_rfl) h1
  obtain ⟨y2, h2⟩ := hf 2 _ rfl
  have p2 := Op.Part.of (off := 2) (Op.opens_i64 Try.underlying3) (by kernel_rfl) h2
  exact (Op.Part.iso (fun p => (⟨p.1, p.2.1, p.2.2⟩ : S76)) (fun _ => rfl) (Op.Part.pair p0 (Op.Part.pair p1 p2))).mono (fun v h => h)
theorem opens31 : Op.Opens Try.prog 31 k31 G31 := by
  refine Op.opens_struct Try.underlying31 (by kernel_rfl) ?_
  intro H enc W base sp held n cs hlen hf
  obtain ⟨y0, h0⟩ := hf 0 _ rfl
  have p0 := Op.Part.of (off := 0) (Op.opens_slice Try.underlying29 (by kernel_rfl) opens76) (by kernel_rfl) h0
  exact (Op.Part.iso (fun p => (⟨p⟩ : S31)) (fun _ => rfl) p0).mono (fun v h => h)
theorem opens33 : Op.Opens Try.prog 33 k33 G33 := by
  refine Op.opens_struct Try.underlying33 (by kernel_rfl) ?_
  intro H enc W base sp held n cs hlen hf
  obtain ⟨y0, h0⟩ := hf 0 _ rfl
  have p0 := Op.Part.of (off := 0) (Op.opens_i64 Try.underlying3) (by kernel_rfl) h0
  obtain ⟨y1, h1⟩ := hf 1 _ rfl
  have p1 := Op.Part.of (off := 1) (Op.opens_i64 Try.underlying3) (by kernel_rfl) h1
  obtain ⟨y2, h2⟩ := hf 2 _ rfl
  have p2 := Op.Part.of (off := 2) (Op.opens_i64 Try.underlying3) (by kernel_rfl) h2
  obtain ⟨y3, h3⟩ := hf 3 _ rfl
  have p3 := Op.Part.of (off := 3) (Op.opens_bool Try.underlying4) (by kernel_rfl) h3
  exact (Op.Part.iso (fun p => (⟨p.1, p.2.1, p.2.2.1, p.2.2.2⟩ : S33)) (fun _ => rfl) (Op.Part.pair p0 (Op.Part.pair p1 (Op.Part.pair p2 p3)))).mono (fun v h => h)
theorem opens52 : Op.Opens Try.prog 52 k52 G52 := by
  refine Op.opens_struct Try.underlying52 (by kernel_rfl) ?_
  intro H enc W base sp held n cs hlen hf
  obtain ⟨y0, h0⟩ := hf 0 _ rfl
  have p0 := Op.Part.of (off := 0) (Op.opens_i64 Try.underlying3) (by kernel_rfl) h0
  obtain ⟨y1, h1⟩ := hf 1 _ rfl
  have p1 := Op.Part.of (off := 1) (Op.opens_i64 Try.underlying3) (by kernel_rfl) h1
  obtain ⟨y2, h2⟩ := hf 2 _ rfl
  have p2 := Op.Part.of (off := 2) (Op.opens_i64 Try.underlying3) (by kernel_rfl) h2
  obtain ⟨y3, h3⟩ := hf 3 _ rfl
  have p3 := Op.Part.of (off := 3) (Op.opens_i64 Try.underlying3) (by kernel_rfl) h3
  exact (Op.Part.iso (fun p => (⟨p.1, p.2.1, p.2.2.1, p.2.2.2⟩ : S52)) (fun _ => rfl) (Op.Part.pair p0 (Op.Part.pair p1 (Op.Part.pair p2 p3)))).mono (fun v h => h)
end Go.Proofs.Ytofmobmmoideiaa.P
