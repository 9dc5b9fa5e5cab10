/- What plain functions of this seat answer. Conditions: those that each theorem names. -/
import Derived.Test.YtofmobmmoideiaaPx0
import Derived.Test.YtofmobmmoideiaaOp
namespace Go.Proofs.Ytofmobmmoideiaa.P
open Go.RowKit Go.Proofs.YtofmobmmoideiaaW.PrintWords
set_option linter.unusedVariables false
set_option linter.unusedSimpArgs false

/-! Rounds and loops. -/
theorem ev_ite {α : Type} {c : Prop} [Decidable c] {a b : Nat → Option α} {r : α} (h1 : c → Ev a r) (h2 : ¬ c → Ev b r) : Ev (fun n => if c then a n else b n) r := by
  by_cases h : c
  · obtain ⟨K, hk⟩ := h1 h
    exact ⟨K, fun k hkk => by simp only [if_pos h]; exact hk k hkk⟩
  · obtain ⟨K, hk⟩ := h2 h
    exact ⟨K, fun k hkk => by simp only [if_neg h]; exact hk k hkk⟩
theorem ev_pos {α : Type} {c : Prop} [Decidable c] {a b : Nat → Option α} {r : α} (h : c) (h1 : Ev a r) : Ev (fun n => if c then a n else b n) r := ev_ite (fun _ => h1) (fun h2 => absurd h h2)
theorem ev_neg {α : Type} {c : Prop} [Decidable c] {a b : Nat → Option α} {r : α} (h : ¬ c) (h1 : Ev b r) : Ev (fun n => if c then a n else b n) r := ev_ite (fun h2 => absurd h2 h) (fun _ => h1)
theorem ev_succ {α : Type} {g : Nat → Option α} {r : α} (h : ∀ k, g (k + 1) = some r) : Ev g r := ⟨1, fun k hk => by obtain ⟨m, rfl⟩ : ∃ m, k = m + 1 := ⟨k - 1, by omega⟩; exact h m⟩
theorem ev_const {α : Type} {a : Option α} {r : α} (h : a = some r) : Ev (fun _ => a) r := ⟨0, fun _ _ => h⟩
theorem ev_bindc {α β : Type} {a : Option α} {x : α} {f : Nat → α → Option β} {r : β} (h : a = some x) (k : Ev (fun n => f n x) r) : Ev (fun n => a.bind (f n)) r := Ev.bind (ev_const h) k
theorem ev_now {α : Type} {x r : α} (h : x = r) : Ev (fun _ => some x) r := ev_const (by rw [h])
theorem ev_shift {α : Type} {g : Nat → Option α} {r : α} (h : Ev (fun k => g (k + 1)) r) : Ev g r := by
  obtain ⟨K, h⟩ := h
  exact ⟨K + 1, fun k hk => by obtain ⟨m, rfl⟩ : ∃ m, k = m + 1 := ⟨k - 1, by omega⟩; exact h m (by omega)⟩
theorem wrap_id {x : Int} (h : -9223372036854775808 ≤ x ∧ x ≤ 9223372036854775807) : wrap64 x = x := by unfold wrap64; omega
theorem wrap_succ {i : Int} {n : Nat} (h0 : 0 ≤ i) (h1 : i < (n : Int)) (hn : n ≤ 9223372036854775807) : wrap64 (i + 1) = i + 1 := wrap_id (by omega)
theorem getD_of {α : Type} {l : List α} {i : Nat} {z : α} (h : i < l.length) : l.getD i z = l[i] := by rw [List.getD_eq_getElem?_getD, List.getElem?_eq_getElem h]; rfl
theorem drop_cons {α : Type} {l : List α} {i : Nat} (z : α) (h : i < l.length) : l.drop i = l.getD i z :: l.drop (i + 1) := by rw [getD_of h, List.getElem_cons_drop]
end Go.Proofs.Ytofmobmmoideiaa.P
