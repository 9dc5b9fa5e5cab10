/- What plain functions of this seat answer. Conditions: those that each theorem names. -/
import Derived.Test.YtofmobmmoideiaaPx0
import Derived.Test.YtofmobmmoideiaaPx3
import Derived.Test.YtofmobmmoideiaaPx4
import Derived.Test.YtofmobmmoideiaaPx7
import Derived.Test.YtofmobmmoideiaaPx9
import Derived.Test.YtofmobmmoideiaaPx10
import Derived.Test.YtofmobmmoideiaaPx15
import Derived.Test.YtofmobmmoideiaaPlpool
namespace Go.Proofs.Ytofmobmmoideiaa.P
open Go.RowKit Go.Proofs.YtofmobmmoideiaaW.PrintWords
set_option linter.unusedVariables false
set_option linter.unusedSimpArgs false

/-! What the laws hand over, and how they compare. -/
def toN (n : S76) : Nd := ⟨n.f0, n.f1, n.f2⟩
/-- A loop that fills a list from its begin on. -/
theorem set_fill {α : Type} (xs : List α) (i : Nat) (y : α) (h : i < xs.length) : (xs.set i y).take (i + 1) = xs.take i ++ [y] ∧ (xs.set i y).drop (i + 1) = xs.drop (i + 1) := by
  refine ⟨?_, ?_⟩
  · rw [List.take_succ_eq_append_getElem (by simpa using h)]
    simp [List.take_set_of_le]
  · simp [List.drop_set]
theorem toNodeS_loop (l : List S76) (hl : l.length ≤ 4611686018427387904) (d : Nat) : ∀ (i : Int) (r : List Nd), 0 ≤ i → i ≤ (l.length : Int) → (l.length : Int) - i = d → r.length = l.length → r.take i.toNat = (l.take i.toNat).map toN → Ev (fun k => laws_toNodeS.l0 k l r i) (l.map toN) := by
  induction d with
  | zero =>
    intro i r h0 h1 hd hr ht
    refine ev_shift ?_
    simp only [laws_toNodeS.l0]
    refine ev_neg (by omega) (ev_now ?_)
    rw [List.take_of_length_le (by omega), List.take_of_length_le (by omega)] at ht
    exact ht
  | succ d ih =>
    intro i r h0 h1 hd hr ht
    refine ev_shift ?_
    simp only [laws_toNodeS.l0, laws_toNode.f, Option.bind_some]
    refine ev_pos (by omega) (ev_pos h0 (ev_pos (by omega) ?_))
    rw [wrap_id (by omega)]
    have hlt : i.toNat < l.length := by omega
    refine ih (i + 1) _ (by omega) (by omega) (by omega) (by simpa using hr) ?_
    rw [show (i + 1).toNat = i.toNat + 1 by omega, (set_fill r i.toNat _ (by omega)).1, ht, List.take_succ_eq_append_getElem hlt, List.map_append]
    have : rd_T76 l i = l[i.toNat] := getD_of hlt
    rw [this]
    rfl
theorem toNodeS_ev (l : List S76) (hl : l.length ≤ 1048576) : Ev (fun k => laws_toNodeS.f k l) (l.map toN) := by
  unfold laws_toNodeS.f
  refine ev_pos (by omega) (ev_pos (by omega) ?_)
  exact toNodeS_loop l (by omega) l.length 0 _ (by omega) (by omega) (by omega) (by simp) (by simp)
theorem toPool_ev (l : List S76) (hl : l.length ≤ 1048576) : Ev (fun k => laws_toPool.f k l) (l.map toN) := by
  unfold laws_toPool.f
  exact Ev.bind (toNodeS_ev l hl) (ev_now rfl)
theorem szPool_f (l : List S76) (m : Int) (hl : l.length ≤ maxLen) (hm : 0 ≤ m ∧ m ≤ 4611686018427387904) : laws_szPool.f l m = some (if m - (l.length : Int) < 0 then -1 else m - (l.length : Int)) := by
  unfold maxLen at hl
  unfold laws_szPool.f laws_szNodeS.f
  rw [wrap_id (by omega)]
  by_cases h : m - (l.length : Int) < 0
  · simp [h]
  · simp [h]
theorem eqNode_f (a b : Nd) : laws_eqNode.f a.f0 a.f1 a.f2 b.f0 b.f1 b.f2 = some (decide (a = b)) := by
  unfold laws_eqNode.f
  cases a; cases b
  simp
  split
  · split
    · split <;> simp_all
    · simp_all
  · simp_all
theorem eqNodeS_loop (a b : List Nd) (hl : a.length = b.length) (hm : a.length ≤ 4611686018427387904) (d : Nat) : ∀ (i : Int), 0 ≤ i → i ≤ (a.length : Int) → (a.length : Int) - i = d → a.take i.toNat = b.take i.toNat → Ev (fun k => laws_eqNodeS.l0 k a b i) (decide (a = b)) := by
  induction d with
  | zero =>
    intro i h0 h1 hd ht
    refine ev_shift ?_
    simp only [laws_eqNodeS.l0]
    refine ev_neg (by omega) (ev_now ?_)
    rw [List.take_of_length_le (by omega), List.take_of_length_le (by omega)] at ht
    rw [decide_eq_true ht]
  | succ d ih =>
    intro i h0 h1 hd ht
    refine ev_shift ?_
    simp only [laws_eqNodeS.l0, eqNode_f, Option.bind_some]
    have hlt : i.toNat < a.length := by omega
    have hlt2 : i.toNat < b.length := by omega
    refine ev_pos (by omega) (ev_pos h0 (ev_pos (by omega) ?_))
    rw [wrap_id (by omega), rdN, rdN, getD_of hlt, getD_of hlt2]
    refine ev_ite (fun h => ?_) (fun h => ?_)
    · refine ih (i + 1) (by omega) (by omega) (by omega) ?_
      rw [show (i + 1).toNat = i.toNat + 1 by omega, List.take_succ_eq_append_getElem hlt, List.take_succ_eq_append_getElem hlt2, ht, of_decide_eq_true h]
    · refine ev_now ?_
      symm
      refine decide_eq_false (fun e => h (decide_eq_true ?_))
      subst e
      rfl
theorem eqNodeS_ev (a b : List Nd) (hm : a.length ≤ 4611686018427387904) : Ev (fun k => laws_eqNodeS.f k a b) (decide (a = b)) := by
  unfold laws_eqNodeS.f
  refine ev_ite (fun h => eqNodeS_loop a b (by omega) hm a.length 0 (by omega) (by omega) (by omega) (by simp)) (fun h => ev_now ?_)
  symm
  exact decide_eq_false (fun e => h (by rw [e]))
theorem eqPool_ev (a b : List Nd) (hm : a.length ≤ 4611686018427387904) : Ev (fun k => laws_eqPool.f k a b) (decide (a = b)) := by
  unfold laws_eqPool.f
  refine Ev.bind (eqNodeS_ev a b hm) ?_
  refine ev_ite (fun h => ev_now h.symm) (fun h => ev_now (Bool.eq_false_iff.2 h).symm)
theorem toIntS_loop (l : List Int) (hl : l.length ≤ 4611686018427387904) (d : Nat) : ∀ (i : Int) (r : List Int), 0 ≤ i → i ≤ (l.length : Int) → (l.length : Int) - i = d → r.length = l.length → r.take i.toNat = l.take i.toNat → Ev (fun k => laws_toIntS.l0 k l r i) l := by
  induction d with
  | zero =>
    intro i r h0 h1 hd hr ht
    refine ev_shift ?_
    simp only [laws_toIntS.l0]
    refine ev_neg (by omega) (ev_now ?_)
    rw [List.take_of_length_le (by omega), List.take_of_length_le (by omega)] at ht
    exact ht
  | succ d ih =>
    intro i r h0 h1 hd hr ht
    refine ev_shift ?_
    simp only [laws_toIntS.l0]
    refine ev_pos (by omega) (ev_pos h0 (ev_pos (by omega) ?_))
    rw [wrap_id (by omega)]
    have hlt : i.toNat < l.length := by omega
    refine ih (i + 1) _ (by omega) (by omega) (by omega) (by simpa using hr) ?_
    rw [show (i + 1).toNat = i.toNat + 1 by omega, (set_fill r i.toNat _ (by omega)).1, ht, List.take_succ_eq_append_getElem hlt]
    have : rd l i = l[i.toNat] := getD_of hlt
    rw [this]
theorem toIntS_ev (l : List Int) (hl : l.length ≤ 1048576) : Ev (fun k => laws_toIntS.f k l) l := by
  unfold laws_toIntS.f
  refine ev_pos (by omega) (ev_pos (by omega) ?_)
  exact toIntS_loop l (by omega) l.length 0 _ (by omega) (by omega) (by omega) (by simp) (by simp)
theorem eqIntS_loop (a b : List Int) (hl : a.length = b.length) (hm : a.length ≤ 4611686018427387904) (d : Nat) : ∀ (i : Int), 0 ≤ i → i ≤ (a.length : Int) → (a.length : Int) - i = d → a.take i.toNat = b.take i.toNat → Ev (fun k => laws_eqIntS.l0 k a b i) (decide (a = b)) := by
  induction d with
  | zero =>
    intro i h0 h1 hd ht
    refine ev_shift ?_
    simp only [laws_eqIntS.l0]
    refine ev_neg (by omega) (ev_now ?_)
    rw [List.take_of_length_le (by omega), List.take_of_length_le (by omega)] at ht
    rw [decide_eq_true ht]
  | succ d ih =>
    intro i h0 h1 hd ht
    refine ev_shift ?_
    simp only [laws_eqIntS.l0]
    have hlt : i.toNat < a.length := by omega
    have hlt2 : i.toNat < b.length := by omega
    have e1 : rd a i = a[i.toNat] := getD_of hlt
    have e2 : rd b i = b[i.toNat] := getD_of hlt2
    refine ev_pos (by omega) (ev_pos h0 (ev_pos (by omega) ?_))
    rw [wrap_id (by omega), e1, e2]
    refine ev_ite (fun h => ?_) (fun h => ?_)
    · refine ih (i + 1) (by omega) (by omega) (by omega) ?_
      rw [show (i + 1).toNat = i.toNat + 1 by omega, List.take_succ_eq_append_getElem hlt, List.take_succ_eq_append_getElem hlt2, ht, h]
    · refine ev_now ?_
      symm
      refine decide_eq_false (fun e => h ?_)
      subst e
      rfl
theorem eqIntS_ev (a b : List Int) (hm : a.length ≤ 4611686018427387904) : Ev (fun k => laws_eqIntS.f k a b) (decide (a = b)) := by
  unfold laws_eqIntS.f
  refine ev_ite (fun h => eqIntS_loop a b (by omega) hm a.length 0 (by omega) (by omega) (by omega) (by simp)) (fun h => ev_now ?_)
  symm
  exact decide_eq_false (fun e => h (by rw [e]))
end Go.Proofs.Ytofmobmmoideiaa.P
