/- What the law FnExactLinkTake stands upon: words about memory, the Go functions that it reaches as plain Lean functions with the proofs that each call answers as its function says, and the plain laws. Laid by a program of this repository (pack.py). Conditions: those that each theorem names. -/
import Derived.ArgAppend
import Derived.Below
import Derived.BigQuiet
import Derived.BigRegion
import Derived.Carry
import Derived.ChangeAlike
import Derived.ChangeArms
import Derived.ChangeMaps5
import Derived.ChangeSame
import Derived.Deep.AppendLies
import Derived.Deep.CutBlock
import Derived.Deep.DeepCutAuto
import Derived.Deep.Draws
import Derived.Deep.LoopGhost
import Derived.Deep.OwnRows
import Derived.Deep.QuietTactic
import Derived.Deep.RegionHeld3
import Derived.Deep.Slices
import Derived.KernelRfl
import Derived.Laws.BitsLemmas
import Derived.Laws.BytesArg
import Derived.Laws.IdiomCopy
import Derived.Laws.MakeOwn
import Derived.Laws.OwnMore
import Derived.Laws.Rows
import Derived.Laws.Slices
import Derived.Laws.StructEq
import Derived.Lib.AppendStr
import Derived.Lib.ConvBytes
import Derived.MapKept
import Derived.Maps.AppendAt
import Derived.OpenShut
import Derived.OrdersHeld
import Derived.OwnWalk
import Derived.ProofKit
import Derived.RegionTactic
import Derived.RowKit
import Derived.RowKit3
import Derived.ShutString
import Derived.Tactics
import Derived.Test.YtnbodfakblbmbaaProg
import Derived.WalkKit
import Derived.WideLaws
import Derived.Test.YtnbodfakblbmbaaBFnExactLinkTake0
import Derived.Test.YtnbodfakblbmbaaBFnExactLinkTake1
import Derived.Test.YtnbodfakblbmbaaBFnExactLinkTake2
import Derived.Test.YtnbodfakblbmbaaBFnExactLinkTake3
import Derived.Test.YtnbodfakblbmbaaBFnExactLinkTake4
import Derived.Test.YtnbodfakblbmbaaBFnExactLinkTake5
import Derived.Test.YtnbodfakblbmbaaBFnExactLinkTake6
import Derived.Test.YtnbodfakblbmbaaBFnExactLinkTake7
import Derived.Test.YtnbodfakblbmbaaBFnExactLinkTake8
import Derived.Test.YtnbodfakblbmbaaBFnExactLinkTake9
import Derived.Test.YtnbodfakblbmbaaBFnExactLinkTake10
import Derived.Test.YtnbodfakblbmbaaBFnExactLinkTake11
section
namespace Go.Proofs.Ytnbodfakblbmbaa.P
open Go.RowKit Go.Proofs.YtnbodfakblbmbaaW.PrintWords
def laws_FnExactLinkTake.Pure : Prop := ∀ (l0_0 : List (S117)) (a1_0 : Int) (a1_1 : Int) (a1_2 : Int) (a1_3 : Bool) (a2 : Int), (l0_0.length ≤ maxLen ∧ ∀ y_ ∈ l0_0, G117 y_) → Op.I64 a1_0 → Op.I64 a1_1 → Op.I64 a1_2 → Op.I64 a2 → ∃ k, laws_FnExactLinkTake.f k l0_0 a1_0 a1_1 a1_2 a1_3 a2 = some true
end Go.Proofs.Ytnbodfakblbmbaa.P
end

section
namespace Go.Proofs.Ytnbodfakblbmbaa.P
open Go.RowKit Go.Proofs.YtnbodfakblbmbaaW.PrintWords
set_option linter.unusedVariables false
set_option linter.unusedSimpArgs false
abbrev Nd := S69
theorem rdN (l : List Nd) (x : Int) : rd_T69 l x = l.getD x.toNat z69 := rfl
theorem l1In_f (a b c : Int) : spec_l1In.f a b c = some (decide (b ≤ a ∧ a ≤ c)) := by
  unfold spec_l1In.f
  by_cases h : b ≤ a
  · rw [if_pos h]; simp [h]
  · rw [if_neg h]; simp [h]
theorem l1Parts_f (k : Nat) (a : Int) : spec_l1Parts.f (k + 1) a = some (kindN a) := by
  unfold spec_l1Parts.f spec_l1Parts.j0 kindN
  by_cases h1 : a = 1
  · simp [h1]
  · by_cases h5 : a = 5
    · simp [h5]
    · by_cases h7 : a = 7
      · simp [h7]
      · simp [h1, h5, h7]
        by_cases a2 : a = 2
        · simp [a2]
        · by_cases a3 : a = 3
          · simp [a3]
          · by_cases a4 : a = 4
            · simp [a4]
            · by_cases a6 : a = 6
              · simp [a6]
              · by_cases a8 : a = 8 <;> simp [a2, a3, a4, a6, a8]
theorem l1Right_f (k : Nat) (n : Nd) (m : Int) (h0 : 0 ≤ m) (h1 : m ≤ 4611686018427387904) : spec_l1Right.f (k + 1) n.f0 n.f1 n.f2 m = some (nodeB n m) := by
  have h := nodeOk_f k n m h0 h1
  unfold impl_nodeOk.f at h
  unfold spec_l1Right.f
  rw [l1Parts_f]
  rw [count_f] at h
  simp only [Option.bind_some, l1In_f] at h ⊢
  simp only [inRange_f] at h
  exact h
theorem l1Right_ev (n : Nd) (m : Int) (h0 : 0 ≤ m) (h1 : m ≤ 4611686018427387904) : Ev (fun k => spec_l1Right.f k n.f0 n.f1 n.f2 m) (nodeB n m) := ev_succ fun k => l1Right_f k n m h0 h1
def findFrom (n : Nd) : List Nd → Nat → Int
  | [], _ => -1
  | x :: r, i => if x = n then (i : Int) else findFrom n r (i + 1)
def findN (l : List Nd) (n : Nd) : Int := findFrom n l 0
theorem nd_eq (x n : Nd) : (x.f0 == n.f0 && (x.f1 == n.f1 && (x.f2 == n.f2))) = decide (x = n) := by
  rw [Bool.eq_iff_iff]
  cases x; cases n
  simp
theorem l1Find_loop (l : List Nd) (n : Nd) (hl : l.length ≤ 4611686018427387904) (d : Nat) : ∀ i : Int, 0 ≤ i → i ≤ (l.length : Int) → (l.length : Int) - i = d → Ev (fun k => spec_l1Find.l0 k i l n.f0 n.f1 n.f2) (findFrom n (l.drop i.toNat) i.toNat) := by
  induction d with
  | zero =>
    intro i h0 h1 hd
    refine ev_shift ?_
    simp only [spec_l1Find.l0]
    refine ev_neg (by omega) ?_
    rw [List.drop_of_length_le (by omega)]
    exact ev_now rfl
  | succ d ih =>
    intro i h0 h1 hd
    refine ev_shift ?_
    simp only [spec_l1Find.l0]
    refine ev_pos (by omega) (ev_pos h0 ?_)
    have hlt : i.toNat < l.length := by omega
    rw [drop_cons z69 hlt, findFrom, nd_eq, rdN]
    refine ev_ite (fun h => ?_) (fun h => ?_)
    · rw [if_pos (of_decide_eq_true h)]
      exact ev_now (by omega)
    · rw [if_neg (fun e => h (decide_eq_true e)), wrap_id (by omega)]
      have := ih (i + 1) (by omega) (by omega) (by omega)
      rw [show (i + 1).toNat = i.toNat + 1 by omega] at this
      exact this
theorem l1Find_ev (l : List Nd) (n : Nd) (hl : l.length ≤ 4611686018427387904) : Ev (fun k => spec_l1Find.f k l n.f0 n.f1 n.f2) (findN l n) := by
  have := l1Find_loop l n hl l.length 0 (by omega) (by omega) (by omega)
  unfold spec_l1Find.f
  exact this
theorem findFrom_mem {n : Nd} : ∀ {l : List Nd} {i : Nat}, n ∈ l → ∃ j : Nat, findFrom n l i = ((i + j : Nat) : Int) ∧ j < l.length ∧ l[j]? = some n ∧ n ∉ l.take j
  | [], _, h => by cases h
  | x :: r, i, h => by
    unfold findFrom
    by_cases hx : x = n
    · rw [if_pos hx]
      exact ⟨0, by simp, by simp, by simp [hx], by simp⟩
    · rw [if_neg hx]
      obtain ⟨j, h1, h2, h3, h4⟩ := findFrom_mem (n := n) (l := r) (i := i + 1) (by rcases List.mem_cons.1 h with h | h; exact absurd h.symm hx; exact h)
      refine ⟨j + 1, by rw [h1]; omega, by simp; omega, by simpa using h3, ?_⟩
      rw [List.take_succ_cons, List.mem_cons, not_or]
      exact ⟨fun e => hx e.symm, h4⟩
theorem findN_mem {l : List Nd} {n : Nd} (h : n ∈ l) : ∃ j : Nat, findN l n = (j : Int) ∧ j < l.length ∧ l[j]? = some n ∧ n ∉ l.take j := by
  obtain ⟨j, h1, h2⟩ := findFrom_mem (i := 0) h
  exact ⟨j, by unfold findN; rw [h1]; omega, h2⟩
theorem findN_at {l : List Nd} {i : Nat} (hi : i < l.length) : findN l (l.getD i z69) = (i : Int) ↔ (l.take i).contains (l.getD i z69) = false := by
  have hm : l.getD i z69 ∈ l := by rw [getD_of hi]; exact List.getElem_mem hi
  obtain ⟨j, h1, h2, h3, h4⟩ := findN_mem hm
  rw [h1]
  constructor
  · intro h
    have : j = i := by omega
    subst this
    simpa using h4
  · intro h
    have h5 : l.getD i z69 ∉ l.take i := by simpa using h
    rcases Nat.lt_trichotomy j i with hj | hj | hj
    · exfalso
      apply h5
      rw [List.mem_iff_getElem?]
      exact ⟨j, by rw [List.getElem?_take, if_pos hj]; exact h3⟩
    · omega
    · exfalso
      apply h4
      rw [List.mem_iff_getElem?]
      exact ⟨i, by rw [List.getElem?_take, if_pos hj, List.getElem?_eq_getElem hi, getD_of hi]⟩
theorem poolB_iff (l : List Nd) : poolB l = true ↔ l.length ≤ 500 ∧ ∀ i, i < l.length → okAt l i = true := by
  unfold poolB
  rw [Bool.and_eq_true, List.all_eq_true, decide_eq_true_iff]
  simp only [List.mem_range]
theorem spec_PoolOk_loop (l : List Nd) (hl : l.length ≤ 500) (d : Nat) : ∀ i : Int, 0 ≤ i → i ≤ (l.length : Int) → (l.length : Int) - i = d → (∀ j, j < i.toNat → okAt l j = true) → Ev (fun k => spec_PoolOk.l0 k i l) (poolB l) := by
  induction d with
  | zero =>
    intro i h0 h1 hd hok
    refine ev_shift ?_
    simp only [spec_PoolOk.l0]
    refine ev_neg (by omega) (ev_now ?_)
    symm
    rw [poolB_iff]
    exact ⟨hl, fun j hj => hok j (by omega)⟩
  | succ d ih =>
    intro i h0 h1 hd hok
    refine ev_shift ?_
    simp only [spec_PoolOk.l0]
    refine ev_pos (by omega) (ev_pos h0 ?_)
    have hlt : i.toNat < l.length := by omega
    have hi : ((i.toNat : Nat) : Int) = i := by omega
    refine Ev.bind (l1Right_ev (rd_T69 l i) i h0 (by omega)) ?_
    refine ev_ite (fun h => ?_) (fun h => ?_)
    · refine Ev.bind (l1Find_ev l (rd_T69 l i) (by omega)) ?_
      rw [rdN] at h ⊢
      refine ev_ite (fun h2 => ?_) (fun h2 => ?_)
      · rw [wrap_id (by omega)]
        refine ih (i + 1) (by omega) (by omega) (by omega) (fun j hj => ?_)
        by_cases hji : j < i.toNat
        · exact hok j hji
        · have : j = i.toNat := by omega
          subst this
          unfold okAt
          rw [hi, h, (findN_at hlt).1 (by omega)]
          rfl
      · refine ev_now ?_
        symm
        refine poolB_not i.toNat hlt ?_
        unfold okAt
        have : (l.take i.toNat).contains (l.getD i.toNat z69) = true := by
          cases hc : (l.take i.toNat).contains (l.getD i.toNat z69) with
          | true => rfl
          | false => exact absurd ((findN_at hlt).2 hc) (by omega)
        rw [this]
        rfl
    · refine ev_now ?_
      symm
      refine poolB_not i.toNat hlt ?_
      unfold okAt
      rw [rdN] at h
      rw [hi, Bool.eq_false_iff.2 h]
      simp
theorem spec_PoolOk_ev (l : List Nd) : Ev (fun k => spec_PoolOk.f k l) (poolB l) := by
  unfold spec_PoolOk.f
  refine ev_ite (fun h => ev_now ?_) (fun h => ?_)
  · unfold poolB; rw [decide_eq_false (by omega)]; rfl
  · exact spec_PoolOk_loop l (by omega) l.length 0 (by omega) (by omega) (by omega) (fun j hj => by simp at hj)
def hasB (l : List Nd) (t : Int) : Bool := decide (0 ≤ t ∧ t < (l.length : Int))
theorem hasB_iff {l : List Nd} {t : Int} : hasB l t = true ↔ 0 ≤ t ∧ t < (l.length : Int) := by unfold hasB; rw [decide_eq_true_iff]
theorem l1Has_f (l : List Nd) (t : Int) (hl : l.length ≤ 4611686018427387904) : spec_l1Has.f l t = some (hasB l t) := by
  unfold spec_l1Has.f hasB
  have e : (0 ≤ t ∧ t ≤ (l.length : Int) - 1) ↔ (0 ≤ t ∧ t < (l.length : Int)) := by omega
  rw [wrap_id (by omega), l1In_f]
  simp only [Option.bind_some, e]
theorem isTerm_f (l : List Nd) (t : Int) (hl : l.length ≤ 4611686018427387904) : impl_Pool_isTerm.f l t = some (hasB l t) := by
  unfold impl_Pool_isTerm.f hasB
  have e : (0 ≤ t ∧ t ≤ (l.length : Int) - 1) ↔ (0 ≤ t ∧ t < (l.length : Int)) := by omega
  rw [wrap_id (by omega), inRange_f]
  simp only [Option.bind_some, e]
end Go.Proofs.Ytnbodfakblbmbaa.P
end

section
namespace Go.Proofs.Ytnbodfakblbmbaa.P
open Go.RowKit Go.Proofs.YtnbodfakblbmbaaW.PrintWords
set_option linter.unusedVariables false
set_option linter.unusedSimpArgs false
def toN (n : S117) : Nd := ⟨n.f0, n.f1, n.f2⟩
theorem set_fill {α : Type} (xs : List α) (i : Nat) (y : α) (h : i < xs.length) : (xs.set i y).take (i + 1) = xs.take i ++ [y] ∧ (xs.set i y).drop (i + 1) = xs.drop (i + 1) := by
  refine ⟨?_, ?_⟩
  · rw [List.take_succ_eq_append_getElem (by simpa using h)]
    simp [List.take_set_of_le]
  · simp [List.drop_set]
theorem toNodeS_loop (l : List S117) (hl : l.length ≤ 4611686018427387904) (d : Nat) : ∀ (i : Int) (r : List Nd), 0 ≤ i → i ≤ (l.length : Int) → (l.length : Int) - i = d → r.length = l.length → r.take i.toNat = (l.take i.toNat).map toN → Ev (fun k => laws_toNodeS.l0 k l r i) (l.map toN) := by
  induction d with
  | zero =>
    intro i r h0 h1 hd hr ht
    refine ev_shift ?_
    simp only [laws_toNodeS.l0]
    refine ev_neg (by omega) (ev_now ?_)
    rw [List.take_of_length_le (by omega), List.take_of_length_le (by omega)] at ht
    exact ht
  | succ d ih =>
    intro i r h0 h1 hd hr ht
    refine ev_shift ?_
    simp only [laws_toNodeS.l0, laws_toNode.f, Option.bind_some]
    refine ev_pos (by omega) (ev_pos h0 (ev_pos (by omega) ?_))
    rw [wrap_id (by omega)]
    have hlt : i.toNat < l.length := by omega
    refine ih (i + 1) _ (by omega) (by omega) (by omega) (by simpa using hr) ?_
    rw [show (i + 1).toNat = i.toNat + 1 by omega, (set_fill r i.toNat _ (by omega)).1, ht, List.take_succ_eq_append_getElem hlt, List.map_append]
    have : rd_T117 l i = l[i.toNat] := getD_of hlt
    rw [this]
    rfl
theorem toNodeS_ev (l : List S117) (hl : l.length ≤ 1048576) : Ev (fun k => laws_toNodeS.f k l) (l.map toN) := by
  unfold laws_toNodeS.f
  refine ev_pos (by omega) (ev_pos (by omega) ?_)
  exact toNodeS_loop l (by omega) l.length 0 _ (by omega) (by omega) (by omega) (by simp) (by simp)
theorem toPool_ev (l : List S117) (hl : l.length ≤ 1048576) : Ev (fun k => laws_toPool.f k l) (l.map toN) := by
  unfold laws_toPool.f
  exact Ev.bind (toNodeS_ev l hl) (ev_now rfl)
theorem szPool_f (l : List S117) (m : Int) (hl : l.length ≤ maxLen) (hm : 0 ≤ m ∧ m ≤ 4611686018427387904) : laws_szPool.f l m = some (if m - (l.length : Int) < 0 then -1 else m - (l.length : Int)) := by
  unfold maxLen at hl
  unfold laws_szPool.f laws_szNodeS.f
  rw [wrap_id (by omega)]
  by_cases h : m - (l.length : Int) < 0
  · simp [h]
  · simp [h]
theorem eqNode_f (a b : Nd) : laws_eqNode.f a.f0 a.f1 a.f2 b.f0 b.f1 b.f2 = some (decide (a = b)) := by
  unfold laws_eqNode.f
  cases a; cases b
  simp
  split
  · split
    · split <;> simp_all
    · simp_all
  · simp_all
theorem eqNodeS_loop (a b : List Nd) (hl : a.length = b.length) (hm : a.length ≤ 4611686018427387904) (d : Nat) : ∀ (i : Int), 0 ≤ i → i ≤ (a.length : Int) → (a.length : Int) - i = d → a.take i.toNat = b.take i.toNat → Ev (fun k => laws_eqNodeS.l0 k a b i) (decide (a = b)) := by
  induction d with
  | zero =>
    intro i h0 h1 hd ht
    refine ev_shift ?_
    simp only [laws_eqNodeS.l0]
    refine ev_neg (by omega) (ev_now ?_)
    rw [List.take_of_length_le (by omega), List.take_of_length_le (by omega)] at ht
    rw [decide_eq_true ht]
  | succ d ih =>
    intro i h0 h1 hd ht
    refine ev_shift ?_
    simp only [laws_eqNodeS.l0, eqNode_f, Option.bind_some]
    have hlt : i.toNat < a.length := by omega
    have hlt2 : i.toNat < b.length := by omega
    refine ev_pos (by omega) (ev_pos h0 (ev_pos (by omega) ?_))
    rw [wrap_id (by omega), rdN, rdN, getD_of hlt, getD_of hlt2]
    refine ev_ite (fun h => ?_) (fun h => ?_)
    · refine ih (i + 1) (by omega) (by omega) (by omega) ?_
      rw [show (i + 1).toNat = i.toNat + 1 by omega, List.take_succ_eq_append_getElem hlt, List.take_succ_eq_append_getElem hlt2, ht, of_decide_eq_true h]
    · refine ev_now ?_
      symm
      refine decide_eq_false (fun e => h (decide_eq_true ?_))
      subst e
      rfl
theorem eqNodeS_ev (a b : List Nd) (hm : a.length ≤ 4611686018427387904) : Ev (fun k => laws_eqNodeS.f k a b) (decide (a = b)) := by
  unfold laws_eqNodeS.f
  refine ev_ite (fun h => eqNodeS_loop a b (by omega) hm a.length 0 (by omega) (by omega) (by omega) (by simp)) (fun h => ev_now ?_)
  symm
  exact decide_eq_false (fun e => h (by rw [e]))
theorem eqPool_ev (a b : List Nd) (hm : a.length ≤ 4611686018427387904) : Ev (fun k => laws_eqPool.f k a b) (decide (a = b)) := by
  unfold laws_eqPool.f
  refine Ev.bind (eqNodeS_ev a b hm) ?_
  refine ev_ite (fun h => ev_now h.symm) (fun h => ev_now (Bool.eq_false_iff.2 h).symm)
end Go.Proofs.Ytnbodfakblbmbaa.P
end

section
namespace Go.Proofs.Ytnbodfakblbmbaa.P
open Go.RowKit Go.Proofs.YtnbodfakblbmbaaW.PrintWords
set_option linter.unusedVariables false
set_option linter.unusedSimpArgs false
def linkB (l : List Nd) (key epoch seq : Int) : Bool := poolB l && (hasB l key && (decide (0 ≤ epoch ∧ epoch ≤ 20) && decide (0 ≤ seq ∧ seq ≤ 20)))
theorem spec_LinkOk_ev (l : List Nd) (key epoch seq : Int) (over : Bool) (hl : l.length ≤ 4611686018427387904) : Ev (fun k => spec_LinkOk.f k l key epoch seq over) (linkB l key epoch seq) := by
  unfold spec_LinkOk.f spec_l18Link.f linkB
  refine Ev.bind (spec_PoolOk_ev l) ?_
  simp only [l1Has_f l key hl, l1In_f, Option.bind_some]
  cases poolB l <;> cases hasB l key <;> by_cases h1 : 0 ≤ epoch ∧ epoch ≤ 20 <;> simp [h1] <;> exact ev_now (by simp)
theorem impl_LinkOk_f (l : List Nd) (key epoch seq : Int) (over : Bool) (hl : l.length ≤ 4611686018427387904) : impl_LinkOk.f l key epoch seq over = some (linkB l key epoch seq) := by
  unfold impl_LinkOk.f linkB impl_PoolOk.f
  simp only [isTerm_f l key hl, inRange_f, Option.bind_some]
  cases poolB l <;> cases hasB l key <;> by_cases h1 : 0 ≤ epoch ∧ epoch ≤ 20 <;> by_cases h2 : 0 ≤ seq ∧ seq ≤ 20 <;> simp [h1, h2]
end Go.Proofs.Ytnbodfakblbmbaa.P
end

section
namespace Go.Proofs.Ytnbodfakblbmbaa.P
open Go.RowKit Go.Proofs.YtnbodfakblbmbaaW.PrintWords
set_option linter.unusedVariables false
set_option linter.unusedSimpArgs false
def nodeAt (l : List Nd) (t : Int) : Nd := l.getD t.toNat z69
def nameB (l : List Nd) (t m : Int) : Bool := decide (nodeAt l t = ⟨1, m, 0⟩)
theorem nodeB_two {n : Nd} {m : Int} (h : nodeB n m = true) (hk : kindN n.f0 = 2) : 0 ≤ n.f1 ∧ n.f1 < m ∧ 0 ≤ n.f2 ∧ n.f2 < m := by
  unfold nodeB at h
  rw [if_neg (by omega), if_neg (by omega), if_pos hk] at h
  have := of_decide_eq_true h
  omega
theorem poolB_node {l : List Nd} (h : poolB l = true) {t : Int} (h0 : 0 ≤ t) (h1 : t < (l.length : Int)) : nodeB (nodeAt l t) t = true := by
  have h2 := ((poolB_iff l).1 h).2 t.toNat (by omega)
  unfold okAt at h2
  rw [Bool.and_eq_true] at h2
  have := h2.2
  rwa [show ((t.toNat : Nat) : Int) = t by omega] at this
theorem linkB_pool {l : List Nd} {a b c : Int} (h : linkB l a b c = true) : poolB l = true := by
  unfold linkB at h
  rw [Bool.and_eq_true] at h
  exact h.1
theorem linkB_seq {l : List Nd} {a b c : Int} (h : linkB l a b c = true) : 0 ≤ c ∧ c ≤ 20 := by
  unfold linkB at h
  simp only [Bool.and_eq_true, decide_eq_true_eq] at h
  exact h.2.2.2
theorem isName_f (l : List Nd) (t m : Int) (h0 : 0 ≤ t) (h1 : t < (l.length : Int)) : impl_Pool_isName.f l t m = some (nameB l t m) := by
  unfold impl_Pool_isName.f nameB
  rw [if_pos h0, if_pos h1, rdN]
  exact congrArg some (nd_eq _ ⟨1, m, 0⟩)
theorem l18End_f (l : List Nd) (t : Int) (h0 : 0 ≤ t) (h1 : t < (l.length : Int)) : spec_l18End.f l t = some (nameB l t 8) := by
  unfold spec_l18End.f nameB
  rw [if_pos h0, if_pos h1, rdN]
  exact congrArg some (nd_eq _ ⟨1, 8, 0⟩)
def takeN (l : List Nd) (key epoch seq : Int) (over : Bool) (t : Int) : Int × Int × Int × Bool × Int × Int :=
  if linkB l key epoch seq = false ∨ hasB l t = false then (key, epoch, seq, over, -1, 4)
  else if over = true then (key, epoch, seq, over, -1, 3)
  else if ¬ ((nodeAt l t).f0 = 3 ∧ (nodeAt l t).f2 = key ∧ (nodeAt l (nodeAt l t).f1).f0 = 2) then (key, epoch, seq, over, -1, 1)
  else if seq = 20 ∨ nameB l (nodeAt l (nodeAt l t).f1).f1 (20 + seq) = false then (key, epoch, seq, over, -1, 2)
  else if nameB l (nodeAt l (nodeAt l t).f1).f2 8 = true then (key, epoch, seq, true, -1, 0)
  else (key, epoch, seq + 1, over, (nodeAt l (nodeAt l t).f1).f2, 0)
section
variable (l : List Nd) (key epoch seq : Int) (over : Bool) (t : Int)
theorem impl_take_j0 (hL : linkB l key epoch seq = true) (hT : hasB l t = true) : Ev (fun k => impl_LinkTake.j0 k t false l key epoch seq over) (takeN l key epoch seq over t) := by
  have hP := linkB_pool hL
  have hs := linkB_seq hL
  obtain ⟨h0, h1⟩ := hasB_iff.1 hT
  refine ev_shift ?_
  simp only [impl_LinkTake.j0, rdN]
  unfold takeN
  rw [if_neg (by simp [hL, hT])]
  refine ev_neg (by simp) (ev_ite (fun h => ?_) (fun h => ?_))
  · rw [if_pos h]; exact ev_now rfl
  rw [if_neg h]
  refine ev_pos h0 (ev_pos h1 ?_)
  have hn := poolB_node hP h0 h1
  change Ev (fun n => if (nodeAt l t).f0 = 3 then _ else _) _
  have bad : ¬ ((nodeAt l t).f0 = 3 ∧ (nodeAt l t).f2 = key ∧ (nodeAt l (nodeAt l t).f1).f0 = 2) → Ev (fun k => impl_LinkTake.j1 k true l key epoch seq over (nodeAt l t).f0 (nodeAt l t).f1 (nodeAt l t).f2) (if ¬ ((nodeAt l t).f0 = 3 ∧ (nodeAt l t).f2 = key ∧ (nodeAt l (nodeAt l t).f1).f0 = 2) then (key, epoch, seq, over, (-1 : Int), (1 : Int)) else if seq = 20 ∨ nameB l (nodeAt l (nodeAt l t).f1).f1 (20 + seq) = false then (key, epoch, seq, over, -1, 2) else if nameB l (nodeAt l (nodeAt l t).f1).f2 8 = true then (key, epoch, seq, true, -1, 0) else (key, epoch, seq + 1, over, (nodeAt l (nodeAt l t).f1).f2, 0)) := by
    intro hb
    rw [if_pos hb]
    refine ev_shift ?_
    simp only [impl_LinkTake.j1]
    exact ev_pos trivial (ev_now rfl)
  refine ev_ite (fun h3 => ?_) (fun h3 => bad (fun e => h3 e.1))
  have h2 := nodeB_two hn (by rw [h3]; rfl)
  refine ev_ite (fun hk => ?_) (fun hk => bad (fun e => hk e.2.1))
  refine ev_pos h2.1 (ev_pos (by have := h2.2.1; change (nodeAt l t).f1 < _; omega) ?_)
  by_cases hp : (nodeAt l (nodeAt l t).f1).f0 = 2
  · have e : ((nodeAt l (nodeAt l t).f1).f0 != 2) = false := by simp [hp]
    change Ev (fun n => impl_LinkTake.j1 n ((nodeAt l (nodeAt l t).f1).f0 != 2) l key epoch seq over (nodeAt l t).f0 (nodeAt l t).f1 (nodeAt l t).f2) _
    rw [e, if_neg (fun hx => hx ⟨h3, hk, hp⟩)]
    have hq0 : 0 ≤ (nodeAt l t).f1 := h2.1
    have hq1 : (nodeAt l t).f1 < (l.length : Int) := by omega
    have hn2 := nodeB_two (poolB_node hP hq0 hq1) (by rw [hp]; rfl)
    refine ev_shift ?_
    simp only [impl_LinkTake.j1, rdN]
    refine ev_neg (by simp) (ev_pos hq0 (ev_pos hq1 ?_))
    generalize hg : nodeAt l (nodeAt l t).f1 = g at hn2 ⊢
    have hgg : l.getD (nodeAt l t).f1.toNat z69 = g := hg
    rw [hgg]
    have no : (seq = 20 ∨ nameB l g.f1 (20 + seq) = false) → Ev (fun k => impl_LinkTake.j2 k true l key epoch seq over g.f0 g.f1 g.f2) (if seq = 20 ∨ nameB l g.f1 (20 + seq) = false then (key, epoch, seq, over, (-1 : Int), (2 : Int)) else if nameB l g.f2 8 = true then (key, epoch, seq, true, -1, 0) else (key, epoch, seq + 1, over, g.f2, 0)) := by
      intro hb
      rw [if_pos hb]
      refine ev_shift ?_
      simp only [impl_LinkTake.j2]
      exact ev_pos trivial (ev_now rfl)
    refine ev_ite (fun h20 => no (.inl h20)) (fun h20 => ?_)
    rw [wrap_id (by omega), isName_f l g.f1 (20 + seq) hn2.1 (by omega)]
    simp only [Option.bind_some]
    cases hnm : nameB l g.f1 (20 + seq) with
    | false =>
      have h' := no (.inr hnm)
      simpa [hnm] using h'
    | true =>
      rw [if_neg (by simp [h20])]
      refine ev_shift ?_
      simp only [impl_LinkTake.j2, Bool.not_true]
      refine ev_neg (by simp) ?_
      rw [isName_f l g.f2 8 hn2.2.2.1 (by omega)]
      simp only [Option.bind_some]
      refine ev_ite (fun h8 => ?_) (fun h8 => ?_)
      · rw [if_pos h8]; exact ev_now rfl
      · rw [if_neg h8]; exact ev_now (by rw [wrap_id (by omega)])
  · have e : ((nodeAt l (nodeAt l t).f1).f0 != 2) = true := by simp [hp]
    change Ev (fun n => impl_LinkTake.j1 n ((nodeAt l (nodeAt l t).f1).f0 != 2) l key epoch seq over (nodeAt l t).f0 (nodeAt l t).f1 (nodeAt l t).f2) _
    rw [e]
    exact bad (fun e => hp e.2.2)
theorem impl_LinkTake_ev (hl : l.length ≤ 4611686018427387904) : Ev (fun k => impl_LinkTake.f k l key epoch seq over t) (takeN l key epoch seq over t) := by
  unfold impl_LinkTake.f
  rw [isTerm_f l t hl]
  simp only [Option.bind_some]
  have bad : (linkB l key epoch seq = false ∨ hasB l t = false) → Ev (fun k => impl_LinkTake.j0 k t true l key epoch seq over) (takeN l key epoch seq over t) := by
    intro hb
    unfold takeN
    rw [if_pos hb]
    refine ev_shift ?_
    simp only [impl_LinkTake.j0]
    exact ev_pos trivial (ev_now rfl)
  refine ev_ite (fun h => ?_) (fun h => bad (.inr (Bool.eq_false_iff.2 h)))
  rw [impl_LinkOk_f l key epoch seq over hl]
  simp only [Option.bind_some]
  cases hL : linkB l key epoch seq with
  | false => exact bad (.inl hL)
  | true => exact impl_take_j0 l key epoch seq over t hL h
theorem spec_take_j0 (hL : linkB l key epoch seq = true) (hT : hasB l t = true) : Ev (fun k => spec_LinkTake.j0 k t false l key epoch seq over) (takeN l key epoch seq over t) := by
  have hP := linkB_pool hL
  have hs := linkB_seq hL
  obtain ⟨h0, h1⟩ := hasB_iff.1 hT
  refine ev_shift ?_
  simp only [spec_LinkTake.j0, rdN]
  unfold takeN
  rw [if_neg (by simp [hL, hT])]
  refine ev_neg (by simp) (ev_ite (fun h => ?_) (fun h => ?_))
  · rw [if_pos h]; exact ev_now rfl
  rw [if_neg h]
  refine ev_pos h0 (ev_pos h1 ?_)
  have hn := poolB_node hP h0 h1
  change Ev (fun n => if (nodeAt l t).f0 = 3 then _ else _) _
  have bad : ¬ ((nodeAt l t).f0 = 3 ∧ (nodeAt l t).f2 = key ∧ (nodeAt l (nodeAt l t).f1).f0 = 2) → Ev (fun k => spec_LinkTake.j1 k true l key epoch seq over (nodeAt l t).f0 (nodeAt l t).f1 (nodeAt l t).f2) (if ¬ ((nodeAt l t).f0 = 3 ∧ (nodeAt l t).f2 = key ∧ (nodeAt l (nodeAt l t).f1).f0 = 2) then (key, epoch, seq, over, (-1 : Int), (1 : Int)) else if seq = 20 ∨ nameB l (nodeAt l (nodeAt l t).f1).f1 (20 + seq) = false then (key, epoch, seq, over, -1, 2) else if nameB l (nodeAt l (nodeAt l t).f1).f2 8 = true then (key, epoch, seq, true, -1, 0) else (key, epoch, seq + 1, over, (nodeAt l (nodeAt l t).f1).f2, 0)) := by
    intro hb
    rw [if_pos hb]
    refine ev_shift ?_
    simp only [spec_LinkTake.j1]
    exact ev_pos trivial (ev_now rfl)
  refine ev_ite (fun h3 => ?_) (fun h3 => bad (fun e => h3 e.1))
  have h2 := nodeB_two hn (by rw [h3]; rfl)
  refine ev_ite (fun hk => ?_) (fun hk => bad (fun e => hk e.2.1))
  refine ev_pos h2.1 (ev_pos (by have := h2.2.1; change (nodeAt l t).f1 < _; omega) ?_)
  by_cases hp : (nodeAt l (nodeAt l t).f1).f0 = 2
  · have e : ((nodeAt l (nodeAt l t).f1).f0 != 2) = false := by simp [hp]
    change Ev (fun n => spec_LinkTake.j1 n ((nodeAt l (nodeAt l t).f1).f0 != 2) l key epoch seq over (nodeAt l t).f0 (nodeAt l t).f1 (nodeAt l t).f2) _
    rw [e, if_neg (fun hx => hx ⟨h3, hk, hp⟩)]
    have hq0 : 0 ≤ (nodeAt l t).f1 := h2.1
    have hq1 : (nodeAt l t).f1 < (l.length : Int) := by omega
    have hn2 := nodeB_two (poolB_node hP hq0 hq1) (by rw [hp]; rfl)
    refine ev_shift ?_
    simp only [spec_LinkTake.j1, rdN]
    refine ev_neg (by simp) (ev_pos hq0 (ev_pos hq1 ?_))
    generalize hg : nodeAt l (nodeAt l t).f1 = g at hn2 ⊢
    have hgg : l.getD (nodeAt l t).f1.toNat z69 = g := hg
    simp only [hgg]
    refine ev_pos hn2.1 (ev_pos (by omega) ?_)
    rw [wrap_id (by omega)]
    have hne : (!((l.getD g.f1.toNat z69).f0 == 1) || (!((l.getD g.f1.toNat z69).f1 == 20 + seq) || !((l.getD g.f1.toNat z69).f2 == 0))) = !nameB l g.f1 (20 + seq) := by
      have := nd_eq (l.getD g.f1.toNat z69) ⟨1, 20 + seq, 0⟩
      unfold nameB nodeAt
      rw [← this]
      simp [Bool.not_and]
    rw [hne]
    have no : (seq = 20 ∨ nameB l g.f1 (20 + seq) = false) → Ev (fun k => spec_LinkTake.j2 k true l key epoch seq over g.f0 g.f1 g.f2) (if seq = 20 ∨ nameB l g.f1 (20 + seq) = false then (key, epoch, seq, over, (-1 : Int), (2 : Int)) else if nameB l g.f2 8 = true then (key, epoch, seq, true, -1, 0) else (key, epoch, seq + 1, over, g.f2, 0)) := by
      intro hb
      rw [if_pos hb]
      refine ev_shift ?_
      simp only [spec_LinkTake.j2]
      exact ev_pos trivial (ev_now rfl)
    refine ev_ite (fun hnm => no (.inr (by simpa using hnm))) (fun hnm => ?_)
    have hnm : nameB l g.f1 (20 + seq) = true := by simpa using hnm
    by_cases h20 : seq = 20
    · have : (seq == 20) = true := by simp [h20]
      rw [this]
      exact no (.inl h20)
    · have : (seq == 20) = false := by simp [h20]
      rw [this, if_neg (by simp [h20, hnm])]
      refine ev_shift ?_
      simp only [spec_LinkTake.j2]
      refine ev_neg (by simp) ?_
      rw [l18End_f l g.f2 hn2.2.2.1 (by omega)]
      simp only [Option.bind_some]
      refine ev_ite (fun h8 => ?_) (fun h8 => ?_)
      · rw [if_pos h8]; exact ev_now rfl
      · rw [if_neg h8]; exact ev_now (by rw [wrap_id (by omega)])
  · have e : ((nodeAt l (nodeAt l t).f1).f0 != 2) = true := by simp [hp]
    change Ev (fun n => spec_LinkTake.j1 n ((nodeAt l (nodeAt l t).f1).f0 != 2) l key epoch seq over (nodeAt l t).f0 (nodeAt l t).f1 (nodeAt l t).f2) _
    rw [e]
    exact bad (fun e => hp e.2.2)
theorem spec_LinkTake_ev (hl : l.length ≤ 4611686018427387904) : Ev (fun k => spec_LinkTake.f k l key epoch seq over t) (takeN l key epoch seq over t) := by
  unfold spec_LinkTake.f
  refine Ev.bind (spec_LinkOk_ev l key epoch seq over hl) ?_
  have bad : (linkB l key epoch seq = false ∨ hasB l t = false) → Ev (fun k => spec_LinkTake.j0 k t true l key epoch seq over) (takeN l key epoch seq over t) := by
    intro hb
    unfold takeN
    rw [if_pos hb]
    refine ev_shift ?_
    simp only [spec_LinkTake.j0]
    exact ev_pos trivial (ev_now rfl)
  refine ev_ite (fun hL => ?_) (fun h => bad (.inl (Bool.eq_false_iff.2 h)))
  rw [l1Has_f l t hl]
  simp only [Option.bind_some]
  cases h : hasB l t with
  | false => exact bad (.inr h)
  | true => exact spec_take_j0 l key epoch seq over t hL h
end
end Go.Proofs.Ytnbodfakblbmbaa.P
end

section
namespace Go.Proofs.Ytnbodfakblbmbaa.P
open Go.RowKit Go.Proofs.YtnbodfakblbmbaaW.PrintWords
set_option linter.unusedVariables false
set_option linter.unusedSimpArgs false
theorem pure_FnExactLinkTake : laws_FnExactLinkTake.Pure := by
  intro l a0 a1 a2 a3 t hl h0 h1 h2 h3
  refine Ev.rounds ?_
  unfold laws_FnExactLinkTake.f
  rw [szPool_f l 1048576 hl.1 (by omega)]
  simp only [Option.bind_some, laws_toLink.f]
  refine ev_ite (fun _ => ev_now rfl) (fun h => ?_)
  have hlen : l.length ≤ 1048576 := by
    by_cases hc : (1048576 : Int) - l.length < 0
    · rw [if_pos hc] at h; omega
    · omega
  have hm : (l.map toN).length ≤ 4611686018427387904 := by rw [List.length_map]; omega
  have ht := toPool_ev l hlen
  refine Ev.bind ht (Ev.bind (spec_LinkTake_ev _ a0 a1 a2 a3 t hm) (Ev.bind ht (Ev.bind (impl_LinkTake_ev _ a0 a1 a2 a3 t hm) ?_)))
  generalize takeN (l.map toN) a0 a1 a2 a3 t = v
  have hq : laws_eqLink.f v.1 v.2.1 v.2.2.1 v.2.2.2.1 v.1 v.2.1 v.2.2.1 v.2.2.2.1 = some true := by unfold laws_eqLink.f; simp
  rw [hq]
  simp only [Option.bind_some, if_true]
  refine ev_shift ?_
  simp only [laws_FnExactLinkTake.j0]
  refine ev_neg (by simp) ?_
  have ht1 : Ev (fun n => laws_toPool.f n l) (l.map toN) := ht
  refine Ev.bind ht1 (Ev.bind (eqPool_ev _ _ hm) ?_)
  exact ev_pos (by simp) (ev_now rfl)
end Go.Proofs.Ytnbodfakblbmbaa.P
end
