/- What plain functions of this seat answer. Conditions: those that each theorem names. -/
import Derived.Test.YtofmobmmoideiaaPx0
import Derived.Test.YtofmobmmoideiaaPx4
import Derived.Test.YtofmobmmoideiaaPx5
import Derived.Test.YtofmobmmoideiaaPx6
import Derived.Test.YtofmobmmoideiaaPx7
import Derived.Test.YtofmobmmoideiaaPx8
import Derived.Test.YtofmobmmoideiaaPx9
import Derived.Test.YtofmobmmoideiaaPlbase
namespace Go.Proofs.Ytofmobmmoideiaa.P
open Go.RowKit Go.Proofs.YtofmobmmoideiaaW.PrintWords
set_option linter.unusedVariables false
set_option linter.unusedSimpArgs false

abbrev Nd := S73
theorem rdN (l : List Nd) (x : Int) : rd_T73 l x = l.getD x.toNat z73 := rfl
theorem l1In_f (a b c : Int) : spec_l1In.f a b c = some (decide (b ≤ a ∧ a ≤ c)) := by
  unfold spec_l1In.f
  by_cases h : b ≤ a
  · rw [if_pos h]; simp [h]
  · rw [if_neg h]; simp [h]
theorem l1Parts_f (k : Nat) (a : Int) : spec_l1Parts.f (k + 1) a = some (kindN a) := by
  unfold spec_l1Parts.f spec_l1Parts.j0 kindN
  by_cases h1 : a = 1
  · simp [h1]
  · by_cases h5 : a = 5
    · simp [h5]
    · by_cases h7 : a = 7
      · simp [h7]
      · simp [h1, h5, h7]
        by_cases a2 : a = 2
        · simp [a2]
        · by_cases a3 : a = 3
          · simp [a3]
          · by_cases a4 : a = 4
            · simp [a4]
            · by_cases a6 : a = 6
              · simp [a6]
              · by_cases a8 : a = 8 <;> simp [a2, a3, a4, a6, a8]
theorem l1Parts_ev (a : Int) : Ev (fun k => spec_l1Parts.f k a) (kindN a) := ev_succ fun k => l1Parts_f k a
theorem count_ev (a : Int) : Ev (fun k => impl_count.f k a) (kindN a) := ev_succ fun k => count_f k a
theorem nodeOk_ev (n : Nd) (m : Int) (h0 : 0 ≤ m) (h1 : m ≤ 4611686018427387904) : Ev (fun k => impl_nodeOk.f k n.f0 n.f1 n.f2 m) (nodeB n m) := ev_succ fun k => nodeOk_f k n m h0 h1
theorem l1Right_f (k : Nat) (n : Nd) (m : Int) (h0 : 0 ≤ m) (h1 : m ≤ 4611686018427387904) : spec_l1Right.f (k + 1) n.f0 n.f1 n.f2 m = some (nodeB n m) := by
  have h := nodeOk_f k n m h0 h1
  unfold impl_nodeOk.f at h
  unfold spec_l1Right.f
  rw [l1Parts_f]
  rw [count_f] at h
  simp only [Option.bind_some, l1In_f] at h ⊢
  simp only [inRange_f] at h
  exact h
theorem l1Right_ev (n : Nd) (m : Int) (h0 : 0 ≤ m) (h1 : m ≤ 4611686018427387904) : Ev (fun k => spec_l1Right.f k n.f0 n.f1 n.f2 m) (nodeB n m) := ev_succ fun k => l1Right_f k n m h0 h1
/-- Where a node stands first; -1: nowhere. -/
def findFrom (n : Nd) : List Nd → Nat → Int
  | [], _ => -1
  | x :: r, i => if x = n then (i : Int) else findFrom n r (i + 1)
def findN (l : List Nd) (n : Nd) : Int := findFrom n l 0
theorem nd_eq (x n : Nd) : (x.f0 == n.f0 && (x.f1 == n.f1 && (x.f2 == n.f2))) = decide (x = n) := by
  rw [Bool.eq_iff_iff]
  cases x; cases n
  simp
theorem l1Find_loop (l : List Nd) (n : Nd) (hl : l.length ≤ 4611686018427387904) (d : Nat) : ∀ i : Int, 0 ≤ i → i ≤ (l.length : Int) → (l.length : Int) - i = d → Ev (fun k => spec_l1Find.l0 k i l n.f0 n.f1 n.f2) (findFrom n (l.drop i.toNat) i.toNat) := by
  induction d with
  | zero =>
    intro i h0 h1 hd
    refine ev_shift ?_
    simp only [spec_l1Find.l0]
    refine ev_neg (by omega) ?_
    rw [List.drop_of_length_le (by omega)]
    exact ev_now rfl
  | succ d ih =>
    intro i h0 h1 hd
    refine ev_shift ?_
    simp only [spec_l1Find.l0]
    refine ev_pos (by omega) (ev_pos h0 ?_)
    have hlt : i.toNat < l.length := by omega
    rw [drop_cons z73 hlt, findFrom, nd_eq, rdN]
    refine ev_ite (fun h => ?_) (fun h => ?_)
    · rw [if_pos (of_decide_eq_true h)]
      exact ev_now (by omega)
    · rw [if_neg (fun e => h (decide_eq_true e)), wrap_id (by omega)]
      have := ih (i + 1) (by omega) (by omega) (by omega)
      rw [show (i + 1).toNat = i.toNat + 1 by omega] at this
      exact this
theorem l1Find_ev (l : List Nd) (n : Nd) (hl : l.length ≤ 4611686018427387904) : Ev (fun k => spec_l1Find.f k l n.f0 n.f1 n.f2) (findN l n) := by
  have := l1Find_loop l n hl l.length 0 (by omega) (by omega) (by omega)
  unfold spec_l1Find.f
  exact this
theorem findFrom_ge {n : Nd} : ∀ {l : List Nd} {i : Nat}, findFrom n l i = -1 ∨ (i : Int) ≤ findFrom n l i
  | [], _ => .inl rfl
  | x :: r, i => by
    unfold findFrom
    split
    · exact .inr (Int.le_refl _)
    · rcases findFrom_ge (n := n) (l := r) (i := i + 1) with h | h
      · exact .inl h
      · exact .inr (by omega)
theorem findFrom_lt {n : Nd} : ∀ {l : List Nd} {i : Nat}, findFrom n l i < (i : Int) + l.length ∨ findFrom n l i = -1
  | [], _ => .inr rfl
  | x :: r, i => by
    unfold findFrom
    split
    · left; simp; omega
    · rcases findFrom_lt (n := n) (l := r) (i := i + 1) with h | h
      · left; simp at h ⊢; omega
      · exact .inr h
theorem findFrom_not {n : Nd} : ∀ {l : List Nd} {i : Nat}, n ∉ l → findFrom n l i = -1
  | [], _, _ => rfl
  | x :: r, i, h => by
    simp only [List.mem_cons, not_or] at h
    unfold findFrom
    rw [if_neg (fun e => h.1 e.symm)]
    exact findFrom_not h.2
theorem findFrom_mem {n : Nd} : ∀ {l : List Nd} {i : Nat}, n ∈ l → ∃ j : Nat, findFrom n l i = ((i + j : Nat) : Int) ∧ j < l.length ∧ l[j]? = some n ∧ n ∉ l.take j
  | [], _, h => by cases h
  | x :: r, i, h => by
    unfold findFrom
    by_cases hx : x = n
    · rw [if_pos hx]
      exact ⟨0, by simp, by simp, by simp [hx], by simp⟩
    · rw [if_neg hx]
      obtain ⟨j, h1, h2, h3, h4⟩ := findFrom_mem (n := n) (l := r) (i := i + 1) (by rcases List.mem_cons.1 h with h | h; exact absurd h.symm hx; exact h)
      refine ⟨j + 1, by rw [h1]; omega, by simp; omega, by simpa using h3, ?_⟩
      rw [List.take_succ_cons, List.mem_cons, not_or]
      exact ⟨fun e => hx e.symm, h4⟩
theorem findN_not {l : List Nd} {n : Nd} (h : n ∉ l) : findN l n = -1 := findFrom_not h
theorem findN_mem {l : List Nd} {n : Nd} (h : n ∈ l) : ∃ j : Nat, findN l n = (j : Int) ∧ j < l.length ∧ l[j]? = some n ∧ n ∉ l.take j := by
  obtain ⟨j, h1, h2⟩ := findFrom_mem (i := 0) h
  exact ⟨j, by unfold findN; rw [h1]; omega, h2⟩
theorem findN_at {l : List Nd} {i : Nat} (hi : i < l.length) : findN l (l.getD i z73) = (i : Int) ↔ (l.take i).contains (l.getD i z73) = false := by
  have hm : l.getD i z73 ∈ l := by rw [getD_of hi]; exact List.getElem_mem hi
  obtain ⟨j, h1, h2, h3, h4⟩ := findN_mem hm
  rw [h1]
  constructor
  · intro h
    have : j = i := by omega
    subst this
    simpa using h4
  · intro h
    have h5 : l.getD i z73 ∉ l.take i := by simpa using h
    rcases Nat.lt_trichotomy j i with hj | hj | hj
    · exfalso
      apply h5
      rw [List.mem_iff_getElem?]
      exact ⟨j, by rw [List.getElem?_take, if_pos hj]; exact h3⟩
    · omega
    · exfalso
      apply h4
      rw [List.mem_iff_getElem?]
      exact ⟨i, by rw [List.getElem?_take, if_pos hj, List.getElem?_eq_getElem hi, getD_of hi]⟩
theorem poolB_iff (l : List Nd) : poolB l = true ↔ l.length ≤ 500 ∧ ∀ i, i < l.length → okAt l i = true := by
  unfold poolB
  rw [Bool.and_eq_true, List.all_eq_true, decide_eq_true_iff]
  simp only [List.mem_range]
theorem spec_PoolOk_loop (l : List Nd) (hl : l.length ≤ 500) (d : Nat) : ∀ i : Int, 0 ≤ i → i ≤ (l.length : Int) → (l.length : Int) - i = d → (∀ j, j < i.toNat → okAt l j = true) → Ev (fun k => spec_PoolOk.l0 k i l) (poolB l) := by
  induction d with
  | zero =>
    intro i h0 h1 hd hok
    refine ev_shift ?_
    simp only [spec_PoolOk.l0]
    refine ev_neg (by omega) (ev_now ?_)
    symm
    rw [poolB_iff]
    exact ⟨hl, fun j hj => hok j (by omega)⟩
  | succ d ih =>
    intro i h0 h1 hd hok
    refine ev_shift ?_
    simp only [spec_PoolOk.l0]
    refine ev_pos (by omega) (ev_pos h0 ?_)
    have hlt : i.toNat < l.length := by omega
    have hi : ((i.toNat : Nat) : Int) = i := by omega
    refine Ev.bind (l1Right_ev (rd_T73 l i) i h0 (by omega)) ?_
    refine ev_ite (fun h => ?_) (fun h => ?_)
    · refine Ev.bind (l1Find_ev l (rd_T73 l i) (by omega)) ?_
      rw [rdN] at h ⊢
      refine ev_ite (fun h2 => ?_) (fun h2 => ?_)
      · rw [wrap_id (by omega)]
        refine ih (i + 1) (by omega) (by omega) (by omega) (fun j hj => ?_)
        by_cases hji : j < i.toNat
        · exact hok j hji
        · have : j = i.toNat := by omega
          subst this
          unfold okAt
          rw [hi, h, (findN_at hlt).1 (by omega)]
          rfl
      · refine ev_now ?_
        symm
        refine poolB_not i.toNat hlt ?_
        unfold okAt
        have : (l.take i.toNat).contains (l.getD i.toNat z73) = true := by
          cases hc : (l.take i.toNat).contains (l.getD i.toNat z73) with
          | true => rfl
          | false => exact absurd ((findN_at hlt).2 hc) (by omega)
        rw [this]
        rfl
    · refine ev_now ?_
      symm
      refine poolB_not i.toNat hlt ?_
      unfold okAt
      rw [rdN] at h
      rw [hi, Bool.eq_false_iff.2 h]
      simp
theorem spec_PoolOk_ev (l : List Nd) : Ev (fun k => spec_PoolOk.f k l) (poolB l) := by
  unfold spec_PoolOk.f
  refine ev_ite (fun h => ev_now ?_) (fun h => ?_)
  · unfold poolB; rw [decide_eq_false (by omega)]; rfl
  · exact spec_PoolOk_loop l (by omega) l.length 0 (by omega) (by omega) (by omega) (fun j hj => by simp at hj)
/-- Is there such a term? -/
def hasB (l : List Nd) (t : Int) : Bool := decide (0 ≤ t ∧ t < (l.length : Int))
theorem hasB_iff {l : List Nd} {t : Int} : hasB l t = true ↔ 0 ≤ t ∧ t < (l.length : Int) := by unfold hasB; rw [decide_eq_true_iff]
theorem l1Has_f (l : List Nd) (t : Int) (hl : l.length ≤ 4611686018427387904) : spec_l1Has.f l t = some (hasB l t) := by
  unfold spec_l1Has.f hasB
  have e : (0 ≤ t ∧ t ≤ (l.length : Int) - 1) ↔ (0 ≤ t ∧ t < (l.length : Int)) := by omega
  rw [wrap_id (by omega), l1In_f]
  simp only [Option.bind_some, e]
theorem isTerm_f (l : List Nd) (t : Int) (hl : l.length ≤ 4611686018427387904) : impl_Pool_isTerm.f l t = some (hasB l t) := by
  unfold impl_Pool_isTerm.f hasB
  have e : (0 ≤ t ∧ t ≤ (l.length : Int) - 1) ↔ (0 ≤ t ∧ t < (l.length : Int)) := by omega
  rw [wrap_id (by omega), inRange_f]
  simp only [Option.bind_some, e]
end Go.Proofs.Ytofmobmmoideiaa.P
