/- The step that is first for a term. Conditions: those that each theorem names. -/
import Derived.Test.YtijileoflejgpaaDoorXC1E7
import Derived.Test.YtijileoflejgpaaDoorXSymTx
import Derived.Test.YtijileoflejgpaaDoorXSymIce
set_option linter.unusedVariables false
set_option linter.unusedSimpArgs false
set_option maxRecDepth 4000
namespace Go.Proofs.YtijileoflejgpaaDoor.C
open Go.Sym Go.Proofs.YtijileoflejgpaaDoor.I
/-- The step of a term; below 0: there is none. -/
def sv (st : List Int) (t : Int) : Int := st.getD t.toNat 0
theorem sv_nat {st : List Int} {j : Nat} (h : j < st.length) : sv st j = st[j] := by simp [sv, h]
def optS (o : Option Sp) : Sp := o.getD ⟨0, 0, 0, 0⟩
def upOk (ns : List Nd) (st : List Int) (r t : Int) (i : Nat) : Bool :=
  decide (0 ≤ sv st i) && (decide (r = 5 ∧ (nodeAt ns i).k = 2 ∧ (nodeAt ns i).a = t) || decide (r = 6 ∧ (nodeAt ns i).k = 2 ∧ (nodeAt ns i).b = t) || decide (r = 8 ∧ (nodeAt ns i).k = 4 ∧ (nodeAt ns i).a = t) ||
    (decide (r = 7 ∧ (nodeAt ns i).k = 3 ∧ (nodeAt ns i).a = t) && decide (0 ≤ sv st (nodeAt ns i).b)))
def upGo (ns : List Nd) (st : List Int) (r t : Int) : Nat → Nat → Option Sp
  | 0, _ => none
  | n + 1, i => if upOk ns st r t i = true then some ⟨r, t, sv st i, if r = 7 then sv st (nodeAt ns i).b else 0⟩ else upGo ns st r t n (i + 1)
def upF (ns : List Nd) (st : List Int) (r t : Int) : Option Sp := upGo ns st r t (ns.length - (t.toNat + 1)) (t.toNat + 1)
theorem findF_lt {ns : List Nd} {n : Nd} (h : 0 ≤ findF ns n 0) : ∃ x : Nat, findF ns n 0 = x ∧ x < ns.length := by
  obtain ⟨j, hj, e, _⟩ := findF_at ns n 0 h
  exact ⟨j, by simpa using e, hj⟩
/-- The step that shares. -/
def shareF (ns : List Nd) (st : List Int) (t : Int) : Option Sp :=
  if (nodeAt ns t).k ≠ 8 then none
  else if 0 ≤ sv st (nodeAt ns t).a ∧ 0 ≤ findF ns ⟨7, (nodeAt ns t).b, 0⟩ 0 ∧ 0 ≤ sv st (findF ns ⟨7, (nodeAt ns t).b, 0⟩ 0) then some ⟨4, t, sv st (nodeAt ns t).a, sv st (findF ns ⟨7, (nodeAt ns t).b, 0⟩ 0)⟩
  else if 0 ≤ sv st (nodeAt ns t).b ∧ 0 ≤ findF ns ⟨7, (nodeAt ns t).a, 0⟩ 0 ∧ 0 ≤ sv st (findF ns ⟨7, (nodeAt ns t).a, 0⟩ 0) then some ⟨4, t, sv st (nodeAt ns t).b, sv st (findF ns ⟨7, (nodeAt ns t).a, 0⟩ 0)⟩
  else none
end Go.Proofs.YtijileoflejgpaaDoor.C

set_option linter.unusedVariables false
set_option linter.unusedSimpArgs false
set_option maxRecDepth 4000
namespace Go.Proofs.YtijileoflejgpaaDoor.C
open Go.Sym Go.Proofs.YtijileoflejgpaaDoor.I
/-- The step that makes a term of its parts. -/
def madeF (ns : List Nd) (st : List Int) (t : Int) : Option Sp :=
  if partsF (nodeAt ns t).k = 1 then (if 0 ≤ sv st (nodeAt ns t).a then some ⟨3, t, sv st (nodeAt ns t).a, 0⟩ else none)
  else if partsF (nodeAt ns t).k = 2 then (if 0 ≤ sv st (nodeAt ns t).a ∧ 0 ≤ sv st (nodeAt ns t).b then some ⟨3, t, sv st (nodeAt ns t).a, sv st (nodeAt ns t).b⟩ else none)
  else none
def restF (ns : List Nd) (st : List Int) (t : Int) : Option Sp := (shareF ns st t).or ((upF ns st 5 t).or ((upF ns st 6 t).or ((upF ns st 7 t).or (upF ns st 8 t))))
/-- The step that is first for a term. -/
def stepF (ns : List Nd) (ks : List Int) (st : List Int) (t : Int) : Option Sp :=
  if hasK ks t = true then some ⟨1, t, 0, 0⟩
  else if (nodeAt ns t).k = 1 ∧ pubF (nodeAt ns t).a = true then some ⟨2, t, 0, 0⟩
  else (madeF ns st t).or (restF ns st t)
end Go.Proofs.YtijileoflejgpaaDoor.C

set_option linter.unusedVariables false
set_option linter.unusedSimpArgs false
set_option maxRecDepth 4000
namespace Go.Proofs.YtijileoflejgpaaDoor.C
open Go.Sym Go.Proofs.YtijileoflejgpaaDoor.I
def passGo (ns : List Nd) (ks : List Int) : Nat → Nat → List Int → List Sp → Bool → List Int × List Sp × Bool
  | 0, _, st, out, m => (st, out, m)
  | n + 1, t, st, out, m =>
    if 0 ≤ sv st t then passGo ns ks n (t + 1) st out m
    else match stepF ns ks st t with
      | some s => passGo ns ks n (t + 1) (st.set t out.length) (out ++ [s]) true
      | none => passGo ns ks n (t + 1) st out m
def allGo (ns : List Nd) (ks : List Int) : Nat → List Int → List Sp → List Int × List Sp
  | 0, st, out => (st, out)
  | n + 1, st, out => if (passGo ns ks ns.length 0 st out false).2.2 = true then allGo ns ks n (passGo ns ks ns.length 0 st out false).1 (passGo ns ks ns.length 0 st out false).2.1
    else ((passGo ns ks ns.length 0 st out false).1, (passGo ns ks ns.length 0 st out false).2.1)
def allV (ns : List Nd) (ks : List Int) : List Sp := (allGo ns ks (ns.length + 1) (List.replicate ns.length (-1)) []).2
/-- What ProofAll answers. -/
def allSt (ns : List Nd) (ks : List Int) : List Sp := if kpF ns ks = true then allV ns ks else []
def negs (st : List Int) : Nat := st.countP fun x => decide (x < 0)
theorem negs_set {st : List Int} {t : Nat} (ht : t < st.length) (h : st[t] < 0) {v : Int} (hv : 0 ≤ v) : negs (st.set t v) + 1 = negs st := by
  have hp : 0 < st.countP fun x => decide (x < 0) := List.countP_pos_iff.2 ⟨st[t], List.getElem_mem ht, by simpa using h⟩
  have hv' : ¬ v < 0 := by omega
  simp only [negs]
  rw [List.countP_set ht]
  simp [h, hv']
  omega
theorem negs_rep (n : Nat) : negs (List.replicate n (-1)) = n := by simp [negs, List.countP_replicate]
theorem allGo_end {ns : List Nd} {ks : List Int} {k : Nat} {st st' : List Int} {out out' : List Sp} (h : passGo ns ks ns.length 0 st out false = (st', out', false)) : (allGo ns ks (k + 1) st out).2 = out' := by simp [allGo, h]
theorem allGo_more {ns : List Nd} {ks : List Int} {k : Nat} {st st' : List Int} {out out' : List Sp} (h : passGo ns ks ns.length 0 st out false = (st', out', true)) : (allGo ns ks (k + 1) st out).2 = (allGo ns ks k st' out').2 := by simp [allGo, h]
def fillI (n i : Nat) : List Int := List.replicate i (-1) ++ List.replicate (n - i) 0
theorem fillI_len {n i : Nat} (h : i ≤ n) : (fillI n i).length = n := by simp [fillI]; omega
theorem fillI_set {n i : Nat} (h : i < n) : (fillI n i).set i (-1) = fillI n (i + 1) := by
  have e : n - i = (n - (i + 1)) + 1 := by omega
  simp only [fillI]
  rw [List.set_append_right _ _ (by simp), List.length_replicate, Nat.sub_self, e, List.replicate_succ, List.set_cons_zero, List.replicate_succ' (n := i), List.append_assoc]
  rfl
end Go.Proofs.YtijileoflejgpaaDoor.C

set_option linter.unusedVariables false
set_option linter.unusedSimpArgs false
namespace Go.Proofs.YtijileoflejgpaaDoor.C
theorem findF_nodeAt {ns : List Nd} {n : Nd} (h : 0 ≤ findF ns n 0) : ∃ x : Nat, findF ns n 0 = x ∧ x < ns.length ∧ nodeAt ns x = n := by
  obtain ⟨j, hj, e, e2⟩ := findF_at ns n 0 h
  exact ⟨j, by simpa using e, hj, by rw [nodeAt_nat hj, e2]⟩
structure PInv (ns : List Nd) (ks : List Int) (st : List Int) (out : List Sp) : Prop where
  len : st.length = ns.length
  idx : ∀ (t : Nat) (h : t < st.length), 0 ≤ st[t] → ∃ i : Nat, ∃ hi : i < out.length, st[t] = i ∧ out[i].t = t
  neg : ∀ (t : Nat) (h : t < st.length), st[t] < 0 → ∀ x ∈ out, x.t ≠ t
  ok : ∀ i : Nat, i < out.length → prF ns ks out i = true
theorem PInv.at {ns : List Nd} {ks st : List Int} {out : List Sp} (I : PInv ns ks st out) {t : Nat} (ht : t < ns.length) (h : 0 ≤ sv st t) : termAt out out.length (sv st t) = t ∧ 0 ≤ sv st t ∧ ¬ (t : Int) < 0 := by
  have hts : t < st.length := by rw [I.len]; exact ht
  rw [sv_nat hts] at h ⊢
  obtain ⟨i, hi, e1, e2⟩ := I.idx t hts h
  refine ⟨?_, h, by omega⟩
  rw [e1]
  have : inF (i : Int) 0 ((out.length : Int) - 1) = true := by simp [inF]; omega
  simp [termAt, this, hi, e2]
theorem upGo_some {ns : List Nd} {st : List Int} {r t : Int} {s : Sp} : ∀ {n i : Nat}, upGo ns st r t n i = some s → ∃ j : Nat, i ≤ j ∧ j < i + n ∧ upOk ns st r t j = true ∧ s = ⟨r, t, sv st j, if r = 7 then sv st (nodeAt ns j).b else 0⟩
  | 0, i, h => by simp [upGo] at h
  | n + 1, i, h => by
    unfold upGo at h
    split at h
    · rename_i g
      exact ⟨i, Nat.le_refl _, by omega, g, by simpa using h.symm⟩
    · obtain ⟨j, h1, h2, h3, h4⟩ := upGo_some h
      exact ⟨j, by omega, by omega, h3, h4⟩
theorem up_ok {ns : List Nd} {ks st : List Int} {out : List Sp} (I : PInv ns ks st out) (hp : poolF ns = true) {t : Nat} (ht : t < ns.length) {r : Int} (hr : r = 5 ∨ r = 6 ∨ r = 7 ∨ r = 8) {s : Sp} (h : upF ns st r t = some s) : stepOkF ns ks out s = true ∧ s.t = t := by
  unfold upF at h
  obtain ⟨j, h1, h2, h3, rfl⟩ := upGo_some h
  have hj : j < ns.length := by have : (t : Int).toNat = t := rfl; omega
  refine ⟨?_, rfl⟩
  simp only [upOk, Bool.and_eq_true, Bool.or_eq_true, decide_eq_true_eq] at h3
  obtain ⟨h4, h5⟩ := h3
  obtain ⟨a1, a2, a3⟩ := I.at hj h4
  simp only [stepOkF, hasF_of ht, Bool.true_and, holdsF]
  rcases hr with rfl | rfl | rfl | rfl
  · have h6 : (nodeAt ns j).k = 2 ∧ (nodeAt ns j).a = t := by simpa using h5
    simp [needsF, lackF, ruleF, a1, h6]
  · have h6 : (nodeAt ns j).k = 2 ∧ (nodeAt ns j).b = t := by simpa using h5
    simp [needsF, lackF, ruleF, a1, h6]
  · have h6 : ((nodeAt ns j).k = 3 ∧ (nodeAt ns j).a = t) ∧ 0 ≤ sv st (nodeAt ns j).b := by simpa using h5
    obtain ⟨⟨h6, h7⟩, h8⟩ := h6
    have hk := h6
    rw [nodeAt_nat hj] at hk
    obtain ⟨_, b, eb, hb⟩ := parts_in hp hj (by rw [hk]; rfl)
    rw [nodeAt_nat hj] at h8
    rw [eb] at h8
    obtain ⟨b1, b2, b3⟩ := I.at (by omega) h8
    have eb2 : (nodeAt ns j).b = b := by rw [nodeAt_nat hj, eb]
    simp [needsF, lackF, ruleF, a1, h6, h7, eb2, b1, b3]
  · have h6 : (nodeAt ns j).k = 4 ∧ (nodeAt ns j).a = t := by simpa using h5
    simp [needsF, lackF, ruleF, a1, h6]
theorem share_ok {ns : List Nd} {ks st : List Int} {out : List Sp} (I : PInv ns ks st out) (hp : poolF ns = true) {t : Nat} (ht : t < ns.length) {s : Sp} (h : shareF ns st t = some s) : stepOkF ns ks out s = true ∧ s.t = t := by
  have en := nodeAt_nat ht
  unfold shareF at h
  split at h
  · cases h
  · rename_i hk
    have hk8 : ns[t].k = 8 := by rw [en] at hk; omega
    obtain ⟨⟨a, ea, hal⟩, b, eb, hbl⟩ := parts_in hp ht (by rw [hk8]; rfl)
    rw [en, ea, eb] at h
    split at h
    · rename_i g
      obtain ⟨g1, g2, g3⟩ := g
      obtain ⟨x, ex, hx, enx⟩ := findF_nodeAt g2
      rw [ex] at g3 h
      obtain ⟨a1, a2, a3⟩ := I.at (by omega) g1
      obtain ⟨b1, b2, b3⟩ := I.at hx g3
      cases h
      refine ⟨?_, rfl⟩
      simp only [stepOkF, hasF_of ht, Bool.true_and, holdsF]
      simp [needsF, lackF, ruleF, a1, b1, enx, en, ea, eb, hk8]
    · split at h
      · rename_i g
        obtain ⟨g1, g2, g3⟩ := g
        obtain ⟨x, ex, hx, enx⟩ := findF_nodeAt g2
        rw [ex] at g3 h
        obtain ⟨a1, a2, a3⟩ := I.at (by omega) g1
        obtain ⟨b1, b2, b3⟩ := I.at hx g3
        cases h
        refine ⟨?_, rfl⟩
        simp only [stepOkF, hasF_of ht, Bool.true_and, holdsF]
        simp [needsF, lackF, ruleF, a1, b1, enx, en, ea, eb, hk8]
      · cases h
theorem made_ok {ns : List Nd} {ks st : List Int} {out : List Sp} (I : PInv ns ks st out) (hp : poolF ns = true) {t : Nat} (ht : t < ns.length) {s : Sp} (h : madeF ns st t = some s) : stepOkF ns ks out s = true ∧ s.t = t := by
  have en := nodeAt_nat ht
  unfold madeF at h
  rw [en] at h
  split at h
  · rename_i hk
    have hk1 := partsF_ne (k := ns[t].k) (by omega)
    obtain ⟨a, ea, hal⟩ := part_in hp ht hk
    rw [ea] at h
    split at h
    · rename_i g
      obtain ⟨a1, a2, a3⟩ := I.at (by omega) g
      cases h
      refine ⟨?_, rfl⟩
      simp only [stepOkF, hasF_of ht, Bool.true_and, holdsF]
      simp [needsF, lackF, ruleF, a1, en, ea, hk, hk1]
    · cases h
  · split at h
    · rename_i hk
      have hk1 := partsF_ne (k := ns[t].k) (by omega)
      obtain ⟨⟨a, ea, hal⟩, b, eb, hbl⟩ := parts_in hp ht hk
      rw [ea, eb] at h
      split at h
      · rename_i g
        obtain ⟨a1, a2, a3⟩ := I.at (by omega) g.1
        obtain ⟨b1, b2, b3⟩ := I.at (by omega) g.2
        cases h
        refine ⟨?_, rfl⟩
        simp only [stepOkF, hasF_of ht, Bool.true_and, holdsF]
        simp [needsF, lackF, ruleF, a1, b1, en, ea, eb, hk, hk1]
      · cases h
    · cases h
theorem or_some {α : Type} {a b : Option α} {s : α} (h : a.or b = some s) : a = some s ∨ b = some s := by
  cases a with
  | none => right; simpa using h
  | some x => left; simpa using h
theorem step_ok {ns : List Nd} {ks st : List Int} {out : List Sp} (I : PInv ns ks st out) (hp : poolF ns = true) {t : Nat} (ht : t < ns.length) {s : Sp} (h : stepF ns ks st t = some s) : stepOkF ns ks out s = true ∧ s.t = t := by
  unfold stepF at h
  split at h
  · rename_i g
    cases h
    refine ⟨?_, rfl⟩
    simp only [stepOkF, hasF_of ht, Bool.true_and, holdsF]
    simp [needsF, lackF, ruleF, g]
  · split at h
    · rename_i g
      cases h
      refine ⟨?_, rfl⟩
      simp only [stepOkF, hasF_of ht, Bool.true_and, holdsF]
      simp [needsF, lackF, ruleF, g]
    · rcases or_some h with h | h
      · exact made_ok I hp ht h
      · unfold restF at h
        rcases or_some h with h | h
        · exact share_ok I hp ht h
        rcases or_some h with h | h
        · exact up_ok I hp ht (by simp) h
        rcases or_some h with h | h
        · exact up_ok I hp ht (by simp) h
        rcases or_some h with h | h
        · exact up_ok I hp ht (by simp) h
        · exact up_ok I hp ht (by simp) h
theorem prF_snoc {ns : List Nd} {ks : List Int} {out : List Sp} {s : Sp} {i : Nat} (h : i < out.length) : prF ns ks (out ++ [s]) i = prF ns ks out i := by
  have e1 : (out ++ [s]).take i = out.take i := List.take_append_of_le_length (by omega)
  have e2 : spAt (out ++ [s]) i = spAt out i := by simp [spAt, List.getElem?_append_left h]
  simp only [prF, freshF, e1, e2]
theorem PInv.put {ns : List Nd} {ks st : List Int} {out : List Sp} (I : PInv ns ks st out) (hp : poolF ns = true) {t : Nat} (ht : t < st.length) (hn : st[t] < 0) {s : Sp} (h : stepF ns ks st t = some s) : PInv ns ks (st.set t out.length) (out ++ [s]) := by
  have htn : t < ns.length := by rw [← I.len]; exact ht
  obtain ⟨s1, s2⟩ := step_ok I hp htn h
  refine ⟨by simp [I.len], ?_, ?_, ?_⟩
  · intro u hu hpos
    simp only [List.length_set] at hu
    rw [List.getElem_set] at hpos ⊢
    split at hpos
    · rename_i e
      subst e
      exact ⟨out.length, by simp, by simp, by simp [s2]⟩
    · rename_i e
      obtain ⟨i, hi, e1, e2⟩ := I.idx u hu hpos
      refine ⟨i, by simp; omega, by rw [if_neg e]; exact e1, by rw [List.getElem_append_left hi]; exact e2⟩
  · intro u hu hneg x hx
    simp only [List.length_set] at hu
    rw [List.getElem_set] at hneg
    split at hneg
    · omega
    · rename_i e
      rcases List.mem_append.1 hx with hx | hx
      · exact I.neg u hu hneg x hx
      · simp only [List.mem_singleton] at hx
        subst hx
        rw [s2]
        omega
  · intro i hi
    simp only [List.length_append, List.length_singleton] at hi
    rcases Nat.lt_or_ge i out.length with g | g
    · rw [prF_snoc g]; exact I.ok i g
    · have : i = out.length := by omega
      subst this
      have e1 : (out ++ [s]).take out.length = out := List.take_left' rfl
      have e2 : spAt (out ++ [s]) out.length = s := by simp [spAt]
      simp only [prF, freshF, e1, e2, s1, Bool.true_and, decide_eq_true_eq]
      intro x hx
      rw [s2]
      exact I.neg t ht hn x hx
theorem passGo_inv {ns : List Nd} {ks : List Int} (hp : poolF ns = true) : ∀ (n t : Nat) (st : List Int) (out : List Sp) (m : Bool), t + n = ns.length → PInv ns ks st out → PInv ns ks (passGo ns ks n t st out m).1 (passGo ns ks n t st out m).2.1
  | 0, t, st, out, m, _, I => I
  | n + 1, t, st, out, m, ht, I => by
    have hts : t < st.length := by rw [I.len]; omega
    unfold passGo
    split
    · exact passGo_inv hp n (t + 1) st out m (by omega) I
    · rename_i g
      rw [sv_nat hts] at g
      split
      · rename_i s hs
        exact passGo_inv hp n (t + 1) _ _ true (by omega) (I.put hp hts (by omega) hs)
      · exact passGo_inv hp n (t + 1) st out m (by omega) I
theorem allGo_inv {ns : List Nd} {ks : List Int} (hp : poolF ns = true) : ∀ (n : Nat) (st : List Int) (out : List Sp), PInv ns ks st out → PInv ns ks (allGo ns ks n st out).1 (allGo ns ks n st out).2
  | 0, st, out, I => I
  | n + 1, st, out, I => by
    have J := passGo_inv hp ns.length 0 st out false (by omega) I
    unfold allGo
    split
    · exact allGo_inv hp n _ _ J
    · exact J
theorem PInv.start (ns : List Nd) (ks : List Int) : PInv ns ks (List.replicate ns.length (-1)) [] := by
  refine ⟨by simp, ?_, ?_, ?_⟩
  · intro t h hp; simp at hp
  · intro t h hn x hx; cases hx
  · intro i hi; simp at hi
theorem allV_inv {ns : List Nd} (ks : List Int) (hp : poolF ns = true) : PInv ns ks (allGo ns ks (ns.length + 1) (List.replicate ns.length (-1)) []).1 (allV ns ks) := allGo_inv hp _ _ _ (PInv.start ns ks)
theorem spAt_take {ss : List Sp} {m i : Nat} (h : i < m) : spAt (ss.take m) i = spAt ss i := by simp [spAt, List.getElem?_take, h]
theorem prF_take {ns : List Nd} {ks : List Int} {ss : List Sp} {m i : Nat} (h : i < m) : prF ns ks (ss.take m) i = prF ns ks ss i := by
  have e1 : (ss.take m).take i = ss.take i := by rw [List.take_take, Nat.min_eq_left (by omega)]
  simp only [prF, freshF, e1, spAt_take h]
theorem prF_well {ns : List Nd} {ks : List Int} {ss : List Sp} {i : Nat} (hi : i < ss.length) (h : prF ns ks ss i = true) : wellF ns ss i = true := by
  simp only [prF, stepOkF, Bool.and_eq_true, holdsF, termAt_take (Nat.le_of_lt hi)] at h
  obtain ⟨⟨h1, h2, _⟩, _⟩ := h
  simp only [lackF, Bool.not_eq_true', decide_eq_false_iff_not, not_or, not_and] at h2
  obtain ⟨g1, g2, g3, g4, g5⟩ := h2
  have key : ∀ k, ¬ termAt ss i k < 0 → inF k 0 ((i : Int) - 1) = true := fun k hk => by
    cases hc : inF k 0 ((i : Int) - 1) with
    | true => rfl
    | false => exact absurd (by simp [termAt, hc]) hk
  simp only [wellF, h1, Bool.true_and, Bool.and_eq_true, Bool.or_eq_true, decide_eq_true_eq]
  refine ⟨⟨by omega, ?_⟩, ?_⟩
  · rcases Int.lt_or_le (needsF ns (spAt ss i)) 1 with u | u
    · exact .inl u
    · exact .inr (key _ (g2 (by omega)))
  · rcases Int.lt_or_le (needsF ns (spAt ss i)) 2 with u | u
    · exact .inl u
    · exact .inr (key _ (g3 (by omega)))
theorem allF_of {p : Nat → Bool} {n : Nat} (h : ∀ i : Nat, i < n → p i = true) : allF p n 0 = true := by
  simp only [allF, List.all_eq_true]
  intro i hi
  simp [List.mem_range'] at hi
  exact h i (by omega)
end Go.Proofs.YtijileoflejgpaaDoor.C

set_option linter.unusedVariables false
set_option linter.unusedSimpArgs false
set_option maxRecDepth 4000
namespace Go.Proofs
open Go.Shelf
def Tryd.laysItoa_ren : Go.Shelf.Ren := ⟨fun | 171 => 36 | 243 => 52 | 246 => 60 | 283 => 61 | 284 => 62 | 285 => 63 | 286 => 64 | 129 => 66 | 317 => 65 | 318 => 67 | 319 => 68 | 320 => 69 | 337 => 70 | 338 => 71 | n => n, fun | 3 => 3 | 9 => 9 | 2 => 2 | 4 => 4 | 171 => 90 | 0 => 0 | 53 => 91 | 37 => 81 | 5 => 5 | 173 => 94 | 212 => 97 | 51 => 98 | 20 => 20 | 213 => 99 | 46 => 100 | 232 => 103 | 233 => 104 | n => n, fun | 17 => 0 | 18 => 1 | 19 => 2 | n => n⟩
theorem Tryd.laysItoa : Go.Proofs.LaysM.n171 Tryd.prog Tryd.laysItoa_ren := {
  mixed := by kernel_rfl
  f129 := Tryd.func66.trans (congrArg some (by kernel_rfl))
  f171 := Tryd.func36.trans (congrArg some (by kernel_rfl))
  f243 := Tryd.func52.trans (congrArg some (by kernel_rfl))
  f246 := Tryd.func60.trans (congrArg some (by kernel_rfl))
  f283 := Tryd.func61.trans (congrArg some (by kernel_rfl))
  f284 := Tryd.func62.trans (congrArg some (by kernel_rfl))
  f285 := Tryd.func63.trans (congrArg some (by kernel_rfl))
  f286 := Tryd.func64.trans (congrArg some (by kernel_rfl))
  f317 := Tryd.func65.trans (congrArg some (by kernel_rfl))
  f318 := Tryd.func67.trans (congrArg some (by kernel_rfl))
  f319 := Tryd.func68.trans (congrArg some (by kernel_rfl))
  f320 := Tryd.func69.trans (congrArg some (by kernel_rfl))
  f337 := Tryd.func70.trans (congrArg some (by kernel_rfl))
  f338 := Tryd.func71.trans (congrArg some (by kernel_rfl))
  t0 := Tryd.underlying0
  a0 := Tryd.isAgg0
  z0 := Tryd.sizeOf0
  v0 := Tryd.zeroValue0
  t2 := Tryd.underlying2
  a2 := Tryd.isAgg2
  z2 := Tryd.sizeOf2
  v2 := Tryd.zeroValue2
  t3 := Tryd.underlying3
  a3 := Tryd.isAgg3
  z3 := Tryd.sizeOf3
  v3 := Tryd.zeroValue3
  t4 := Tryd.underlying4
  a4 := Tryd.isAgg4
  z4 := Tryd.sizeOf4
  v4 := Tryd.zeroValue4
  t5 := Tryd.underlying5
  a5 := Tryd.isAgg5
  z5 := Tryd.sizeOf5
  v5 := Tryd.zeroValue5
  t9 := Tryd.underlying9
  a9 := Tryd.isAgg9
  z9 := Tryd.sizeOf9
  v9 := Tryd.zeroValue9
  t20 := Tryd.underlying20
  a20 := Tryd.isAgg20
  z20 := Tryd.sizeOf20
  v20 := Tryd.zeroValue20
  t37 := Tryd.underlying81
  a37 := Tryd.isAgg81
  z37 := Tryd.sizeOf81
  v37 := Tryd.zeroValue81
  t46 := Tryd.underlying100
  a46 := Tryd.isAgg100
  z46 := Tryd.sizeOf100
  v46 := Tryd.zeroValue100
  t51 := Tryd.underlying98
  a51 := Tryd.isAgg98
  z51 := Tryd.sizeOf98
  v51 := Tryd.zeroValue98
  t53 := Tryd.underlying91
  a53 := Tryd.isAgg91
  z53 := Tryd.sizeOf91
  v53 := Tryd.zeroValue91
  t171 := Tryd.underlying90
  a171 := Tryd.isAgg90
  z171 := Tryd.sizeOf90
  v171 := Tryd.zeroValue90
  t173 := Tryd.underlying94
  a173 := Tryd.isAgg94
  z173 := Tryd.sizeOf94
  v173 := Tryd.zeroValue94
  t212 := Tryd.underlying97
  a212 := Tryd.isAgg97
  z212 := Tryd.sizeOf97
  v212 := Tryd.zeroValue97
  t213 := Tryd.underlying99
  a213 := Tryd.isAgg99
  z213 := Tryd.sizeOf99
  t232 := Tryd.underlying103
  a232 := Tryd.isAgg103
  z232 := Tryd.sizeOf103
  v232 := Tryd.zeroValue103
  t233 := Tryd.underlying104
  a233 := Tryd.isAgg104
  z233 := Tryd.sizeOf104
  v233 := Tryd.zeroValue104
  g17 := by kernel_rfl
  g18 := by kernel_rfl
  g19 := by kernel_rfl
  i0 := by kernel_rfl
  i2 := by kernel_rfl
  i3 := by kernel_rfl
  i4 := by kernel_rfl
  i5 := by kernel_rfl
  i9 := by kernel_rfl
  i20 := by kernel_rfl
  i37 := by kernel_rfl
  i46 := by kernel_rfl
  i51 := by kernel_rfl
  i53 := by kernel_rfl
  i171 := by kernel_rfl
  i173 := by kernel_rfl
  i212 := by kernel_rfl
  i232 := by kernel_rfl
  i233 := by kernel_rfl
  m17 := by kernel_rfl
  m18 := by kernel_rfl
  m19 := by kernel_rfl }
end Go.Proofs
namespace Go.Proofs.YtijileoflejgpaaDoor.C
open Go.Sym Go.Proofs.YtijileoflejgpaaDoor.I
/-- A number's text. -/
def numB (n : Int) : ByteArray := ⟨(Lib.itoa n).toArray⟩
theorem itoa_t {n : Int} (h0 : -9223372036854775808 ≤ n) (h1 : n ≤ 9223372036854775807) : T 36 [i6 n] [] (.str (numB n)) [] :=
  semT_itoa Tryd.laysItoa (g := (Go.Proofs.Tryd.prog.globalNamed "internal/strconv.uint64pow10").getD 0) (by kernel_rfl) h0 h1
theorem itoa_call {n : Int} (h0 : -9223372036854775808 ≤ n) (h1 : n ≤ 9223372036854775807) {S : FuncId → Bool} {H : List Blk} {K : A → Dl → Prop} (hS : S 36 = false) (hK : K (.str (numB n)) (.news [])) : @WCall' Go.Proofs.Tryd.prog S 36 [i6 n] H ⟨K⟩ :=
  WCall_pure hS (itoa_t h0 h1) (by simp) (by simp) (by simp) hK
/-- Rows of texts. -/
def strs (xs : List ByteArray) : List A := xs.map A.str
@[simp] theorem strs_len (xs : List ByteArray) : (strs xs).length = xs.length := List.length_map ..
@[simp] theorem strs_scals (xs : List ByteArray) : scals (strs xs) = true := scals_map _ (fun _ => rfl) xs
@[simp] theorem strs_view (n : Nat) (H : List Blk) (xs : List ByteArray) : viewL (viewA (n + 1) H) (strs xs) = some (strs xs) := viewL_scals _ (strs_scals xs)
@[simp] theorem strs_noOwns (xs : List ByteArray) : noOwns (strs xs) = true := noOwns_scals _ (strs_scals xs)
@[simp] theorem strs_nosls (xs : List ByteArray) : nosls (strs xs) = true := nosls_scals _ (strs_scals xs)
@[simp] theorem strs_shift (n : Nat) (xs : List ByteArray) : shiftAs n (strs xs) = strs xs := shiftAs_scals _ (strs_scals xs)
@[simp] theorem strs_inAs (m : Nat) (xs : List ByteArray) : inAs m (strs xs) = true := inAs_scals _ (strs_scals xs)
@[simp] theorem strs_tells (H H' : List Blk) (g : List (Option Nat)) (xs : List ByteArray) : Tells H H' g (strs xs) (strs xs) := Tells_scals _ (strs_scals xs)
@[simp] theorem strs_one (xs : List ByteArray) : (strs xs).all A.one = true := one_scals _ (strs_scals xs)
@[simp] theorem strs_take (xs : List ByteArray) : (strs xs).take xs.length = strs xs := List.take_of_length_le (by simp)
@[simp] theorem strs_nil : strs [] = [] := rfl
@[simp] theorem strs_get (xs : List ByteArray) (j : Nat) (h : j < (strs xs).length) : (strs xs)[j] = .str (xs[j]'(by simpa using h)) := by simp [strs]
theorem strs_at {xs : List ByteArray} {j : Nat} (h : j < xs.length) : (strs xs)[j]? = some (.str xs[j]) := by simp [strs, h]
theorem strs_set (xs : List ByteArray) (j : Nat) (b : ByteArray) : (strs xs).set j (.str b) = strs (xs.set j b) := by simp [strs, List.map_set]
theorem strs_rep (n : Nat) : strs (List.replicate n ⟨#[]⟩) = List.replicate n (.str ⟨#[]⟩) := by simp [strs]
theorem strs_snoc (xs : List ByteArray) (x : ByteArray) : strs (xs ++ [x]) = strs xs ++ [.str x] := by simp [strs]
abbrev aTx (xs : List ByteArray) : A := .sl xs.length (strs xs)
abbrev xblk (xs : List ByteArray) : Blk := ⟨xs.length, decide (xs.length = 0), 1, strs xs, none⟩
abbrev xref (b : Nat) (xs : List ByteArray) : A := .ref b xs.length 0 xs.length
theorem idxF_lt : ∀ (ks : List Int) (t i : Int), hasK ks t = true → ∃ j : Nat, ∃ h : j < ks.length, idxF ks t i = i + j ∧ ks[j] = t ∧ ∀ k, (hk : k < j) → ks[k] ≠ t
  | [], t, i, h => by simp [hasK] at h
  | x :: xs, t, i, h => by
    unfold idxF
    by_cases e : x = t
    · rw [if_pos e]
      exact ⟨0, by simp, by simp, by simp [e], fun k hk => by omega⟩
    · rw [if_neg e]
      obtain ⟨j, hj, h1, h2, h3⟩ := idxF_lt xs t (i + 1) (by simpa [hasK, e, Ne.symm e] using h)
      refine ⟨j + 1, by simpa using hj, by rw [h1]; push_cast; omega, by simpa using h2, fun k hk => ?_⟩
      cases k with
      | zero => simpa using e
      | succ k => simpa using h3 k (by omega)
theorem numB_app (n : Int) (h : 10 ≤ n) : numB n = numB (n / 10) ++ ⟨#[UInt8.ofNat (48 + n.toNat % 10)]⟩ := by
  obtain ⟨k, rfl⟩ : ∃ k : Nat, n = k := ⟨n.toNat, by omega⟩
  refine ba_ext ?_
  have e1 : ((k : Int) / 10).toNat = k / 10 := by omega
  have e2 : ¬ (k : Int) / 10 < 0 := by omega
  rw [bl_app]
  simp only [numB, bl, Lib.itoa, if_neg (show ¬ (k : Int) < 0 by omega), if_neg e2, e1, Int.toNat_natCast]
  rw [Lib.decDigits, dif_neg (by omega)]
theorem numB_one (n : Int) (h0 : 0 ≤ n) (h : n < 10) : numB n = ⟨#[UInt8.ofNat (48 + n.toNat % 10)]⟩ := by
  obtain ⟨k, rfl⟩ : ∃ k : Nat, n = k := ⟨n.toNat, by omega⟩
  refine ba_ext ?_
  simp only [numB, bl, Lib.itoa, if_neg (show ¬ (k : Int) < 0 by omega), Int.toNat_natCast]
  rw [Lib.decDigits, dif_pos (by omega), Nat.mod_eq_of_lt (by omega)]
theorem dec_len : ∀ (k u : Nat), u < 10 ^ (k + 1) → (Lib.decDigits u).length ≤ k + 1
  | 0, u, h => by rw [Lib.decDigits, dif_pos (by simpa using h)]; simp
  | k + 1, u, h => by
    rw [Lib.decDigits]
    split
    · simp
    · have := dec_len k (u / 10) (by rw [Nat.div_lt_iff_lt_mul (by omega)]; rw [Nat.pow_succ] at h; exact h)
      simp; omega
theorem numB_size {n : Int} (h0 : 0 ≤ n) (h1 : n ≤ 9223372036854775807) : (numB n).size ≤ 20 := by
  have e : (numB n).size = (Lib.decDigits n.toNat).length := by
    simp only [numB, Lib.itoa, if_neg (show ¬ n < 0 by omega)]
    rfl
  rw [e]
  exact dec_len 19 _ (by omega)
theorem spec_l4Num_c (n : Int) (h0 : 0 ≤ n) (h1 : n ≤ 9223372036854775807) : T 28 [i6 n] [] (.str (numB n)) ([]) := by
  refine semT' (S := S0) hm spec_l4Num_ok (Nat.le_of_ble_eq_true rfl) ?_
  unfold spec_l4Num; dsimp only
  simp
  refine br_intro' (fun u => ?_) (fun u => ?_) <;> (have u0 := u) <;> simp only [decide_eq_true_eq, decide_eq_false_iff_not] at u <;> simp [u0]
  · obtain rfl : n = 0 := by omega
    exact LeV.ro rfl rfl (by rw [numB_one 0 (by omega) (by omega)]; rfl)
  refine WLoop_fam (fun p : Int × ByteArray => [(0, i6 p.1), (3, .str p.2)]) (fun _ => []) (fun p => p.1.toNat)
    (fun p => 0 ≤ p.1 ∧ p.1 ≤ n ∧ (p.1 = 0 → numB n = p.2) ∧ (0 < p.1 → numB n = numB p.1 ++ p.2)) ?_ (n, ⟨#[]⟩) ⟨h0, Int.le_refl _, fun e => by simp only at e; omega, fun _ => ba_ext (by rw [bl_app]; simp [bl])⟩
  rintro ⟨m, out⟩ ⟨hm0, hm1, hz, hp⟩ ih
  simp only at hm0 hm1 hz hp
  simp
  refine br_intro' (fun v => ?_) (fun v => ?_) <;> (have v0 := v) <;> simp only [decide_eq_true_eq, decide_eq_false_iff_not] at v <;> simp [v0]
  · have hm : (m.tmod 10) = m % 10 := Int.tmod_eq_emod_of_nonneg hm0
    have hq : (m.tdiv 10) = m / 10 := Int.tdiv_eq_ediv_of_nonneg hm0
    have w1 : IntKind.i64.wrap (48 + m % 10) = 48 + m % 10 := wrap64 (by omega) (by omega)
    have w2 : IntKind.u8.wrap (48 + m % 10) = 48 + m % 10 := by
      have : IntKind.u8.wrap (48 + m % 10) = (48 + m % 10) % 256 := rfl
      rw [this]; omega
    have hb : b8s [A.int IntKind.u8 (48 + m % 10)] = some [UInt8.ofNat (48 + m % 10).toNat] := by
      simp [b8s]
    have hc : UInt8.ofNat (48 + m % 10).toNat = UInt8.ofNat (48 + m.toNat % 10) := by
      congr 1
      omega
    rw [hm, w1, w2]
    simp [hb, hc, hq]
    have hs := numB_size h0 h1
    have e := hp v
    have hsz : (numB n).size = (numB m).size + out.size := by rw [e]; simp
    refine ck_intro' (by have : ByteArray.size ⟨#[48 + UInt8.ofNat (m.toNat % 10)]⟩ = 1 := rfl; omega) ?_; simp
    repeat (refine ck_intro' (by first | omega | (simp; omega) | kernel_rfl) ?_; try simp)
    have hc' : (⟨#[48 + UInt8.ofNat (m.toNat % 10)]⟩ : ByteArray) = ⟨#[UInt8.ofNat (48 + m.toNat % 10)]⟩ := by simp
    have w3 : IntKind.i64.wrap (m / 10) = m / 10 := wrap64 (by omega) (by omega)
    rw [hq, w3]
    refine WLoop_drop [] [⟨0, false, 1, [A.int .u8 (48 + m % 10)], none⟩] rfl (by simp) (by simp) (by simp) ?_
    refine ih (m / 10, ⟨#[48 + UInt8.ofNat (m.toNat % 10)]⟩ ++ out) ⟨by simp only; omega, by simp only; omega, fun hz => ?_, fun hp2 => ?_⟩ (by simp only; omega)
    · simp only at hz ⊢
      rw [e, numB_one m (by omega) (by omega), hc']
    · simp only at hp2 ⊢
      rw [e, numB_app m (by omega), hc']
      exact ba_ext (by simp [bl_app])
  · obtain rfl : m = 0 := by omega
    exact LeV.ro rfl rfl (by rw [hz rfl]; rfl)
theorem spec_l4Num_call {n : Int} (h0 : 0 ≤ n) (h1 : n ≤ 9223372036854775807) {S : FuncId → Bool} {H : List Blk} {K : A → Dl → Prop} (hS : S 28 = false) (hK : K (.str (numB n)) (.news [])) : @WCall' Go.Proofs.Tryd.prog S 28 [i6 n] H ⟨K⟩ :=
  WCall_pure hS (spec_l4Num_c n h0 h1) (by simp) (by simp) (by simp) hK
theorem spec_l4Num_k {n : Int} (h0 : 0 ≤ n) (h1 : n ≤ 9223372036854775807) {S : FuncId → Bool} {H : List Blk} {K : A → Dl → Prop} {zs : List A} (hS : S 28 = false) (hv : viewL (viewA 8 H) zs = some [i6 n]) (ho : noOwns zs = true ∨ nosl (.str (numB n)) = true) (hK : K (.str (numB n)) (.news [])) : @WCall' Go.Proofs.Tryd.prog S 28 zs H ⟨K⟩ :=
  WCall_pure hS (spec_l4Num_c n h0 h1) hv ho (by simp) hK
end Go.Proofs.YtijileoflejgpaaDoor.C

set_option linter.unusedVariables false
set_option linter.unusedSimpArgs false
set_option maxRecDepth 4000
namespace Go.Proofs.YtijileoflejgpaaDoor.C
open Go.Sym Go.Proofs.YtijileoflejgpaaDoor.I
/-- What stands ahead of parts, and behind them. -/
def sgO (k : Int) : ByteArray := if k = 2 then ⟨#[40]⟩ else if k = 3 then ⟨#[123]⟩ else if k = 4 then ⟨#[91]⟩ else if k = 5 then ⟨#[35]⟩ else if k = 6 then ⟨#[107, 40]⟩ else if k = 7 then ⟨#[94]⟩ else ⟨#[42, 40]⟩
def sgE (k : Int) : ByteArray := if k = 2 then ⟨#[41]⟩ else if k = 3 then ⟨#[125]⟩ else if k = 4 then ⟨#[93]⟩ else if k = 5 then ⟨#[]⟩ else if k = 6 then ⟨#[41]⟩ else if k = 7 then ⟨#[]⟩ else ⟨#[41]⟩
theorem sg_size (k : Int) : (sgO k).size ≤ 2 ∧ (sgE k).size ≤ 1 := by
  constructor
  · unfold sgO; (repeat' split) <;> decide
  · unfold sgE; (repeat' split) <;> decide
theorem impl_signsOf_c (k : Int)  : T 53 [i6 k] [] (.tup [.str (sgO k), .str (sgE k)]) ([]) := by
  refine semT' (S := S0) hm impl_signsOf_ok (Nat.le_of_ble_eq_true rfl) ?_
  unfold impl_signsOf; dsimp only
  simp
  repeat (any_goals (first | (refine br_intro' (fun h => ?_) (fun h => ?_) <;> (have h0 := h) <;> (try simp at h) <;> try simp [h0, h])))
  all_goals exact LeV.ro rfl rfl (by simp [sgO, sgE, *])
theorem impl_signsOf_call {k : Int}  {S : FuncId → Bool} {H : List Blk} {K : A → Dl → Prop} (hS : S 53 = false) (hK : K (.tup [.str (sgO k), .str (sgE k)]) (.news [])) : @WCall' Go.Proofs.Tryd.prog S 53 [i6 k] H ⟨K⟩ :=
  WCall_pure hS (impl_signsOf_c k) (by simp) (by simp) (by simp) hK
theorem impl_signsOf_k {k : Int}  {S : FuncId → Bool} {H : List Blk} {K : A → Dl → Prop} {zs : List A} (hS : S 53 = false) (hv : viewL (viewA 8 H) zs = some [i6 k]) (ho : noOwns zs = true ∨ nosl (.tup [.str (sgO k), .str (sgE k)]) = true) (hK : K (.tup [.str (sgO k), .str (sgE k)]) (.news [])) : @WCall' Go.Proofs.Tryd.prog S 53 zs H ⟨K⟩ :=
  WCall_pure hS (impl_signsOf_c k) hv ho (by simp) hK
theorem spec_l10Signs_c (k : Int)  : T 30 [i6 k] [] (.tup [.str (sgO k), .str (sgE k)]) ([]) := by
  refine semT' (S := S0) hm spec_l10Signs_ok (Nat.le_of_ble_eq_true rfl) ?_
  unfold spec_l10Signs; dsimp only
  simp
  repeat (any_goals (first | (refine br_intro' (fun h => ?_) (fun h => ?_) <;> (have h0 := h) <;> (try simp at h) <;> try simp [h0, h])))
  all_goals exact LeV.ro rfl rfl (by simp [sgO, sgE, *])
theorem spec_l10Signs_call {k : Int}  {S : FuncId → Bool} {H : List Blk} {K : A → Dl → Prop} (hS : S 30 = false) (hK : K (.tup [.str (sgO k), .str (sgE k)]) (.news [])) : @WCall' Go.Proofs.Tryd.prog S 30 [i6 k] H ⟨K⟩ :=
  WCall_pure hS (spec_l10Signs_c k) (by simp) (by simp) (by simp) hK
theorem spec_l10Signs_k {k : Int}  {S : FuncId → Bool} {H : List Blk} {K : A → Dl → Prop} {zs : List A} (hS : S 30 = false) (hv : viewL (viewA 8 H) zs = some [i6 k]) (ho : noOwns zs = true ∨ nosl (.tup [.str (sgO k), .str (sgE k)]) = true) (hK : K (.tup [.str (sgO k), .str (sgE k)]) (.news [])) : @WCall' Go.Proofs.Tryd.prog S 30 zs H ⟨K⟩ :=
  WCall_pure hS (spec_l10Signs_c k) hv ho (by simp) hK
def joinB (k : Int) (a : ByteArray) : Option ByteArray → ByteArray
  | none => sgO k ++ a ++ sgE k
  | some b => sgO k ++ a ++ ⟨#[44]⟩ ++ b ++ sgE k
theorem sz1 (b : UInt8) : ByteArray.size ⟨#[b]⟩ = 1 := rfl
theorem sz2 (b c : UInt8) : ByteArray.size ⟨#[b, c]⟩ = 2 := rfl
theorem impl_joined_c (k : Int) (a : ByteArray) (o : Option ByteArray) (ha : a.size ≤ 281474976710656) (hb : ∀ b ∈ o, b.size ≤ 281474976710656) : T 39 [i6 k, aTx (a :: o.toList)] [] (.str (joinB k a o)) ([]) := by
  refine semT' (S := S0) hm impl_joined_ok (Nat.le_of_ble_eq_true rfl) ?_
  unfold impl_joined; dsimp only
  obtain ⟨g1, g2⟩ := sg_size k
  have g3 := sz1 44
  cases o with
  | none =>
    simp [strs]
    refine impl_signsOf_call (k := k) rfl ?_; simp [strs]
    refine ck_intro' (by omega) ?_; simp
    refine ck_intro' (by omega) ?_; simp
    repeat (refine ck_intro' (by first | omega | (simp; omega) | kernel_rfl) ?_; try simp)
    exact LeV.ro rfl rfl rfl
  | some b =>
    have hb' := hb b rfl
    simp [strs]
    refine impl_signsOf_call (k := k) rfl ?_; simp [strs]
    refine ck_intro' (by omega) ?_; simp
    have g4 : (sgO k ++ a).size = (sgO k).size + a.size := by simp
    refine ck_intro' (by omega) ?_; simp
    refine ck_intro' (by omega) ?_; simp
    refine ck_intro' (by omega) ?_; simp
    repeat (refine ck_intro' (by first | omega | (simp; omega) | kernel_rfl) ?_; try simp)
    exact LeV.ro rfl rfl rfl
theorem impl_joined_call {k : Int} {a : ByteArray} {o : Option ByteArray} (ha : a.size ≤ 281474976710656) (hb : ∀ b ∈ o, b.size ≤ 281474976710656) {S : FuncId → Bool} {H : List Blk} {K : A → Dl → Prop} (hS : S 39 = false) (hK : K (.str (joinB k a o)) (.news [])) : @WCall' Go.Proofs.Tryd.prog S 39 [i6 k, aTx (a :: o.toList)] H ⟨K⟩ :=
  WCall_pure hS (impl_joined_c k a o ha hb) (by simp) (by simp) (by simp) hK
theorem impl_joined_k {k : Int} {a : ByteArray} {o : Option ByteArray} (ha : a.size ≤ 281474976710656) (hb : ∀ b ∈ o, b.size ≤ 281474976710656) {S : FuncId → Bool} {H : List Blk} {K : A → Dl → Prop} {zs : List A} (hS : S 39 = false) (hv : viewL (viewA 8 H) zs = some [i6 k, aTx (a :: o.toList)]) (ho : noOwns zs = true ∨ nosl (.str (joinB k a o)) = true) (hK : K (.str (joinB k a o)) (.news [])) : @WCall' Go.Proofs.Tryd.prog S 39 zs H ⟨K⟩ :=
  WCall_pure hS (impl_joined_c k a o ha hb) hv ho (by simp) hK
/-- The text of a step. -/
def recF (ns : List Nd) (ks : List Int) (s : Sp) (a b : ByteArray) : ByteArray :=
  if s.r = 1 then ⟨#[64]⟩ ++ numB (idxF ks s.t 0)
  else if s.r = 2 then ⟨#[110]⟩ ++ numB (nodeAt ns s.t).a
  else if s.r = 4 then ⟨#[120, 40]⟩ ++ a ++ ⟨#[44]⟩ ++ b ++ ⟨#[41]⟩
  else if s.r = 5 then ⟨#[60]⟩ ++ a
  else if s.r = 6 then ⟨#[62]⟩ ++ a
  else if s.r = 8 then ⟨#[33]⟩ ++ a
  else if s.r = 7 then ⟨#[111, 40]⟩ ++ a ++ ⟨#[44]⟩ ++ b ++ ⟨#[41]⟩
  else if partsF (nodeAt ns s.t).k = 1 then sgO (nodeAt ns s.t).k ++ a
  else sgO (nodeAt ns s.t).k ++ a ++ ⟨#[44]⟩ ++ b ++ sgE (nodeAt ns s.t).k
def txAt (xs : List ByteArray) (k : Int) : ByteArray := xs.getD k.toNat ⟨#[]⟩
/-- A step whose text can be told, by the texts ahead of it. -/
structure SFit (ns : List Nd) (ks : List Int) (xs : List ByteArray) (s : Sp) : Prop where
  t : hasF ns.length s.t = true
  k : s.r = 1 → hasK ks s.t = true
  p : s.r = 2 → (nodeAt ns s.t).k = 1 ∧ 0 ≤ (nodeAt ns s.t).a ∧ (nodeAt ns s.t).a ≤ 9223372036854775807
  n : 0 ≤ needsF ns s
  m : s.r = 3 → 0 < needsF ns s
  a : 0 < needsF ns s → ∃ a : Nat, s.a = a ∧ a < xs.length
  b : 1 < needsF ns s → ∃ b : Nat, s.b = b ∧ b < xs.length
  z : ∀ x ∈ xs, x.size ≤ 4000
theorem spec_l4Print_c (ns : List Nd) (t : Int) (hl : ns.length < 9223372036854775807) (ht : hasF ns.length t = true) (hk : (nodeAt ns t).k = 1) (h0 : 0 ≤ (nodeAt ns t).a) (h1 : (nodeAt ns t).a ≤ 9223372036854775807) : T 29 [aP ns, i6 t] [] (.str (⟨#[110]⟩ ++ numB (nodeAt ns t).a)) ([]) := by
  refine semT' (S := S0) hm spec_l4Print_ok (Nat.le_of_ble_eq_true rfl) ?_
  unfold spec_l4Print; dsimp only
  have hs := numB_size h0 h1
  have h' := ht
  simp [hasF, inF] at h'
  obtain ⟨j, rfl⟩ : ∃ j : Nat, t = j := ⟨t.toNat, by omega⟩
  have hj : j < ns.length := by omega
  have e : nodeAt ns (j : Int) = ns[j] := by simp [nodeAt, hj]
  rw [e] at hk h0 h1 hs ⊢
  obtain ⟨r, hr⟩ := enc_at hj
  have h3 : 3 ≤ ns.length * 3 - j * 3 := by omega
  simp [h3, hr, hj]
  simp [hk]
  refine spec_l4Num_call (n := ns[j].a) h0 h1 rfl ?_; simp
  refine ck_intro' (by have := sz1 110; omega) ?_; simp
  exact LeV.ro rfl rfl rfl
theorem spec_l4Print_call {ns : List Nd} {t : Int} (hl : ns.length < 9223372036854775807) (ht : hasF ns.length t = true) (hk : (nodeAt ns t).k = 1) (h0 : 0 ≤ (nodeAt ns t).a) (h1 : (nodeAt ns t).a ≤ 9223372036854775807) {S : FuncId → Bool} {H : List Blk} {K : A → Dl → Prop} (hS : S 29 = false) (hK : K (.str (⟨#[110]⟩ ++ numB (nodeAt ns t).a)) (.news [])) : @WCall' Go.Proofs.Tryd.prog S 29 [aP ns, i6 t] H ⟨K⟩ :=
  WCall_pure hS (spec_l4Print_c ns t hl ht hk h0 h1) (by simp) (by simp) (by simp) hK
theorem spec_l4Print_k {ns : List Nd} {t : Int} (hl : ns.length < 9223372036854775807) (ht : hasF ns.length t = true) (hk : (nodeAt ns t).k = 1) (h0 : 0 ≤ (nodeAt ns t).a) (h1 : (nodeAt ns t).a ≤ 9223372036854775807) {S : FuncId → Bool} {H : List Blk} {K : A → Dl → Prop} {zs : List A} (hS : S 29 = false) (hv : viewL (viewA 8 H) zs = some [aP ns, i6 t]) (ho : noOwns zs = true ∨ nosl (.str (⟨#[110]⟩ ++ numB (nodeAt ns t).a)) = true) (hK : K (.str (⟨#[110]⟩ ++ numB (nodeAt ns t).a)) (.news [])) : @WCall' Go.Proofs.Tryd.prog S 29 zs H ⟨K⟩ :=
  WCall_pure hS (spec_l4Print_c ns t hl ht hk h0 h1) hv ho (by simp) hK
theorem impl_Pool_print_c (ns : List Nd) (t : Int) (hl : ns.length < 9223372036854775807) (ht : hasF ns.length t = true) (hk : (nodeAt ns t).k = 1) (h0 : 0 ≤ (nodeAt ns t).a) (h1 : (nodeAt ns t).a ≤ 9223372036854775807) : T 38 [.pt [.sl ns.length (enc ns)], i6 t] [] (.str (⟨#[110]⟩ ++ numB (nodeAt ns t).a)) ([]) := by
  refine semT' (S := S0) hm impl_Pool_print_ok (Nat.le_of_ble_eq_true rfl) ?_
  unfold impl_Pool_print; dsimp only
  have hs := numB_size h0 h1
  have h' := ht
  simp [hasF, inF] at h'
  obtain ⟨j, rfl⟩ : ∃ j : Nat, t = j := ⟨t.toNat, by omega⟩
  have hj : j < ns.length := by omega
  have e : nodeAt ns (j : Int) = ns[j] := by simp [nodeAt, hj]
  rw [e] at hk h0 h1 hs ⊢
  obtain ⟨r, hr⟩ := enc_at hj
  have h3 : 3 ≤ ns.length * 3 - j * 3 := by omega
  simp [h3, hr, hj]
  simp [hk]
  refine itoa_call (n := ns[j].a) (by omega) h1 rfl ?_; simp
  refine ck_intro' (by have := sz1 110; omega) ?_; simp
  exact LeV.ro rfl rfl rfl
theorem impl_Pool_print_k {ns : List Nd} {t : Int} (hl : ns.length < 9223372036854775807) (ht : hasF ns.length t = true) (hk : (nodeAt ns t).k = 1) (h0 : 0 ≤ (nodeAt ns t).a) (h1 : (nodeAt ns t).a ≤ 9223372036854775807) {S : FuncId → Bool} {H : List Blk} {K : A → Dl → Prop} {zs : List A} (hS : S 38 = false) (hv : viewL (viewA 8 H) zs = some [.pt [.sl ns.length (enc ns)], i6 t]) (ho : noOwns zs = true ∨ nosl (.str (⟨#[110]⟩ ++ numB (nodeAt ns t).a)) = true) (hK : K (.str (⟨#[110]⟩ ++ numB (nodeAt ns t).a)) (.news [])) : @WCall' Go.Proofs.Tryd.prog S 38 zs H ⟨K⟩ :=
  WCall_pure hS (impl_Pool_print_c ns t hl ht hk h0 h1) hv ho (by simp) hK
theorem spec_l10Text_c (ns : List Nd) (ks : List Int) (s : Sp) (xs : List ByteArray) (hl : ns.length < 9223372036854775807) (hk : ks.length < 9223372036854775807) (hx : xs.length < 9223372036854775807) (hf : SFit ns ks xs s) : T 16 [aP ns, aI ks, aSt s, aTx xs] [] (.str (recF ns ks s (txAt xs s.a) (txAt xs s.b))) ([]) := by
  refine semT' (S := S0) hm spec_l10Text_ok (Nat.le_of_ble_eq_true rfl) ?_
  unfold spec_l10Text; dsimp only
  have g44 := sz1 44
  have g41 := sz1 41
  simp
  refine br_intro' (fun c => ?_) (fun c => ?_) <;> (have c0 := c) <;> simp only [decide_eq_true_eq, decide_eq_false_iff_not] at c <;> simp [c0]
  · obtain ⟨j0, hj0, e1, e2, e3⟩ := idxF_lt ks s.t 0 (hf.k c)
    refine WLoop_fam (fun j : Nat => [(1, aI ks), (6, A.ptr 1 0 0), (9, i6 j)]) (fun _ => [⟨0, false, 1, [.sl ns.length (enc ns)], none⟩, ⟨0, false, 1, [i6 s.r, i6 s.t, i6 s.a, i6 s.b], none⟩]) (fun j => j0 - j) (fun j => j ≤ j0) ?_ 0 (Nat.zero_le _)
    intro j hj ih
    have hlt : j < ks.length := by omega
    have hw := wrap_succ (n := j) (by omega)
    simp [hlt]
    repeat (refine ck_intro' (by first | omega | (simp; omega) | kernel_rfl) ?_; try simp)
    refine br_intro' (fun u => ?_) (fun u => ?_) <;> (have u0 := u) <;> simp only [Bool.not_eq_true', decide_eq_false_iff_not, Bool.not_eq_false', decide_eq_true_eq] at u <;> simp [u0, hlt]
    · have hjj : j = j0 := by
        rcases Nat.lt_or_ge j j0 with g | g
        · exact absurd u (e3 j g)
        · omega
      subst hjj
      have hs := numB_size (n := j) (by omega) (by omega)
      refine spec_l4Num_call (n := j) (by omega) (by omega) rfl ?_; simp
      refine ck_intro' (by have := sz1 64; omega) ?_; simp
      exact LeV.ro rfl rfl (by simp [recF, c, e1])
    · have hlj : j < j0 := by
        rcases Nat.lt_or_ge j j0 with g | g
        · exact g
        · obtain rfl : j = j0 := by omega
          exact absurd e2 u
      rw [hw]
      exact ih (j + 1) (by omega) (by omega)
  refine br_intro' (fun c2 => ?_) (fun c2 => ?_) <;> (have c20 := c2) <;> simp only [decide_eq_true_eq, decide_eq_false_iff_not] at c2 <;> simp [c20]
  · obtain ⟨p1, p2, p3⟩ := hf.p c2
    refine spec_l4Print_k (ns := ns) (t := s.t) hl hf.t p1 p2 p3 rfl (by simp) (by simp [noslBlks]) ?_; simp [shiftB]
    exact LeV.ro rfl rfl (by simp [recF, c2])
  refine br_intro' (fun c4 => ?_) (fun c4 => ?_) <;> (have c40 := c4) <;> simp only [decide_eq_true_eq, decide_eq_false_iff_not] at c4 <;> simp [c40]
  · have hn0 : needsF ns s = 2 := by simp [needsF, c4]
    obtain ⟨ja, ea, hja⟩ := hf.a (by rw [hn0]; decide)
    obtain ⟨jb, eb, hjb⟩ := hf.b (by rw [hn0]; decide)
    have za := hf.z _ (List.getElem_mem hja)
    have zb := hf.z _ (List.getElem_mem hjb)
    have ta : txAt xs s.a = xs[ja] := by rw [ea]; simp [txAt, hja]
    have tb : txAt xs s.b = xs[jb] := by rw [eb]; simp [txAt, hjb]
    simp [ea, eb, hja, hjb, strs_at hja, strs_at hjb]
    repeat (refine ck_intro' (by first | kernel_rfl | ((try simp only [ByteArray.size_append, sz1, sz2]); omega)) ?_; try simp [hjb, strs_at hjb])
    exact LeV.ro rfl rfl (by rw [← ea, ← eb, ta, tb]; simp [recF, c4])
  refine br_intro' (fun c5 => ?_) (fun c5 => ?_) <;> (have c50 := c5) <;> simp only [decide_eq_true_eq, decide_eq_false_iff_not] at c5 <;> simp [c50]
  · have hn0 : needsF ns s = 1 := by simp [needsF, c5]
    obtain ⟨ja, ea, hja⟩ := hf.a (by rw [hn0]; decide)
    have za := hf.z _ (List.getElem_mem hja)
    have ta : txAt xs s.a = xs[ja] := by rw [ea]; simp [txAt, hja]
    simp [ea, hja]
    repeat (refine ck_intro' (by first | kernel_rfl | ((try simp only [ByteArray.size_append, sz1, sz2]); omega)) ?_; simp)
    exact LeV.ro rfl rfl (by rw [← ea, ta]; simp [recF, c5])
  refine br_intro' (fun c6 => ?_) (fun c6 => ?_) <;> (have c60 := c6) <;> simp only [decide_eq_true_eq, decide_eq_false_iff_not] at c6 <;> simp [c60]
  · have hn0 : needsF ns s = 1 := by simp [needsF, c6]
    obtain ⟨ja, ea, hja⟩ := hf.a (by rw [hn0]; decide)
    have za := hf.z _ (List.getElem_mem hja)
    have ta : txAt xs s.a = xs[ja] := by rw [ea]; simp [txAt, hja]
    simp [ea, hja]
    repeat (refine ck_intro' (by first | kernel_rfl | ((try simp only [ByteArray.size_append, sz1, sz2]); omega)) ?_; simp)
    exact LeV.ro rfl rfl (by rw [← ea, ta]; simp [recF, c6])
  refine br_intro' (fun c8 => ?_) (fun c8 => ?_) <;> (have c80 := c8) <;> simp only [decide_eq_true_eq, decide_eq_false_iff_not] at c8 <;> simp [c80]
  · have hn0 : needsF ns s = 1 := by simp [needsF, c8]
    obtain ⟨ja, ea, hja⟩ := hf.a (by rw [hn0]; decide)
    have za := hf.z _ (List.getElem_mem hja)
    have ta : txAt xs s.a = xs[ja] := by rw [ea]; simp [txAt, hja]
    simp [ea, hja]
    repeat (refine ck_intro' (by first | kernel_rfl | ((try simp only [ByteArray.size_append, sz1, sz2]); omega)) ?_; simp)
    exact LeV.ro rfl rfl (by rw [← ea, ta]; simp [recF, c8])
  refine br_intro' (fun c7 => ?_) (fun c7 => ?_) <;> (have c70 := c7) <;> simp only [decide_eq_true_eq, decide_eq_false_iff_not] at c7 <;> simp [c70]
  · have hn0 : needsF ns s = 2 := by simp [needsF, c7]
    obtain ⟨ja, ea, hja⟩ := hf.a (by rw [hn0]; decide)
    obtain ⟨jb, eb, hjb⟩ := hf.b (by rw [hn0]; decide)
    have za := hf.z _ (List.getElem_mem hja)
    have zb := hf.z _ (List.getElem_mem hjb)
    have ta : txAt xs s.a = xs[ja] := by rw [ea]; simp [txAt, hja]
    have tb : txAt xs s.b = xs[jb] := by rw [eb]; simp [txAt, hjb]
    simp [ea, eb, hja, hjb, strs_at hja, strs_at hjb]
    repeat (refine ck_intro' (by first | kernel_rfl | ((try simp only [ByteArray.size_append, sz1, sz2]); omega)) ?_; try simp [hjb, strs_at hjb])
    exact LeV.ro rfl rfl (by rw [← ea, ← eb, ta, tb]; simp [recF, c7])
  have c3 : s.r = 3 := by
    have := hf.n
    simp only [needsF] at this
    by_cases g : s.r = 3
    · exact g
    · simp [c, c2, c4, c5, c6, c7, c8, g] at this
  have hm := hf.m c3
  have hn : needsF ns s = partsF (nodeAt ns s.t).k := by simp [needsF, c3]
  have h' := hf.t
  simp [hasF, inF] at h'
  obtain ⟨j, ej⟩ : ∃ j : Nat, s.t = j := ⟨s.t.toNat, by omega⟩
  have hj : j < ns.length := by omega
  have e : nodeAt ns s.t = ns[j] := by rw [ej]; simp [nodeAt, hj]
  rw [e] at hn
  obtain ⟨r, hr⟩ := enc_at hj
  have h3 : 1 ≤ ns.length * 3 - j * 3 := by omega
  simp [ej, h3, hr, hj]
  refine spec_l10Signs_call (k := ns[j].k) rfl ?_; simp
  refine spec_l1Parts_call (x := ns[j].k) rfl ?_; simp
  refine br_intro' (fun d => ?_) (fun d => ?_) <;> (have d0 := d) <;> simp only [decide_eq_true_eq, decide_eq_false_iff_not] at d <;> simp [d0]
  · have hn0 : needsF ns s = 1 := by rw [hn, d]
    obtain ⟨g1, g2⟩ := sg_size ns[j].k
    obtain ⟨ja, ea, hja⟩ := hf.a (by rw [hn0]; decide)
    have za := hf.z _ (List.getElem_mem hja)
    have ta : txAt xs s.a = xs[ja] := by rw [ea]; simp [txAt, hja]
    simp [ea, hja]
    repeat (refine ck_intro' (by first | kernel_rfl | ((try simp only [ByteArray.size_append, sz1, sz2]); omega)) ?_; simp)
    exact LeV.ro rfl rfl (by rw [← ea, ta]; simp [recF, c3, e, d])
  · have hn0 : needsF ns s = 2 := by
      rw [hn] at hm ⊢
      simp only [partsF] at hm d ⊢
      (repeat' split at hm) <;> simp_all
    obtain ⟨g1, g2⟩ := sg_size ns[j].k
    obtain ⟨ja, ea, hja⟩ := hf.a (by rw [hn0]; decide)
    obtain ⟨jb, eb, hjb⟩ := hf.b (by rw [hn0]; decide)
    have za := hf.z _ (List.getElem_mem hja)
    have zb := hf.z _ (List.getElem_mem hjb)
    have ta : txAt xs s.a = xs[ja] := by rw [ea]; simp [txAt, hja]
    have tb : txAt xs s.b = xs[jb] := by rw [eb]; simp [txAt, hjb]
    simp [ea, eb, hja, hjb, strs_at hja, strs_at hjb]
    repeat (refine ck_intro' (by first | kernel_rfl | ((try simp only [ByteArray.size_append, sz1, sz2]); omega)) ?_; try simp [hjb, strs_at hjb])
    exact LeV.ro rfl rfl (by rw [← ea, ← eb, ta, tb]; simp [recF, c3, e, d])
theorem spec_l10Text_call {ns : List Nd} {ks : List Int} {s : Sp} {xs : List ByteArray} (hl : ns.length < 9223372036854775807) (hk : ks.length < 9223372036854775807) (hx : xs.length < 9223372036854775807) (hf : SFit ns ks xs s) {S : FuncId → Bool} {H : List Blk} {K : A → Dl → Prop} (hS : S 16 = false) (hK : K (.str (recF ns ks s (txAt xs s.a) (txAt xs s.b))) (.news [])) : @WCall' Go.Proofs.Tryd.prog S 16 [aP ns, aI ks, aSt s, aTx xs] H ⟨K⟩ :=
  WCall_pure hS (spec_l10Text_c ns ks s xs hl hk hx hf) (by simp) (by simp) (by simp) hK
theorem spec_l10Text_k {ns : List Nd} {ks : List Int} {s : Sp} {xs : List ByteArray} (hl : ns.length < 9223372036854775807) (hk : ks.length < 9223372036854775807) (hx : xs.length < 9223372036854775807) (hf : SFit ns ks xs s) {S : FuncId → Bool} {H : List Blk} {K : A → Dl → Prop} {zs : List A} (hS : S 16 = false) (hv : viewL (viewA 8 H) zs = some [aP ns, aI ks, aSt s, aTx xs]) (ho : noOwns zs = true ∨ nosl (.str (recF ns ks s (txAt xs s.a) (txAt xs s.b))) = true) (hK : K (.str (recF ns ks s (txAt xs s.a) (txAt xs s.b))) (.news [])) : @WCall' Go.Proofs.Tryd.prog S 16 zs H ⟨K⟩ :=
  WCall_pure hS (spec_l10Text_c ns ks s xs hl hk hx hf) hv ho (by simp) hK
end Go.Proofs.YtijileoflejgpaaDoor.C

set_option linter.unusedVariables false
set_option linter.unusedSimpArgs false
namespace Go.Proofs.YtijileoflejgpaaDoor.C
open Go.Sym Go.Proofs.YtijileoflejgpaaDoor.I
def In64 (n : Int) : Prop := -9223372036854775808 ≤ n ∧ n < 9223372036854775808
abbrev shI : Sh := .i .i64
abbrev shN : Sh := .st (.p shI (.p shI (.p shI .u)))
abbrev shP : Sh := .st (.p (.sl shN) .u)
abbrev shL : Sh := .st (.p shI (.p shI (.p shI (.p .b .u))))
abbrev shIs : Sh := .sl shI
abbrev shS : Sh := .st (.p shP (.p shIs (.p shL (.p shL (.p shIs (.p shIs .u))))))
theorem fit_i {cs : List A} (h : Fit shI cs) : ∃ n, cs = [i6 n] ∧ In64 n := by
  obtain ⟨n, rfl, hn⟩ := h
  exact ⟨n, rfl, fit_i64 hn⟩
theorem fit_n {cs : List A} (h : Fit shN cs) : ∃ n : Nd, cs = encN n ∧ In64 n.k ∧ In64 n.a ∧ In64 n.b := by
  obtain ⟨x, y, rfl, hx, z, t, rfl, hz, u, w, rfl, hu, rfl⟩ := h
  obtain ⟨a, rfl, ha⟩ := fit_i hx
  obtain ⟨b, rfl, hb⟩ := fit_i hz
  obtain ⟨c, rfl, hc⟩ := fit_i hu
  exact ⟨⟨a, b, c⟩, rfl, ha, hb, hc⟩
theorem fit_p {cs : List A} (h : Fit shP cs) : ∃ ns : List Nd, cs = [.sl ns.length (enc ns)] ∧ ns.length < 9223372036854775808 := by
  obtain ⟨x, y, rfl, hx, rfl⟩ := h
  obtain ⟨ns, rfl, h1, _⟩ := fit_sl (f := encN) (fun r hr => fit_n hr) hx
  exact ⟨ns, by simp [enc], h1⟩
theorem fit_is {cs : List A} (h : Fit shIs cs) : ∃ xs : List Int, cs = [aI xs] ∧ xs.length < 9223372036854775808 := by
  obtain ⟨xs, rfl, h1, _⟩ := fit_sl (f := fun n => [i6 n]) (fun r hr => fit_i hr) h
  exact ⟨xs, by simp only [aI, ints]; rw [List.map_eq_flatMap], h1⟩
structure Lk.fit (l : Lk) : Prop where
  k : In64 l.key
  e : In64 l.epoch
  s : In64 l.seq
theorem fit_l {cs : List A} (h : Fit shL cs) : ∃ l : Lk, cs = [i6 l.key, i6 l.epoch, i6 l.seq, .bool l.over] ∧ l.fit := by
  obtain ⟨x, y, rfl, hx, z, t, rfl, hz, u, w, rfl, hu, b, w, rfl, ⟨o, rfl⟩, rfl⟩ := h
  obtain ⟨a, rfl, ha⟩ := fit_i hx
  obtain ⟨b, rfl, hb⟩ := fit_i hz
  obtain ⟨c, rfl, hc⟩ := fit_i hu
  exact ⟨⟨a, b, c, o⟩, rfl, ha, hb, hc⟩
structure St.fitA (s : St) : Prop where
  p : s.pool.length < 9223372036854775808
  k : s.know.length < 9223372036854775808
  t : s.sent.length < 9223372036854775808
  g : s.got.length < 9223372036854775808
  o : s.out.fit
  i : s.inn.fit
theorem fit_s {cs : List A} (h : Fit shS cs) : ∃ s : St, cs = cS s ∧ s.fitA := by
  obtain ⟨x, y, rfl, hx, z, t, rfl, hz, u, w, rfl, hu, b, w, rfl, hb, e, f, rfl, he, g, i, rfl, hg, rfl⟩ := h
  obtain ⟨ns, rfl, h1⟩ := fit_p hx
  obtain ⟨ks, rfl, h2⟩ := fit_is hz
  obtain ⟨l, rfl, h3⟩ := fit_l hu
  obtain ⟨m, rfl, h4⟩ := fit_l hb
  obtain ⟨ts, rfl, h5⟩ := fit_is he
  obtain ⟨gs, rfl, h6⟩ := fit_is hg
  exact ⟨⟨ns, ks, l, m, ts, gs⟩, rfl, h1, h2, h5, h6, h3, h4⟩
theorem arg_p {x : A} (h : FitA shP x) : ∃ ns : List Nd, x = aP ns ∧ ns.length < 9223372036854775808 := by
  obtain ⟨cs, rfl, h⟩ := h
  obtain ⟨ns, rfl, g⟩ := fit_p h
  exact ⟨ns, rfl, g⟩
theorem arg_l {x : A} (h : FitA shL x) : ∃ l : Lk, x = aL l ∧ l.fit := by
  obtain ⟨cs, rfl, h⟩ := h
  obtain ⟨ns, rfl, g⟩ := fit_l h
  exact ⟨ns, rfl, g⟩
theorem arg_s {x : A} (h : FitA shS x) : ∃ s : St, x = aS s ∧ s.fitA := by
  obtain ⟨cs, rfl, h⟩ := h
  obtain ⟨ns, rfl, g⟩ := fit_s h
  exact ⟨ns, rfl, g⟩
theorem arg_is {x : A} (h : FitA shIs x) : ∃ xs : List Int, x = aI xs ∧ xs.length < 9223372036854775808 := by
  obtain ⟨xs, e, h⟩ := fit_is (show Fit shIs [x] from h)
  exact ⟨xs, by simpa using e, h⟩
theorem arg_i {x : A} (h : FitA shI x) : ∃ n : Int, x = i6 n ∧ In64 n := by
  obtain ⟨n, e, h⟩ := fit_i (show Fit shI [x] from h)
  exact ⟨n, by simpa using e, h⟩
end Go.Proofs.YtijileoflejgpaaDoor.C

set_option linter.unusedVariables false
set_option linter.unusedSimpArgs false
namespace Go.Proofs.YtijileoflejgpaaDoor.C
open Go.Sym Go.Proofs.YtijileoflejgpaaDoor.I
abbrev qblk (ns : List Nd) : Blk := ⟨ns.length, false, 3, enc ns, none⟩
abbrev iblk (xs : List Int) : Blk := ⟨xs.length, false, 1, ints xs, none⟩
abbrev iref (b : Nat) (xs : List Int) : A := .ref b xs.length 0 xs.length
def szF (x : Int) (n : Nat) : Int := if x - n < 0 then -1 else x - n
theorem laws_szNodeS_c (ns : List Nd) (x : Int) (hl : ns.length < 9223372036854775808) (h0 : 0 ≤ x) (h1 : x < 9223372036854775808) : T 14 [.sl ns.length (enc ns), i6 x] [] (i6 (szF x ns.length)) ([]) := by
  refine semT' (S := S0) hm laws_szNodeS_ok (Nat.le_of_ble_eq_true rfl) ?_
  unfold laws_szNodeS; dsimp only
  have hw : IntKind.i64.wrap (x - ns.length) = x - ns.length := wrap64 (by omega) (by omega)
  simp [hw]
  refine br_intro' (fun h => ?_) (fun h => ?_) <;> (have h0 := h) <;> (try simp at h) <;> try simp [h0, h]
  · exact LeV.ro rfl rfl (by simp [szF, h])
  · exact LeV.ro rfl rfl (by simp [szF]; omega)
theorem laws_szNodeS_call {ns : List Nd} {x : Int} (hl : ns.length < 9223372036854775808) (h0 : 0 ≤ x) (h1 : x < 9223372036854775808) {S : FuncId → Bool} {H : List Blk} {K : A → Dl → Prop} (hS : S 14 = false) (hK : K (i6 (szF x ns.length)) (.news [])) : @WCall' Go.Proofs.Tryd.prog S 14 [.sl ns.length (enc ns), i6 x] H ⟨K⟩ :=
  WCall_pure hS (laws_szNodeS_c ns x hl h0 h1) (by simp) (by simp) (by simp) hK
theorem laws_szNodeS_k {ns : List Nd} {x : Int} (hl : ns.length < 9223372036854775808) (h0 : 0 ≤ x) (h1 : x < 9223372036854775808) {S : FuncId → Bool} {H : List Blk} {K : A → Dl → Prop} {zs : List A} (hS : S 14 = false) (hv : viewL (viewA 8 H) zs = some [.sl ns.length (enc ns), i6 x]) (ho : noOwns zs = true ∨ nosl (i6 (szF x ns.length)) = true) (hK : K (i6 (szF x ns.length)) (.news [])) : @WCall' Go.Proofs.Tryd.prog S 14 zs H ⟨K⟩ :=
  WCall_pure hS (laws_szNodeS_c ns x hl h0 h1) hv ho (by simp) hK
theorem laws_szPool_c (ns : List Nd) (x : Int) (hl : ns.length < 9223372036854775808) (h0 : 0 ≤ x) (h1 : x < 9223372036854775808) : T 4 [aP ns, i6 x] [] (i6 (szF x ns.length)) ([]) := by
  refine semT' (S := S0) hm laws_szPool_ok (Nat.le_of_ble_eq_true rfl) ?_
  unfold laws_szPool; dsimp only
  simp
  refine laws_szNodeS_call (ns := ns) (x := x) hl h0 h1 rfl ?_; simp
  refine br_intro' (fun h => ?_) (fun h => ?_) <;> (have h0 := h) <;> (try simp at h) <;> try simp [h0, h]
  · exact LeV.ro rfl rfl (by simp [szF] at h ⊢; omega)
  · exact LeV.ro rfl rfl (by simp)
theorem laws_szPool_call {ns : List Nd} {x : Int} (hl : ns.length < 9223372036854775808) (h0 : 0 ≤ x) (h1 : x < 9223372036854775808) {S : FuncId → Bool} {H : List Blk} {K : A → Dl → Prop} (hS : S 4 = false) (hK : K (i6 (szF x ns.length)) (.news [])) : @WCall' Go.Proofs.Tryd.prog S 4 [aP ns, i6 x] H ⟨K⟩ :=
  WCall_pure hS (laws_szPool_c ns x hl h0 h1) (by simp) (by simp) (by simp) hK
theorem laws_szPool_k {ns : List Nd} {x : Int} (hl : ns.length < 9223372036854775808) (h0 : 0 ≤ x) (h1 : x < 9223372036854775808) {S : FuncId → Bool} {H : List Blk} {K : A → Dl → Prop} {zs : List A} (hS : S 4 = false) (hv : viewL (viewA 8 H) zs = some [aP ns, i6 x]) (ho : noOwns zs = true ∨ nosl (i6 (szF x ns.length)) = true) (hK : K (i6 (szF x ns.length)) (.news [])) : @WCall' Go.Proofs.Tryd.prog S 4 zs H ⟨K⟩ :=
  WCall_pure hS (laws_szPool_c ns x hl h0 h1) hv ho (by simp) hK
theorem laws_toNode_c (n : Nd)  : T 32 [aN n] [] (aN n) ([]) := by
  refine semT' (S := S0) hm laws_toNode_ok (Nat.le_of_ble_eq_true rfl) ?_
  unfold laws_toNode; dsimp only
  simp
  exact LeV.ro rfl rfl (by simp)
theorem laws_toNode_call {n : Nd}  {S : FuncId → Bool} {H : List Blk} {K : A → Dl → Prop} (hS : S 32 = false) (hK : K (aN n) (.news [])) : @WCall' Go.Proofs.Tryd.prog S 32 [aN n] H ⟨K⟩ :=
  WCall_pure hS (laws_toNode_c n) (by simp) (by simp) (by simp) hK
theorem laws_toNode_k {n : Nd}  {S : FuncId → Bool} {H : List Blk} {K : A → Dl → Prop} {zs : List A} (hS : S 32 = false) (hv : viewL (viewA 8 H) zs = some [aN n]) (ho : noOwns zs = true ∨ nosl (aN n) = true) (hK : K (aN n) (.news [])) : @WCall' Go.Proofs.Tryd.prog S 32 zs H ⟨K⟩ :=
  WCall_pure hS (laws_toNode_c n) hv ho (by simp) hK
theorem laws_eqNode_c (n m : Nd)  : T 40 [aN n, aN m] [] (.bool (decide (n = m))) ([]) := by
  refine semT' (S := S0) hm laws_eqNode_ok (Nat.le_of_ble_eq_true rfl) ?_
  unfold laws_eqNode; dsimp only
  simp
  repeat (any_goals (first | (refine br_intro' (fun h => ?_) (fun h => ?_) <;> (have h0 := h) <;> (try simp at h) <;> try simp [h0, h])))
  all_goals exact LeV.ro rfl rfl (by simp [Nd_eq, *])
theorem laws_eqNode_call {n m : Nd}  {S : FuncId → Bool} {H : List Blk} {K : A → Dl → Prop} (hS : S 40 = false) (hK : K (.bool (decide (n = m))) (.news [])) : @WCall' Go.Proofs.Tryd.prog S 40 [aN n, aN m] H ⟨K⟩ :=
  WCall_pure hS (laws_eqNode_c n m) (by simp) (by simp) (by simp) hK
theorem laws_eqNode_k {n m : Nd}  {S : FuncId → Bool} {H : List Blk} {K : A → Dl → Prop} {zs : List A} (hS : S 40 = false) (hv : viewL (viewA 8 H) zs = some [aN n, aN m]) (ho : noOwns zs = true ∨ nosl (.bool (decide (n = m))) = true) (hK : K (.bool (decide (n = m))) (.news [])) : @WCall' Go.Proofs.Tryd.prog S 40 zs H ⟨K⟩ :=
  WCall_pure hS (laws_eqNode_c n m) hv ho (by simp) hK
theorem Lk_eq {x y : Lk} : x = y ↔ x.key = y.key ∧ x.epoch = y.epoch ∧ x.seq = y.seq ∧ x.over = y.over := by cases x; cases y; simp
def zN (j : Nat) : List Nd := List.replicate j ⟨0, 0, 0⟩
/-- A copy that is made up to a place. -/
def upN (ns : List Nd) (j : Nat) : List Nd := ns.take j ++ zN (ns.length - j)
theorem upN_len (ns : List Nd) (j : Nat) (h : j ≤ ns.length) : (upN ns j).length = ns.length := by simp [upN, zN]; omega
theorem upN_zero (ns : List Nd) : upN ns 0 = zN ns.length := by simp [upN]
theorem upN_end (ns : List Nd) : upN ns ns.length = ns := by simp [upN, zN]
theorem enc_zN (j : Nat) : enc (zN j) = (List.replicate j [i6 0, i6 0, i6 0]).flatten := by
  induction j with
  | zero => rfl
  | succ j ih => simp only [zN, List.replicate_succ, enc, List.flatMap_cons, List.flatten_cons] at ih ⊢; rw [ih]; rfl
theorem upN_set (ns : List Nd) (j : Nat) (h : j < ns.length) : (upN ns j).set j ns[j] = upN ns (j + 1) := by
  have hl : (ns.take j).length = j := by simp; omega
  have e : ns.length - j = (ns.length - (j + 1)) + 1 := by omega
  simp only [upN, zN]
  rw [List.set_append_right _ _ (by omega), hl, Nat.sub_self, e, List.replicate_succ, List.set_cons_zero, List.take_succ_eq_append_getElem h, List.append_assoc]
  rfl
theorem set3 {x y z : A} : ∀ (cs : List A) (a b c : A) (r : List A), (((a :: b :: c :: r).set 0 x).set 1 y).set 2 z = x :: y :: z :: r := fun _ _ _ _ _ => rfl
theorem enc_set : ∀ (xs : List Nd) (j : Nat) (n : Nd), (((enc xs).set (j * 3) (i6 n.k)).set (j * 3 + 1) (i6 n.a)).set (j * 3 + 2) (i6 n.b) = enc (xs.set j n)
  | [], j, n => by simp
  | x :: xs, 0, n => rfl
  | x :: xs, j + 1, n => by
    have := enc_set xs j n
    have e : (j + 1) * 3 = j * 3 + 1 + 1 + 1 := by omega
    show ((([i6 x.k, i6 x.a, i6 x.b] ++ enc xs).set ((j + 1) * 3) _).set ((j + 1) * 3 + 1) _).set ((j + 1) * 3 + 2) _ = [i6 x.k, i6 x.a, i6 x.b] ++ enc (xs.set j n)
    rw [e, ← this]
    rfl
theorem laws_toNodeS_c (ns : List Nd) (hl : ns.length ≤ 4294967296) : T 17 [.sl ns.length (enc ns)] [] (pref 0 ns) ([qblk ns]) := by
  refine semT' (S := S0) hm laws_toNodeS_ok (Nat.le_of_ble_eq_true rfl) ?_
  unfold laws_toNodeS; dsimp only
  have h1 : ((ns.length : Int)) * 24 ≤ 17592186044416 := by omega
  have h2 : (ns.length : Int) ≤ 4294967296 := by omega
  simp
  refine ck_intro' (by omega) ?_; simp
  rw [← enc_zN, ← upN_zero]
  refine WLoop_fam (fun j : Nat => [(0, A.sl ns.length (enc ns)), (3, A.ref 0 0 0 ns.length), (4, i6 j)]) (fun j => [⟨0, false, 3, enc (upN ns j), none⟩]) (fun j => ns.length - j)
    (fun j => j ≤ ns.length) ?_ 0 (Nat.zero_le _)
  intro j hj ih
  simp [upN_len ns j hj]
  refine br_intro' (fun h => ?_) (fun h => ?_) <;> (have h0 := h) <;> (try simp at h) <;> try simp [h0, h]
  · obtain ⟨r, hr⟩ := enc_at h
    have h3 : 3 ≤ ns.length * 3 - j * 3 := by omega
    have hw : IntKind.i64.wrap ((j : Int) + 1) = j + 1 := wrap64 (by omega) (by omega)
    have h' := h
    simp [h3, hr, h']
    refine laws_toNode_call (n := ns[j]) rfl ?_; simp [upN_len ns j hj, h']
    refine ck_intro' (by omega) ?_; simp
    rw [hw, enc_set, upN_set ns j h']
    exact ih (j + 1) h' (by omega)
  · have h0 : j = ns.length := by omega
    subst h0
    rw [upN_end]
    first | (refine LeV.tell [none] ?_ ?_ ?_ <;> (simp; done)) | (refine LeV.tell [some 0] ?_ ?_ ?_ <;> (simp; done)) | (refine LeV.tell [some 1] ?_ ?_ ?_ <;> (simp; done)) | (refine LeV.tell [some 2] ?_ ?_ ?_ <;> (simp; done)) | (refine LeV.tell [some 3] ?_ ?_ ?_ <;> (simp; done)) | (refine LeV.tell [some 4] ?_ ?_ ?_ <;> (simp; done)) | (refine LeV.tell [some 5] ?_ ?_ ?_ <;> (simp; done)) | (refine LeV.tell [some 6] ?_ ?_ ?_ <;> (simp; done)) | (refine LeV.tell [some 7] ?_ ?_ ?_ <;> (simp; done)) | (refine LeV.tell [some 8] ?_ ?_ ?_ <;> (simp; done)) | (refine LeV.tell [some 9] ?_ ?_ ?_ <;> (simp; done)) | (refine LeV.tell [some 10] ?_ ?_ ?_ <;> (simp; done)) | (refine LeV.tell [some 11] ?_ ?_ ?_ <;> (simp; done)) | (refine LeV.tell [some 12] ?_ ?_ ?_ <;> (simp; done)) | (refine LeV.tell [some 13] ?_ ?_ ?_ <;> (simp; done)) | (refine LeV.tell [some 14] ?_ ?_ ?_ <;> (simp; done)) | (refine LeV.tell [some 15] ?_ ?_ ?_ <;> (simp; done))
theorem laws_toNodeS_k {ns : List Nd} (hl : ns.length ≤ 4294967296) {S : FuncId → Bool} {H : List Blk} {K : A → Dl → Prop} {zs : List A} (hS : S 17 = false) (hv : viewL (viewA 8 H) zs = some [.sl ns.length (enc ns)]) (ho : noOwns zs = true ∨ nosl (pref 0 ns) = true ∧ noslBlks ([qblk ns]) = true) (hK : K (shiftA H.length (pref 0 ns)) (.news (([qblk ns]).map (shiftB H.length)))) : @WCall' Go.Proofs.Tryd.prog S 17 zs H ⟨K⟩ :=
  WCall_ro' hS hv (laws_toNodeS_c ns hl) rfl ho hK
theorem laws_toPool_c (ns : List Nd) (hl : ns.length ≤ 4294967296) : T 7 [aP ns] [] (.agg [pref 0 ns]) ([qblk ns]) := by
  refine semT' (S := S0) hm laws_toPool_ok (Nat.le_of_ble_eq_true rfl) ?_
  unfold laws_toPool; dsimp only
  simp
  refine laws_toNodeS_k (ns := ns) hl rfl (by simp) (by simp [noslBlks]) ?_; simp [shiftB]
  first | (refine LeV.tell [none] ?_ ?_ ?_ <;> (simp; done)) | (refine LeV.tell [some 0] ?_ ?_ ?_ <;> (simp; done)) | (refine LeV.tell [some 1] ?_ ?_ ?_ <;> (simp; done)) | (refine LeV.tell [some 2] ?_ ?_ ?_ <;> (simp; done)) | (refine LeV.tell [some 3] ?_ ?_ ?_ <;> (simp; done)) | (refine LeV.tell [some 4] ?_ ?_ ?_ <;> (simp; done)) | (refine LeV.tell [some 5] ?_ ?_ ?_ <;> (simp; done)) | (refine LeV.tell [some 6] ?_ ?_ ?_ <;> (simp; done)) | (refine LeV.tell [some 7] ?_ ?_ ?_ <;> (simp; done)) | (refine LeV.tell [some 8] ?_ ?_ ?_ <;> (simp; done)) | (refine LeV.tell [some 9] ?_ ?_ ?_ <;> (simp; done)) | (refine LeV.tell [some 10] ?_ ?_ ?_ <;> (simp; done)) | (refine LeV.tell [some 11] ?_ ?_ ?_ <;> (simp; done)) | (refine LeV.tell [some 12] ?_ ?_ ?_ <;> (simp; done)) | (refine LeV.tell [some 13] ?_ ?_ ?_ <;> (simp; done)) | (refine LeV.tell [some 14] ?_ ?_ ?_ <;> (simp; done)) | (refine LeV.tell [some 15] ?_ ?_ ?_ <;> (simp; done))
theorem laws_toPool_k {ns : List Nd} (hl : ns.length ≤ 4294967296) {S : FuncId → Bool} {H : List Blk} {K : A → Dl → Prop} {zs : List A} (hS : S 7 = false) (hv : viewL (viewA 8 H) zs = some [aP ns]) (ho : noOwns zs = true ∨ nosl (.agg [pref 0 ns]) = true ∧ noslBlks ([qblk ns]) = true) (hK : K (shiftA H.length (.agg [pref 0 ns])) (.news (([qblk ns]).map (shiftB H.length)))) : @WCall' Go.Proofs.Tryd.prog S 7 zs H ⟨K⟩ :=
  WCall_ro' hS hv (laws_toPool_c ns hl) rfl ho hK
/-- A copy of numbers that is made up to a place. -/
def upI (xs : List Int) (j : Nat) : List Int := xs.take j ++ List.replicate (xs.length - j) 0
theorem upI_len (xs : List Int) (j : Nat) (h : j ≤ xs.length) : (upI xs j).length = xs.length := by simp [upI]; omega
theorem upI_zero (xs : List Int) : upI xs 0 = List.replicate xs.length 0 := by simp [upI]
theorem upI_end (xs : List Int) : upI xs xs.length = xs := by simp [upI]
theorem upI_set (ns : List Int) (j : Nat) (h : j < ns.length) : (upI ns j).set j ns[j] = upI ns (j + 1) := by
  have hl : (ns.take j).length = j := by simp; omega
  have e : ns.length - j = (ns.length - (j + 1)) + 1 := by omega
  simp only [upI]
  rw [List.set_append_right _ _ (by omega), hl, Nat.sub_self, e, List.replicate_succ, List.set_cons_zero, List.take_succ_eq_append_getElem h, List.append_assoc]
  rfl
theorem ints_set (xs : List Int) (j : Nat) (n : Int) : (ints xs).set j (i6 n) = ints (xs.set j n) := by simp [ints, List.map_set]
@[simp] theorem ints_tells (H H' : List Blk) (g : List (Option Nat)) (xs : List Int) : Tells H H' g (ints xs) (ints xs) := Tells_scals _ (ints_scals xs)
@[simp] theorem ints_take (xs : List Int) : (ints xs).take xs.length = ints xs := List.take_of_length_le (by simp)
theorem ints_rep (n : Nat) : ints (List.replicate n 0) = List.replicate n (i6 0) := by simp [ints]
theorem laws_toIntS_c (xs : List Int) (hl : xs.length ≤ 4294967296) : T 8 [aI xs] [] (iref 0 xs) ([iblk xs]) := by
  refine semT' (S := S0) hm laws_toIntS_ok (Nat.le_of_ble_eq_true rfl) ?_
  unfold laws_toIntS; dsimp only
  have h1 : ((xs.length : Int)) * 8 ≤ 17592186044416 := by omega
  have h2 : (xs.length : Int) ≤ 4294967296 := by omega
  simp
  refine ck_intro' (by omega) ?_; simp
  rw [← ints_rep, ← upI_zero]
  refine WLoop_fam (fun j : Nat => [(0, aI xs), (3, A.ref 0 0 0 xs.length), (4, i6 j)]) (fun j => [⟨0, false, 1, ints (upI xs j), none⟩]) (fun j => xs.length - j)
    (fun j => j ≤ xs.length) ?_ 0 (Nat.zero_le _)
  intro j hj ih
  simp [upI_len xs j hj]
  refine br_intro' (fun h => ?_) (fun h => ?_) <;> (have h0 := h) <;> (try simp at h) <;> try simp [h0, h]
  · have hw : IntKind.i64.wrap ((j : Int) + 1) = j + 1 := wrap64 (by omega) (by omega)
    have h' := h
    simp [h', upI_len xs j hj]
    refine ck_intro' (by omega) ?_; simp
    rw [hw, ints_set, upI_set xs j h']
    exact ih (j + 1) h' (by omega)
  · have h0 : j = xs.length := by omega
    subst h0
    rw [upI_end]
    first | (refine LeV.tell [none] ?_ ?_ ?_ <;> (simp; done)) | (refine LeV.tell [some 0] ?_ ?_ ?_ <;> (simp; done)) | (refine LeV.tell [some 1] ?_ ?_ ?_ <;> (simp; done)) | (refine LeV.tell [some 2] ?_ ?_ ?_ <;> (simp; done)) | (refine LeV.tell [some 3] ?_ ?_ ?_ <;> (simp; done)) | (refine LeV.tell [some 4] ?_ ?_ ?_ <;> (simp; done)) | (refine LeV.tell [some 5] ?_ ?_ ?_ <;> (simp; done)) | (refine LeV.tell [some 6] ?_ ?_ ?_ <;> (simp; done)) | (refine LeV.tell [some 7] ?_ ?_ ?_ <;> (simp; done)) | (refine LeV.tell [some 8] ?_ ?_ ?_ <;> (simp; done)) | (refine LeV.tell [some 9] ?_ ?_ ?_ <;> (simp; done)) | (refine LeV.tell [some 10] ?_ ?_ ?_ <;> (simp; done)) | (refine LeV.tell [some 11] ?_ ?_ ?_ <;> (simp; done)) | (refine LeV.tell [some 12] ?_ ?_ ?_ <;> (simp; done)) | (refine LeV.tell [some 13] ?_ ?_ ?_ <;> (simp; done)) | (refine LeV.tell [some 14] ?_ ?_ ?_ <;> (simp; done)) | (refine LeV.tell [some 15] ?_ ?_ ?_ <;> (simp; done))
theorem laws_toIntS_k {xs : List Int} (hl : xs.length ≤ 4294967296) {S : FuncId → Bool} {H : List Blk} {K : A → Dl → Prop} {zs : List A} (hS : S 8 = false) (hv : viewL (viewA 8 H) zs = some [aI xs]) (ho : noOwns zs = true ∨ nosl (iref 0 xs) = true ∧ noslBlks ([iblk xs]) = true) (hK : K (shiftA H.length (iref 0 xs)) (.news (([iblk xs]).map (shiftB H.length)))) : @WCall' Go.Proofs.Tryd.prog S 8 zs H ⟨K⟩ :=
  WCall_ro' hS hv (laws_toIntS_c xs hl) rfl ho hK
theorem laws_eqNodeS_c (ns ms : List Nd) (hl : ns.length < 9223372036854775807) (hl2 : ms.length < 9223372036854775807) : T 22 [.sl ns.length (enc ns), .sl ms.length (enc ms)] [] (.bool (decide (ns = ms))) ([]) := by
  refine semT' (S := S0) hm laws_eqNodeS_ok (Nat.le_of_ble_eq_true rfl) ?_
  unfold laws_eqNodeS; dsimp only
  simp
  refine br_intro' (fun h => ?_) (fun h => ?_) <;> (try simp at h) <;> (try simp [h])
  · refine WLoop_fam (fun j : Nat => [(0, A.sl ns.length (enc ns)), (1, A.sl ms.length (enc ms)), (5, i6 j)]) (fun _ => []) (fun j => ns.length - j)
      (fun j => j ≤ ns.length ∧ ns.take j = ms.take j) ?_ 0 ⟨Nat.zero_le _, by simp⟩
    intro j ⟨hj, hf⟩ ih
    simp
    have hq : ns.length = ms.length := by omega
    refine br_intro' (fun h => ?_) (fun h => ?_) <;> (have h0 := h) <;> (try simp at h) <;> try simp [h0, h]
    · obtain ⟨r, hr⟩ := enc_at h
      have hm : j < ms.length := by omega
      obtain ⟨r2, hr2⟩ := enc_at hm
      have h3 : 3 ≤ ms.length * 3 - j * 3 := by omega
      have h4 : 3 ≤ ns.length * 3 - j * 3 := by omega
      have hw : IntKind.i64.wrap ((j : Int) + 1) = j + 1 := wrap64 (by omega) (by omega)
      have h' := h
      simp [h3, h4, hr, h', hr2, hm]
      refine laws_eqNode_call (n := ns[j]) (m := ms[j]) rfl ?_; simp
      first | (refine ck_intro' (by kernel_rfl) ?_; try simp) | skip
      refine br_intro' (fun g => ?_) (fun g => ?_) <;> simp at g <;> simp [g]
      · rw [hw]
        exact ih (j + 1) ⟨h', by rw [List.take_succ_eq_append_getElem h', List.take_succ_eq_append_getElem hm, hf, g]⟩ (by omega)
      · exact LeV.ro rfl rfl (by simp; intro e; subst e; exact g rfl)
    · have h0 : j = ns.length := by omega
      exact LeV.ro rfl rfl (by rw [h0, List.take_length, hq, List.take_length] at hf; simp [hf])
  · exact LeV.ro rfl rfl (by simp; intro e; rw [e] at h; exact h rfl)
theorem laws_eqNodeS_call {ns ms : List Nd} (hl : ns.length < 9223372036854775807) (hl2 : ms.length < 9223372036854775807) {S : FuncId → Bool} {H : List Blk} {K : A → Dl → Prop} (hS : S 22 = false) (hK : K (.bool (decide (ns = ms))) (.news [])) : @WCall' Go.Proofs.Tryd.prog S 22 [.sl ns.length (enc ns), .sl ms.length (enc ms)] H ⟨K⟩ :=
  WCall_pure hS (laws_eqNodeS_c ns ms hl hl2) (by simp) (by simp) (by simp) hK
theorem laws_eqNodeS_k {ns ms : List Nd} (hl : ns.length < 9223372036854775807) (hl2 : ms.length < 9223372036854775807) {S : FuncId → Bool} {H : List Blk} {K : A → Dl → Prop} {zs : List A} (hS : S 22 = false) (hv : viewL (viewA 8 H) zs = some [.sl ns.length (enc ns), .sl ms.length (enc ms)]) (ho : noOwns zs = true ∨ nosl (.bool (decide (ns = ms))) = true) (hK : K (.bool (decide (ns = ms))) (.news [])) : @WCall' Go.Proofs.Tryd.prog S 22 zs H ⟨K⟩ :=
  WCall_pure hS (laws_eqNodeS_c ns ms hl hl2) hv ho (by simp) hK
theorem laws_eqPool_c (ns ms : List Nd) (hl : ns.length < 9223372036854775807) (hl2 : ms.length < 9223372036854775807) : T 11 [aP ns, aP ms] [] (.bool (decide (ns = ms))) ([]) := by
  refine semT' (S := S0) hm laws_eqPool_ok (Nat.le_of_ble_eq_true rfl) ?_
  unfold laws_eqPool; dsimp only
  simp
  refine laws_eqNodeS_call (ns := ns) (ms := ms) hl hl2 rfl ?_; simp
  refine br_intro' (fun g => ?_) (fun g => ?_) <;> simp at g <;> simp [g]
  · exact LeV.ro rfl rfl (by simp)
  · exact LeV.ro rfl rfl (by simp [g])
theorem laws_eqPool_call {ns ms : List Nd} (hl : ns.length < 9223372036854775807) (hl2 : ms.length < 9223372036854775807) {S : FuncId → Bool} {H : List Blk} {K : A → Dl → Prop} (hS : S 11 = false) (hK : K (.bool (decide (ns = ms))) (.news [])) : @WCall' Go.Proofs.Tryd.prog S 11 [aP ns, aP ms] H ⟨K⟩ :=
  WCall_pure hS (laws_eqPool_c ns ms hl hl2) (by simp) (by simp) (by simp) hK
theorem laws_eqPool_k {ns ms : List Nd} (hl : ns.length < 9223372036854775807) (hl2 : ms.length < 9223372036854775807) {S : FuncId → Bool} {H : List Blk} {K : A → Dl → Prop} {zs : List A} (hS : S 11 = false) (hv : viewL (viewA 8 H) zs = some [aP ns, aP ms]) (ho : noOwns zs = true ∨ nosl (.bool (decide (ns = ms))) = true) (hK : K (.bool (decide (ns = ms))) (.news [])) : @WCall' Go.Proofs.Tryd.prog S 11 zs H ⟨K⟩ :=
  WCall_pure hS (laws_eqPool_c ns ms hl hl2) hv ho (by simp) hK
theorem laws_eqIntS_c (ns ms : List Int) (hl : ns.length < 9223372036854775807) (hl2 : ms.length < 9223372036854775807) : T 12 [aI ns, aI ms] [] (.bool (decide (ns = ms))) ([]) := by
  refine semT' (S := S0) hm laws_eqIntS_ok (Nat.le_of_ble_eq_true rfl) ?_
  unfold laws_eqIntS; dsimp only
  simp
  refine br_intro' (fun h => ?_) (fun h => ?_) <;> (try simp at h) <;> (try simp [h])
  · refine WLoop_fam (fun j : Nat => [(0, aI ns), (1, aI ms), (5, i6 j)]) (fun _ => []) (fun j => ns.length - j)
      (fun j => j ≤ ns.length ∧ ns.take j = ms.take j) ?_ 0 ⟨Nat.zero_le _, by simp⟩
    intro j ⟨hj, hf⟩ ih
    simp
    have hq : ns.length = ms.length := by omega
    refine br_intro' (fun h => ?_) (fun h => ?_) <;> (have h0 := h) <;> (try simp at h) <;> try simp [h0, h]
    · have hm : j < ms.length := by omega
      have hw : IntKind.i64.wrap ((j : Int) + 1) = j + 1 := wrap64 (by omega) (by omega)
      have h' := h
      simp [h', hm]
      first | (refine ck_intro' (by kernel_rfl) ?_; try simp) | skip
      refine br_intro' (fun g => ?_) (fun g => ?_) <;> simp at g <;> simp [g]
      · rw [hw]
        exact ih (j + 1) ⟨h', by rw [List.take_succ_eq_append_getElem h', List.take_succ_eq_append_getElem hm, hf, g]⟩ (by omega)
      · exact LeV.ro rfl rfl (by simp; intro e; subst e; exact g rfl)
    · have h0 : j = ns.length := by omega
      exact LeV.ro rfl rfl (by rw [h0, List.take_length, hq, List.take_length] at hf; simp [hf])
  · exact LeV.ro rfl rfl (by simp; intro e; rw [e] at h; exact h rfl)
theorem laws_eqIntS_call {ns ms : List Int} (hl : ns.length < 9223372036854775807) (hl2 : ms.length < 9223372036854775807) {S : FuncId → Bool} {H : List Blk} {K : A → Dl → Prop} (hS : S 12 = false) (hK : K (.bool (decide (ns = ms))) (.news [])) : @WCall' Go.Proofs.Tryd.prog S 12 [aI ns, aI ms] H ⟨K⟩ :=
  WCall_pure hS (laws_eqIntS_c ns ms hl hl2) (by simp) (by simp) (by simp) hK
theorem laws_eqIntS_k {ns ms : List Int} (hl : ns.length < 9223372036854775807) (hl2 : ms.length < 9223372036854775807) {S : FuncId → Bool} {H : List Blk} {K : A → Dl → Prop} {zs : List A} (hS : S 12 = false) (hv : viewL (viewA 8 H) zs = some [aI ns, aI ms]) (ho : noOwns zs = true ∨ nosl (.bool (decide (ns = ms))) = true) (hK : K (.bool (decide (ns = ms))) (.news [])) : @WCall' Go.Proofs.Tryd.prog S 12 zs H ⟨K⟩ :=
  WCall_pure hS (laws_eqIntS_c ns ms hl hl2) hv ho (by simp) hK
theorem szF_neg {x : Int} {n : Nat} : szF x n < 0 ↔ x < n := by unfold szF; split <;> omega
theorem szF_pos {x : Int} {n : Nat} (h : ¬ x < n) : szF x n = x - n := by unfold szF; rw [if_neg (by omega)]
/-- The size of a stream. -/
def szStr (s : St) (x : Int) : Int := if x < s.pool.length + s.know.length + s.sent.length + s.got.length then -1 else x - (s.pool.length + s.know.length + s.sent.length + s.got.length)
theorem St_eq {x y : St} : x = y ↔ x.pool = y.pool ∧ x.know = y.know ∧ x.out = y.out ∧ x.inn = y.inn ∧ x.sent = y.sent ∧ x.got = y.got := by cases x; cases y; simp
end Go.Proofs.YtijileoflejgpaaDoor.C

set_option linter.unusedVariables false
set_option linter.unusedSimpArgs false
namespace Go.Proofs.YtijileoflejgpaaDoor.C
open Go.Sym Go.Proofs.YtijileoflejgpaaDoor.I
def mkN (k : Int) : Nat → List Nd
  | 0 => []
  | n + 1 => mkN k n ++ [⟨k + 3 * n, k + 3 * n + 1, k + 3 * n + 2⟩]
@[simp] theorem mkN_len (k : Int) (n : Nat) : (mkN k n).length = n := by induction n with | zero => rfl | succ n ih => simp [mkN, ih]
@[simp] theorem mkN_take (k : Int) (n : Nat) : (enc (mkN k n)).take (n * 3) = enc (mkN k n) := List.take_of_length_le (by simp)
theorem mkN_get (k : Int) : ∀ (n j : Nat) (h : j < (mkN k n).length), (mkN k n)[j] = ⟨k + 3 * j, k + 3 * j + 1, k + 3 * j + 2⟩
  | 0, j, h => by simp at h
  | n + 1, j, h => by
    simp only [mkN]
    rcases Nat.lt_or_ge j n with g | g
    · rw [List.getElem_append_left (by simpa using g)]
      exact mkN_get k n j (by simpa using g)
    · have : j = n := by simp at h; omega
      subst this
      simp
theorem mkN_set (k : Int) (ns : List Nd) (j : Nat) (h : j < ns.length) : (mkN k j ++ ns.drop j).set j ⟨k + 3 * j, k + 3 * j + 1, k + 3 * j + 2⟩ = mkN k (j + 1) ++ ns.drop (j + 1) := by
  rw [List.set_append_right _ _ (by simp), mkN_len, Nat.sub_self, List.drop_eq_getElem_cons h, List.set_cons_zero]
  simp [mkN]
theorem set_self {α : Type} {H : List α} {n : Nat} {x : α} (h : H[n]? = some x) : H.set n x = H := by
  apply List.ext_getElem?
  intro i
  by_cases e : n = i
  · subst e
    rw [h, List.getElem?_set_self (List.getElem?_eq_some_iff.1 h).1]
  · rw [List.getElem?_set_ne e]
theorem shift_len {H T : List Blk} {nb : Nat} {x : Blk} (h : nb < H.length) : (H ++ T).set nb x = H.set nb x ++ T := set_left h x
theorem enc_gets {ns : List Nd} {j : Nat} (h : j < ns.length) : (enc ns)[j * 3]? = some (i6 ns[j].k) ∧ (enc ns)[j * 3 + 1]? = some (i6 ns[j].a) ∧ (enc ns)[j * 3 + 2]? = some (i6 ns[j].b) := by
  obtain ⟨r, hr⟩ := enc_at h
  have e : ∀ i, (enc ns)[j * 3 + i]? = (i6 ns[j].k :: i6 ns[j].a :: i6 ns[j].b :: r)[i]? := fun i => by rw [← hr, List.getElem?_drop]
  exact ⟨e 0, e 1, e 2⟩
theorem enc_k {ns : List Nd} {j : Nat} (h : j < ns.length) {h' : j * 3 < (enc ns).length} : (enc ns)[j * 3] = i6 ns[j].k := by
  have := (enc_gets h).1
  rw [List.getElem?_eq_getElem h'] at this
  simpa using this
theorem enc_a {ns : List Nd} {j : Nat} (h : j < ns.length) {h' : j * 3 + 1 < (enc ns).length} : (enc ns)[j * 3 + 1] = i6 ns[j].a := by
  have := (enc_gets h).2.1
  rw [List.getElem?_eq_getElem h'] at this
  simpa using this
theorem enc_b {ns : List Nd} {j : Nat} (h : j < ns.length) {h' : j * 3 + 2 < (enc ns).length} : (enc ns)[j * 3 + 2] = i6 ns[j].b := by
  have := (enc_gets h).2.2
  rw [List.getElem?_eq_getElem h'] at this
  simpa using this
end Go.Proofs.YtijileoflejgpaaDoor.C

set_option linter.unusedVariables false
set_option linter.unusedSimpArgs false
set_option maxRecDepth 4000
namespace Go.Proofs.YtijileoflejgpaaDoor.C
open Go.Sym Go.Proofs.YtijileoflejgpaaDoor.I
theorem impl_Pool_recipe_c (ns : List Nd) (ks : List Int) (s : Sp) (xs : List ByteArray) (hl : ns.length < 9223372036854775807) (hk : ks.length < 9223372036854775807) (hx : xs.length < 9223372036854775807) (hp : poolF ns = true) (hf : SFit ns ks xs s) : T 21 [.pt [.sl ns.length (enc ns)], aI ks, aSt s, aTx xs] [] (.str (recF ns ks s (txAt xs s.a) (txAt xs s.b))) ([]) := by
  refine semT' (S := S0) hm impl_Pool_recipe_ok (Nat.le_of_ble_eq_true rfl) ?_
  unfold impl_Pool_recipe; dsimp only
  have g44 := sz1 44
  have g41 := sz1 41
  simp
  refine br_intro' (fun c => ?_) (fun c => ?_) <;> (have c0 := c) <;> simp only [decide_eq_true_eq, decide_eq_false_iff_not] at c <;> simp [c0]
  · obtain ⟨j0, hj0, e1, e2, e3⟩ := idxF_lt ks s.t 0 (hf.k c)
    refine slices_Index_int_k (ks := ks) (t := s.t) hk rfl (by simp) (by simp [noslBlks]) ?_; simp [shiftB]
    have hs := numB_size (n := idxF ks s.t 0) (by omega) (by omega)
    refine itoa_call (n := idxF ks s.t 0) (by omega) (by omega) rfl ?_; simp
    refine ck_intro' (by have := sz1 64; omega) ?_; simp
    exact LeV.ro rfl rfl (by simp [recF, c])
  refine br_intro' (fun c2 => ?_) (fun c2 => ?_) <;> (have c20 := c2) <;> simp only [decide_eq_true_eq, decide_eq_false_iff_not] at c2 <;> simp [c20]
  · obtain ⟨p1, p2, p3⟩ := hf.p c2
    refine impl_Pool_print_k (ns := ns) (t := s.t) hl hf.t p1 p2 p3 rfl (by simp) (by simp [noslBlks]) ?_; simp [shiftB]
    exact LeV.ro rfl rfl (by simp [recF, c2])
  refine br_intro' (fun c3 => ?_) (fun c3 => ?_) <;> (have c30 := c3) <;> simp only [decide_eq_true_eq, decide_eq_false_iff_not] at c3 <;> simp [c30]
  · have hm := hf.m c3
    have hn : needsF ns s = partsF (nodeAt ns s.t).k := by simp [needsF, c3]
    obtain ⟨ja, ea, hja⟩ := hf.a hm
    have za := hf.z _ (List.getElem_mem hja)
    have ta : txAt xs s.a = xs[ja] := by rw [ea]; simp [txAt, hja]
    have h' := hf.t
    simp [hasF, inF] at h'
    obtain ⟨j, ej⟩ : ∃ j : Nat, s.t = j := ⟨s.t.toNat, by omega⟩
    have hj : j < ns.length := by omega
    have e : nodeAt ns s.t = ns[j] := by rw [ej]; simp [nodeAt, hj]
    obtain ⟨r, hr⟩ := enc_at hj
    have h3 : 1 ≤ ns.length * 3 - j * 3 := by omega
    simp [ea, hja, strs_at hja]
    refine WCall_pure rfl (impl_Pool_needs_c ns [] s hl hp hf.t (by simp) (by simp)) (by simp [ea]) (by simp) (by simp) ?_; simp
    rw [e] at hn
    refine br_intro' (fun d => ?_) (fun d => ?_) <;> (have d0 := d) <;> simp only [decide_eq_true_eq, decide_eq_false_iff_not] at d <;> simp [d0]
    · obtain ⟨jb, eb, hjb⟩ := hf.b (by omega)
      have zb := hf.z _ (List.getElem_mem hjb)
      have tb : txAt xs s.b = xs[jb] := by rw [eb]; simp [txAt, hjb]
      simp [eb, hjb, strs_at hjb]
      repeat (refine ck_intro' (by first | omega | (simp; omega) | kernel_rfl) ?_; try simp)
      simp [ej, h3, hr, hj]
      repeat (refine ck_intro' (by first | omega | (simp; omega) | kernel_rfl) ?_; try simp)
      rw [enc_k hj]
      refine impl_joined_k (k := ns[j].k) (a := xs[ja]) (o := some xs[jb]) (by omega) (fun b hb => by cases hb; omega) rfl (by simp [strs]) (by simp) ?_; simp
      repeat (refine ck_intro' (by first | omega | (simp; omega) | kernel_rfl) ?_; try simp)
      exact LeV.ro rfl rfl (by rw [← ea, ← eb, ta, tb]; simp [recF, c3, e, joinB, show ¬ partsF ns[j].k = 1 by omega])
    · have hn1 : partsF ns[j].k = 1 := by
        rw [hn] at hm d
        simp only [partsF] at hm d ⊢
        (repeat' split at hm) <;> simp_all
      repeat (refine ck_intro' (by first | omega | (simp; omega) | kernel_rfl) ?_; try simp)
      simp [ej, h3, hr, hj]
      repeat (refine ck_intro' (by first | omega | (simp; omega) | kernel_rfl) ?_; try simp)
      rw [enc_k hj]
      have g5 : ns[j].k = 5 ∨ ns[j].k = 7 := by
        simp only [partsF] at hn1
        (repeat' split at hn1) <;> simp_all
      refine impl_joined_k (k := ns[j].k) (a := xs[ja]) (o := none) (by omega) (by simp) rfl (by simp [strs]) (by simp) ?_; simp
      repeat (refine ck_intro' (by first | omega | (simp; omega) | kernel_rfl) ?_; try simp)
      exact LeV.ro rfl rfl (by rw [← ea, ta]; simp [recF, c3, e, joinB, hn1]; rcases g5 with g | g <;> rw [g] <;> exact ba_ext (by simp [bl_app, sgE]))
  refine br_intro' (fun c4 => ?_) (fun c4 => ?_) <;> (have c40 := c4) <;> simp only [decide_eq_true_eq, decide_eq_false_iff_not] at c4 <;> simp [c40]
  · have hn0 : needsF ns s = 2 := by simp [needsF, c4]
    obtain ⟨ja, ea, hja⟩ := hf.a (by rw [hn0]; decide)
    obtain ⟨jb, eb, hjb⟩ := hf.b (by rw [hn0]; decide)
    have za := hf.z _ (List.getElem_mem hja)
    have zb := hf.z _ (List.getElem_mem hjb)
    have ta : txAt xs s.a = xs[ja] := by rw [ea]; simp [txAt, hja]
    have tb : txAt xs s.b = xs[jb] := by rw [eb]; simp [txAt, hjb]
    simp [ea, eb, hja, hjb, strs_at hja, strs_at hjb]
    repeat (refine ck_intro' (by first | kernel_rfl | ((try simp only [ByteArray.size_append, sz1, sz2]); omega)) ?_; try simp [hjb, strs_at hjb])
    exact LeV.ro rfl rfl (by rw [← ea, ← eb, ta, tb]; simp [recF, c4])
  refine br_intro' (fun c5 => ?_) (fun c5 => ?_) <;> (have c50 := c5) <;> simp only [decide_eq_true_eq, decide_eq_false_iff_not] at c5 <;> simp [c50]
  · have hn0 : needsF ns s = 1 := by simp [needsF, c5]
    obtain ⟨ja, ea, hja⟩ := hf.a (by rw [hn0]; decide)
    have za := hf.z _ (List.getElem_mem hja)
    have ta : txAt xs s.a = xs[ja] := by rw [ea]; simp [txAt, hja]
    simp [ea, hja]
    repeat (refine ck_intro' (by first | kernel_rfl | ((try simp only [ByteArray.size_append, sz1, sz2]); omega)) ?_; simp)
    exact LeV.ro rfl rfl (by rw [← ea, ta]; simp [recF, c5])
  refine br_intro' (fun c6 => ?_) (fun c6 => ?_) <;> (have c60 := c6) <;> simp only [decide_eq_true_eq, decide_eq_false_iff_not] at c6 <;> simp [c60]
  · have hn0 : needsF ns s = 1 := by simp [needsF, c6]
    obtain ⟨ja, ea, hja⟩ := hf.a (by rw [hn0]; decide)
    have za := hf.z _ (List.getElem_mem hja)
    have ta : txAt xs s.a = xs[ja] := by rw [ea]; simp [txAt, hja]
    simp [ea, hja]
    repeat (refine ck_intro' (by first | kernel_rfl | ((try simp only [ByteArray.size_append, sz1, sz2]); omega)) ?_; simp)
    exact LeV.ro rfl rfl (by rw [← ea, ta]; simp [recF, c6])
  refine br_intro' (fun c7 => ?_) (fun c7 => ?_) <;> (have c70 := c7) <;> simp only [decide_eq_true_eq, decide_eq_false_iff_not] at c7 <;> simp [c70]
  · have hn0 : needsF ns s = 2 := by simp [needsF, c7]
    obtain ⟨ja, ea, hja⟩ := hf.a (by rw [hn0]; decide)
    obtain ⟨jb, eb, hjb⟩ := hf.b (by rw [hn0]; decide)
    have za := hf.z _ (List.getElem_mem hja)
    have zb := hf.z _ (List.getElem_mem hjb)
    have ta : txAt xs s.a = xs[ja] := by rw [ea]; simp [txAt, hja]
    have tb : txAt xs s.b = xs[jb] := by rw [eb]; simp [txAt, hjb]
    simp [ea, eb, hja, hjb, strs_at hja, strs_at hjb]
    repeat (refine ck_intro' (by first | kernel_rfl | ((try simp only [ByteArray.size_append, sz1, sz2]); omega)) ?_; try simp [hjb, strs_at hjb])
    exact LeV.ro rfl rfl (by rw [← ea, ← eb, ta, tb]; simp [recF, c7])
  have c8 : s.r = 8 := by
    have := hf.n
    simp only [needsF] at this
    by_cases g : s.r = 8
    · exact g
    · simp [c, c2, c3, c4, c5, c6, c7, g] at this
  have hn0 : needsF ns s = 1 := by simp [needsF, c8]
  obtain ⟨ja, ea, hja⟩ := hf.a (by rw [hn0]; decide)
  have za := hf.z _ (List.getElem_mem hja)
  have ta : txAt xs s.a = xs[ja] := by rw [ea]; simp [txAt, hja]
  simp [ea, hja]
  repeat (refine ck_intro' (by first | kernel_rfl | ((try simp only [ByteArray.size_append, sz1, sz2]); omega)) ?_; simp)
  exact LeV.ro rfl rfl (by rw [← ea, ta]; simp [recF, c8])
theorem impl_Pool_recipe_k {ns : List Nd} {ks : List Int} {s : Sp} {xs : List ByteArray} (hl : ns.length < 9223372036854775807) (hk : ks.length < 9223372036854775807) (hx : xs.length < 9223372036854775807) (hp : poolF ns = true) (hf : SFit ns ks xs s) {S : FuncId → Bool} {H : List Blk} {K : A → Dl → Prop} {zs : List A} (hS : S 21 = false) (hv : viewL (viewA 8 H) zs = some [.pt [.sl ns.length (enc ns)], aI ks, aSt s, aTx xs]) (ho : noOwns zs = true ∨ nosl (.str (recF ns ks s (txAt xs s.a) (txAt xs s.b))) = true) (hK : K (.str (recF ns ks s (txAt xs s.a) (txAt xs s.b))) (.news [])) : @WCall' Go.Proofs.Tryd.prog S 21 zs H ⟨K⟩ :=
  WCall_pure hS (impl_Pool_recipe_c ns ks s xs hl hk hx hp hf) hv ho (by simp) hK
end Go.Proofs.YtijileoflejgpaaDoor.C

set_option linter.unusedVariables false
set_option linter.unusedSimpArgs false
set_option maxRecDepth 4000
namespace Go.Proofs.YtijileoflejgpaaDoor.C
open Go.Sym Go.Proofs.YtijileoflejgpaaDoor.I
theorem needs_ge {ns : List Nd} {s : Sp} (h : 0 < needsF ns s) : s.r = 3 ∨ s.r = 4 ∨ s.r = 5 ∨ s.r = 6 ∨ s.r = 7 ∨ s.r = 8 := by
  unfold needsF at h
  (repeat' split at h) <;> omega
theorem needs_gt {ns : List Nd} {s : Sp} (h : 1 < needsF ns s) : s.r = 3 ∧ partsF (nodeAt ns s.t).k ≠ 1 ∨ s.r = 4 ∨ s.r = 7 := by
  unfold needsF at h
  (repeat' split at h) <;> omega
theorem rec_bigA {ns : List Nd} (ks : List Int) {s : Sp} {a : ByteArray} (b : ByteArray) (h : 0 < needsF ns s) (ha : 2000 < a.size) : 2000 < (recF ns ks s a b).size := by
  rcases needs_ge h with g | g | g | g | g | g <;> simp only [recF, g] <;> simp <;> (try split) <;> (try simp only [ByteArray.size_append]) <;> omega
theorem rec_bigB {ns : List Nd} (ks : List Int) {s : Sp} (a : ByteArray) {b : ByteArray} (h : 1 < needsF ns s) (hb : 2000 < b.size) : 2000 < (recF ns ks s a b).size := by
  rcases needs_gt h with ⟨g, g2⟩ | g | g <;> simp only [recF, g] <;> simp <;> (try rw [if_neg g2]) <;> (try simp only [ByteArray.size_append]) <;> omega
theorem rec_congr {ns : List Nd} (ks : List Int) {s : Sp} {a b a' b' : ByteArray} (hn : 0 ≤ needsF ns s) (hm : s.r = 3 → 0 < needsF ns s) (ha : 0 < needsF ns s → a = a') (hb : 1 < needsF ns s → b = b') : recF ns ks s a b = recF ns ks s a' b' := by
  by_cases h1 : 0 < needsF ns s
  · obtain rfl := ha h1
    by_cases h2 : 1 < needsF ns s
    · rw [hb h2]
    · have h3 : needsF ns s = 1 := by omega
      rcases needs_1 h3 with g | g | g | g <;> simp only [recF, g] <;> simp
      rw [if_pos (by simpa [needsF, g] using h3), if_pos (by simpa [needsF, g] using h3)]
  · rcases needs_0 (show needsF ns s = 0 by omega) with g | g | g
    · simp only [recF, g]; simp
    · simp only [recF, g]; simp
    · exact absurd (hm g) h1
/-- A text that is too long. -/
def cutB (x : ByteArray) : ByteArray := if 2000 < x.size then x.extract 0 2000 ++ ⟨#[46]⟩ else x
/-- The texts of the first steps. -/
def txGo (ns : List Nd) (ks : List Int) (ss : List Sp) : Nat → List ByteArray
  | 0 => []
  | i + 1 => txGo ns ks ss i ++ [cutB (recF ns ks (spAt ss i) (txAt (txGo ns ks ss i) (spAt ss i).a) (txAt (txGo ns ks ss i) (spAt ss i).b))]
theorem txGo_len (ns : List Nd) (ks : List Int) (ss : List Sp) (n : Nat) : (txGo ns ks ss n).length = n := by
  induction n with
  | zero => rfl
  | succ n ih => simp [txGo, ih]
theorem cutB_size (x : ByteArray) : (cutB x).size ≤ 2001 := by
  unfold cutB
  split
  · have := sz1 46
    simp only [ByteArray.size_append, ByteArray.size_extract]
    omega
  · omega
theorem cutB_big (x : ByteArray) : 2000 < (cutB x).size ↔ 2000 < x.size := by
  unfold cutB
  split
  · rename_i h
    have := sz1 46
    simp only [ByteArray.size_append, ByteArray.size_extract]
    omega
  · exact Iff.rfl
theorem txGo_size (ns : List Nd) (ks : List Int) (ss : List Sp) (n : Nat) : ∀ x ∈ txGo ns ks ss n, x.size ≤ 2001 := by
  induction n with
  | zero => intro x h; cases h
  | succ n ih =>
    intro x h
    simp only [txGo, List.mem_append, List.mem_singleton] at h
    rcases h with h | rfl
    · exact ih x h
    · exact cutB_size _
def recipeF (ns : List Nd) (ks : List Int) (ss : List Sp) : ByteArray × Bool :=
  if ss ≠ [] ∧ proofF ns ks ss = true then
    if 2000 < (txAt (txGo ns ks ss ss.length) ((ss.length - 1 : Nat) : Int)).size then (⟨#[]⟩, false) else (txAt (txGo ns ks ss ss.length) ((ss.length - 1 : Nat) : Int), true)
  else (⟨#[]⟩, false)
/-- A step of a proof has a text. -/
theorem proof_fit {ns : List Nd} {ks : List Int} {ss : List Sp} (h : proofF ns ks ss = true) {i : Nat} (hi : i < ss.length) {xs : List ByteArray} (hx : i ≤ xs.length) (hz : ∀ x ∈ xs, x.size ≤ 4000) : SFit ns ks xs ss[i] := by
  simp only [proofF, Bool.and_eq_true, decide_eq_true_eq] at h
  obtain ⟨⟨hkp, h5⟩, hall⟩ := h
  have hp := kpF_pool hkp
  have hP := allF_all hall hi
  obtain ⟨ht, hw⟩ := well_at (prF_well hi hP) hi
  simp only [prF, stepOkF, Bool.and_eq_true, holdsF, spAt_lt hi] at hP
  obtain ⟨⟨h1, h2, h3⟩, h4⟩ := hP
  have hR : (nodeAt ns ss[i].t).k = 1 ∨ 0 < partsF (nodeAt ns ss[i].t).k := by
    have h' := ht
    simp [hasF, inF] at h'
    obtain ⟨j, ej⟩ : ∃ j : Nat, ss[i].t = j := ⟨ss[i].t.toNat, by omega⟩
    have hj : j < ns.length := by omega
    have := (okFrom_all hp hj).1
    rw [ej, nodeAt_nat hj]
    simp only [rightF] at this
    simp only [partsF] at this ⊢
    (repeat' split at this) <;> simp_all
  refine ⟨ht, fun e => ?_, fun e => ?_, ?_, fun e => ?_, fun e => ?_, fun e => ?_, hz⟩
  · simpa [ruleF, e] using h3
  · simp [ruleF, e, pubF, inF] at h3
    exact ⟨h3.1, by omega, by omega⟩
  · rcases hw with g | ⟨g, _⟩ | ⟨g, _⟩ | g <;> omega
  · simp [ruleF, e] at h3
    rcases hR with g | g
    · exact absurd g h3.1.1
    · simpa [needsF, e] using g
  · rcases hw with g | ⟨g, a, ea, ha⟩ | ⟨g, ⟨a, ea, ha⟩, _⟩ | g
    · omega
    · exact ⟨a, ea, by omega⟩
    · exact ⟨a, ea, by omega⟩
    · have : needsF ns ss[i] ≤ 2 := by
        simp only [needsF, partsF]
        (repeat' split) <;> omega
      omega
  · rcases hw with g | ⟨g, a, ea, ha⟩ | ⟨g, _, ⟨a, ea, ha⟩⟩ | g
    · omega
    · omega
    · exact ⟨a, ea, by omega⟩
    · have : needsF ns ss[i] ≤ 2 := by
        simp only [needsF, partsF]
        (repeat' split) <;> omega
      omega
theorem spec_RecipeOf_c (ns : List Nd) (ks : List Int) (ss : List Sp) (hl : ns.length < 9223372036854775807) (hk : ks.length < 9223372036854775807) (hls : ss.length < 9223372036854775807) : T 6 [aP ns, aI ks, aSs ss] [] (.tup [.str (recipeF ns ks ss).1, .bool (recipeF ns ks ss).2]) ([]) := by
  refine semT' (S := S0) hm spec_RecipeOf_ok (Nat.le_of_ble_eq_true rfl) ?_
  unfold spec_RecipeOf; dsimp only
  simp
  refine br_intro' (fun u => ?_) (fun u => ?_) <;> (have u0 := u) <;> simp at u <;> simp [u0, u]
  · exact LeV.ro rfl rfl (by simp [recipeF])
  refine spec_l9Proof_k (ns := ns) (ks := ks) (ss := ss) hl hk hls rfl (by simp) (by simp [noslBlks]) ?_; simp [shiftB]
  refine br_intro' (fun g => ?_) (fun g => ?_) <;> (have g0 := g) <;> simp [g]
  rotate_left
  · exact LeV.ro rfl rfl (by simp [recipeF, g])
  have h5 : ss.length ≤ 500 := by simp [proofF] at g; omega
  refine WLoop_virt 1 [(1, aI ks), (2, aSs ss), (3, A.ptr 0 0 0), (8, A.ref 1 0 0 0), (9, i6 0)] ?_ ?_
  · intro s y hy
    simp [Sym.get] at hy ⊢
    (repeat' split at hy) <;> simp_all
  refine WLoop_fam (fun j : Nat => [(1, aI ks), (2, aSs ss), (3, A.ptr 0 0 0), (8, xref 1 (txGo ns ks ss j)), (9, i6 j)]) (fun j => [⟨0, false, 1, [A.sl ns.length (enc ns)], none⟩, xblk (txGo ns ks ss j)]) (fun j => ss.length - j) (fun j => j ≤ ss.length) ?_ 0 (Nat.zero_le _)
  intro j hj ih
  have htl := txGo_len ns ks ss j
  simp
  refine br_intro' (fun v => ?_) (fun v => ?_) <;> (have v0 := v) <;> simp only [decide_eq_true_eq, decide_eq_false_iff_not] at v <;> simp [v0]
  · have hlt : j < ss.length := by omega
    have hw := wrap_succ (n := j) (by omega)
    obtain ⟨r, hr⟩ := encS_at hlt
    have h4 : 4 ≤ ss.length * 4 - j * 4 := by omega
    have hsp := spAt_lt hlt
    have hf := proof_fit g hlt (xs := txGo ns ks ss j) (by omega) (fun x hx => by have := txGo_size ns ks ss j x hx; omega)
    simp [hlt, hr, h4]
    repeat (refine ck_intro' (by first | omega | (simp; omega) | kernel_rfl) ?_; try simp)
    refine spec_l10Text_k (ns := ns) (ks := ks) (s := ss[j]) (xs := txGo ns ks ss j) hl hk (by omega) hf rfl (by simp) (by simp) ?_; simp
    repeat (refine ck_intro' (by first | omega | (simp; omega) | kernel_rfl) ?_; try simp)
    have e1 := sz1 46
    refine br_intro' (fun d => ?_) (fun d => ?_) <;> (have d0 := d) <;> simp only [decide_eq_true_eq, decide_eq_false_iff_not] at d <;> simp [d0]
    · have e : txGo ns ks ss (j + 1) = txGo ns ks ss j ++ [(recF ns ks ss[j] (txAt (txGo ns ks ss j) ss[j].a) (txAt (txGo ns ks ss j) ss[j].b)).extract 0 2000 ++ ⟨#[46]⟩] := by
        simp only [txGo, hsp, cutB]
        rw [if_pos (by omega)]
      refine ck_intro' (by omega) ?_; (try simp)
      refine ck_intro' (by (try simp only [ByteArray.size_extract]); omega) ?_; (try simp)
      refine ck_intro' (by omega) ?_; (try simp)
      repeat (refine ck_intro' (by first | omega | (simp; omega) | kernel_rfl) ?_; try simp)
      rw [htl]
      rw [hw]
      have e2 : xref 1 (txGo ns ks ss (j + 1)) = A.ref 1 (j + 1) 0 (j + 1) := by rw [e]; simp [htl]
      refine WLoop_drop [⟨0, false, 1, [A.sl ns.length (enc ns)], none⟩, xblk (txGo ns ks ss (j + 1))] [⟨0, false, 1, [.str ((recF ns ks ss[j] (txAt (txGo ns ks ss j) ss[j].a) (txAt (txGo ns ks ss j) ss[j].b)).extract 0 2000 ++ ⟨#[46]⟩)], none⟩] (by rw [e]; simp [strs_snoc, htl]) (by simp) (by simp) (by simp) ?_
      rw [← e2]
      exact ih (j + 1) (by omega) (by omega)
    · have e : txGo ns ks ss (j + 1) = txGo ns ks ss j ++ [recF ns ks ss[j] (txAt (txGo ns ks ss j) ss[j].a) (txAt (txGo ns ks ss j) ss[j].b)] := by
        simp only [txGo, hsp, cutB]
        rw [if_neg (by omega)]
      refine ck_intro' (by omega) ?_; simp
      repeat (refine ck_intro' (by first | omega | (simp; omega) | kernel_rfl) ?_; try simp)
      rw [htl]
      rw [hw]
      have e2 : xref 1 (txGo ns ks ss (j + 1)) = A.ref 1 (j + 1) 0 (j + 1) := by rw [e]; simp [htl]
      refine WLoop_drop [⟨0, false, 1, [A.sl ns.length (enc ns)], none⟩, xblk (txGo ns ks ss (j + 1))] [⟨0, false, 1, [.str (recF ns ks ss[j] (txAt (txGo ns ks ss j) ss[j].a) (txAt (txGo ns ks ss j) ss[j].b))], none⟩] (by rw [e]; simp [strs_snoc, htl]) (by simp) (by simp) (by simp) ?_
      rw [← e2]
      exact ih (j + 1) (by omega) (by omega)
  · have hjj : j = ss.length := by omega
    subst hjj
    have hne : 0 < ss.length := List.length_pos_iff.2 u
    have hw := wrap_len (n := ss.length) (by omega)
    have hlt : ss.length - 1 < (txGo ns ks ss ss.length).length := by omega
    have e : txAt (txGo ns ks ss ss.length) ((ss.length - 1 : Nat) : Int) = (txGo ns ks ss ss.length)[ss.length - 1] := by simp [txAt, hlt]
    rw [htl, hw]
    refine ck_intro' (by omega) ?_; simp [htl, strs_at hlt]
    repeat (refine ck_intro' (by first | omega | (simp; omega) | kernel_rfl) ?_; try simp)
    refine br_intro' (fun d => ?_) (fun d => ?_) <;> (have d0 := d) <;> simp only [decide_eq_true_eq, decide_eq_false_iff_not] at d <;> simp [d0]
    · exact LeV.ro rfl rfl (by simp only [recipeF]; rw [if_pos ⟨u, g⟩, e, if_pos (by omega)]; simp)
    · exact LeV.ro rfl rfl (by simp only [recipeF]; rw [if_pos ⟨u, g⟩, e, if_neg (by omega)]; simp)
theorem spec_RecipeOf_call {ns : List Nd} {ks : List Int} {ss : List Sp} (hl : ns.length < 9223372036854775807) (hk : ks.length < 9223372036854775807) (hls : ss.length < 9223372036854775807) {S : FuncId → Bool} {H : List Blk} {K : A → Dl → Prop} (hS : S 6 = false) (hK : K (.tup [.str (recipeF ns ks ss).1, .bool (recipeF ns ks ss).2]) (.news [])) : @WCall' Go.Proofs.Tryd.prog S 6 [aP ns, aI ks, aSs ss] H ⟨K⟩ :=
  WCall_pure hS (spec_RecipeOf_c ns ks ss hl hk hls) (by simp) (by simp) (by simp) hK
theorem spec_RecipeOf_k {ns : List Nd} {ks : List Int} {ss : List Sp} (hl : ns.length < 9223372036854775807) (hk : ks.length < 9223372036854775807) (hls : ss.length < 9223372036854775807) {S : FuncId → Bool} {H : List Blk} {K : A → Dl → Prop} {zs : List A} (hS : S 6 = false) (hv : viewL (viewA 8 H) zs = some [aP ns, aI ks, aSs ss]) (ho : noOwns zs = true ∨ nosl (.tup [.str (recipeF ns ks ss).1, .bool (recipeF ns ks ss).2]) = true) (hK : K (.tup [.str (recipeF ns ks ss).1, .bool (recipeF ns ks ss).2]) (.news [])) : @WCall' Go.Proofs.Tryd.prog S 6 zs H ⟨K⟩ :=
  WCall_pure hS (spec_RecipeOf_c ns ks ss hl hk hls) hv ho (by simp) hK
end Go.Proofs.YtijileoflejgpaaDoor.C

set_option linter.unusedVariables false
set_option linter.unusedSimpArgs false
namespace Go.Proofs.YtijileoflejgpaaDoor.C
open Go.Sym Go.Proofs.YtijileoflejgpaaDoor.I
def mkI (k : Int) : Nat → List Int
  | 0 => []
  | n + 1 => mkI k n ++ [k + n]
@[simp] theorem mkI_len (k : Int) (n : Nat) : (mkI k n).length = n := by induction n with | zero => rfl | succ n ih => simp [mkI, ih]
@[simp] theorem mkI_take (k : Int) (n : Nat) : (ints (mkI k n)).take n = ints (mkI k n) := List.take_of_length_le (by simp)
theorem mkI_get (k : Int) : ∀ (n j : Nat) (h : j < (mkI k n).length), (mkI k n)[j] = k + j
  | 0, j, h => by simp at h
  | n + 1, j, h => by
    simp only [mkI]
    rcases Nat.lt_or_ge j n with g | g
    · rw [List.getElem_append_left (by simpa using g)]
      exact mkI_get k n j (by simpa using g)
    · have : j = n := by simp at h; omega
      subst this
      simp
theorem mkI_set (k : Int) (ns : List Int) (j : Nat) (h : j < ns.length) : (mkI k j ++ ns.drop j).set j (k + j) = mkI k (j + 1) ++ ns.drop (j + 1) := by
  rw [List.set_append_right _ _ (by simp), mkI_len, Nat.sub_self, List.drop_eq_getElem_cons h, List.set_cons_zero]
  simp [mkI]
abbrev shT : Sh := .st (.p shI (.p shI (.p shI (.p shI .u))))
theorem fit_t {cs : List A} (h : Fit shT cs) : ∃ n : Sp, cs = encT n ∧ In64 n.r ∧ In64 n.t ∧ In64 n.a ∧ In64 n.b := by
  obtain ⟨x, y, rfl, hx, z, t, rfl, hz, u, w, rfl, hu, v, v', rfl, hv, rfl⟩ := h
  obtain ⟨a, rfl, ha⟩ := fit_i hx
  obtain ⟨b, rfl, hb⟩ := fit_i hz
  obtain ⟨c, rfl, hc⟩ := fit_i hu
  obtain ⟨d, rfl, hd⟩ := fit_i hv
  exact ⟨⟨a, b, c, d⟩, rfl, ha, hb, hc, hd⟩
theorem arg_ts {x : A} (h : FitA (.sl shT) x) : ∃ ss : List Sp, x = aSs ss ∧ ss.length < 9223372036854775808 := by
  obtain ⟨xs, e, h1, _⟩ := fit_sl (f := encT) (fun r hr => fit_t hr) (show Fit (.sl shT) [x] from h)
  refine ⟨xs, ?_, h1⟩
  simp only [List.cons.injEq, and_true] at e
  exact e
abbrev tref (b : Nat) (ss : List Sp) : A := .ref b ss.length 0 ss.length
/-- A row of steps that a law made. -/
abbrev uqblk (ss : List Sp) : Blk := ⟨ss.length, false, 4, encS ss, none⟩
theorem laws_szStepS_c (ns : List Sp) (x : Int) (hl : ns.length < 9223372036854775808) (h0 : 0 ≤ x) (h1 : x < 9223372036854775808) : T 5 [aSs ns, i6 x] [] (i6 (szF x ns.length)) ([]) := by
  refine semT' (S := S0) hm laws_szStepS_ok (Nat.le_of_ble_eq_true rfl) ?_
  unfold laws_szStepS; dsimp only
  have hw : IntKind.i64.wrap (x - ns.length) = x - ns.length := wrap64 (by omega) (by omega)
  simp [hw]
  refine br_intro' (fun h => ?_) (fun h => ?_) <;> (have h0 := h) <;> (try simp at h) <;> try simp [h0, h]
  · exact LeV.ro rfl rfl (by simp [szF, h])
  · exact LeV.ro rfl rfl (by simp [szF]; omega)
theorem laws_szStepS_call {ns : List Sp} {x : Int} (hl : ns.length < 9223372036854775808) (h0 : 0 ≤ x) (h1 : x < 9223372036854775808) {S : FuncId → Bool} {H : List Blk} {K : A → Dl → Prop} (hS : S 5 = false) (hK : K (i6 (szF x ns.length)) (.news [])) : @WCall' Go.Proofs.Tryd.prog S 5 [aSs ns, i6 x] H ⟨K⟩ :=
  WCall_pure hS (laws_szStepS_c ns x hl h0 h1) (by simp) (by simp) (by simp) hK
theorem laws_szStepS_k {ns : List Sp} {x : Int} (hl : ns.length < 9223372036854775808) (h0 : 0 ≤ x) (h1 : x < 9223372036854775808) {S : FuncId → Bool} {H : List Blk} {K : A → Dl → Prop} {zs : List A} (hS : S 5 = false) (hv : viewL (viewA 8 H) zs = some [aSs ns, i6 x]) (ho : noOwns zs = true ∨ nosl (i6 (szF x ns.length)) = true) (hK : K (i6 (szF x ns.length)) (.news [])) : @WCall' Go.Proofs.Tryd.prog S 5 zs H ⟨K⟩ :=
  WCall_pure hS (laws_szStepS_c ns x hl h0 h1) hv ho (by simp) hK
theorem laws_toStep_c (n : Sp)  : T 18 [aSt n] [] (aSt n) ([]) := by
  refine semT' (S := S0) hm laws_toStep_ok (Nat.le_of_ble_eq_true rfl) ?_
  unfold laws_toStep; dsimp only
  simp
  exact LeV.ro rfl rfl (by simp)
theorem laws_toStep_call {n : Sp}  {S : FuncId → Bool} {H : List Blk} {K : A → Dl → Prop} (hS : S 18 = false) (hK : K (aSt n) (.news [])) : @WCall' Go.Proofs.Tryd.prog S 18 [aSt n] H ⟨K⟩ :=
  WCall_pure hS (laws_toStep_c n) (by simp) (by simp) (by simp) hK
theorem laws_toStep_k {n : Sp}  {S : FuncId → Bool} {H : List Blk} {K : A → Dl → Prop} {zs : List A} (hS : S 18 = false) (hv : viewL (viewA 8 H) zs = some [aSt n]) (ho : noOwns zs = true ∨ nosl (aSt n) = true) (hK : K (aSt n) (.news [])) : @WCall' Go.Proofs.Tryd.prog S 18 zs H ⟨K⟩ :=
  WCall_pure hS (laws_toStep_c n) hv ho (by simp) hK
theorem laws_eqStep_c (n m : Sp)  : T 23 [aSt n, aSt m] [] (.bool (decide (n = m))) ([]) := by
  refine semT' (S := S0) hm laws_eqStep_ok (Nat.le_of_ble_eq_true rfl) ?_
  unfold laws_eqStep; dsimp only
  simp
  repeat (any_goals (first | (refine br_intro' (fun h => ?_) (fun h => ?_) <;> (have h0 := h) <;> (try simp at h) <;> try simp [h0, h])))
  all_goals exact LeV.ro rfl rfl (by simp [Sp_eq, *])
theorem laws_eqStep_call {n m : Sp}  {S : FuncId → Bool} {H : List Blk} {K : A → Dl → Prop} (hS : S 23 = false) (hK : K (.bool (decide (n = m))) (.news [])) : @WCall' Go.Proofs.Tryd.prog S 23 [aSt n, aSt m] H ⟨K⟩ :=
  WCall_pure hS (laws_eqStep_c n m) (by simp) (by simp) (by simp) hK
theorem laws_eqStep_k {n m : Sp}  {S : FuncId → Bool} {H : List Blk} {K : A → Dl → Prop} {zs : List A} (hS : S 23 = false) (hv : viewL (viewA 8 H) zs = some [aSt n, aSt m]) (ho : noOwns zs = true ∨ nosl (.bool (decide (n = m))) = true) (hK : K (.bool (decide (n = m))) (.news [])) : @WCall' Go.Proofs.Tryd.prog S 23 zs H ⟨K⟩ :=
  WCall_pure hS (laws_eqStep_c n m) hv ho (by simp) hK
def zT (j : Nat) : List Sp := List.replicate j ⟨0, 0, 0, 0⟩
def upT (ns : List Sp) (j : Nat) : List Sp := ns.take j ++ zT (ns.length - j)
theorem upT_len (ns : List Sp) (j : Nat) (h : j ≤ ns.length) : (upT ns j).length = ns.length := by simp [upT, zT]; omega
theorem upT_zero (ns : List Sp) : upT ns 0 = zT ns.length := by simp [upT]
theorem upT_end (ns : List Sp) : upT ns ns.length = ns := by simp [upT, zT]
theorem encS_zT (j : Nat) : encS (zT j) = (List.replicate j [i6 0, i6 0, i6 0, i6 0]).flatten := by
  induction j with
  | zero => rfl
  | succ j ih => simp only [zT, List.replicate_succ, encS, List.flatMap_cons, List.flatten_cons] at ih ⊢; rw [ih]; rfl
theorem upT_set (ns : List Sp) (j : Nat) (h : j < ns.length) : (upT ns j).set j ns[j] = upT ns (j + 1) := by
  have hl : (ns.take j).length = j := by simp; omega
  have e : ns.length - j = (ns.length - (j + 1)) + 1 := by omega
  simp only [upT, zT]
  rw [List.set_append_right _ _ (by omega), hl, Nat.sub_self, e, List.replicate_succ, List.set_cons_zero, List.take_succ_eq_append_getElem h, List.append_assoc]
  rfl
theorem encS_set : ∀ (xs : List Sp) (j : Nat) (n : Sp), ((((encS xs).set (j * 4) (i6 n.r)).set (j * 4 + 1) (i6 n.t)).set (j * 4 + 2) (i6 n.a)).set (j * 4 + 3) (i6 n.b) = encS (xs.set j n)
  | [], j, n => by simp
  | x :: xs, 0, n => rfl
  | x :: xs, j + 1, n => by
    have := encS_set xs j n
    have e : (j + 1) * 4 = j * 4 + 1 + 1 + 1 + 1 := by omega
    show (((([i6 x.r, i6 x.t, i6 x.a, i6 x.b] ++ encS xs).set ((j + 1) * 4) _).set ((j + 1) * 4 + 1) _).set ((j + 1) * 4 + 2) _).set ((j + 1) * 4 + 3) _ = [i6 x.r, i6 x.t, i6 x.a, i6 x.b] ++ encS (xs.set j n)
    rw [e, ← this]
    rfl
theorem laws_toStepS_c (ns : List Sp) (hl : ns.length ≤ 4294967296) : T 9 [aSs ns] [] (tref 0 ns) ([uqblk ns]) := by
  refine semT' (S := S0) hm laws_toStepS_ok (Nat.le_of_ble_eq_true rfl) ?_
  unfold laws_toStepS; dsimp only
  have h1 : ((ns.length : Int)) * 32 ≤ 17592186044416 := by omega
  have h2 : (ns.length : Int) ≤ 4294967296 := by omega
  simp
  refine ck_intro' (by omega) ?_; simp
  rw [← encS_zT, ← upT_zero]
  refine WLoop_fam (fun j : Nat => [(0, aSs ns), (3, A.ref 0 0 0 ns.length), (4, i6 j)]) (fun j => [⟨0, false, 4, encS (upT ns j), none⟩]) (fun j => ns.length - j)
    (fun j => j ≤ ns.length) ?_ 0 (Nat.zero_le _)
  intro j hj ih
  simp [upT_len ns j hj]
  refine br_intro' (fun h => ?_) (fun h => ?_) <;> (have h0 := h) <;> (try simp at h) <;> try simp [h0, h]
  · obtain ⟨r, hr⟩ := encS_at h
    have h3 : 4 ≤ ns.length * 4 - j * 4 := by omega
    have hw : IntKind.i64.wrap ((j : Int) + 1) = j + 1 := wrap64 (by omega) (by omega)
    have h' := h
    simp [h3, hr, h']
    refine laws_toStep_call (n := ns[j]) rfl ?_; simp [upT_len ns j hj, h']
    refine ck_intro' (by omega) ?_; simp
    rw [hw, encS_set, upT_set ns j h']
    exact ih (j + 1) h' (by omega)
  · have h0 : j = ns.length := by omega
    subst h0
    rw [upT_end]
    first | (refine LeV.tell [none] ?_ ?_ ?_ <;> (simp; done)) | (refine LeV.tell [some 0] ?_ ?_ ?_ <;> (simp; done)) | (refine LeV.tell [some 1] ?_ ?_ ?_ <;> (simp; done)) | (refine LeV.tell [some 2] ?_ ?_ ?_ <;> (simp; done)) | (refine LeV.tell [some 3] ?_ ?_ ?_ <;> (simp; done)) | (refine LeV.tell [some 4] ?_ ?_ ?_ <;> (simp; done)) | (refine LeV.tell [some 5] ?_ ?_ ?_ <;> (simp; done)) | (refine LeV.tell [some 6] ?_ ?_ ?_ <;> (simp; done)) | (refine LeV.tell [some 7] ?_ ?_ ?_ <;> (simp; done)) | (refine LeV.tell [some 8] ?_ ?_ ?_ <;> (simp; done)) | (refine LeV.tell [some 9] ?_ ?_ ?_ <;> (simp; done)) | (refine LeV.tell [some 10] ?_ ?_ ?_ <;> (simp; done)) | (refine LeV.tell [some 11] ?_ ?_ ?_ <;> (simp; done)) | (refine LeV.tell [some 12] ?_ ?_ ?_ <;> (simp; done)) | (refine LeV.tell [some 13] ?_ ?_ ?_ <;> (simp; done)) | (refine LeV.tell [some 14] ?_ ?_ ?_ <;> (simp; done)) | (refine LeV.tell [some 15] ?_ ?_ ?_ <;> (simp; done))
theorem laws_toStepS_k {ns : List Sp} (hl : ns.length ≤ 4294967296) {S : FuncId → Bool} {H : List Blk} {K : A → Dl → Prop} {zs : List A} (hS : S 9 = false) (hv : viewL (viewA 8 H) zs = some [aSs ns]) (ho : noOwns zs = true ∨ nosl (tref 0 ns) = true ∧ noslBlks ([uqblk ns]) = true) (hK : K (shiftA H.length (tref 0 ns)) (.news (([uqblk ns]).map (shiftB H.length)))) : @WCall' Go.Proofs.Tryd.prog S 9 zs H ⟨K⟩ :=
  WCall_ro' hS hv (laws_toStepS_c ns hl) rfl ho hK
theorem laws_eqStepS_c (ns ms : List Sp) (hl : ns.length < 9223372036854775807) (hl2 : ms.length < 9223372036854775807) : T 13 [aSs ns, aSs ms] [] (.bool (decide (ns = ms))) ([]) := by
  refine semT' (S := S0) hm laws_eqStepS_ok (Nat.le_of_ble_eq_true rfl) ?_
  unfold laws_eqStepS; dsimp only
  simp
  refine br_intro' (fun h => ?_) (fun h => ?_) <;> (try simp at h) <;> (try simp [h])
  · refine WLoop_fam (fun j : Nat => [(0, aSs ns), (1, aSs ms), (5, i6 j)]) (fun _ => []) (fun j => ns.length - j)
      (fun j => j ≤ ns.length ∧ ns.take j = ms.take j) ?_ 0 ⟨Nat.zero_le _, by simp⟩
    intro j ⟨hj, hf⟩ ih
    simp
    have hq : ns.length = ms.length := by omega
    refine br_intro' (fun h => ?_) (fun h => ?_) <;> (have h0 := h) <;> (try simp at h) <;> try simp [h0, h]
    · obtain ⟨r, hr⟩ := encS_at h
      have hm : j < ms.length := by omega
      obtain ⟨r2, hr2⟩ := encS_at hm
      have h3 : 4 ≤ ms.length * 4 - j * 4 := by omega
      have h4 : 4 ≤ ns.length * 4 - j * 4 := by omega
      have hw : IntKind.i64.wrap ((j : Int) + 1) = j + 1 := wrap64 (by omega) (by omega)
      have h' := h
      simp [h3, h4, hr, h', hr2, hm]
      refine laws_eqStep_call (n := ns[j]) (m := ms[j]) rfl ?_; simp
      first | (refine ck_intro' (by kernel_rfl) ?_; try simp) | skip
      refine br_intro' (fun g => ?_) (fun g => ?_) <;> simp at g <;> simp [g]
      · rw [hw]
        exact ih (j + 1) ⟨h', by rw [List.take_succ_eq_append_getElem h', List.take_succ_eq_append_getElem hm, hf, g]⟩ (by omega)
      · exact LeV.ro rfl rfl (by simp; intro e; subst e; exact g rfl)
    · have h0 : j = ns.length := by omega
      exact LeV.ro rfl rfl (by rw [h0, List.take_length, hq, List.take_length] at hf; simp [hf])
  · exact LeV.ro rfl rfl (by simp; intro e; rw [e] at h; exact h rfl)
theorem laws_eqStepS_call {ns ms : List Sp} (hl : ns.length < 9223372036854775807) (hl2 : ms.length < 9223372036854775807) {S : FuncId → Bool} {H : List Blk} {K : A → Dl → Prop} (hS : S 13 = false) (hK : K (.bool (decide (ns = ms))) (.news [])) : @WCall' Go.Proofs.Tryd.prog S 13 [aSs ns, aSs ms] H ⟨K⟩ :=
  WCall_pure hS (laws_eqStepS_c ns ms hl hl2) (by simp) (by simp) (by simp) hK
theorem laws_eqStepS_k {ns ms : List Sp} (hl : ns.length < 9223372036854775807) (hl2 : ms.length < 9223372036854775807) {S : FuncId → Bool} {H : List Blk} {K : A → Dl → Prop} {zs : List A} (hS : S 13 = false) (hv : viewL (viewA 8 H) zs = some [aSs ns, aSs ms]) (ho : noOwns zs = true ∨ nosl (.bool (decide (ns = ms))) = true) (hK : K (.bool (decide (ns = ms))) (.news [])) : @WCall' Go.Proofs.Tryd.prog S 13 zs H ⟨K⟩ :=
  WCall_pure hS (laws_eqStepS_c ns ms hl hl2) hv ho (by simp) hK
def mkTs (k : Int) : Nat → List Sp
  | 0 => []
  | n + 1 => mkTs k n ++ [⟨k + 4 * n, k + 4 * n + 1, k + 4 * n + 2, k + 4 * n + 3⟩]
@[simp] theorem mkTs_len (k : Int) (n : Nat) : (mkTs k n).length = n := by induction n with | zero => rfl | succ n ih => simp [mkTs, ih]
@[simp] theorem mkTs_take (k : Int) (n : Nat) : (encS (mkTs k n)).take (n * 4) = encS (mkTs k n) := List.take_of_length_le (by simp)
theorem mkTs_get (k : Int) : ∀ (n j : Nat) (h : j < (mkTs k n).length), (mkTs k n)[j] = ⟨k + 4 * j, k + 4 * j + 1, k + 4 * j + 2, k + 4 * j + 3⟩
  | 0, j, h => by simp at h
  | n + 1, j, h => by
    simp only [mkTs]
    rcases Nat.lt_or_ge j n with g | g
    · rw [List.getElem_append_left (by simpa using g)]
      exact mkTs_get k n j (by simpa using g)
    · have : j = n := by simp at h; omega
      subst this
      simp
theorem mkTs_set (k : Int) (ns : List Sp) (j : Nat) (h : j < ns.length) : (mkTs k j ++ ns.drop j).set j ⟨k + 4 * j, k + 4 * j + 1, k + 4 * j + 2, k + 4 * j + 3⟩ = mkTs k (j + 1) ++ ns.drop (j + 1) := by
  rw [List.set_append_right _ _ (by simp), mkTs_len, Nat.sub_self, List.drop_eq_getElem_cons h, List.set_cons_zero]
  simp [mkTs]
theorem encS_gets {ns : List Sp} {j : Nat} (h : j < ns.length) : (encS ns)[j * 4]? = some (i6 ns[j].r) ∧ (encS ns)[j * 4 + 1]? = some (i6 ns[j].t) ∧ (encS ns)[j * 4 + 2]? = some (i6 ns[j].a) ∧ (encS ns)[j * 4 + 3]? = some (i6 ns[j].b) := by
  obtain ⟨r, hr⟩ := encS_at h
  have e : ∀ i, (encS ns)[j * 4 + i]? = (i6 ns[j].r :: i6 ns[j].t :: i6 ns[j].a :: i6 ns[j].b :: r)[i]? := fun i => by rw [← hr, List.getElem?_drop]
  exact ⟨e 0, e 1, e 2, e 3⟩
theorem encS_r {ns : List Sp} {j : Nat} (h : j < ns.length) {h' : j * 4 < (encS ns).length} : (encS ns)[j * 4] = i6 ns[j].r := by
  have := (encS_gets h).1
  rw [List.getElem?_eq_getElem h'] at this
  simpa using this
theorem encS_t {ns : List Sp} {j : Nat} (h : j < ns.length) {h' : j * 4 + 1 < (encS ns).length} : (encS ns)[j * 4 + 1] = i6 ns[j].t := by
  have := (encS_gets h).2.1
  rw [List.getElem?_eq_getElem h'] at this
  simpa using this
theorem encS_a {ns : List Sp} {j : Nat} (h : j < ns.length) {h' : j * 4 + 2 < (encS ns).length} : (encS ns)[j * 4 + 2] = i6 ns[j].a := by
  have := (encS_gets h).2.2.1
  rw [List.getElem?_eq_getElem h'] at this
  simpa using this
theorem encS_b {ns : List Sp} {j : Nat} (h : j < ns.length) {h' : j * 4 + 3 < (encS ns).length} : (encS ns)[j * 4 + 3] = i6 ns[j].b := by
  have := (encS_gets h).2.2.2
  rw [List.getElem?_eq_getElem h'] at this
  simpa using this
end Go.Proofs.YtijileoflejgpaaDoor.C
