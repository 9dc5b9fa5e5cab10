/- Whether a step holds, in the program. Conditions: those that each theorem names. -/
import Derived.Test.YtfbfebaajdihiaaXD3E2
import Derived.Test.YtfbfebaajdihiaaXSymW
set_option linter.unusedVariables false
set_option linter.unusedSimpArgs false
set_option maxRecDepth 4000
namespace Go.Proofs.Ytfbfebaajdihiaa.C
open Go.Sym Go.Proofs.Ytfbfebaajdihiaa.I
/-- The terms of the steps that a step names; false: it may not. -/
def termsV (ns : List Nd) (ss : List Sp) (s : Sp) : Int × Int × Bool :=
  if needsF ns s < 0 ∨ (needsF ns s < 1 ∧ s.a ≠ 0) ∨ (needsF ns s < 2 ∧ s.b ≠ 0) then (0, 0, false)
  else if 0 < needsF ns s ∧ inF s.a 0 ((ss.length : Int) - 1) = false then (0, 0, false)
  else if 1 < needsF ns s ∧ inF s.b 0 ((ss.length : Int) - 1) = false then (0, 0, false)
  else (if 0 < needsF ns s then termAt ss ss.length s.a else -1, if 1 < needsF ns s then termAt ss ss.length s.b else -1, true)
theorem termAt_neg {ss : List Sp} {m : Nat} {k : Int} (h : inF k 0 ((m : Int) - 1) = false) : termAt ss m k = -1 := by simp [termAt, h]
theorem termAt_in {ns : List Nd} {ss : List Sp} {m : Nat} (hml : m ≤ ss.length) (hss : ∀ j : Nat, j < m → (h : j < ss.length) → hasF ns.length ss[j].t = true) (k : Int) : (inF k 0 ((m : Int) - 1) = false ∧ termAt ss m k = -1) ∨ inF k 0 ((m : Int) - 1) = true ∧ hasF ns.length (termAt ss m k) = true := by
  cases h : inF k 0 ((m : Int) - 1) with
  | false => exact .inl ⟨rfl, by simp [termAt, h]⟩
  | true =>
    right
    have h' := h
    simp [inF] at h'
    obtain ⟨j, rfl⟩ : ∃ j : Nat, k = j := ⟨k.toNat, by omega⟩
    have hj : j < ss.length := by omega
    have := hss j (by omega) hj
    refine ⟨rfl, ?_⟩
    simp [termAt, h, hj]
    exact this
theorem partsF_0 {k : Int} (h : partsF k = 0) : k = 1 := by
  unfold partsF at h
  split at h
  · assumption
  · split at h
    · omega
    · split at h <;> omega
theorem partsF_ne {k : Int} (h : partsF k ≠ 0) : k ≠ 1 := fun e => h (by simp [partsF, e])
theorem hasF_pos {m : Nat} {t : Int} (h : hasF m t = true) : ¬ t < 0 := by simp [hasF, inF] at h; omega
end Go.Proofs.Ytfbfebaajdihiaa.C

set_option linter.unusedVariables false
set_option linter.unusedSimpArgs false
set_option maxRecDepth 4000
namespace Go.Proofs.Ytfbfebaajdihiaa.C
open Go.Sym Go.Proofs.Ytfbfebaajdihiaa.I
def stepOkF (ns : List Nd) (ks : List Int) (ss : List Sp) (s : Sp) : Bool := hasF ns.length s.t && holdsF ns ks s (termAt ss ss.length s.a) (termAt ss ss.length s.b)
end Go.Proofs.Ytfbfebaajdihiaa.C

set_option linter.unusedVariables false
set_option linter.unusedSimpArgs false
set_option maxRecDepth 4000
namespace Go.Proofs.Ytfbfebaajdihiaa.C
open Go.Sym Go.Proofs.Ytfbfebaajdihiaa.I
abbrev spAt (ss : List Sp) (i : Nat) : Sp := ss.getD i ⟨0, 0, 0, 0⟩
theorem spAt_lt {ss : List Sp} {i : Nat} (h : i < ss.length) : spAt ss i = ss[i] := by simp [spAt, h]
def freshF (ss : List Sp) (i : Nat) : Bool := decide (∀ x ∈ ss.take i, x.t ≠ (spAt ss i).t)
def prF (ns : List Nd) (ks : List Int) (ss : List Sp) (i : Nat) : Bool := stepOkF ns ks (ss.take i) (spAt ss i) && freshF ss i
/-- A list of steps that is a proof. -/
def proofF (ns : List Nd) (ks : List Int) (ss : List Sp) : Bool := kpF ns ks && decide (ss.length ≤ 500) && allF (prF ns ks ss) ss.length 0
theorem termAt_take {ss : List Sp} {i : Nat} (h : i ≤ ss.length) (k : Int) : termAt (ss.take i) (ss.take i).length k = termAt ss i k := by
  have e : (ss.take i).length = i := by simp; omega
  rw [e]
  unfold termAt
  split
  · rename_i g
    simp [inF] at g
    have : k.toNat < i := by omega
    simp [List.getElem?_take, this]
  · rfl
def mkT (xs : List Sp) : List (List Int × Int) := xs.map fun n => ([n.t], 1)
theorem mcnt_mkT (t : Int) : ∀ (xs : List Sp), mcnt (mkT xs) [t] = if ∃ x ∈ xs, x.t = t then 1 else 0
  | [] => by simp [mkT]
  | x :: xs => by
    by_cases h : t = x.t
    · subst h; simp [mkT, mcnt]
    · have := mcnt_mkT t xs
      simp only [mkT] at this
      have h' : ¬ x.t = t := fun e => h e.symm
      simp [mkT, mcnt, h, h', this]
theorem mcnt_c (ks : List Int) (v : Int) (l : List (List Int × Int)) : mcnt ((ks, v) :: l) ks = v := by simp [mcnt]
def proofI (ns : List Nd) (ks : List Int) (ss : List Sp) : Bool := inF ss.length 1 500 && allF (prF ns ks ss) ss.length 0
/-- What ProofCheck answers. -/
def checkF (ns : List Nd) (ks : List Int) (ss : List Sp) (t : Int) : Bool := decide (ss ≠ []) && proofF ns ks ss && decide ((spAt ss (ss.length - 1)).t = t)
end Go.Proofs.Ytfbfebaajdihiaa.C

set_option linter.unusedVariables false
set_option linter.unusedSimpArgs false
set_option maxRecDepth 4000
namespace Go.Proofs.Ytfbfebaajdihiaa.C
open Go.Sym Go.Proofs.Ytfbfebaajdihiaa.I
abbrev tblk (ss : List Sp) : Blk := ⟨ss.length, decide (ss.length = 0), 4, encS ss, none⟩
abbrev tref' (b : Nat) (ss : List Sp) : A := .ref b ss.length 0 ss.length
/-- What a step asks of those ahead of it. -/
def wellF (ns : List Nd) (ss : List Sp) (i : Nat) : Bool :=
  hasF ns.length (spAt ss i).t && decide (0 ≤ needsF ns (spAt ss i)) && (decide (needsF ns (spAt ss i) < 1) || inF (spAt ss i).a 0 ((i : Int) - 1)) && (decide (needsF ns (spAt ss i) < 2) || inF (spAt ss i).b 0 ((i : Int) - 1))
def keepStep (ns : List Nd) (ss : List Sp) (kb : List Bool) (i : Nat) : List Bool :=
  if kb.getD i false = true then
    if 0 < needsF ns (spAt ss i) then
      if 1 < needsF ns (spAt ss i) then (kb.set (spAt ss i).a.toNat true).set (spAt ss i).b.toNat true else kb.set (spAt ss i).a.toNat true
    else kb
  else kb
def keepGo (ns : List Nd) (ss : List Sp) : Nat → List Bool → List Bool
  | 0, kb => kb
  | n + 1, kb => keepGo ns ss n (keepStep ns ss kb n)
def keepV (ns : List Nd) (ss : List Sp) : List Bool := keepGo ns ss ss.length ((List.replicate ss.length false).set (ss.length - 1) true)
theorem keepStep_len (ns : List Nd) (ss : List Sp) (kb : List Bool) (i : Nat) : (keepStep ns ss kb i).length = kb.length := by
  unfold keepStep
  split
  · split
    · split <;> simp
    · rfl
  · rfl
/-- A step, its places told anew. -/
def moveF (ns : List Nd) (now : List Int) (s : Sp) : Sp := ⟨s.r, s.t, if 0 < needsF ns s then now.getD s.a.toNat 0 else s.a, if 1 < needsF ns s then now.getD s.b.toNat 0 else s.b⟩
def trimGo (ns : List Nd) (ss : List Sp) (kb : List Bool) : Nat → Nat → List Int → List Sp → List Sp
  | 0, _, _, out => out
  | n + 1, j, now, out => if kb.getD j false = true then trimGo ns ss kb n (j + 1) (now.set j out.length) (out ++ [moveF ns now (spAt ss j)]) else trimGo ns ss kb n (j + 1) now out
def trimV (ns : List Nd) (ss : List Sp) : List Sp := trimGo ns ss (keepV ns ss) ss.length 0 (List.replicate ss.length 0) []
/-- What ProofTrim answers. -/
def trimF (ns : List Nd) (ss : List Sp) : List Sp := if ss ≠ [] ∧ ss.length ≤ 500 ∧ poolF ns = true ∧ allF (wellF ns ss) ss.length 0 = true then trimV ns ss else []
theorem allF_all {p : Nat → Bool} {n : Nat} (h : allF p n 0 = true) {i : Nat} (hi : i < n) : p i = true := by
  simp only [allF, List.all_eq_true] at h
  exact h i (by simp [List.mem_range']; omega)
theorem well_at {ns : List Nd} {ss : List Sp} {i : Nat} (h : wellF ns ss i = true) (hi : i < ss.length) : hasF ns.length ss[i].t = true ∧ (needsF ns ss[i] = 0 ∨ (needsF ns ss[i] = 1 ∧ ∃ a : Nat, ss[i].a = a ∧ a < i) ∨ (needsF ns ss[i] = 2 ∧ (∃ a : Nat, ss[i].a = a ∧ a < i) ∧ ∃ b : Nat, ss[i].b = b ∧ b < i) ∨ 2 < needsF ns ss[i]) := by
  simp only [wellF, spAt_lt hi, Bool.and_eq_true, Bool.or_eq_true, decide_eq_true_eq] at h
  obtain ⟨⟨⟨h1, h2⟩, h3⟩, h4⟩ := h
  refine ⟨h1, ?_⟩
  rcases Int.lt_or_le (needsF ns ss[i]) 1 with g | g
  · left; omega
  · right
    have ha := h3.resolve_left (by omega)
    simp [inF] at ha
    have e1 : ∃ a : Nat, ss[i].a = a ∧ a < i := ⟨ss[i].a.toNat, by omega, by omega⟩
    rcases Int.lt_or_le (needsF ns ss[i]) 2 with f | f
    · left; exact ⟨by omega, e1⟩
    · right
      rcases Int.lt_or_le 2 (needsF ns ss[i]) with u | u
      · right; exact u
      · left
        have hb := h4.resolve_left (by omega)
        simp [inF] at hb
        exact ⟨by omega, e1, ss[i].b.toNat, by omega, by omega⟩
end Go.Proofs.Ytfbfebaajdihiaa.C

set_option linter.unusedVariables false
set_option linter.unusedSimpArgs false
set_option maxRecDepth 4000
namespace Go.Proofs.Ytfbfebaajdihiaa.C
open Go.Sym Go.Proofs.Ytfbfebaajdihiaa.I
theorem trimF_bad {ns : List Nd} {ss : List Sp} {j : Nat} (hj : j < ss.length) (hf : allF (wellF ns ss) ss.length 0 = allF (wellF ns ss) ss.length j) (h : wellF ns ss j = false) : trimF ns ss = [] := by
  unfold trimF
  rw [if_neg]
  rintro ⟨_, _, _, q⟩
  rw [hf, allF_at hj, h] at q
  cases q
theorem well_lo {ns : List Nd} {ss : List Sp} {i : Nat} (hi : i < ss.length) (h : needsF ns ss[i] < 0) : wellF ns ss i = false := by
  simp only [wellF, spAt_lt hi]
  rw [show decide (0 ≤ needsF ns ss[i]) = false by simpa using h]
  simp
theorem well_eq {ns : List Nd} {ss : List Sp} {i : Nat} (hi : i < ss.length) (ht : hasF ns.length ss[i].t = true) (h : 0 ≤ needsF ns ss[i]) : wellF ns ss i = ((decide (needsF ns ss[i] < 1) || inF ss[i].a 0 ((i : Int) - 1)) && (decide (needsF ns ss[i] < 2) || inF ss[i].b 0 ((i : Int) - 1))) := by
  simp [wellF, hi, ht, h]
end Go.Proofs.Ytfbfebaajdihiaa.C

set_option linter.unusedVariables false
set_option linter.unusedSimpArgs false
set_option maxRecDepth 4000
namespace Go.Proofs.Ytfbfebaajdihiaa.C
open Go.Sym Go.Proofs.Ytfbfebaajdihiaa.I
/-- The step of a term; below 0: there is none. -/
def sv (st : List Int) (t : Int) : Int := st.getD t.toNat 0
theorem sv_nat {st : List Int} {j : Nat} (h : j < st.length) : sv st j = st[j] := by simp [sv, h]
def optS (o : Option Sp) : Sp := o.getD ⟨0, 0, 0, 0⟩
def upOk (ns : List Nd) (st : List Int) (r t : Int) (i : Nat) : Bool :=
  decide (0 ≤ sv st i) && (decide (r = 5 ∧ (nodeAt ns i).k = 2 ∧ (nodeAt ns i).a = t) || decide (r = 6 ∧ (nodeAt ns i).k = 2 ∧ (nodeAt ns i).b = t) || decide (r = 8 ∧ (nodeAt ns i).k = 4 ∧ (nodeAt ns i).a = t) ||
    (decide (r = 7 ∧ (nodeAt ns i).k = 3 ∧ (nodeAt ns i).a = t) && decide (0 ≤ sv st (nodeAt ns i).b)))
def upGo (ns : List Nd) (st : List Int) (r t : Int) : Nat → Nat → Option Sp
  | 0, _ => none
  | n + 1, i => if upOk ns st r t i = true then some ⟨r, t, sv st i, if r = 7 then sv st (nodeAt ns i).b else 0⟩ else upGo ns st r t n (i + 1)
def upF (ns : List Nd) (st : List Int) (r t : Int) : Option Sp := upGo ns st r t (ns.length - (t.toNat + 1)) (t.toNat + 1)
theorem findF_lt {ns : List Nd} {n : Nd} (h : 0 ≤ findF ns n 0) : ∃ x : Nat, findF ns n 0 = x ∧ x < ns.length := by
  obtain ⟨j, hj, e, _⟩ := findF_at ns n 0 h
  exact ⟨j, by simpa using e, hj⟩
/-- The step that shares. -/
def shareF (ns : List Nd) (st : List Int) (t : Int) : Option Sp :=
  if (nodeAt ns t).k ≠ 8 then none
  else if 0 ≤ sv st (nodeAt ns t).a ∧ 0 ≤ findF ns ⟨7, (nodeAt ns t).b, 0⟩ 0 ∧ 0 ≤ sv st (findF ns ⟨7, (nodeAt ns t).b, 0⟩ 0) then some ⟨4, t, sv st (nodeAt ns t).a, sv st (findF ns ⟨7, (nodeAt ns t).b, 0⟩ 0)⟩
  else if 0 ≤ sv st (nodeAt ns t).b ∧ 0 ≤ findF ns ⟨7, (nodeAt ns t).a, 0⟩ 0 ∧ 0 ≤ sv st (findF ns ⟨7, (nodeAt ns t).a, 0⟩ 0) then some ⟨4, t, sv st (nodeAt ns t).b, sv st (findF ns ⟨7, (nodeAt ns t).a, 0⟩ 0)⟩
  else none
end Go.Proofs.Ytfbfebaajdihiaa.C

set_option linter.unusedVariables false
set_option linter.unusedSimpArgs false
set_option maxRecDepth 4000
namespace Go.Proofs.Ytfbfebaajdihiaa.C
open Go.Sym Go.Proofs.Ytfbfebaajdihiaa.I
/-- The step that makes a term of its parts. -/
def madeF (ns : List Nd) (st : List Int) (t : Int) : Option Sp :=
  if partsF (nodeAt ns t).k = 1 then (if 0 ≤ sv st (nodeAt ns t).a then some ⟨3, t, sv st (nodeAt ns t).a, 0⟩ else none)
  else if partsF (nodeAt ns t).k = 2 then (if 0 ≤ sv st (nodeAt ns t).a ∧ 0 ≤ sv st (nodeAt ns t).b then some ⟨3, t, sv st (nodeAt ns t).a, sv st (nodeAt ns t).b⟩ else none)
  else none
def restF (ns : List Nd) (st : List Int) (t : Int) : Option Sp := (shareF ns st t).or ((upF ns st 5 t).or ((upF ns st 6 t).or ((upF ns st 7 t).or (upF ns st 8 t))))
/-- The step that is first for a term. -/
def stepF (ns : List Nd) (ks : List Int) (st : List Int) (t : Int) : Option Sp :=
  if hasK ks t = true then some ⟨1, t, 0, 0⟩
  else if (nodeAt ns t).k = 1 ∧ pubF (nodeAt ns t).a = true then some ⟨2, t, 0, 0⟩
  else (madeF ns st t).or (restF ns st t)
end Go.Proofs.Ytfbfebaajdihiaa.C

set_option linter.unusedVariables false
set_option linter.unusedSimpArgs false
set_option maxRecDepth 4000
namespace Go.Proofs.Ytfbfebaajdihiaa.C
open Go.Sym Go.Proofs.Ytfbfebaajdihiaa.I
def passGo (ns : List Nd) (ks : List Int) : Nat → Nat → List Int → List Sp → Bool → List Int × List Sp × Bool
  | 0, _, st, out, m => (st, out, m)
  | n + 1, t, st, out, m =>
    if 0 ≤ sv st t then passGo ns ks n (t + 1) st out m
    else match stepF ns ks st t with
      | some s => passGo ns ks n (t + 1) (st.set t out.length) (out ++ [s]) true
      | none => passGo ns ks n (t + 1) st out m
def allGo (ns : List Nd) (ks : List Int) : Nat → List Int → List Sp → List Int × List Sp
  | 0, st, out => (st, out)
  | n + 1, st, out => if (passGo ns ks ns.length 0 st out false).2.2 = true then allGo ns ks n (passGo ns ks ns.length 0 st out false).1 (passGo ns ks ns.length 0 st out false).2.1
    else ((passGo ns ks ns.length 0 st out false).1, (passGo ns ks ns.length 0 st out false).2.1)
def allV (ns : List Nd) (ks : List Int) : List Sp := (allGo ns ks (ns.length + 1) (List.replicate ns.length (-1)) []).2
/-- What ProofAll answers. -/
def allSt (ns : List Nd) (ks : List Int) : List Sp := if kpF ns ks = true then allV ns ks else []
def negs (st : List Int) : Nat := st.countP fun x => decide (x < 0)
theorem negs_set {st : List Int} {t : Nat} (ht : t < st.length) (h : st[t] < 0) {v : Int} (hv : 0 ≤ v) : negs (st.set t v) + 1 = negs st := by
  have hp : 0 < st.countP fun x => decide (x < 0) := List.countP_pos_iff.2 ⟨st[t], List.getElem_mem ht, by simpa using h⟩
  have hv' : ¬ v < 0 := by omega
  simp only [negs]
  rw [List.countP_set ht]
  simp [h, hv']
  omega
theorem negs_rep (n : Nat) : negs (List.replicate n (-1)) = n := by simp [negs, List.countP_replicate]
theorem allGo_end {ns : List Nd} {ks : List Int} {k : Nat} {st st' : List Int} {out out' : List Sp} (h : passGo ns ks ns.length 0 st out false = (st', out', false)) : (allGo ns ks (k + 1) st out).2 = out' := by simp [allGo, h]
theorem allGo_more {ns : List Nd} {ks : List Int} {k : Nat} {st st' : List Int} {out out' : List Sp} (h : passGo ns ks ns.length 0 st out false = (st', out', true)) : (allGo ns ks (k + 1) st out).2 = (allGo ns ks k st' out').2 := by simp [allGo, h]
def fillI (n i : Nat) : List Int := List.replicate i (-1) ++ List.replicate (n - i) 0
theorem fillI_len {n i : Nat} (h : i ≤ n) : (fillI n i).length = n := by simp [fillI]; omega
theorem fillI_set {n i : Nat} (h : i < n) : (fillI n i).set i (-1) = fillI n (i + 1) := by
  have e : n - i = (n - (i + 1)) + 1 := by omega
  simp only [fillI]
  rw [List.set_append_right _ _ (by simp), List.length_replicate, Nat.sub_self, e, List.replicate_succ, List.set_cons_zero, List.replicate_succ' (n := i), List.append_assoc]
  rfl
end Go.Proofs.Ytfbfebaajdihiaa.C

set_option linter.unusedVariables false
set_option linter.unusedSimpArgs false
set_option maxRecDepth 4000
namespace Go.Proofs.Ytfbfebaajdihiaa.C
open Go.Sym Go.Proofs.Ytfbfebaajdihiaa.I
abbrev aV (ns : List Nd) (ks : List Int) (x : A) (st : List Int) : A := .pt [.pt [.sl ns.length (enc ns)], aI ks, x, aI st]
def hasSt (st : List Int) (t : Int) : Bool := decide (0 ≤ t) && decide (0 ≤ sv st t)
def madeS (ns : List Nd) (st : List Int) (t : Int) : Sp := if partsF (nodeAt ns t).k = 0 then ⟨3, t, 0, 0⟩ else optS (madeF ns st t)
/-- From the first term on it comes to the same: no part stands behind its whole. -/
theorem upGo_lo {ns : List Nd} (hp : poolF ns = true) (st : List Int) (r : Int) (t : Nat) : ∀ (n i m : Nat), i + n = t + 1 → t < ns.length → upGo ns st r t (n + m) i = upGo ns st r t m (t + 1)
  | 0, i, m, h, _ => by rw [show i = t + 1 by omega, Nat.zero_add]
  | n + 1, i, m, h, ht => by
    have hi : i < ns.length := by omega
    have en := nodeAt_nat hi
    have hb : upOk ns st r t i = false := by
      have h2 : partsF ns[i].k = 2 → ns[i].a < i ∧ ns[i].b < i := fun e => by
        obtain ⟨⟨a, e1, e2⟩, b, e3, e4⟩ := parts_in hp hi e
        omega
      simp only [upOk, en]
      rw [Bool.and_eq_false_iff]
      right
      simp only [Bool.or_eq_false_iff, Bool.and_eq_false_iff, decide_eq_false_iff_not]
      refine ⟨⟨⟨?_, ?_⟩, ?_⟩, .inl ?_⟩
      · rintro ⟨_, k, e⟩; have := h2 (by rw [k]; rfl); omega
      · rintro ⟨_, k, e⟩; have := h2 (by rw [k]; rfl); omega
      · rintro ⟨_, k, e⟩; have := h2 (by rw [k]; rfl); omega
      · rintro ⟨_, k, e⟩; have := h2 (by rw [k]; rfl); omega
    rw [show n + 1 + m = (n + m) + 1 by omega, upGo, hb]
    simp only [Bool.false_eq_true, if_false]
    exact upGo_lo hp st r t n (i + 1) m (by omega) ht
theorem upF_lo {ns : List Nd} (hp : poolF ns = true) (st : List Int) (r : Int) {t : Nat} (ht : t < ns.length) : upF ns st r t = upGo ns st r t ns.length 0 := by
  have := upGo_lo hp st r t (t + 1) 0 (ns.length - (t + 1)) (by omega) ht
  rw [show t + 1 + (ns.length - (t + 1)) = ns.length by omega] at this
  rw [this]
  simp [upF]
end Go.Proofs.Ytfbfebaajdihiaa.C

set_option linter.unusedVariables false
set_option linter.unusedSimpArgs false
set_option maxRecDepth 4000
namespace Go.Proofs.Ytfbfebaajdihiaa.C
open Go.Sym Go.Proofs.Ytfbfebaajdihiaa.I
end Go.Proofs.Ytfbfebaajdihiaa.C

set_option linter.unusedVariables false
set_option linter.unusedSimpArgs false
set_option maxRecDepth 4000
namespace Go.Proofs.Ytfbfebaajdihiaa.C
open Go.Sym Go.Proofs.Ytfbfebaajdihiaa.I
abbrev vrow (ns : List Nd) (ks : List Int) (x : A) : Blk := ⟨0, false, 1, [A.pt [A.sl ns.length (enc ns)], aI ks, x, A.ref 0 0 0 ns.length], none⟩
end Go.Proofs.Ytfbfebaajdihiaa.C

set_option linter.unusedVariables false
set_option linter.unusedSimpArgs false
namespace Go.Proofs.Ytfbfebaajdihiaa.C
theorem findF_nodeAt {ns : List Nd} {n : Nd} (h : 0 ≤ findF ns n 0) : ∃ x : Nat, findF ns n 0 = x ∧ x < ns.length ∧ nodeAt ns x = n := by
  obtain ⟨j, hj, e, e2⟩ := findF_at ns n 0 h
  exact ⟨j, by simpa using e, hj, by rw [nodeAt_nat hj, e2]⟩
structure PInv (ns : List Nd) (ks : List Int) (st : List Int) (out : List Sp) : Prop where
  len : st.length = ns.length
  idx : ∀ (t : Nat) (h : t < st.length), 0 ≤ st[t] → ∃ i : Nat, ∃ hi : i < out.length, st[t] = i ∧ out[i].t = t
  neg : ∀ (t : Nat) (h : t < st.length), st[t] < 0 → ∀ x ∈ out, x.t ≠ t
  ok : ∀ i : Nat, i < out.length → prF ns ks out i = true
theorem PInv.at {ns : List Nd} {ks st : List Int} {out : List Sp} (I : PInv ns ks st out) {t : Nat} (ht : t < ns.length) (h : 0 ≤ sv st t) : termAt out out.length (sv st t) = t ∧ 0 ≤ sv st t ∧ ¬ (t : Int) < 0 := by
  have hts : t < st.length := by rw [I.len]; exact ht
  rw [sv_nat hts] at h ⊢
  obtain ⟨i, hi, e1, e2⟩ := I.idx t hts h
  refine ⟨?_, h, by omega⟩
  rw [e1]
  have : inF (i : Int) 0 ((out.length : Int) - 1) = true := by simp [inF]; omega
  simp [termAt, this, hi, e2]
theorem upGo_some {ns : List Nd} {st : List Int} {r t : Int} {s : Sp} : ∀ {n i : Nat}, upGo ns st r t n i = some s → ∃ j : Nat, i ≤ j ∧ j < i + n ∧ upOk ns st r t j = true ∧ s = ⟨r, t, sv st j, if r = 7 then sv st (nodeAt ns j).b else 0⟩
  | 0, i, h => by simp [upGo] at h
  | n + 1, i, h => by
    unfold upGo at h
    split at h
    · rename_i g
      exact ⟨i, Nat.le_refl _, by omega, g, by simpa using h.symm⟩
    · obtain ⟨j, h1, h2, h3, h4⟩ := upGo_some h
      exact ⟨j, by omega, by omega, h3, h4⟩
theorem up_ok {ns : List Nd} {ks st : List Int} {out : List Sp} (I : PInv ns ks st out) (hp : poolF ns = true) {t : Nat} (ht : t < ns.length) {r : Int} (hr : r = 5 ∨ r = 6 ∨ r = 7 ∨ r = 8) {s : Sp} (h : upF ns st r t = some s) : stepOkF ns ks out s = true ∧ s.t = t := by
  unfold upF at h
  obtain ⟨j, h1, h2, h3, rfl⟩ := upGo_some h
  have hj : j < ns.length := by have : (t : Int).toNat = t := rfl; omega
  refine ⟨?_, rfl⟩
  simp only [upOk, Bool.and_eq_true, Bool.or_eq_true, decide_eq_true_eq] at h3
  obtain ⟨h4, h5⟩ := h3
  obtain ⟨a1, a2, a3⟩ := I.at hj h4
  simp only [stepOkF, hasF_of ht, Bool.true_and, holdsF]
  rcases hr with rfl | rfl | rfl | rfl
  · have h6 : (nodeAt ns j).k = 2 ∧ (nodeAt ns j).a = t := by simpa using h5
    simp [needsF, lackF, ruleF, a1, h6]
  · have h6 : (nodeAt ns j).k = 2 ∧ (nodeAt ns j).b = t := by simpa using h5
    simp [needsF, lackF, ruleF, a1, h6]
  · have h6 : ((nodeAt ns j).k = 3 ∧ (nodeAt ns j).a = t) ∧ 0 ≤ sv st (nodeAt ns j).b := by simpa using h5
    obtain ⟨⟨h6, h7⟩, h8⟩ := h6
    have hk := h6
    rw [nodeAt_nat hj] at hk
    obtain ⟨_, b, eb, hb⟩ := parts_in hp hj (by rw [hk]; rfl)
    rw [nodeAt_nat hj] at h8
    rw [eb] at h8
    obtain ⟨b1, b2, b3⟩ := I.at (by omega) h8
    have eb2 : (nodeAt ns j).b = b := by rw [nodeAt_nat hj, eb]
    simp [needsF, lackF, ruleF, a1, h6, h7, eb2, b1, b3]
  · have h6 : (nodeAt ns j).k = 4 ∧ (nodeAt ns j).a = t := by simpa using h5
    simp [needsF, lackF, ruleF, a1, h6]
theorem share_ok {ns : List Nd} {ks st : List Int} {out : List Sp} (I : PInv ns ks st out) (hp : poolF ns = true) {t : Nat} (ht : t < ns.length) {s : Sp} (h : shareF ns st t = some s) : stepOkF ns ks out s = true ∧ s.t = t := by
  have en := nodeAt_nat ht
  unfold shareF at h
  split at h
  · cases h
  · rename_i hk
    have hk8 : ns[t].k = 8 := by rw [en] at hk; omega
    obtain ⟨⟨a, ea, hal⟩, b, eb, hbl⟩ := parts_in hp ht (by rw [hk8]; rfl)
    rw [en, ea, eb] at h
    split at h
    · rename_i g
      obtain ⟨g1, g2, g3⟩ := g
      obtain ⟨x, ex, hx, enx⟩ := findF_nodeAt g2
      rw [ex] at g3 h
      obtain ⟨a1, a2, a3⟩ := I.at (by omega) g1
      obtain ⟨b1, b2, b3⟩ := I.at hx g3
      cases h
      refine ⟨?_, rfl⟩
      simp only [stepOkF, hasF_of ht, Bool.true_and, holdsF]
      simp [needsF, lackF, ruleF, a1, b1, enx, en, ea, eb, hk8]
    · split at h
      · rename_i g
        obtain ⟨g1, g2, g3⟩ := g
        obtain ⟨x, ex, hx, enx⟩ := findF_nodeAt g2
        rw [ex] at g3 h
        obtain ⟨a1, a2, a3⟩ := I.at (by omega) g1
        obtain ⟨b1, b2, b3⟩ := I.at hx g3
        cases h
        refine ⟨?_, rfl⟩
        simp only [stepOkF, hasF_of ht, Bool.true_and, holdsF]
        simp [needsF, lackF, ruleF, a1, b1, enx, en, ea, eb, hk8]
      · cases h
theorem made_ok {ns : List Nd} {ks st : List Int} {out : List Sp} (I : PInv ns ks st out) (hp : poolF ns = true) {t : Nat} (ht : t < ns.length) {s : Sp} (h : madeF ns st t = some s) : stepOkF ns ks out s = true ∧ s.t = t := by
  have en := nodeAt_nat ht
  unfold madeF at h
  rw [en] at h
  split at h
  · rename_i hk
    have hk1 := partsF_ne (k := ns[t].k) (by omega)
    obtain ⟨a, ea, hal⟩ := part_in hp ht hk
    rw [ea] at h
    split at h
    · rename_i g
      obtain ⟨a1, a2, a3⟩ := I.at (by omega) g
      cases h
      refine ⟨?_, rfl⟩
      simp only [stepOkF, hasF_of ht, Bool.true_and, holdsF]
      simp [needsF, lackF, ruleF, a1, en, ea, hk, hk1]
    · cases h
  · split at h
    · rename_i hk
      have hk1 := partsF_ne (k := ns[t].k) (by omega)
      obtain ⟨⟨a, ea, hal⟩, b, eb, hbl⟩ := parts_in hp ht hk
      rw [ea, eb] at h
      split at h
      · rename_i g
        obtain ⟨a1, a2, a3⟩ := I.at (by omega) g.1
        obtain ⟨b1, b2, b3⟩ := I.at (by omega) g.2
        cases h
        refine ⟨?_, rfl⟩
        simp only [stepOkF, hasF_of ht, Bool.true_and, holdsF]
        simp [needsF, lackF, ruleF, a1, b1, en, ea, eb, hk, hk1]
      · cases h
    · cases h
theorem or_some {α : Type} {a b : Option α} {s : α} (h : a.or b = some s) : a = some s ∨ b = some s := by
  cases a with
  | none => right; simpa using h
  | some x => left; simpa using h
theorem step_ok {ns : List Nd} {ks st : List Int} {out : List Sp} (I : PInv ns ks st out) (hp : poolF ns = true) {t : Nat} (ht : t < ns.length) {s : Sp} (h : stepF ns ks st t = some s) : stepOkF ns ks out s = true ∧ s.t = t := by
  unfold stepF at h
  split at h
  · rename_i g
    cases h
    refine ⟨?_, rfl⟩
    simp only [stepOkF, hasF_of ht, Bool.true_and, holdsF]
    simp [needsF, lackF, ruleF, g]
  · split at h
    · rename_i g
      cases h
      refine ⟨?_, rfl⟩
      simp only [stepOkF, hasF_of ht, Bool.true_and, holdsF]
      simp [needsF, lackF, ruleF, g]
    · rcases or_some h with h | h
      · exact made_ok I hp ht h
      · unfold restF at h
        rcases or_some h with h | h
        · exact share_ok I hp ht h
        rcases or_some h with h | h
        · exact up_ok I hp ht (by simp) h
        rcases or_some h with h | h
        · exact up_ok I hp ht (by simp) h
        rcases or_some h with h | h
        · exact up_ok I hp ht (by simp) h
        · exact up_ok I hp ht (by simp) h
theorem prF_snoc {ns : List Nd} {ks : List Int} {out : List Sp} {s : Sp} {i : Nat} (h : i < out.length) : prF ns ks (out ++ [s]) i = prF ns ks out i := by
  have e1 : (out ++ [s]).take i = out.take i := List.take_append_of_le_length (by omega)
  have e2 : spAt (out ++ [s]) i = spAt out i := by simp [spAt, List.getElem?_append_left h]
  simp only [prF, freshF, e1, e2]
theorem PInv.put {ns : List Nd} {ks st : List Int} {out : List Sp} (I : PInv ns ks st out) (hp : poolF ns = true) {t : Nat} (ht : t < st.length) (hn : st[t] < 0) {s : Sp} (h : stepF ns ks st t = some s) : PInv ns ks (st.set t out.length) (out ++ [s]) := by
  have htn : t < ns.length := by rw [← I.len]; exact ht
  obtain ⟨s1, s2⟩ := step_ok I hp htn h
  refine ⟨by simp [I.len], ?_, ?_, ?_⟩
  · intro u hu hpos
    simp only [List.length_set] at hu
    rw [List.getElem_set] at hpos ⊢
    split at hpos
    · rename_i e
      subst e
      exact ⟨out.length, by simp, by simp, by simp [s2]⟩
    · rename_i e
      obtain ⟨i, hi, e1, e2⟩ := I.idx u hu hpos
      refine ⟨i, by simp; omega, by rw [if_neg e]; exact e1, by rw [List.getElem_append_left hi]; exact e2⟩
  · intro u hu hneg x hx
    simp only [List.length_set] at hu
    rw [List.getElem_set] at hneg
    split at hneg
    · omega
    · rename_i e
      rcases List.mem_append.1 hx with hx | hx
      · exact I.neg u hu hneg x hx
      · simp only [List.mem_singleton] at hx
        subst hx
        rw [s2]
        omega
  · intro i hi
    simp only [List.length_append, List.length_singleton] at hi
    rcases Nat.lt_or_ge i out.length with g | g
    · rw [prF_snoc g]; exact I.ok i g
    · have : i = out.length := by omega
      subst this
      have e1 : (out ++ [s]).take out.length = out := List.take_left' rfl
      have e2 : spAt (out ++ [s]) out.length = s := by simp [spAt]
      simp only [prF, freshF, e1, e2, s1, Bool.true_and, decide_eq_true_eq]
      intro x hx
      rw [s2]
      exact I.neg t ht hn x hx
theorem passGo_inv {ns : List Nd} {ks : List Int} (hp : poolF ns = true) : ∀ (n t : Nat) (st : List Int) (out : List Sp) (m : Bool), t + n = ns.length → PInv ns ks st out → PInv ns ks (passGo ns ks n t st out m).1 (passGo ns ks n t st out m).2.1
  | 0, t, st, out, m, _, I => I
  | n + 1, t, st, out, m, ht, I => by
    have hts : t < st.length := by rw [I.len]; omega
    unfold passGo
    split
    · exact passGo_inv hp n (t + 1) st out m (by omega) I
    · rename_i g
      rw [sv_nat hts] at g
      split
      · rename_i s hs
        exact passGo_inv hp n (t + 1) _ _ true (by omega) (I.put hp hts (by omega) hs)
      · exact passGo_inv hp n (t + 1) st out m (by omega) I
theorem allGo_inv {ns : List Nd} {ks : List Int} (hp : poolF ns = true) : ∀ (n : Nat) (st : List Int) (out : List Sp), PInv ns ks st out → PInv ns ks (allGo ns ks n st out).1 (allGo ns ks n st out).2
  | 0, st, out, I => I
  | n + 1, st, out, I => by
    have J := passGo_inv hp ns.length 0 st out false (by omega) I
    unfold allGo
    split
    · exact allGo_inv hp n _ _ J
    · exact J
theorem PInv.start (ns : List Nd) (ks : List Int) : PInv ns ks (List.replicate ns.length (-1)) [] := by
  refine ⟨by simp, ?_, ?_, ?_⟩
  · intro t h hp; simp at hp
  · intro t h hn x hx; cases hx
  · intro i hi; simp at hi
theorem allV_inv {ns : List Nd} (ks : List Int) (hp : poolF ns = true) : PInv ns ks (allGo ns ks (ns.length + 1) (List.replicate ns.length (-1)) []).1 (allV ns ks) := allGo_inv hp _ _ _ (PInv.start ns ks)
theorem spAt_take {ss : List Sp} {m i : Nat} (h : i < m) : spAt (ss.take m) i = spAt ss i := by simp [spAt, List.getElem?_take, h]
theorem prF_take {ns : List Nd} {ks : List Int} {ss : List Sp} {m i : Nat} (h : i < m) : prF ns ks (ss.take m) i = prF ns ks ss i := by
  have e1 : (ss.take m).take i = ss.take i := by rw [List.take_take, Nat.min_eq_left (by omega)]
  simp only [prF, freshF, e1, spAt_take h]
theorem prF_well {ns : List Nd} {ks : List Int} {ss : List Sp} {i : Nat} (hi : i < ss.length) (h : prF ns ks ss i = true) : wellF ns ss i = true := by
  simp only [prF, stepOkF, Bool.and_eq_true, holdsF, termAt_take (Nat.le_of_lt hi)] at h
  obtain ⟨⟨h1, h2, _⟩, _⟩ := h
  simp only [lackF, Bool.not_eq_true', decide_eq_false_iff_not, not_or, not_and] at h2
  obtain ⟨g1, g2, g3, g4, g5⟩ := h2
  have key : ∀ k, ¬ termAt ss i k < 0 → inF k 0 ((i : Int) - 1) = true := fun k hk => by
    cases hc : inF k 0 ((i : Int) - 1) with
    | true => rfl
    | false => exact absurd (by simp [termAt, hc]) hk
  simp only [wellF, h1, Bool.true_and, Bool.and_eq_true, Bool.or_eq_true, decide_eq_true_eq]
  refine ⟨⟨by omega, ?_⟩, ?_⟩
  · rcases Int.lt_or_le (needsF ns (spAt ss i)) 1 with u | u
    · exact .inl u
    · exact .inr (key _ (g2 (by omega)))
  · rcases Int.lt_or_le (needsF ns (spAt ss i)) 2 with u | u
    · exact .inl u
    · exact .inr (key _ (g3 (by omega)))
theorem allF_of {p : Nat → Bool} {n : Nat} (h : ∀ i : Nat, i < n → p i = true) : allF p n 0 = true := by
  simp only [allF, List.all_eq_true]
  intro i hi
  simp [List.mem_range'] at hi
  exact h i (by omega)
end Go.Proofs.Ytfbfebaajdihiaa.C

set_option linter.unusedVariables false
set_option linter.unusedSimpArgs false
set_option maxRecDepth 4000
namespace Go.Proofs.Ytfbfebaajdihiaa.C
open Go.Sym Go.Proofs.Ytfbfebaajdihiaa.I
def idxT : List Sp → Int → Int → Int
  | [], _, _ => -1
  | x :: xs, t, i => if x.t = t then i else idxT xs t (i + 1)
theorem idxT_at (t : Int) : ∀ (ss : List Sp) (i : Nat), 0 ≤ idxT ss t i → ∃ j : Nat, ∃ h : j < ss.length, idxT ss t i = i + j ∧ ss[j].t = t
  | [], i, h => by simp [idxT] at h
  | x :: xs, i, h => by
    unfold idxT at h ⊢
    by_cases e : x.t = t
    · rw [if_pos e]; exact ⟨0, by simp, by simp, by simpa using e⟩
    · rw [if_neg e] at h ⊢
      obtain ⟨j, h1, h2, h3⟩ := idxT_at t xs (i + 1) (by simpa using h)
      exact ⟨j + 1, by simp; omega, by push_cast at h2 ⊢; omega, by simpa using h3⟩
theorem idxT_at0 {t : Int} {ss : List Sp} (h : 0 ≤ idxT ss t 0) : ∃ j : Nat, ∃ h : j < ss.length, idxT ss t 0 = j ∧ ss[j].t = t := by
  obtain ⟨j, h1, h2, h3⟩ := idxT_at t ss 0 h
  exact ⟨j, h1, by simpa using h2, h3⟩
/-- The steps up to that of a term. -/
def upto (ss : List Sp) (t : Int) : List Sp := ss.take ((idxT ss t 0).toNat + 1)
def ofF (ns : List Nd) (ks : List Int) (t : Int) : List Sp × Bool := if 0 ≤ idxT (allSt ns ks) t 0 then (trimF ns (upto (allSt ns ks) t), true) else ([], false)
theorem passGo_len (ns : List Nd) (ks : List Int) : ∀ (n t : Nat) (st : List Int) (out : List Sp) (m : Bool), t + n = ns.length → st.length = ns.length → out.length + negs st = ns.length →
    (passGo ns ks n t st out m).1.length = ns.length ∧ (passGo ns ks n t st out m).2.1.length + negs (passGo ns ks n t st out m).1 = ns.length
  | 0, t, st, out, m, _, h1, h2 => ⟨h1, h2⟩
  | n + 1, t, st, out, m, ht, h1, h2 => by
    have hts : t < st.length := by omega
    unfold passGo
    split
    · exact passGo_len ns ks n (t + 1) st out m (by omega) h1 h2
    · rename_i g
      rw [sv_nat hts] at g
      split
      · have := negs_set hts (by omega) (v := (out.length : Int)) (by omega)
        exact passGo_len ns ks n (t + 1) _ _ true (by omega) (by simpa using h1) (by simp; omega)
      · exact passGo_len ns ks n (t + 1) st out m (by omega) h1 h2
theorem allGo_len (ns : List Nd) (ks : List Int) : ∀ (n : Nat) (st : List Int) (out : List Sp), st.length = ns.length → out.length + negs st = ns.length → (allGo ns ks n st out).2.length ≤ ns.length
  | 0, st, out, _, h2 => by simp only [allGo]; omega
  | n + 1, st, out, h1, h2 => by
    have := passGo_len ns ks ns.length 0 st out false (by omega) h1 h2
    unfold allGo
    split
    · exact allGo_len ns ks n _ _ this.1 this.2
    · simp only; omega
theorem allSt_len (ns : List Nd) (ks : List Int) : (allSt ns ks).length ≤ ns.length := by
  unfold allSt
  split
  · exact allGo_len ns ks _ _ _ (by simp) (by simp [negs_rep])
  · simp
theorem allSt_le (ns : List Nd) (ks : List Int) : (allSt ns ks).length ≤ 500 := by
  by_cases h : kpF ns ks = true
  · have := allSt_len ns ks
    have := poolF_len (kpF_pool h)
    omega
  · simp [allSt, h]
theorem encS_tq {ns : List Sp} {j : Nat} (h : j < ns.length) : (encS ns)[j * 4 + 1]? = some (i6 ns[j].t) := by
  obtain ⟨r, hr⟩ := encS_at h
  rw [← List.getElem?_drop, hr]
  rfl
theorem allSt_pr {ns : List Nd} {ks : List Int} (h : kpF ns ks = true) : ∀ i : Nat, i < (allSt ns ks).length → prF ns ks (allSt ns ks) i = true := by
  rw [show allSt ns ks = allV ns ks from if_pos h]
  exact (allV_inv ks (kpF_pool h)).ok
theorem take_well {ns : List Nd} {ks : List Int} {ss : List Sp} (h : ∀ i : Nat, i < ss.length → prF ns ks ss i = true) (m : Nat) : ∀ i : Nat, i < (ss.take m).length → wellF ns (ss.take m) i = true := by
  intro i hi
  have hi' := hi
  simp only [List.length_take] at hi'
  exact prF_well (ks := ks) hi (by rw [prF_take (by omega)]; exact h i (by omega))
end Go.Proofs.Ytfbfebaajdihiaa.C

set_option linter.unusedVariables false
set_option linter.unusedSimpArgs false
set_option maxRecDepth 4000
namespace Go.Proofs.Ytfbfebaajdihiaa.C
open Go.Sym Go.Proofs.Ytfbfebaajdihiaa.I
/-- What of the first terms can be made. -/
def mkUp (ns : List Nd) (ks : List Int) : Nat → List Bool
  | 0 => []
  | n + 1 => mkUp ns ks n ++ [hasK ks n || madeB ns (mkUp ns ks n) n ks]
theorem mkUp_len (ns : List Nd) (ks : List Int) (n : Nat) : (mkUp ns ks n).length = n := by induction n with | zero => rfl | succ n ih => simp [mkUp, ih]
theorem spec_l7All_c (ns : List Nd) (ks : List Int) (hl : ns.length ≤ 500) (hk : ks.length < 9223372036854775807) (hp : poolF ns = true) : T 68 [aP ns, aI ks] [] (bref 0 (mkUp ns ks ns.length)) ([bblk (mkUp ns ks ns.length)]) := by
  refine semT' (S := S0) hm spec_l7All_ok (Nat.le_of_ble_eq_true rfl) ?_
  unfold spec_l7All; dsimp only
  simp
  refine WLoop_virt 1 [(1, aI ks), (2, A.ptr 0 0 0), (5, A.ref 1 0 0 0), (6, i6 0)] ?_ ?_
  · intro s y hy
    simp [Sym.get] at hy ⊢
    (repeat' split at hy) <;> simp_all
  refine WLoop_fam (fun j : Nat => [(1, aI ks), (2, A.ptr 0 0 0), (5, bref 1 (mkUp ns ks j)), (6, i6 j)]) (fun j => [⟨0, false, 1, [A.sl ns.length (enc ns)], none⟩, bblk (mkUp ns ks j)]) (fun j => ns.length - j)
    (fun j => j ≤ ns.length) ?_ 0 (Nat.zero_le _)
  intro j hj ih
  simp
  refine br_intro' (fun u => ?_) (fun u => ?_) <;> (have u0 := u) <;> simp at u <;> simp [u0, u]
  · have hw := wrap_succ (n := j) (by omega)
    have hm := mkUp_len ns ks j
    refine spec_KnowHas_call (ks := ks) (t := j) hk rfl ?_; simp
    refine br_intro' (fun g => ?_) (fun g => ?_) <;> simp [g]
    · have e : mkUp ns ks (j + 1) = mkUp ns ks j ++ [true] := by simp [mkUp, g]
      repeat (refine ck_intro' (by first | omega | (simp; omega) | kernel_rfl) ?_; try simp [hw])
      rw [show A.ref 1 ((mkUp ns ks j).length + 1) 0 ((mkUp ns ks j).length + 1) = bref 1 (mkUp ns ks (j + 1)) by rw [e]; simp]
      refine WLoop_drop [⟨0, false, 1, [A.sl ns.length (enc ns)], none⟩, bblk (mkUp ns ks (j + 1))] [⟨0, false, 1, [.bool true], none⟩] (by rw [e]; simp [bls_snoc]) (by simp) (by simp) (by simp) ?_
      exact ih (j + 1) u (by omega)
    · refine spec_l7Made_k (ns := ns) (mk := mkUp ns ks j) (t := j) (ks := ks) (by omega) hk hp (hasF_of u) (by omega) rfl (by simp) (by simp) ?_; simp
      have e : mkUp ns ks (j + 1) = mkUp ns ks j ++ [madeB ns (mkUp ns ks j) j ks] := by simp [mkUp, g]
      repeat (refine ck_intro' (by first | omega | (simp; omega) | kernel_rfl) ?_; try simp [hw])
      rw [show A.ref 1 ((mkUp ns ks j).length + 1) 0 ((mkUp ns ks j).length + 1) = bref 1 (mkUp ns ks (j + 1)) by rw [e]; simp]
      refine WLoop_drop [⟨0, false, 1, [A.sl ns.length (enc ns)], none⟩, bblk (mkUp ns ks (j + 1))] [⟨0, false, 1, [.bool (madeB ns (mkUp ns ks j) j ks)], none⟩] (by rw [e]; simp [bls_snoc]) (by simp) (by simp) (by simp) ?_
      exact ih (j + 1) u (by omega)
  · have : j = ns.length := by omega
    subst this
    first | (refine LeV.tell [none] ?_ ?_ ?_ <;> (simp; done)) | (refine LeV.tell [some 0] ?_ ?_ ?_ <;> (simp; done)) | (refine LeV.tell [some 1] ?_ ?_ ?_ <;> (simp; done)) | (refine LeV.tell [some 2] ?_ ?_ ?_ <;> (simp; done)) | (refine LeV.tell [some 3] ?_ ?_ ?_ <;> (simp; done)) | (refine LeV.tell [some 4] ?_ ?_ ?_ <;> (simp; done)) | (refine LeV.tell [some 5] ?_ ?_ ?_ <;> (simp; done)) | (refine LeV.tell [some 6] ?_ ?_ ?_ <;> (simp; done)) | (refine LeV.tell [some 7] ?_ ?_ ?_ <;> (simp; done)) | (refine LeV.tell [some 8] ?_ ?_ ?_ <;> (simp; done)) | (refine LeV.tell [some 9] ?_ ?_ ?_ <;> (simp; done)) | (refine LeV.tell [some 10] ?_ ?_ ?_ <;> (simp; done)) | (refine LeV.tell [some 11] ?_ ?_ ?_ <;> (simp; done)) | (refine LeV.tell [some 12] ?_ ?_ ?_ <;> (simp; done)) | (refine LeV.tell [some 13] ?_ ?_ ?_ <;> (simp; done)) | (refine LeV.tell [some 14] ?_ ?_ ?_ <;> (simp; done)) | (refine LeV.tell [some 15] ?_ ?_ ?_ <;> (simp; done))
theorem spec_l7All_k {ns : List Nd} {ks : List Int} (hl : ns.length ≤ 500) (hk : ks.length < 9223372036854775807) (hp : poolF ns = true) {S : FuncId → Bool} {H : List Blk} {K : A → Dl → Prop} {zs : List A} (hS : S 68 = false) (hv : viewL (viewA 8 H) zs = some [aP ns, aI ks]) (ho : noOwns zs = true ∨ nosl (bref 0 (mkUp ns ks ns.length)) = true ∧ noslBlks ([bblk (mkUp ns ks ns.length)]) = true) (hK : K (shiftA H.length (bref 0 (mkUp ns ks ns.length))) (.news (([bblk (mkUp ns ks ns.length)]).map (shiftB H.length)))) : @WCall' Go.Proofs.Try.prog S 68 zs H ⟨K⟩ :=
  WCall_ro' hS hv (spec_l7All_c ns ks hl hk hp) rfl ho hK
/-- The numbers of what is true. -/
def listGo : Nat → List Bool → List Int
  | _, [] => []
  | i, b :: bs => if b = true then (i : Int) :: listGo (i + 1) bs else listGo (i + 1) bs
def listF (mk : List Bool) : List Int := listGo 0 mk
theorem spec_l1List_c (mk : List Bool) (hl : mk.length ≤ 4294960000) : T 76 [aBl mk] [] (jref 0 (listF mk)) ([jblk (listF mk)]) := by
  refine semT' (S := S0) hm spec_l1List_ok (Nat.le_of_ble_eq_true rfl) ?_
  unfold spec_l1List; dsimp only
  simp
  refine WLoop_virt 1 [(0, aBl mk), (3, A.ref 0 0 0 0), (4, i6 0)] ?_ ?_
  · intro s y hy
    simp [Sym.get] at hy ⊢
    (repeat' split at hy) <;> simp_all
  refine WLoop_fam (fun p : Nat × List Int => [(0, aBl mk), (3, jref 0 p.2), (4, i6 p.1)]) (fun p => [jblk p.2]) (fun p => mk.length - p.1)
    (fun p => p.1 ≤ mk.length ∧ p.2.length ≤ p.1 ∧ listF mk = p.2 ++ listGo p.1 (mk.drop p.1)) ?_ (0, []) ⟨Nat.zero_le _, by simp, by simp [listF]⟩
  rintro ⟨j, out⟩ ⟨hj, hol, hf⟩ ih
  simp only at hj hol hf
  simp
  refine br_intro' (fun u => ?_) (fun u => ?_) <;> (have u0 := u) <;> simp at u <;> simp [u0, u]
  · have hd : mk.drop j = mk[j] :: mk.drop (j + 1) := List.drop_eq_getElem_cons u
    have hw := wrap_succ (n := j) (by omega)
    try simp [u]
    refine br_intro' (fun g => ?_) (fun g => ?_) <;> (try simp at g) <;> simp [g]
    · repeat (refine ck_intro' (by first | omega | (simp; omega) | kernel_rfl) ?_; try simp [hw])
      rw [show A.ref 0 (out.length + 1) 0 (out.length + 1) = jref 0 (out ++ [(j : Int)]) by simp]
      refine WLoop_drop [jblk (out ++ [(j : Int)])] [_] (by simp [ints_snoc]; exact rfl) (by simp) (by simp) (by simp) ?_
      exact ih (j + 1, out ++ [(j : Int)]) ⟨u, by simp; omega, by rw [hf, hd]; simp [listGo, g]⟩ (by simp; omega)
    · rw [hw]
      exact ih (j + 1, out) ⟨u, by simp; omega, by rw [hf, hd]; simp [listGo, g]⟩ (by simp; omega)
  · have hd : mk.drop j = [] := List.drop_of_length_le (by omega)
    rw [show listF mk = out by rw [hf, hd]; simp [listGo]]
    first | (refine LeV.tell [none] ?_ ?_ ?_ <;> (simp; done)) | (refine LeV.tell [some 0] ?_ ?_ ?_ <;> (simp; done)) | (refine LeV.tell [some 1] ?_ ?_ ?_ <;> (simp; done)) | (refine LeV.tell [some 2] ?_ ?_ ?_ <;> (simp; done)) | (refine LeV.tell [some 3] ?_ ?_ ?_ <;> (simp; done)) | (refine LeV.tell [some 4] ?_ ?_ ?_ <;> (simp; done)) | (refine LeV.tell [some 5] ?_ ?_ ?_ <;> (simp; done)) | (refine LeV.tell [some 6] ?_ ?_ ?_ <;> (simp; done)) | (refine LeV.tell [some 7] ?_ ?_ ?_ <;> (simp; done)) | (refine LeV.tell [some 8] ?_ ?_ ?_ <;> (simp; done)) | (refine LeV.tell [some 9] ?_ ?_ ?_ <;> (simp; done)) | (refine LeV.tell [some 10] ?_ ?_ ?_ <;> (simp; done)) | (refine LeV.tell [some 11] ?_ ?_ ?_ <;> (simp; done)) | (refine LeV.tell [some 12] ?_ ?_ ?_ <;> (simp; done)) | (refine LeV.tell [some 13] ?_ ?_ ?_ <;> (simp; done)) | (refine LeV.tell [some 14] ?_ ?_ ?_ <;> (simp; done)) | (refine LeV.tell [some 15] ?_ ?_ ?_ <;> (simp; done))
theorem spec_l1List_k {mk : List Bool} (hl : mk.length ≤ 4294960000) {S : FuncId → Bool} {H : List Blk} {K : A → Dl → Prop} {zs : List A} (hS : S 76 = false) (hv : viewL (viewA 8 H) zs = some [aBl mk]) (ho : noOwns zs = true ∨ nosl (jref 0 (listF mk)) = true ∧ noslBlks ([jblk (listF mk)]) = true) (hK : K (shiftA H.length (jref 0 (listF mk))) (.news (([jblk (listF mk)]).map (shiftB H.length)))) : @WCall' Go.Proofs.Try.prog S 76 zs H ⟨K⟩ :=
  WCall_ro' hS hv (spec_l1List_c mk hl) rfl ho hK
def makesF (ns : List Nd) (ks : List Int) : List Bool := if kpF ns ks = true then mkUp ns ks ns.length else []
theorem spec_MakesAll_c (ns : List Nd) (ks : List Int) (hl : ns.length < 9223372036854775807) (hk : ks.length < 9223372036854775807) : T 77 [aP ns, aI ks] [] (bref 0 (makesF ns ks)) ([bblk (makesF ns ks)]) := by
  refine semT' (S := S0) hm spec_MakesAll_ok (Nat.le_of_ble_eq_true rfl) ?_
  unfold spec_MakesAll; dsimp only
  simp
  refine spec_KnowOk_k (ns := ns) (ks := ks) hl rfl (by simp) (by simp [noslBlks]) ?_; simp [shiftB]
  refine br_intro' (fun h => ?_) (fun h => ?_) <;> simp [h]
  · rw [show makesF ns ks = mkUp ns ks ns.length from if_pos h]
    refine spec_l7All_k (ns := ns) (ks := ks) (poolF_len (kpF_pool h)) hk (kpF_pool h) rfl (by simp) (by simp [noslBlks]) ?_; simp [shiftB]
    first | (refine LeV.tell [none] ?_ ?_ ?_ <;> (simp; done)) | (refine LeV.tell [some 0] ?_ ?_ ?_ <;> (simp; done)) | (refine LeV.tell [some 1] ?_ ?_ ?_ <;> (simp; done)) | (refine LeV.tell [some 2] ?_ ?_ ?_ <;> (simp; done)) | (refine LeV.tell [some 3] ?_ ?_ ?_ <;> (simp; done)) | (refine LeV.tell [some 4] ?_ ?_ ?_ <;> (simp; done)) | (refine LeV.tell [some 5] ?_ ?_ ?_ <;> (simp; done)) | (refine LeV.tell [some 6] ?_ ?_ ?_ <;> (simp; done)) | (refine LeV.tell [some 7] ?_ ?_ ?_ <;> (simp; done)) | (refine LeV.tell [some 8] ?_ ?_ ?_ <;> (simp; done)) | (refine LeV.tell [some 9] ?_ ?_ ?_ <;> (simp; done)) | (refine LeV.tell [some 10] ?_ ?_ ?_ <;> (simp; done)) | (refine LeV.tell [some 11] ?_ ?_ ?_ <;> (simp; done)) | (refine LeV.tell [some 12] ?_ ?_ ?_ <;> (simp; done)) | (refine LeV.tell [some 13] ?_ ?_ ?_ <;> (simp; done)) | (refine LeV.tell [some 14] ?_ ?_ ?_ <;> (simp; done)) | (refine LeV.tell [some 15] ?_ ?_ ?_ <;> (simp; done))
  · rw [show makesF ns ks = [] from if_neg (by simp [h])]
    first | (refine LeV.tell [none] ?_ ?_ ?_ <;> (simp; done)) | (refine LeV.tell [some 0] ?_ ?_ ?_ <;> (simp; done)) | (refine LeV.tell [some 1] ?_ ?_ ?_ <;> (simp; done)) | (refine LeV.tell [some 2] ?_ ?_ ?_ <;> (simp; done)) | (refine LeV.tell [some 3] ?_ ?_ ?_ <;> (simp; done)) | (refine LeV.tell [some 4] ?_ ?_ ?_ <;> (simp; done)) | (refine LeV.tell [some 5] ?_ ?_ ?_ <;> (simp; done)) | (refine LeV.tell [some 6] ?_ ?_ ?_ <;> (simp; done)) | (refine LeV.tell [some 7] ?_ ?_ ?_ <;> (simp; done)) | (refine LeV.tell [some 8] ?_ ?_ ?_ <;> (simp; done)) | (refine LeV.tell [some 9] ?_ ?_ ?_ <;> (simp; done)) | (refine LeV.tell [some 10] ?_ ?_ ?_ <;> (simp; done)) | (refine LeV.tell [some 11] ?_ ?_ ?_ <;> (simp; done)) | (refine LeV.tell [some 12] ?_ ?_ ?_ <;> (simp; done)) | (refine LeV.tell [some 13] ?_ ?_ ?_ <;> (simp; done)) | (refine LeV.tell [some 14] ?_ ?_ ?_ <;> (simp; done)) | (refine LeV.tell [some 15] ?_ ?_ ?_ <;> (simp; done))
theorem spec_MakesAll_k {ns : List Nd} {ks : List Int} (hl : ns.length < 9223372036854775807) (hk : ks.length < 9223372036854775807) {S : FuncId → Bool} {H : List Blk} {K : A → Dl → Prop} {zs : List A} (hS : S 77 = false) (hv : viewL (viewA 8 H) zs = some [aP ns, aI ks]) (ho : noOwns zs = true ∨ nosl (bref 0 (makesF ns ks)) = true ∧ noslBlks ([bblk (makesF ns ks)]) = true) (hK : K (shiftA H.length (bref 0 (makesF ns ks))) (.news (([bblk (makesF ns ks)]).map (shiftB H.length)))) : @WCall' Go.Proofs.Try.prog S 77 zs H ⟨K⟩ :=
  WCall_ro' hS hv (spec_MakesAll_c ns ks hl hk) rfl ho hK
def mlistF (ns : List Nd) (ks : List Int) : List Int := listF (makesF ns ks)
theorem makesF_len (ns : List Nd) (ks : List Int) : (makesF ns ks).length ≤ 500 := by
  unfold makesF
  split
  · rename_i h; rw [mkUp_len]; exact poolF_len (kpF_pool h)
  · simp
theorem spec_MakesList_c (ns : List Nd) (ks : List Int) (hl : ns.length < 9223372036854775807) (hk : ks.length < 9223372036854775807) : T 53 [aP ns, aI ks] [] (jref 0 (mlistF ns ks)) ([jblk (mlistF ns ks)]) := by
  refine semT' (S := S0) hm spec_MakesList_ok (Nat.le_of_ble_eq_true rfl) ?_
  unfold spec_MakesList; dsimp only
  have := makesF_len ns ks
  simp
  refine spec_MakesAll_k (ns := ns) (ks := ks) hl hk rfl (by simp) (by simp [noslBlks]) ?_; simp [shiftB]
  refine spec_l1List_k (mk := makesF ns ks) (by omega) rfl (by simp) (by simp [noslBlks]) ?_; simp [shiftB]
  first | (refine LeV.tell [none] ?_ ?_ ?_ <;> (simp [mlistF]; done)) | (refine LeV.tell [some 0] ?_ ?_ ?_ <;> (simp [mlistF]; done)) | (refine LeV.tell [some 1] ?_ ?_ ?_ <;> (simp [mlistF]; done)) | (refine LeV.tell [some 2] ?_ ?_ ?_ <;> (simp [mlistF]; done)) | (refine LeV.tell [some 3] ?_ ?_ ?_ <;> (simp [mlistF]; done)) | (refine LeV.tell [some 4] ?_ ?_ ?_ <;> (simp [mlistF]; done)) | (refine LeV.tell [some 5] ?_ ?_ ?_ <;> (simp [mlistF]; done)) | (refine LeV.tell [some 6] ?_ ?_ ?_ <;> (simp [mlistF]; done)) | (refine LeV.tell [some 7] ?_ ?_ ?_ <;> (simp [mlistF]; done)) | (refine LeV.tell [some 8] ?_ ?_ ?_ <;> (simp [mlistF]; done)) | (refine LeV.tell [some 9] ?_ ?_ ?_ <;> (simp [mlistF]; done)) | (refine LeV.tell [some 10] ?_ ?_ ?_ <;> (simp [mlistF]; done)) | (refine LeV.tell [some 11] ?_ ?_ ?_ <;> (simp [mlistF]; done)) | (refine LeV.tell [some 12] ?_ ?_ ?_ <;> (simp [mlistF]; done)) | (refine LeV.tell [some 13] ?_ ?_ ?_ <;> (simp [mlistF]; done)) | (refine LeV.tell [some 14] ?_ ?_ ?_ <;> (simp [mlistF]; done)) | (refine LeV.tell [some 15] ?_ ?_ ?_ <;> (simp [mlistF]; done))
theorem spec_MakesList_k {ns : List Nd} {ks : List Int} (hl : ns.length < 9223372036854775807) (hk : ks.length < 9223372036854775807) {S : FuncId → Bool} {H : List Blk} {K : A → Dl → Prop} {zs : List A} (hS : S 53 = false) (hv : viewL (viewA 8 H) zs = some [aP ns, aI ks]) (ho : noOwns zs = true ∨ nosl (jref 0 (mlistF ns ks)) = true ∧ noslBlks ([jblk (mlistF ns ks)]) = true) (hK : K (shiftA H.length (jref 0 (mlistF ns ks))) (.news (([jblk (mlistF ns ks)]).map (shiftB H.length)))) : @WCall' Go.Proofs.Try.prog S 53 zs H ⟨K⟩ :=
  WCall_ro' hS hv (spec_MakesList_c ns ks hl hk) rfl ho hK
end Go.Proofs.Ytfbfebaajdihiaa.C

set_option linter.unusedVariables false
set_option linter.unusedSimpArgs false
set_option maxRecDepth 4000
namespace Go.Proofs.Ytfbfebaajdihiaa.C
open Go.Sym Go.Proofs.Ytfbfebaajdihiaa.I
/-- What one term that is known opens. -/
def stepO (ns : List Nd) (mk : List Bool) (out : List Int) (t : Int) : List Int :=
  if (nodeAt ns t).k = 2 then putF (putF out (nodeAt ns t).a) (nodeAt ns t).b
  else if (nodeAt ns t).k = 4 ∨ (nodeAt ns t).k = 3 ∧ bv mk (nodeAt ns t).b = true then putF out (nodeAt ns t).a
  else out
def onceV (ns : List Nd) (ks : List Int) : List Int := ks.foldl (stepO ns (mkUp ns ks ns.length)) ks
theorem putF_mem {ks : List Int} {t x : Int} : x ∈ putF ks t ↔ x = t ∨ x ∈ ks := by
  have key : ∀ (ks : List Int) (put : Bool), x ∈ putGo t ks put ↔ (put = false ∧ x = t) ∨ x ∈ ks := by
    intro ks
    induction ks with
    | nil => intro put; cases put <;> simp [putGo]
    | cons y ys ih =>
      intro put
      unfold putGo
      split
      · rename_i h
        simp [ih, h.1]
      · rw [List.mem_cons, ih, List.mem_cons]
        constructor
        · rintro (h | h | h)
          · exact .inr (.inl h)
          · exact .inl h
          · exact .inr (.inr h)
        · rintro (h | h | h)
          · exact .inr (.inl h)
          · exact .inl h
          · exact .inr (.inr h)
  unfold putF
  rw [key]
  cases hk : hasK ks t with
  | true =>
    have hm : t ∈ ks := by simpa [hasK] using hk
    constructor
    · rintro (⟨h, _⟩ | h)
      · cases h
      · exact .inr h
    · rintro (rfl | h)
      · exact .inr hm
      · exact .inr h
  | false => simp
theorem stepO_mem {ns : List Nd} (hp : poolF ns = true) {mk : List Bool} {out : List Int} {t : Int} (ht : hasF ns.length t = true) (ho : ∀ x ∈ out, hasF ns.length x = true) : ∀ x ∈ stepO ns mk out t, hasF ns.length x = true := by
  obtain ⟨j, rfl, hj⟩ := hasN ht
  have en := nodeAt_nat hj
  intro x hx
  unfold stepO at hx
  rw [en] at hx
  have h2 : partsF ns[j].k = 2 → hasF ns.length ns[j].a = true ∧ hasF ns.length ns[j].b = true := fun e => by
    obtain ⟨⟨a, ea, ha⟩, b, eb, hb⟩ := parts_in hp hj e
    rw [ea, eb]
    exact ⟨hasF_of (by omega), hasF_of (by omega)⟩
  split at hx
  · rename_i h
    obtain ⟨q1, q2⟩ := h2 (by rw [h]; rfl)
    rcases putF_mem.1 hx with rfl | hx
    · exact q2
    rcases putF_mem.1 hx with rfl | hx
    · exact q1
    · exact ho x hx
  · split at hx
    · rename_i h
      have hk : partsF ns[j].k = 2 := by rcases h with h | ⟨h, _⟩ <;> rw [h] <;> rfl
      obtain ⟨q1, q2⟩ := h2 hk
      rcases putF_mem.1 hx with rfl | hx
      · exact q1
      · exact ho x hx
    · exact ho x hx
theorem stepO_len (ns : List Nd) (mk : List Bool) (out : List Int) (t : Int) : out.length ≤ (stepO ns mk out t).length ∧ (stepO ns mk out t).length ≤ out.length + 2 := by
  unfold stepO
  split
  · have h1 := putF_len out (nodeAt ns t).a
    have h2 := putF_len (putF out (nodeAt ns t).a) (nodeAt ns t).b
    omega
  · split
    · have h1 := putF_len out (nodeAt ns t).a
      omega
    · omega
theorem spec_l8Once_c (ns : List Nd) (ks : List Int) (hl : ns.length ≤ 500) (hk : ks.length ≤ 1000) (hp : poolF ns = true) (hks : ∀ x ∈ ks, hasF ns.length x = true) : T 46 [aP ns, aI ks] [] (.tup [jref 0 (onceV ns ks), .bool (decide ((onceV ns ks).length ≤ 200))]) ([jblk (onceV ns ks)]) := by
  refine semT' (S := S0) hm spec_l8Once_ok (Nat.le_of_ble_eq_true rfl) ?_
  unfold spec_l8Once; dsimp only
  have hov : onceV ns ks = ks.foldl (stepO ns (mkUp ns ks ns.length)) ks := rfl
  simp
  refine spec_l7All_k (ns := ns) (ks := ks) hl (by omega) hp rfl (by simp) (by simp [noslBlks]) ?_; simp [shiftB]
  have hml := mkUp_len ns ks ns.length
  by_cases h0 : ks = []
  · subst h0
    try simp
    refine WLoop_step' ?_; simp
    rw [show onceV ns [] = [] from rfl]
    exact LeV.tell [none] (by simp) (by simp) (by simp)
  · try simp [h0]
    refine ck_intro' (by omega) ?_; simp [h0]
    generalize mkUp ns ks ns.length = mk at hov hml ⊢
    refine WLoop_ren [some 0, some 1, some 2] [(1, aI ks), (2, A.ptr 0 0 0), (6, bref 1 mk), (7, jref 2 ks), (8, i6 0)] [⟨0, false, 1, [A.sl ns.length (enc ns)], none⟩, bblk mk, jblk ks] (by simp) (by simp [h0]) (by simp) ?_
    refine WLoop_fam (fun p : Nat × List Int => [(1, aI ks), (2, A.ptr 0 0 0), (6, bref 1 mk), (7, jref 2 p.2), (8, i6 p.1)]) (fun p => [⟨0, false, 1, [A.sl ns.length (enc ns)], none⟩, bblk mk, jblk p.2]) (fun p => ks.length - p.1)
      (fun p => p.1 ≤ ks.length ∧ p.2.length ≤ ks.length + 2 * p.1 ∧ onceV ns ks = (ks.drop p.1).foldl (stepO ns mk) p.2) ?_ (0, ks) ⟨Nat.zero_le _, by simp, hov⟩
    rintro ⟨j, out⟩ ⟨hj, hol, hf⟩ ih
    simp only at hj hol hf
    simp
    refine br_intro' (fun u => ?_) (fun u => ?_) <;> (have u0 := u) <;> simp at u <;> simp [u0, u]
    · have hd : ks.drop j = ks[j] :: ks.drop (j + 1) := List.drop_eq_getElem_cons u
      have hw := wrap_succ (n := j) (by omega)
      have hhf := hks ks[j] (List.getElem_mem u)
      have hst := stepO_len ns mk out ks[j]
      have hfn : onceV ns ks = (ks.drop (j + 1)).foldl (stepO ns mk) (stepO ns mk out ks[j]) := by rw [hf, hd]; rfl
      obtain ⟨m, em, hm2⟩ := hasN hhf
      obtain ⟨q, hq⟩ := enc_at hm2
      have h3 : 3 ≤ ns.length * 3 - m * 3 := by omega
      have en := nodeAt_nat hm2
      have hso : stepO ns mk out ks[j] = if ns[m].k = 2 then putF (putF out ns[m].a) ns[m].b else if ns[m].k = 4 ∨ ns[m].k = 3 ∧ bv mk ns[m].b = true then putF out ns[m].a else out := by
        simp only [stepO, em, en]
      have hki : ∀ x, x = stepO ns mk out ks[j] → x.length ≤ ks.length + 2 * (j + 1) ∧ onceV ns ks = (ks.drop (j + 1)).foldl (stepO ns mk) x := fun x e => by
        subst e
        exact ⟨by omega, hfn⟩
      simp [u, em, h3, hq, hm2]
      refine ck_intro' (by kernel_rfl) ?_; simp [h3, hq, hm2]
      have hbk : ns[m].k = 3 → ∃ b : Nat, ns[m].b = b ∧ b < mk.length := fun e => by
        obtain ⟨_, b, e2, e3⟩ := parts_in hp hm2 (by rw [e]; rfl)
        exact ⟨b, e2, by omega⟩
      have hol1 : out.length ≤ 3000 := by omega
      refine br_intro' (fun g => ?_) (fun g => ?_) <;> (have g0 := g) <;> simp only [decide_eq_true_eq, decide_eq_false_iff_not] at g <;> simp [g0, g]
      · refine spec_l6Put_k (ks := out) (t := ns[m].a) (by omega) rfl (by simp) (by simp [noslBlks]) ?_; simp [shiftB]
        have hp1 := putF_len out ns[m].a
        refine spec_l6Put_k (ks := putF out ns[m].a) (t := ns[m].b) (by omega) rfl (by simp) (by simp [noslBlks]) ?_; simp [shiftB]
        first | (refine ck_intro' (by kernel_rfl) ?_; try simp) | skip
        rw [hw]
        refine WLoop_ren [some 0, some 1, some 5] [(1, aI ks), (2, A.ptr 0 0 0), (6, bref 1 mk), (7, jref 2 (putF (putF out ns[m].a) ns[m].b)), (8, i6 ((j + 1 : Nat) : Int))] [⟨0, false, 1, [A.sl ns.length (enc ns)], none⟩, bblk mk, jblk (putF (putF out ns[m].a) ns[m].b)] (by simp) (by simp) (by simp) ?_
        have hz := hki (putF (putF out ns[m].a) ns[m].b) (by rw [hso]; simp [g])
        exact ih (j + 1, (putF (putF out ns[m].a) ns[m].b)) ⟨u, hz.1, hz.2⟩ (by simp; omega)
      · refine br_intro' (fun f => ?_) (fun f => ?_) <;> (have f0 := f) <;> simp only [decide_eq_true_eq, decide_eq_false_iff_not] at f <;> simp [f0, f]
        · refine spec_l6Put_k (ks := out) (t := ns[m].a) (by omega) rfl (by simp) (by simp [noslBlks]) ?_; simp [shiftB]
          rw [hw]
          refine WLoop_ren [some 0, some 1, some 4] [(1, aI ks), (2, A.ptr 0 0 0), (6, bref 1 mk), (7, jref 2 (putF out ns[m].a)), (8, i6 ((j + 1 : Nat) : Int))] [⟨0, false, 1, [A.sl ns.length (enc ns)], none⟩, bblk mk, jblk (putF out ns[m].a)] (by simp) (by simp) (by simp) ?_
          have hz := hki (putF out ns[m].a) (by rw [hso]; simp [g, f])
          exact ih (j + 1, (putF out ns[m].a)) ⟨u, hz.1, hz.2⟩ (by simp; omega)
        · refine br_intro' (fun z => ?_) (fun z => ?_) <;> (have z0 := z) <;> simp only [decide_eq_true_eq, decide_eq_false_iff_not] at z <;> simp [z0, z]
          · obtain ⟨b, eb, hb⟩ := hbk z
            have ebv := bv_nat hb
            simp [eb, hb]
            refine br_intro' (fun y => ?_) (fun y => ?_) <;> simp [y]
            · refine spec_l6Put_k (ks := out) (t := ns[m].a) (by omega) rfl (by simp) (by simp [noslBlks]) ?_; simp [shiftB]
              rw [hw]
              refine WLoop_ren [some 0, some 1, some 4] [(1, aI ks), (2, A.ptr 0 0 0), (6, bref 1 mk), (7, jref 2 (putF out ns[m].a)), (8, i6 ((j + 1 : Nat) : Int))] [⟨0, false, 1, [A.sl ns.length (enc ns)], none⟩, bblk mk, jblk (putF out ns[m].a)] (by simp) (by simp) (by simp) ?_
              have hz := hki (putF out ns[m].a) (by rw [hso]; simp [g, f, z, eb, ebv, y])
              exact ih (j + 1, (putF out ns[m].a)) ⟨u, hz.1, hz.2⟩ (by simp; omega)
            · rw [hw]
              refine WLoop_ren [some 0, some 1, some 2] [(1, aI ks), (2, A.ptr 0 0 0), (6, bref 1 mk), (7, jref 2 out), (8, i6 ((j + 1 : Nat) : Int))] [⟨0, false, 1, [A.sl ns.length (enc ns)], none⟩, bblk mk, jblk out] (by simp) (by simp) (by simp) ?_
              have hz := hki out (by rw [hso]; simp [g, f, z, eb, ebv, y])
              exact ih (j + 1, out) ⟨u, hz.1, hz.2⟩ (by simp; omega)
          · rw [hw]
            refine WLoop_ren [some 0, some 1, some 2] [(1, aI ks), (2, A.ptr 0 0 0), (6, bref 1 mk), (7, jref 2 out), (8, i6 ((j + 1 : Nat) : Int))] [⟨0, false, 1, [A.sl ns.length (enc ns)], none⟩, bblk mk, jblk out] (by simp) (by simp) (by simp) ?_
            have hz := hki out (by rw [hso]; simp [g, f, z])
            exact ih (j + 1, out) ⟨u, hz.1, hz.2⟩ (by simp; omega)
    · have hd : ks.drop j = [] := List.drop_of_length_le (by omega)
      rw [show onceV ns ks = out by rw [hf, hd]; rfl]
      exact LeV.tell [some 2] (by simp) (by simp) (by simp; omega)
theorem spec_l8Once_k {ns : List Nd} {ks : List Int} (hl : ns.length ≤ 500) (hk : ks.length ≤ 1000) (hp : poolF ns = true) (hks : ∀ x ∈ ks, hasF ns.length x = true) {S : FuncId → Bool} {H : List Blk} {K : A → Dl → Prop} {zs : List A} (hS : S 46 = false) (hv : viewL (viewA 8 H) zs = some [aP ns, aI ks]) (ho : noOwns zs = true ∨ nosl (.tup [jref 0 (onceV ns ks), .bool (decide ((onceV ns ks).length ≤ 200))]) = true ∧ noslBlks ([jblk (onceV ns ks)]) = true) (hK : K (shiftA H.length (.tup [jref 0 (onceV ns ks), .bool (decide ((onceV ns ks).length ≤ 200))])) (.news (([jblk (onceV ns ks)]).map (shiftB H.length)))) : @WCall' Go.Proofs.Try.prog S 46 zs H ⟨K⟩ :=
  WCall_ro' hS hv (spec_l8Once_c ns ks hl hk hp hks) rfl ho hK
/-- What is opened as a whole, and in how many times. -/
def allO (ns : List Nd) : Nat → List Int → Nat → List Int × Nat
  | 0, out, t => (out, t)
  | n + 1, out, t => if (onceV ns out).length ≤ 200 ∧ (onceV ns out).length ≠ out.length then allO ns n (onceV ns out) (t + 1) else (out, t)
def openV (ns : List Nd) (ks : List Int) : List Int × Nat := allO ns 201 ks 0
theorem foldO_len (ns : List Nd) (mk : List Bool) : ∀ (xs out : List Int), out.length ≤ (xs.foldl (stepO ns mk) out).length
  | [], out => Nat.le_refl _
  | x :: xs, out => Nat.le_trans (stepO_len ns mk out x).1 (foldO_len ns mk xs _)
theorem onceV_len (ns : List Nd) (ks : List Int) : ks.length ≤ (onceV ns ks).length := foldO_len _ _ _ _
theorem foldO_mem {ns : List Nd} (hp : poolF ns = true) {mk : List Bool} : ∀ {xs out : List Int}, (∀ x ∈ xs, hasF ns.length x = true) → (∀ x ∈ out, hasF ns.length x = true) → ∀ x ∈ xs.foldl (stepO ns mk) out, hasF ns.length x = true
  | [], out, _, ho => ho
  | x :: xs, out, hx, ho => foldO_mem (xs := xs) hp (fun y hy => hx y (List.mem_cons_of_mem _ hy)) (stepO_mem hp (hx x (List.mem_cons_self ..)) ho)
theorem onceV_mem {ns : List Nd} (hp : poolF ns = true) {ks : List Int} (h : ∀ x ∈ ks, hasF ns.length x = true) : ∀ x ∈ onceV ns ks, hasF ns.length x = true := foldO_mem hp h h
theorem spec_l8All_c (ns : List Nd) (ks : List Int) (hl : ns.length ≤ 500) (hk : ks.length ≤ 200) (hp : poolF ns = true) (hks : ∀ x ∈ ks, hasF ns.length x = true) : T 51 [aP ns, aI ks] [] (.tup [jref 0 (openV ns ks).1, i6 (openV ns ks).2]) ([jblk (openV ns ks).1]) := by
  refine semT' (S := S0) hm spec_l8All_ok (Nat.le_of_ble_eq_true rfl) ?_
  unfold spec_l8All; dsimp only
  simp
  by_cases h0 : ks = []
  · subst h0
    try simp
    refine WLoop_virt 1 [(2, A.ptr 0 0 0), (6, A.ref 1 0 0 0), (7, i6 0)] ?_ ?_
    · intro s y hy
      simp [Sym.get] at hy ⊢
      (repeat' split at hy) <;> simp_all
    refine WLoop_fam (fun p : List Int × Nat => [(2, A.ptr 0 0 0), (6, jref 1 p.1), (7, i6 p.2)]) (fun p => [⟨0, false, 1, [A.sl ns.length (enc ns)], none⟩, jblk p.1]) (fun p => 201 - p.1.length)
      (fun p => p.1.length ≤ 200 ∧ p.2 ≤ p.1.length ∧ (∀ x ∈ p.1, hasF ns.length x = true) ∧ ∃ n, 201 - p.1.length ≤ n ∧ openV ns [] = allO ns n p.1 p.2) ?_ ([], 0) ⟨by simp; try omega, by simp, hks, 201, by simp, rfl⟩
    rintro ⟨out, t⟩ ⟨hol, htl, hom, n, hn, hf⟩ ih
    simp only at hol htl hom hn hf
    simp
    refine spec_l8Once_k (ns := ns) (ks := out) hl (by omega) hp hom rfl (by simp) (by simp [noslBlks]) ?_; simp [shiftB]
    obtain ⟨n', rfl⟩ : ∃ n', n = n' + 1 := ⟨n - 1, by omega⟩
    have hge := onceV_len ns out
    have hmm := onceV_mem hp hom
    have hw := wrap_succ (n := t) (by omega)
    have hstep : allO ns (n' + 1) out t = if (onceV ns out).length ≤ 200 ∧ (onceV ns out).length ≠ out.length then allO ns n' (onceV ns out) (t + 1) else (out, t) := rfl
    refine br_intro' (fun g => ?_) (fun g => ?_) <;> (have g0 := g) <;> simp only [decide_eq_true_eq, decide_eq_false_iff_not] at g <;> simp [g0, g]
    · refine br_intro' (fun f => ?_) (fun f => ?_) <;> (have f0 := f) <;> simp only [decide_eq_true_eq, decide_eq_false_iff_not] at f <;> simp [f0, f]
      · have f' : (onceV ns out).length = out.length := by omega
        rw [show openV ns [] = (out, t) by rw [hf, hstep, if_neg (by omega)]]
        exact LeV.tell [some 1] (by simp) (by simp) (by simp)
      · have f' : (onceV ns out).length ≠ out.length := by omega
        rw [hw]
        refine WLoop_ren [some 0, some 2] [(2, A.ptr 0 0 0), (6, jref 1 (onceV ns out)), (7, i6 ((t + 1 : Nat) : Int))] [⟨0, false, 1, [A.sl ns.length (enc ns)], none⟩, jblk (onceV ns out)] (by simp) (by simp) (by simp) ?_
        exact ih (onceV ns out, t + 1) ⟨g, by simp; omega, hmm, n', by simp; omega, by rw [hf, hstep, if_pos ⟨g, f'⟩]⟩ (by simp; omega)
    · rw [show openV ns [] = (out, t) by rw [hf, hstep, if_neg (by omega)]]
      exact LeV.tell [some 1] (by simp) (by simp) (by simp)
  · try simp [h0]
    refine ck_intro' (by omega) ?_; simp [h0]
    refine WLoop_ren [some 0, some 1] [(2, A.ptr 0 0 0), (6, jref 1 ks), (7, i6 0)] [⟨0, false, 1, [A.sl ns.length (enc ns)], none⟩, jblk ks] (by simp) (by simp [h0]) (by simp) ?_
    refine WLoop_fam (fun p : List Int × Nat => [(2, A.ptr 0 0 0), (6, jref 1 p.1), (7, i6 p.2)]) (fun p => [⟨0, false, 1, [A.sl ns.length (enc ns)], none⟩, jblk p.1]) (fun p => 201 - p.1.length)
      (fun p => p.1.length ≤ 200 ∧ p.2 ≤ p.1.length ∧ (∀ x ∈ p.1, hasF ns.length x = true) ∧ ∃ n, 201 - p.1.length ≤ n ∧ openV ns ks = allO ns n p.1 p.2) ?_ (ks, 0) ⟨by simp; try omega, by simp, hks, 201, by simp, rfl⟩
    rintro ⟨out, t⟩ ⟨hol, htl, hom, n, hn, hf⟩ ih
    simp only at hol htl hom hn hf
    simp
    refine spec_l8Once_k (ns := ns) (ks := out) hl (by omega) hp hom rfl (by simp) (by simp [noslBlks]) ?_; simp [shiftB]
    obtain ⟨n', rfl⟩ : ∃ n', n = n' + 1 := ⟨n - 1, by omega⟩
    have hge := onceV_len ns out
    have hmm := onceV_mem hp hom
    have hw := wrap_succ (n := t) (by omega)
    have hstep : allO ns (n' + 1) out t = if (onceV ns out).length ≤ 200 ∧ (onceV ns out).length ≠ out.length then allO ns n' (onceV ns out) (t + 1) else (out, t) := rfl
    refine br_intro' (fun g => ?_) (fun g => ?_) <;> (have g0 := g) <;> simp only [decide_eq_true_eq, decide_eq_false_iff_not] at g <;> simp [g0, g]
    · refine br_intro' (fun f => ?_) (fun f => ?_) <;> (have f0 := f) <;> simp only [decide_eq_true_eq, decide_eq_false_iff_not] at f <;> simp [f0, f]
      · have f' : (onceV ns out).length = out.length := by omega
        rw [show openV ns ks = (out, t) by rw [hf, hstep, if_neg (by omega)]]
        exact LeV.tell [some 1] (by simp) (by simp) (by simp)
      · have f' : (onceV ns out).length ≠ out.length := by omega
        rw [hw]
        refine WLoop_ren [some 0, some 2] [(2, A.ptr 0 0 0), (6, jref 1 (onceV ns out)), (7, i6 ((t + 1 : Nat) : Int))] [⟨0, false, 1, [A.sl ns.length (enc ns)], none⟩, jblk (onceV ns out)] (by simp) (by simp) (by simp) ?_
        exact ih (onceV ns out, t + 1) ⟨g, by simp; omega, hmm, n', by simp; omega, by rw [hf, hstep, if_pos ⟨g, f'⟩]⟩ (by simp; omega)
    · rw [show openV ns ks = (out, t) by rw [hf, hstep, if_neg (by omega)]]
      exact LeV.tell [some 1] (by simp) (by simp) (by simp)
theorem spec_l8All_k {ns : List Nd} {ks : List Int} (hl : ns.length ≤ 500) (hk : ks.length ≤ 200) (hp : poolF ns = true) (hks : ∀ x ∈ ks, hasF ns.length x = true) {S : FuncId → Bool} {H : List Blk} {K : A → Dl → Prop} {zs : List A} (hS : S 51 = false) (hv : viewL (viewA 8 H) zs = some [aP ns, aI ks]) (ho : noOwns zs = true ∨ nosl (.tup [jref 0 (openV ns ks).1, i6 (openV ns ks).2]) = true ∧ noslBlks ([jblk (openV ns ks).1]) = true) (hK : K (shiftA H.length (.tup [jref 0 (openV ns ks).1, i6 (openV ns ks).2])) (.news (([jblk (openV ns ks).1]).map (shiftB H.length)))) : @WCall' Go.Proofs.Try.prog S 51 zs H ⟨K⟩ :=
  WCall_ro' hS hv (spec_l8All_c ns ks hl hk hp hks) rfl ho hK
/-- What can be derived. -/
def derF (ns : List Nd) (ks : List Int) : List Int := if kpF ns ks = true then mlistF ns (openV ns ks).1 else []
theorem allF_all' {p : Nat → Bool} {n : Nat} (h : allF p n 0 = true) {i : Nat} (hi : i < n) : p i = true := by
  simp only [allF, List.all_eq_true] at h
  exact h i (by simp [List.mem_range']; omega)
theorem kpF_mem {ns : List Nd} {ks : List Int} (h : kpF ns ks = true) : ∀ x ∈ ks, hasF ns.length x = true := by
  intro x hx
  obtain ⟨i, hi, rfl⟩ := List.getElem_of_mem hx
  simp only [kpF, knowF, Bool.and_eq_true] at h
  have := allF_all' h.2.1 hi
  simp only [kn, Bool.and_eq_true] at this
  simpa [hi] using this.1
theorem kpF_len {ns : List Nd} {ks : List Int} (h : kpF ns ks = true) : ks.length ≤ 200 := by
  simp only [kpF, knowF, Bool.and_eq_true, decide_eq_true_eq] at h
  exact h.2.2
theorem allO_len (ns : List Nd) : ∀ (n : Nat) (out : List Int) (t : Nat), out.length ≤ 200 → (allO ns n out t).1.length ≤ 200
  | 0, out, t, h => h
  | n + 1, out, t, h => by
    unfold allO
    split
    · rename_i g; exact allO_len ns n _ _ g.1
    · exact h
theorem spec_DerivesList_c (ns : List Nd) (ks : List Int) (hl : ns.length < 9223372036854775807) (hk : ks.length < 9223372036854775807) : T 24 [aP ns, aI ks] [] (jref 0 (derF ns ks)) ([jblk (derF ns ks)]) := by
  refine semT' (S := S0) hm spec_DerivesList_ok (Nat.le_of_ble_eq_true rfl) ?_
  unfold spec_DerivesList; dsimp only
  simp
  refine spec_KnowOk_k (ns := ns) (ks := ks) hl rfl (by simp) (by simp [noslBlks]) ?_; simp [shiftB]
  refine br_intro' (fun h => ?_) (fun h => ?_) <;> simp [h]
  · have hle := allO_len ns 201 ks 0 (kpF_len h)
    rw [show derF ns ks = mlistF ns (openV ns ks).1 from if_pos h]
    refine spec_l8All_k (ns := ns) (ks := ks) (poolF_len (kpF_pool h)) (kpF_len h) (kpF_pool h) (kpF_mem h) rfl (by simp) (by simp [noslBlks]) ?_; simp [shiftB]
    refine spec_MakesList_k (ns := ns) (ks := (openV ns ks).1) hl (by simp only [openV]; omega) rfl (by simp) (by simp [noslBlks]) ?_; simp [shiftB]
    first | (refine LeV.tell [none] ?_ ?_ ?_ <;> (simp; done)) | (refine LeV.tell [some 0] ?_ ?_ ?_ <;> (simp; done)) | (refine LeV.tell [some 1] ?_ ?_ ?_ <;> (simp; done)) | (refine LeV.tell [some 2] ?_ ?_ ?_ <;> (simp; done)) | (refine LeV.tell [some 3] ?_ ?_ ?_ <;> (simp; done)) | (refine LeV.tell [some 4] ?_ ?_ ?_ <;> (simp; done)) | (refine LeV.tell [some 5] ?_ ?_ ?_ <;> (simp; done)) | (refine LeV.tell [some 6] ?_ ?_ ?_ <;> (simp; done)) | (refine LeV.tell [some 7] ?_ ?_ ?_ <;> (simp; done)) | (refine LeV.tell [some 8] ?_ ?_ ?_ <;> (simp; done)) | (refine LeV.tell [some 9] ?_ ?_ ?_ <;> (simp; done)) | (refine LeV.tell [some 10] ?_ ?_ ?_ <;> (simp; done)) | (refine LeV.tell [some 11] ?_ ?_ ?_ <;> (simp; done)) | (refine LeV.tell [some 12] ?_ ?_ ?_ <;> (simp; done)) | (refine LeV.tell [some 13] ?_ ?_ ?_ <;> (simp; done)) | (refine LeV.tell [some 14] ?_ ?_ ?_ <;> (simp; done)) | (refine LeV.tell [some 15] ?_ ?_ ?_ <;> (simp; done))
  · rw [show derF ns ks = [] from if_neg (by simp [h])]
    first | (refine LeV.tell [none] ?_ ?_ ?_ <;> (simp; done)) | (refine LeV.tell [some 0] ?_ ?_ ?_ <;> (simp; done)) | (refine LeV.tell [some 1] ?_ ?_ ?_ <;> (simp; done)) | (refine LeV.tell [some 2] ?_ ?_ ?_ <;> (simp; done)) | (refine LeV.tell [some 3] ?_ ?_ ?_ <;> (simp; done)) | (refine LeV.tell [some 4] ?_ ?_ ?_ <;> (simp; done)) | (refine LeV.tell [some 5] ?_ ?_ ?_ <;> (simp; done)) | (refine LeV.tell [some 6] ?_ ?_ ?_ <;> (simp; done)) | (refine LeV.tell [some 7] ?_ ?_ ?_ <;> (simp; done)) | (refine LeV.tell [some 8] ?_ ?_ ?_ <;> (simp; done)) | (refine LeV.tell [some 9] ?_ ?_ ?_ <;> (simp; done)) | (refine LeV.tell [some 10] ?_ ?_ ?_ <;> (simp; done)) | (refine LeV.tell [some 11] ?_ ?_ ?_ <;> (simp; done)) | (refine LeV.tell [some 12] ?_ ?_ ?_ <;> (simp; done)) | (refine LeV.tell [some 13] ?_ ?_ ?_ <;> (simp; done)) | (refine LeV.tell [some 14] ?_ ?_ ?_ <;> (simp; done)) | (refine LeV.tell [some 15] ?_ ?_ ?_ <;> (simp; done))
theorem spec_DerivesList_k {ns : List Nd} {ks : List Int} (hl : ns.length < 9223372036854775807) (hk : ks.length < 9223372036854775807) {S : FuncId → Bool} {H : List Blk} {K : A → Dl → Prop} {zs : List A} (hS : S 24 = false) (hv : viewL (viewA 8 H) zs = some [aP ns, aI ks]) (ho : noOwns zs = true ∨ nosl (jref 0 (derF ns ks)) = true ∧ noslBlks ([jblk (derF ns ks)]) = true) (hK : K (shiftA H.length (jref 0 (derF ns ks))) (.news (([jblk (derF ns ks)]).map (shiftB H.length)))) : @WCall' Go.Proofs.Try.prog S 24 zs H ⟨K⟩ :=
  WCall_ro' hS hv (spec_DerivesList_c ns ks hl hk) rfl ho hK
end Go.Proofs.Ytfbfebaajdihiaa.C

set_option linter.unusedVariables false
set_option linter.unusedSimpArgs false
namespace Go.Proofs.Ytfbfebaajdihiaa.C
theorem findF_node {ns : List Nd} {n : Nd} (h : 0 ≤ findF ns n 0) : ∃ x : Nat, findF ns n 0 = x ∧ x < ns.length ∧ nodeAt ns x = n := by
  obtain ⟨j, hj, e, e2⟩ := findF_at ns n 0 h
  exact ⟨j, by simpa using e, hj, by rw [nodeAt_nat hj, e2]⟩
/-- In a right pool no node stands twice. -/
theorem node_uniq {ns : List Nd} (hp : poolF ns = true) {i j : Nat} (hi : i < ns.length) (hj : j < ns.length) (h : nodeAt ns i = nodeAt ns j) : i = j := by
  rw [nodeAt_nat hi, nodeAt_nat hj] at h
  rcases Nat.lt_trichotomy i j with g | g | g
  · exact absurd (List.mem_take_iff_getElem.2 ⟨i, by omega, h⟩) (okFrom_all hp hj).2
  · exact g
  · exact absurd (List.mem_take_iff_getElem.2 ⟨j, by omega, h.symm⟩) (okFrom_all hp hi).2
theorem findF_of {ns : List Nd} (hp : poolF ns = true) {x : Nat} (hx : x < ns.length) : findF ns (nodeAt ns x) 0 = x := by
  have h0 := findF_mem (show nodeAt ns x ∈ ns by rw [nodeAt_nat hx]; exact List.getElem_mem hx)
  obtain ⟨y, e, hy, ey⟩ := findF_node h0
  rw [e, node_uniq hp hy hx ey]
/-- What can be made of what is known. -/
inductive Mk (ns : List Nd) (ks : List Int) : Nat → Prop
  | know {t : Nat} (h : (t : Int) ∈ ks) : Mk ns ks t
  | pub {t : Nat} (ht : t < ns.length) (hk : (nodeAt ns t).k = 1) (h : pubF (nodeAt ns t).a = true) : Mk ns ks t
  | make1 {t a : Nat} (ht : t < ns.length) (hk : partsF (nodeAt ns t).k = 1) (ea : (nodeAt ns t).a = a) (h : Mk ns ks a) : Mk ns ks t
  | make2 {t a b : Nat} (ht : t < ns.length) (hk : partsF (nodeAt ns t).k = 2) (ea : (nodeAt ns t).a = a) (eb : (nodeAt ns t).b = b) (h : Mk ns ks a) (g : Mk ns ks b) : Mk ns ks t
  | shareA {t a x : Nat} (ht : t < ns.length) (hx : x < ns.length) (hk : (nodeAt ns t).k = 8) (ea : (nodeAt ns t).a = a) (ex : nodeAt ns x = ⟨7, (nodeAt ns t).b, 0⟩) (h : Mk ns ks a) (g : Mk ns ks x) : Mk ns ks t
  | shareB {t b x : Nat} (ht : t < ns.length) (hx : x < ns.length) (hk : (nodeAt ns t).k = 8) (eb : (nodeAt ns t).b = b) (ex : nodeAt ns x = ⟨7, (nodeAt ns t).a, 0⟩) (h : Mk ns ks b) (g : Mk ns ks x) : Mk ns ks t
def mkv (ns : List Nd) (ks : List Int) (t : Nat) : Bool := hasK ks t || madeB ns (mkUp ns ks t) t ks
theorem mkUp_get (ns : List Nd) (ks : List Int) : ∀ (n i : Nat) (h : i < (mkUp ns ks n).length), (mkUp ns ks n)[i] = mkv ns ks i
  | 0, i, h => by simp [mkUp] at h
  | n + 1, i, h => by
    have hm := mkUp_len ns ks n
    simp only [mkUp]
    rcases Nat.lt_or_ge i n with g | g
    · rw [List.getElem_append_left (by omega)]
      exact mkUp_get ns ks n i (by omega)
    · have hl := mkUp_len ns ks (n + 1)
      have : i = n := by omega
      subst this
      rw [List.getElem_append_right (by omega)]
      simp [mkv]
theorem bv_mkUp {ns : List Nd} {ks : List Int} {n a : Nat} (h : a < n) : bv (mkUp ns ks n) a = mkv ns ks a := by
  have hm := mkUp_len ns ks n
  rw [bv_nat (by omega), mkUp_get]
theorem powF_iff {ns : List Nd} (hp : poolF ns = true) {ks : List Int} {n b : Nat} (hb : b < n) : powF ns (mkUp ns ks n) ks b = true ↔ ∃ x : Nat, x < ns.length ∧ nodeAt ns x = ⟨7, b, 0⟩ ∧ (mkv ns ks b = true ∨ (x : Int) ∈ ks) := by
  unfold powF
  rw [bv_mkUp hb]
  constructor
  · intro h
    simp only [Bool.and_eq_true, decide_eq_true_eq, Bool.or_eq_true] at h
    obtain ⟨x, e, hx, ex⟩ := findF_node h.1
    refine ⟨x, hx, ex, h.2.imp id fun q => ?_⟩
    rw [e] at q
    simpa [hasK] using q
  · rintro ⟨x, hx, ex, h⟩
    have hf := findF_of hp hx
    rw [ex] at hf
    simp only [hf, Bool.and_eq_true, decide_eq_true_eq, Bool.or_eq_true]
    exact ⟨by omega, h.imp id fun q => by simpa [hasK] using q⟩
/-- What is told of a term. -/
theorem mkv_iff {ns : List Nd} (hp : poolF ns = true) {ks : List Int} {t : Nat} (ht : t < ns.length) : mkv ns ks t = true ↔ (t : Int) ∈ ks ∨ madeB ns (mkUp ns ks t) t ks = true := by
  simp [mkv, hasK]
theorem Mk_of {ns : List Nd} (hp : poolF ns = true) {ks : List Int} : ∀ (t : Nat), t < ns.length → mkv ns ks t = true → Mk ns ks t := by
  intro t
  induction t using Nat.strongRecOn with
  | ind t ih =>
    intro ht h
    rcases (mkv_iff hp ht).1 h with h | h
    · exact .know h
    · have en := nodeAt_nat ht
      unfold madeB at h
      split at h
      · rename_i hk; exact .pub ht hk h
      · rename_i hk1
        split at h
        · rename_i hk
          rw [en] at hk
          obtain ⟨a, ea, hal⟩ := part_in hp ht hk
          rw [← en] at ea hk
          rw [ea, bv_mkUp hal] at h
          exact .make1 ht hk ea (ih a hal (by omega) h)
        · rename_i hk2
          have hk : partsF (nodeAt ns t).k = 2 := by
            rcases parts_kind hp ht with q | q | q
            · rw [← en] at q; exact absurd (partsF_0' q) hk1
            · rw [← en] at q; exact absurd q hk2
            · rw [en]; exact q
          have hk' := hk
          rw [en] at hk'
          obtain ⟨⟨a, ea, hal⟩, b, eb, hbl⟩ := parts_in hp ht hk'
          rw [← en] at ea eb
          rw [ea, eb, bv_mkUp hal, bv_mkUp hbl] at h
          split at h
          · rename_i g
            exact .make2 ht hk ea eb (ih a hal (by omega) g.1) (ih b hbl (by omega) g.2)
          · split at h
            · rename_i hk8
              simp only [Bool.or_eq_true, Bool.and_eq_true] at h
              rcases h with ⟨h1, h2⟩ | ⟨h1, h2⟩
              · obtain ⟨x, hx, ex, h3⟩ := (powF_iff hp hbl).1 h2
                refine .shareA (x := x) ht hx hk8 ea (by rw [ex, eb]) (ih a hal (by omega) h1) ?_
                rcases h3 with h3 | h3
                · exact .make1 hx (by rw [ex]; rfl) (by rw [ex]) (ih b hbl (by omega) h3)
                · exact .know h3
              · obtain ⟨x, hx, ex, h3⟩ := (powF_iff hp hal).1 h2
                refine .shareB (x := x) ht hx hk8 eb (by rw [ex, ea]) (ih b hbl (by omega) h1) ?_
                rcases h3 with h3 | h3
                · exact .make1 hx (by rw [ex]; rfl) (by rw [ex]) (ih a hal (by omega) h3)
                · exact .know h3
            · cases h
theorem of_Mk {ns : List Nd} (hp : poolF ns = true) {ks : List Int} {t : Nat} (h : Mk ns ks t) : t < ns.length → mkv ns ks t = true := by
  induction h with
  | know h => intro ht; exact (mkv_iff hp ht).2 (.inl h)
  | pub ht hk h => intro _; refine (mkv_iff hp ht).2 (.inr ?_); unfold madeB; rw [if_pos hk]; exact h
  | @make1 t a ht hk ea h ih =>
    intro _
    refine (mkv_iff hp ht).2 (.inr ?_)
    have en := nodeAt_nat ht
    have hk' := hk
    rw [en] at hk'
    obtain ⟨a', ea', hal⟩ := part_in hp ht hk'
    rw [← en, ea] at ea'
    have : a = a' := by omega
    subst this
    unfold madeB
    rw [if_neg (by intro e; rw [e] at hk; simp [partsF] at hk), if_pos hk, ea, bv_mkUp hal]
    exact ih (by omega)
  | @make2 t a b ht hk ea eb h g ih1 ih2 =>
    intro _
    refine (mkv_iff hp ht).2 (.inr ?_)
    have en := nodeAt_nat ht
    have hk' := hk
    rw [en] at hk'
    obtain ⟨⟨a', ea', hal⟩, b', eb', hbl⟩ := parts_in hp ht hk'
    rw [← en, ea] at ea'
    rw [← en, eb] at eb'
    have h1 : a = a' := by omega
    have h2 : b = b' := by omega
    subst h1 h2
    unfold madeB
    rw [if_neg (by intro e; rw [e] at hk; simp [partsF] at hk), if_neg (by omega), ea, eb, bv_mkUp hal, bv_mkUp hbl, if_pos ⟨ih1 (by omega), ih2 (by omega)⟩]
  | @shareA t a x ht hx hk ea ex h g ih1 ih2 =>
    intro _
    refine (mkv_iff hp ht).2 (.inr ?_)
    have en := nodeAt_nat ht
    have hk' := hk
    rw [en] at hk'
    obtain ⟨⟨a', ea', hal⟩, b, eb, hbl⟩ := parts_in hp ht (by rw [hk']; rfl)
    rw [← en, ea] at ea'
    rw [← en] at eb
    have h1 : a = a' := by omega
    subst h1
    rw [eb] at ex
    have hpw : powF ns (mkUp ns ks t) ks b = true := by
      refine (powF_iff hp hbl).2 ⟨x, hx, ex, ?_⟩
      rcases (mkv_iff hp hx).1 (ih2 hx) with q | q
      · exact .inr q
      · left
        unfold madeB at q
        rw [ex] at q
        rw [if_neg (by simp), if_pos (by rfl)] at q
        have hbx : b < x := by
          have enx := nodeAt_nat hx
          obtain ⟨b', e', hb'⟩ := part_in hp hx (by rw [← enx, ex]; rfl)
          rw [← enx, ex] at e'
          simp only at e'
          omega
        rw [bv_mkUp hbx] at q
        exact q
    unfold madeB
    rw [if_neg (by omega), if_neg (by rw [hk]; simp [partsF]), ea, eb, bv_mkUp hal, bv_mkUp hbl, if_pos hk, ih1 (by omega), hpw]
    split <;> simp
  | @shareB t b x ht hx hk eb ex h g ih1 ih2 =>
    intro _
    refine (mkv_iff hp ht).2 (.inr ?_)
    have en := nodeAt_nat ht
    have hk' := hk
    rw [en] at hk'
    obtain ⟨⟨a, ea, hal⟩, b', eb', hbl⟩ := parts_in hp ht (by rw [hk']; rfl)
    rw [← en] at ea
    rw [← en, eb] at eb'
    have h1 : b = b' := by omega
    subst h1
    rw [ea] at ex
    have hpw : powF ns (mkUp ns ks t) ks a = true := by
      refine (powF_iff hp hal).2 ⟨x, hx, ex, ?_⟩
      rcases (mkv_iff hp hx).1 (ih2 hx) with q | q
      · exact .inr q
      · left
        unfold madeB at q
        rw [ex] at q
        rw [if_neg (by simp), if_pos (by rfl)] at q
        have hbx : a < x := by
          have enx := nodeAt_nat hx
          obtain ⟨b', e', hb'⟩ := part_in hp hx (by rw [← enx, ex]; rfl)
          rw [← enx, ex] at e'
          simp only at e'
          omega
        rw [bv_mkUp hbx] at q
        exact q
    unfold madeB
    rw [if_neg (by omega), if_neg (by rw [hk]; simp [partsF]), ea, eb, bv_mkUp hal, bv_mkUp hbl, if_pos hk, ih1 (by omega), hpw]
    split <;> simp
theorem mkv_Mk {ns : List Nd} (hp : poolF ns = true) {ks : List Int} {t : Nat} (ht : t < ns.length) : mkv ns ks t = true ↔ Mk ns ks t := ⟨Mk_of hp t ht, fun h => of_Mk hp h ht⟩
/-- What is listed of bools. -/
theorem listGo_mem {x : Int} : ∀ {mk : List Bool} {i : Nat}, x ∈ listGo i mk ↔ ∃ j : Nat, ∃ h : j < mk.length, x = (i + j : Nat) ∧ mk[j] = true
  | [], i => by simp [listGo]
  | b :: bs, i => by
    unfold listGo
    have ih := @listGo_mem x bs (i + 1)
    constructor
    · intro h
      split at h
      · rename_i hb
        rcases List.mem_cons.1 h with h | h
        · exact ⟨0, by simp, by simpa using h, by simpa using hb⟩
        · obtain ⟨j, h1, h2, h3⟩ := ih.1 h
          exact ⟨j + 1, by simp; omega, by rw [h2]; congr 1; omega, by simpa using h3⟩
      · obtain ⟨j, h1, h2, h3⟩ := ih.1 h
        exact ⟨j + 1, by simp; omega, by rw [h2]; congr 1; omega, by simpa using h3⟩
    · rintro ⟨j, h1, h2, h3⟩
      cases j with
      | zero =>
        have hb : b = true := by simpa using h3
        rw [if_pos hb]
        exact List.mem_cons.2 (.inl (by simpa using h2))
      | succ j =>
        have : x ∈ listGo (i + 1) bs := ih.2 ⟨j, by simpa using h1, by rw [h2]; congr 1; omega, by simpa using h3⟩
        split
        · exact List.mem_cons.2 (.inr this)
        · exact this
theorem listF_mem {x : Int} {mk : List Bool} : x ∈ listF mk ↔ ∃ j : Nat, ∃ h : j < mk.length, x = j ∧ mk[j] = true := by
  have := @listGo_mem x mk 0
  simpa [listF] using this
theorem listGo_len : ∀ (mk : List Bool) (i : Nat), (listGo i mk).length = mk.countP id
  | [], i => rfl
  | b :: bs, i => by
    unfold listGo
    cases b with
    | true => simp [listGo_len bs (i + 1)]
    | false => simp [listGo_len bs (i + 1)]
theorem mlistF_mem {ns : List Nd} {ks : List Int} (hk : kpF ns ks = true) {x : Int} : x ∈ mlistF ns ks ↔ ∃ t : Nat, x = t ∧ t < ns.length ∧ Mk ns ks t := by
  have hp := kpF_pool hk
  have hm := mkUp_len ns ks ns.length
  unfold mlistF makesF
  rw [if_pos hk, listF_mem]
  constructor
  · rintro ⟨j, h1, rfl, h3⟩
    rw [mkUp_get] at h3
    exact ⟨j, rfl, by omega, Mk_of hp j (by omega) h3⟩
  · rintro ⟨t, rfl, h1, h2⟩
    exact ⟨t, by omega, rfl, by rw [mkUp_get]; exact of_Mk hp h2 h1⟩
end Go.Proofs.Ytfbfebaajdihiaa.C

set_option linter.unusedVariables false
set_option linter.unusedSimpArgs false
namespace Go.Proofs.Ytfbfebaajdihiaa.C
open Go.Sym Go.Proofs.Ytfbfebaajdihiaa.I
/-- Step j asks for step i. -/
def Us (ns : List Nd) (ss : List Sp) (j i : Nat) : Prop := (0 < needsF ns (spAt ss j) ∧ (spAt ss j).a = i) ∨ (1 < needsF ns (spAt ss j) ∧ (spAt ss j).b = i)
theorem Us_lt {ns : List Nd} {ss : List Sp} {j i : Nat} (h : wellF ns ss j = true) (u : Us ns ss j i) : i < j := by
  simp only [wellF, Bool.and_eq_true, Bool.or_eq_true, decide_eq_true_eq] at h
  obtain ⟨⟨⟨h1, h2⟩, h3⟩, h4⟩ := h
  rcases u with ⟨u1, u2⟩ | ⟨u1, u2⟩
  · have := h3.resolve_left (by omega)
    simp only [inF, Bool.and_eq_true, decide_eq_true_eq] at this
    omega
  · have := h4.resolve_left (by omega)
    simp only [inF, Bool.and_eq_true, decide_eq_true_eq] at this
    omega
theorem well_a {ns : List Nd} {ss : List Sp} {j : Nat} (h : wellF ns ss j = true) (n : 0 < needsF ns (spAt ss j)) : (spAt ss j).a = ((spAt ss j).a.toNat : Int) ∧ (spAt ss j).a.toNat < j := by
  simp only [wellF, Bool.and_eq_true, Bool.or_eq_true, decide_eq_true_eq] at h
  have := h.1.2.resolve_left (by omega)
  simp only [inF, Bool.and_eq_true, decide_eq_true_eq] at this
  omega
theorem well_b {ns : List Nd} {ss : List Sp} {j : Nat} (h : wellF ns ss j = true) (n : 1 < needsF ns (spAt ss j)) : (spAt ss j).b = ((spAt ss j).b.toNat : Int) ∧ (spAt ss j).b.toNat < j := by
  simp only [wellF, Bool.and_eq_true, Bool.or_eq_true, decide_eq_true_eq] at h
  have := h.2.resolve_left (by omega)
  simp only [inF, Bool.and_eq_true, decide_eq_true_eq] at this
  omega
theorem getD_set' {kb : List Bool} {p i : Nat} (h : p < kb.length) : (kb.set p true).getD i false = true ↔ p = i ∨ kb.getD i false = true := by
  rcases Nat.decEq p i with e | e
  · simp [List.getElem?_set_ne e, e]
  · subst e; simp [List.getElem?_set_self h]
theorem keepStep_iff {ns : List Nd} {ss : List Sp} {kb : List Bool} {n : Nat} (h : wellF ns ss n = true) (hn : n < kb.length) (i : Nat) : (keepStep ns ss kb n).getD i false = true ↔ kb.getD i false = true ∨ (kb.getD n false = true ∧ Us ns ss n i) := by
  unfold keepStep
  split
  · rename_i k
    split
    · rename_i k0
      have ea := well_a h k0
      split
      · rename_i k1
        have eb := well_b h k1
        rw [getD_set' (by rw [List.length_set]; omega), getD_set' (by omega)]
        constructor
        · rintro (e | e | e)
          · exact .inr ⟨k, .inr ⟨k1, by omega⟩⟩
          · exact .inr ⟨k, .inl ⟨k0, by omega⟩⟩
          · exact .inl e
        · rintro (e | ⟨_, ⟨_, e⟩ | ⟨_, e⟩⟩)
          · exact .inr (.inr e)
          · exact .inr (.inl (by omega))
          · exact .inl (by omega)
      · rename_i k1
        rw [getD_set' (by omega)]
        constructor
        · rintro (e | e)
          · exact .inr ⟨k, .inl ⟨k0, by omega⟩⟩
          · exact .inl e
        · rintro (e | ⟨_, ⟨_, e⟩ | ⟨e, _⟩⟩)
          · exact .inr e
          · exact .inl (by omega)
          · exact absurd e k1
    · rename_i k0
      constructor
      · exact .inl
      · rintro (e | ⟨_, ⟨e, _⟩ | ⟨e, _⟩⟩)
        · exact e
        · exact absurd e k0
        · exact absurd e (by omega)
  · rename_i k
    exact ⟨.inl, fun e => e.elim id fun e => absurd e.1 k⟩
theorem keepGo_mono {ns : List Nd} {ss : List Sp} (hw : ∀ i : Nat, i < ss.length → wellF ns ss i = true) {i : Nat} : ∀ (n : Nat) (kb : List Bool), n ≤ ss.length → kb.length = ss.length → kb.getD i false = true → (keepGo ns ss n kb).getD i false = true
  | 0, kb, _, _, h => h
  | n + 1, kb, hn, hl, h => keepGo_mono hw n _ (by omega) (by rw [keepStep_len, hl]) ((keepStep_iff (hw n (by omega)) (by omega) i).2 (.inl h))
theorem keepGo_closed {ns : List Nd} {ss : List Sp} (hw : ∀ i : Nat, i < ss.length → wellF ns ss i = true) : ∀ (n : Nat) (kb : List Bool), n ≤ ss.length → kb.length = ss.length →
    (∀ j i : Nat, n ≤ j → j < ss.length → kb.getD j false = true → Us ns ss j i → kb.getD i false = true) →
    ∀ j i : Nat, j < ss.length → (keepGo ns ss n kb).getD j false = true → Us ns ss j i → (keepGo ns ss n kb).getD i false = true
  | 0, kb, _, _, h => fun j i hj => h j i (Nat.zero_le _) hj
  | n + 1, kb, hn, hl, h => by
    have key := fun i => keepStep_iff (kb := kb) (hw n (by omega)) (by omega) i
    refine keepGo_closed hw n (keepStep ns ss kb n) (by omega) (by rw [keepStep_len, hl]) ?_
    intro j i hj hjl hk hu
    rw [key] at hk ⊢
    have hij := Us_lt (hw j hjl) hu
    rcases hk with hk | ⟨hk, hu2⟩
    · rcases Nat.lt_or_ge n j with g | g
      · exact .inl (h j i (by omega) hjl hk hu)
      · have : j = n := by omega
        subst this
        exact .inr ⟨hk, hu⟩
    · have := Us_lt (hw n (by omega)) hu2
      omega
theorem keepGo_used {ns : List Nd} {ss : List Sp} (hw : ∀ i : Nat, i < ss.length → wellF ns ss i = true) {l : Nat} : ∀ (n : Nat) (kb : List Bool), n ≤ ss.length → kb.length = ss.length →
    (∀ i : Nat, kb.getD i false = true → i = l ∨ ∃ j : Nat, j < ss.length ∧ kb.getD j false = true ∧ Us ns ss j i) →
    ∀ i : Nat, (keepGo ns ss n kb).getD i false = true → i = l ∨ ∃ j : Nat, j < ss.length ∧ (keepGo ns ss n kb).getD j false = true ∧ Us ns ss j i
  | 0, kb, _, _, h => h
  | n + 1, kb, hn, hl, h => by
    have key := fun i => keepStep_iff (kb := kb) (hw n (by omega)) (by omega) i
    refine keepGo_used hw n (keepStep ns ss kb n) (by omega) (by rw [keepStep_len, hl]) ?_
    intro i hk
    rw [key] at hk
    rcases hk with hk | ⟨hk, hu⟩
    · rcases h i hk with e | ⟨j, h1, h2, h3⟩
      · exact .inl e
      · exact .inr ⟨j, h1, (key j).2 (.inl h2), h3⟩
    · exact .inr ⟨n, by omega, (key n).2 (.inl hk), hu⟩
theorem keepGo_len' (ns : List Nd) (ss : List Sp) : ∀ (n : Nat) (kb : List Bool), (keepGo ns ss n kb).length = kb.length
  | 0, kb => rfl
  | n + 1, kb => by rw [keepGo, keepGo_len' ns ss n, keepStep_len]
/-- What is kept: the last step, what kept steps ask for, and nothing else. -/
theorem keepV_spec {ns : List Nd} {ss : List Sp} (hw : ∀ i : Nat, i < ss.length → wellF ns ss i = true) (hne : ss ≠ []) :
    (keepV ns ss).length = ss.length ∧ (keepV ns ss).getD (ss.length - 1) false = true ∧
    (∀ j i : Nat, j < ss.length → (keepV ns ss).getD j false = true → Us ns ss j i → (keepV ns ss).getD i false = true) ∧
    (∀ i : Nat, (keepV ns ss).getD i false = true → i = ss.length - 1 ∨ ∃ j : Nat, j < ss.length ∧ (keepV ns ss).getD j false = true ∧ Us ns ss j i) := by
  have h0 : 0 < ss.length := List.length_pos_iff.2 hne
  have hl : ((List.replicate ss.length false).set (ss.length - 1) true).length = ss.length := by simp
  refine ⟨by rw [keepV, keepGo_len', hl], ?_, ?_, ?_⟩
  · exact keepGo_mono hw _ _ (Nat.le_refl _) hl ((getD_set' (by simp; omega)).2 (.inl rfl))
  · exact keepGo_closed hw _ _ (Nat.le_refl _) hl (fun j i h1 h2 => by omega)
  · refine keepGo_used hw _ _ (Nat.le_refl _) hl ?_
    intro i hi
    rw [getD_set' (by simp; omega)] at hi
    rcases hi with e | e
    · exact .inl e.symm
    · simp [List.getElem?_replicate] at e
      split at e <;> simp at e
/-- How many of the first are kept. -/
def rk (kb : List Bool) : Nat → Nat
  | 0 => 0
  | n + 1 => rk kb n + if kb.getD n false = true then 1 else 0
theorem rk_one {kb : List Bool} {n : Nat} (h : kb.getD n false = true) : rk kb (n + 1) = rk kb n + 1 := by rw [rk, if_pos h]
theorem rk_no {kb : List Bool} {n : Nat} (h : ¬ kb.getD n false = true) : rk kb (n + 1) = rk kb n := by rw [rk, if_neg h]; rfl
theorem rk_le (kb : List Bool) {i : Nat} : ∀ {j : Nat}, i ≤ j → rk kb i ≤ rk kb j
  | 0, h => by rw [Nat.le_zero.1 h]; exact Nat.le_refl _
  | j + 1, h => by
    rcases Nat.lt_or_ge i (j + 1) with g | g
    · have := rk_le kb (i := i) (j := j) (by omega)
      rw [show rk kb (j + 1) = rk kb j + if kb.getD j false = true then 1 else 0 from rfl]; omega
    · rw [show i = j + 1 by omega]; exact Nat.le_refl _
theorem rk_lt {kb : List Bool} {i j : Nat} (h : i < j) (k : kb.getD i false = true) : rk kb i < rk kb j := by
  have := rk_le kb (show i + 1 ≤ j from h)
  rw [rk_one k] at this
  omega
theorem rk_on {kb : List Bool} {p : Nat} : ∀ {j : Nat}, p < rk kb j → ∃ i : Nat, i < j ∧ kb.getD i false = true ∧ rk kb i = p
  | 0, h => absurd h (Nat.not_lt_zero _)
  | j + 1, h => by
    rcases Nat.lt_or_ge p (rk kb j) with g | g
    · obtain ⟨i, h1, h2⟩ := rk_on g
      exact ⟨i, by omega, h2⟩
    · by_cases k : kb.getD j false = true
      · rw [rk_one k] at h
        exact ⟨j, by omega, k, by omega⟩
      · rw [rk_no k] at h
        omega
/-- A kept step, its places told anew. -/
def mvS (ns : List Nd) (ss : List Sp) (kb : List Bool) (i : Nat) : Sp :=
  ⟨(spAt ss i).r, (spAt ss i).t, if 0 < needsF ns (spAt ss i) then rk kb (spAt ss i).a.toNat else (spAt ss i).a, if 1 < needsF ns (spAt ss i) then rk kb (spAt ss i).b.toNat else (spAt ss i).b⟩
theorem trimGo_spec {ns : List Nd} {ss : List Sp} {kb : List Bool} (hw : ∀ i : Nat, i < ss.length → wellF ns ss i = true)
    (hc : ∀ j i : Nat, j < ss.length → kb.getD j false = true → Us ns ss j i → kb.getD i false = true) : ∀ (n j : Nat) (now : List Int) (out : List Sp), j + n = ss.length → now.length = ss.length → out.length = rk kb j →
    (∀ i : Nat, i < j → kb.getD i false = true → now.getD i 0 = rk kb i) → (∀ i : Nat, i < j → kb.getD i false = true → out[rk kb i]? = some (mvS ns ss kb i)) →
    (trimGo ns ss kb n j now out).length = rk kb ss.length ∧ ∀ i : Nat, i < ss.length → kb.getD i false = true → (trimGo ns ss kb n j now out)[rk kb i]? = some (mvS ns ss kb i)
  | 0, j, now, out, hj, hnl, hol, _, ho => by
    have : j = ss.length := by omega
    subst this
    exact ⟨hol, ho⟩
  | n + 1, j, now, out, hj, hnl, hol, hn, ho => by
    have hjl : j < ss.length := by omega
    unfold trimGo
    split
    · rename_i k
      have hmv : moveF ns now (spAt ss j) = mvS ns ss kb j := by
        unfold moveF mvS
        congr 1
        · split
          · rename_i g
            have := well_a (hw j hjl) g
            exact hn _ this.2 (hc j _ hjl k (.inl ⟨g, this.1⟩))
          · rfl
        · split
          · rename_i g
            have := well_b (hw j hjl) g
            exact hn _ this.2 (hc j _ hjl k (.inr ⟨g, this.1⟩))
          · rfl
      refine trimGo_spec hw hc n (j + 1) _ _ (by omega) (by simpa using hnl) (by rw [rk_one k]; simp; omega) ?_ ?_
      · intro i hi ki
        rcases Nat.lt_or_ge i j with g | g
        · rw [← hn i g ki]
          simp [List.getElem?_set_ne (show j ≠ i by omega)]
        · have : i = j := by omega
          subst this
          simp [List.getElem?_set_self (show i < now.length by omega), hol]
      · intro i hi ki
        rcases Nat.lt_or_ge i j with g | g
        · rw [List.getElem?_append_left (by rw [hol]; exact rk_lt g ki)]
          exact ho i g ki
        · have : i = j := by omega
          subst this
          rw [← hol, List.getElem?_append_right (Nat.le_refl _), hmv]
          simp
    · rename_i k
      refine trimGo_spec hw hc n (j + 1) now out (by omega) hnl (by rw [rk_no k]; exact hol) ?_ ?_
      · intro i hi ki
        rcases Nat.lt_or_ge i j with g | g
        · exact hn i g ki
        · have : i = j := by omega
          subst this
          exact absurd ki k
      · intro i hi ki
        rcases Nat.lt_or_ge i j with g | g
        · exact ho i g ki
        · have : i = j := by omega
          subst this
          exact absurd ki k
theorem trimV_spec {ns : List Nd} {ss : List Sp} (hw : ∀ i : Nat, i < ss.length → wellF ns ss i = true) (hne : ss ≠ []) :
    (trimV ns ss).length = rk (keepV ns ss) ss.length ∧ ∀ i : Nat, i < ss.length → (keepV ns ss).getD i false = true → (trimV ns ss)[rk (keepV ns ss) i]? = some (mvS ns ss (keepV ns ss) i) :=
  trimGo_spec hw (keepV_spec hw hne).2.2.1 ss.length 0 _ [] (by omega) (by simp) rfl (fun i h => absurd h (Nat.not_lt_zero _)) (fun i h => absurd h (Nat.not_lt_zero _))
theorem holds_move {ns : List Nd} {ks : List Int} {s s' : Sp} {a b a' b' : Int} (h : holdsF ns ks s a b = true) (er : s'.r = s.r) (et : s'.t = s.t)
    (ha : 0 < needsF ns s → a' = a) (hb : 1 < needsF ns s → b' = b) (ga : needsF ns s < 1 → s'.a = s.a) (gb : needsF ns s < 2 → s'.b = s.b) : holdsF ns ks s' a' b' = true := by
  have en : needsF ns s' = needsF ns s := by simp [needsF, er, et]
  simp only [holdsF, Bool.and_eq_true, Bool.not_eq_true', lackF, decide_eq_false_iff_not, not_or, not_and] at h ⊢
  rw [en]
  obtain ⟨⟨g1, g2, g3, g4, g5⟩, h2⟩ := h
  refine ⟨⟨g1, fun n => by rw [ha n]; exact g2 n, fun n => by rw [hb n]; exact g3 n, fun n => by rw [ga n]; exact g4 n, fun n => by rw [gb n]; exact g5 n⟩, ?_⟩
  by_cases r1 : s.r = 1
  · simp [ruleF, er, et, r1] at h2 ⊢; exact h2
  by_cases r2 : s.r = 2
  · simp [ruleF, er, et, r2] at h2 ⊢; exact h2
  by_cases r3 : s.r = 3
  · have hn : needsF ns s = partsF (nodeAt ns s.t).k := by simp [needsF, r3]
    by_cases k : (nodeAt ns s.t).k = 1
    · simp [ruleF, er, et, r3, k] at h2
    · have h0 : 0 < needsF ns s := by
        rw [hn] at g1 ⊢
        unfold partsF at g1 ⊢
        rw [if_neg k] at g1 ⊢
        split
        · omega
        · rename_i k5
          rw [if_neg k5] at g1
          split
          · omega
          · rename_i k2
            rw [if_neg k2] at g1
            omega
      rw [ha h0]
      by_cases u : 1 < needsF ns s
      · rw [hb u]
        simp only [ruleF, er, et, r3, en] at h2 ⊢
        exact h2
      · have u' : needsF ns s < 2 := by omega
        simp [ruleF, er, et, r3, en, u'] at h2 ⊢
        exact h2
  by_cases r4 : s.r = 4
  · have hn : needsF ns s = 2 := by simp [needsF, r4]
    rw [ha (by omega), hb (by omega)]
    simp only [ruleF, er, et, r4] at h2 ⊢
    exact h2
  by_cases r7 : s.r = 7
  · have hn : needsF ns s = 2 := by simp [needsF, r7]
    rw [ha (by omega), hb (by omega)]
    simp only [ruleF, er, et, r7] at h2 ⊢
    exact h2
  have h0 : 0 < needsF ns s := by
    unfold needsF at g1 ⊢
    rw [if_neg (by omega), if_neg r3, if_neg (by omega)] at g1 ⊢
    split
    · omega
    · rename_i k
      rw [if_neg k] at g1
      omega
  rw [ha h0]
  simp only [ruleF, er, et, r1, r2, r3, r4, r7, if_false] at h2 ⊢
  exact h2
theorem spAt_get {ss : List Sp} {i : Nat} {s : Sp} (h : ss[i]? = some s) : spAt ss i = s := by simp [spAt, h]
theorem get_spAt {ss : List Sp} {i : Nat} (h : i < ss.length) : ss[i]? = some (spAt ss i) := by rw [spAt_lt h]; exact List.getElem?_eq_getElem h
theorem termAt_nat {ss : List Sp} {i k : Nat} (h : k < i) : termAt ss i (k : Int) = (spAt ss k).t := by
  have e : inF (k : Int) 0 ((i : Int) - 1) = true := by simp only [inF, decide_eq_true_eq]; omega
  unfold termAt
  rw [if_pos e]
  rfl
theorem trim_at {ns : List Nd} {ss : List Sp} (hw : ∀ i : Nat, i < ss.length → wellF ns ss i = true) (hne : ss ≠ []) {i : Nat} (hi : i < ss.length) (k : (keepV ns ss).getD i false = true) : spAt (trimV ns ss) (rk (keepV ns ss) i) = mvS ns ss (keepV ns ss) i := spAt_get ((trimV_spec hw hne).2 i hi k)
theorem trim_on {ns : List Nd} {ss : List Sp} (hw : ∀ i : Nat, i < ss.length → wellF ns ss i = true) (hne : ss ≠ []) {p : Nat} (hp : p < (trimV ns ss).length) : ∃ i : Nat, i < ss.length ∧ (keepV ns ss).getD i false = true ∧ rk (keepV ns ss) i = p ∧ spAt (trimV ns ss) p = mvS ns ss (keepV ns ss) i := by
  rw [(trimV_spec hw hne).1] at hp
  obtain ⟨i, h1, h2, h3⟩ := rk_on hp
  exact ⟨i, h1, h2, h3, h3 ▸ trim_at hw hne h1 h2⟩
/-- What is trimmed of a proof is a proof. -/
theorem trim_pr {ns : List Nd} {ks : List Int} {ss : List Sp} (hpr : ∀ i : Nat, i < ss.length → prF ns ks ss i = true) (hne : ss ≠ []) : ∀ p : Nat, p < (trimV ns ss).length → prF ns ks (trimV ns ss) p = true := by
  have hw : ∀ i : Nat, i < ss.length → wellF ns ss i = true := fun i hi => prF_well hi (hpr i hi)
  have hc := (keepV_spec hw hne).2.2.1
  intro p hp
  obtain ⟨i, hi, ki, ri, ei⟩ := trim_on hw hne hp
  have h := hpr i hi
  simp only [prF, stepOkF, Bool.and_eq_true, termAt_take (Nat.le_of_lt hi)] at h
  obtain ⟨⟨h1, h2⟩, h3⟩ := h
  simp only [prF, stepOkF, Bool.and_eq_true, termAt_take (Nat.le_of_lt hp)]
  have et : (spAt (trimV ns ss) p).t = (spAt ss i).t := by rw [ei]; rfl
  have key : ∀ a : Nat, a < i → (keepV ns ss).getD a false = true → termAt (trimV ns ss) p (rk (keepV ns ss) a : Nat) = termAt ss i (a : Int) := fun a ha ka => by
    rw [termAt_nat (by rw [← ri]; exact rk_lt ha ka), termAt_nat ha, trim_at hw hne (by omega) ka]
    rfl
  refine ⟨⟨by rw [et]; exact h1, ?_⟩, ?_⟩
  · refine holds_move h2 (by rw [ei]; rfl) et ?_ ?_ ?_ ?_
    · intro n
      have ea := well_a (hw i hi) n
      rw [ei, show (mvS ns ss (keepV ns ss) i).a = (rk (keepV ns ss) (spAt ss i).a.toNat : Int) from if_pos n, key _ ea.2 (hc i _ hi ki (.inl ⟨n, ea.1⟩)), ← ea.1]
    · intro n
      have eb := well_b (hw i hi) n
      rw [ei, show (mvS ns ss (keepV ns ss) i).b = (rk (keepV ns ss) (spAt ss i).b.toNat : Int) from if_pos n, key _ eb.2 (hc i _ hi ki (.inr ⟨n, eb.1⟩)), ← eb.1]
    · intro n
      rw [ei]
      exact if_neg (by omega)
    · intro n
      rw [ei]
      exact if_neg (by omega)
  · simp only [freshF, decide_eq_true_eq] at h3 ⊢
    intro x hx
    obtain ⟨q, hq, rfl⟩ := List.getElem_of_mem hx
    simp only [List.length_take] at hq
    rw [List.getElem_take, ← spAt_lt (by omega), et]
    obtain ⟨i', hi', ki', ri', ei'⟩ := trim_on hw hne (p := q) (by omega)
    rw [ei']
    have hlt : i' < i := by
      rcases Nat.lt_or_ge i' i with g | g
      · exact g
      · have := rk_le (keepV ns ss) g
        omega
    refine h3 (spAt ss i') ?_
    rw [spAt_lt hi']
    exact List.mem_take_iff_getElem.2 ⟨i', by omega, rfl⟩
theorem trim_ne {ns : List Nd} {ss : List Sp} (hw : ∀ i : Nat, i < ss.length → wellF ns ss i = true) (hne : ss ≠ []) : (trimV ns ss).length = rk (keepV ns ss) (ss.length - 1) + 1 := by
  have h0 : 0 < ss.length := List.length_pos_iff.2 hne
  have h := rk_one (keepV_spec hw hne).2.1
  rw [show ss.length - 1 + 1 = ss.length by omega] at h
  rw [(trimV_spec hw hne).1, h]
/-- Trimmed twice it is trimmed once. -/
theorem trim_twice {ns : List Nd} {ks : List Int} {ss : List Sp} (hpr : ∀ i : Nat, i < ss.length → prF ns ks ss i = true) (hne : ss ≠ []) : trimV ns (trimV ns ss) = trimV ns ss := by
  have hw : ∀ i : Nat, i < ss.length → wellF ns ss i = true := fun i hi => prF_well hi (hpr i hi)
  have hpr2 := trim_pr hpr hne
  have hln := trim_ne hw hne
  have hne2 : trimV ns ss ≠ [] := by intro e; rw [e] at hln; simp at hln
  have hw2 : ∀ i : Nat, i < (trimV ns ss).length → wellF ns (trimV ns ss) i = true := fun i hi => prF_well hi (hpr2 i hi)
  have hs := keepV_spec hw hne
  have hs2 := keepV_spec hw2 hne2
  have hlen := (trimV_spec hw hne).1
  have all : ∀ n p : Nat, p < (trimV ns ss).length → (trimV ns ss).length - p ≤ n → (keepV ns (trimV ns ss)).getD p false = true := by
    intro n
    induction n with
    | zero => intro p h1 h2; omega
    | succ n ihn =>
      intro p h1 h2
      obtain ⟨i, hi, ki, ri, ei⟩ := trim_on hw hne h1
      rcases hs.2.2.2 i ki with e | ⟨j, hj, kj, uj⟩
      · have : p = (trimV ns ss).length - 1 := by rw [hln, ← ri, e]; rfl
        rw [this]
        exact hs2.2.1
      · have hij := Us_lt (hw j hj) uj
        have hr := rk_lt hij ki
        have hrl : rk (keepV ns ss) j < (trimV ns ss).length := by rw [hlen]; exact rk_lt hj kj
        refine hs2.2.2.1 (rk (keepV ns ss) j) p hrl (ihn _ hrl (by omega)) ?_
        have ej := trim_at hw hne hj kj
        have en : needsF ns (mvS ns ss (keepV ns ss) j) = needsF ns (spAt ss j) := rfl
        unfold Us
        rw [ej, en]
        rcases uj with ⟨u1, u2⟩ | ⟨u1, u2⟩
        · left
          refine ⟨u1, ?_⟩
          rw [show (mvS ns ss (keepV ns ss) j).a = (rk (keepV ns ss) (spAt ss j).a.toNat : Int) from if_pos u1, u2, ← ri]
          rfl
        · right
          refine ⟨u1, ?_⟩
          rw [show (mvS ns ss (keepV ns ss) j).b = (rk (keepV ns ss) (spAt ss j).b.toNat : Int) from if_pos u1, u2, ← ri]
          rfl
  have rkp : ∀ p : Nat, p ≤ (trimV ns ss).length → rk (keepV ns (trimV ns ss)) p = p := by
    intro p
    induction p with
    | zero => intro _; rfl
    | succ p ihp => intro h; rw [rk_one (all _ p (by omega) (Nat.le_refl _)), ihp (by omega)]
  have h2 := trimV_spec hw2 hne2
  refine List.ext_getElem? fun p => ?_
  rcases Nat.lt_or_ge p (trimV ns ss).length with g | g
  · have h3 := h2.2 p g (all _ p g (Nat.le_refl _))
    rw [rkp p (by omega)] at h3
    rw [h3, get_spAt g]
    congr 1
    have a1 : (mvS ns (trimV ns ss) (keepV ns (trimV ns ss)) p).a = (spAt (trimV ns ss) p).a := by
      unfold mvS
      simp only
      split
      · rename_i n
        have ea := well_a (hw2 p g) n
        rw [rkp _ (by omega), ← ea.1]
      · rfl
    have b1 : (mvS ns (trimV ns ss) (keepV ns (trimV ns ss)) p).b = (spAt (trimV ns ss) p).b := by
      unfold mvS
      simp only
      split
      · rename_i n
        have eb := well_b (hw2 p g) n
        rw [rkp _ (by omega), ← eb.1]
      · rfl
    exact Sp_eq.2 ⟨rfl, rfl, a1, b1⟩
  · rw [List.getElem?_eq_none (by rw [h2.1, rkp _ (Nat.le_refl _)]; exact g), List.getElem?_eq_none g]
theorem checkF_iff {ns : List Nd} {ks : List Int} {ss : List Sp} {t : Int} : checkF ns ks ss t = true ↔ ss ≠ [] ∧ kpF ns ks = true ∧ ss.length ≤ 500 ∧ (∀ i : Nat, i < ss.length → prF ns ks ss i = true) ∧ (spAt ss (ss.length - 1)).t = t := by
  simp only [checkF, proofF, Bool.and_eq_true, decide_eq_true_eq]
  constructor
  · rintro ⟨⟨h1, ⟨h2, h3⟩, h4⟩, h5⟩
    exact ⟨h1, h2, h3, fun i hi => allF_all h4 hi, h5⟩
  · rintro ⟨h1, h2, h3, h4, h5⟩
    exact ⟨⟨h1, ⟨h2, h3⟩, allF_of h4⟩, h5⟩
/-- A proof that is trimmed. -/
theorem trimF_spec {ns : List Nd} {ks : List Int} {ss : List Sp} {t : Int} (h : checkF ns ks ss t = true) : checkF ns ks (trimF ns ss) t = true ∧ trimF ns (trimF ns ss) = trimF ns ss := by
  obtain ⟨h1, h2, h3, h4, h5⟩ := checkF_iff.1 h
  have hw : ∀ i : Nat, i < ss.length → wellF ns ss i = true := fun i hi => prF_well hi (h4 i hi)
  have hp := kpF_pool h2
  have e : trimF ns ss = trimV ns ss := if_pos ⟨h1, h3, hp, allF_of hw⟩
  have hln := trim_ne hw h1
  have hne2 : trimV ns ss ≠ [] := by intro e; rw [e] at hln; simp at hln
  have h0 : 0 < ss.length := List.length_pos_iff.2 h1
  have hpr2 := trim_pr h4 h1
  have hs := keepV_spec hw h1
  have hrl : ∀ j, rk (keepV ns ss) j ≤ j := fun j => by
    induction j with
    | zero => exact Nat.le_refl _
    | succ j ih => unfold rk; split <;> omega
  have hle : (trimV ns ss).length ≤ 500 := by have := hrl (ss.length - 1); omega
  have hc : checkF ns ks (trimV ns ss) t = true := checkF_iff.2 ⟨hne2, h2, hle, hpr2, by
    rw [hln, show rk (keepV ns ss) (ss.length - 1) + 1 - 1 = rk (keepV ns ss) (ss.length - 1) from rfl, trim_at hw h1 (by omega) hs.2.1]
    exact h5⟩
  rw [e]
  refine ⟨hc, ?_⟩
  rw [show trimF ns (trimV ns ss) = trimV ns (trimV ns ss) from if_pos ⟨hne2, hle, hp, allF_of fun i hi => prF_well hi (hpr2 i hi)⟩]
  exact trim_twice h4 h1
theorem checkF_needs {ns : List Nd} {ks : List Int} {ss : List Sp} {t : Int} (h : checkF ns ks ss t = true) {i : Nat} (hi : i < ss.length) : 0 ≤ stepNeedsF ns (spAt ss i) := by
  obtain ⟨h1, h2, h3, h4, h5⟩ := checkF_iff.1 h
  have hw := prF_well hi (h4 i hi)
  simp only [wellF, Bool.and_eq_true, decide_eq_true_eq] at hw
  rw [stepNeedsF, if_pos ⟨kpF_pool h2, hw.1.1.1⟩]
  exact hw.1.1.2
end Go.Proofs.Ytfbfebaajdihiaa.C
