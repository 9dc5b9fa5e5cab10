/- Plain facts: all steps are a proof. Conditions: those that each theorem names. -/
import Derived.Test.YtcfgiffgahdlbaaGreatXE7E13
import Derived.Test.YtcfgiffgahdlbaaGreatXB1E6
set_option linter.unusedVariables false
set_option linter.unusedSimpArgs false
namespace Go.Proofs.YtcfgiffgahdlbaaGreat.C
theorem findF_nodeAt {ns : List Nd} {n : Nd} (h : 0 ≤ findF ns n 0) : ∃ x : Nat, findF ns n 0 = x ∧ x < ns.length ∧ nodeAt ns x = n := by
  obtain ⟨j, hj, e, e2⟩ := findF_at ns n 0 h
  exact ⟨j, by simpa using e, hj, by rw [nodeAt_nat hj, e2]⟩
structure PInv (ns : List Nd) (ks : List Int) (st : List Int) (out : List Sp) : Prop where
  len : st.length = ns.length
  idx : ∀ (t : Nat) (h : t < st.length), 0 ≤ st[t] → ∃ i : Nat, ∃ hi : i < out.length, st[t] = i ∧ out[i].t = t
  neg : ∀ (t : Nat) (h : t < st.length), st[t] < 0 → ∀ x ∈ out, x.t ≠ t
  ok : ∀ i : Nat, i < out.length → prF ns ks out i = true
theorem PInv.at {ns : List Nd} {ks st : List Int} {out : List Sp} (I : PInv ns ks st out) {t : Nat} (ht : t < ns.length) (h : 0 ≤ sv st t) : termAt out out.length (sv st t) = t ∧ 0 ≤ sv st t ∧ ¬ (t : Int) < 0 := by
  have hts : t < st.length := by rw [I.len]; exact ht
  rw [sv_nat hts] at h ⊢
  obtain ⟨i, hi, e1, e2⟩ := I.idx t hts h
  refine ⟨?_, h, by omega⟩
  rw [e1]
  have : inF (i : Int) 0 ((out.length : Int) - 1) = true := by simp [inF]; omega
  simp [termAt, this, hi, e2]
theorem upGo_some {ns : List Nd} {st : List Int} {r t : Int} {s : Sp} : ∀ {n i : Nat}, upGo ns st r t n i = some s → ∃ j : Nat, i ≤ j ∧ j < i + n ∧ upOk ns st r t j = true ∧ s = ⟨r, t, sv st j, if r = 7 then sv st (nodeAt ns j).b else 0⟩
  | 0, i, h => by simp [upGo] at h
  | n + 1, i, h => by
    unfold upGo at h
    split at h
    · rename_i g
      exact ⟨i, Nat.le_refl _, by omega, g, by simpa using h.symm⟩
    · obtain ⟨j, h1, h2, h3, h4⟩ := upGo_some h
      exact ⟨j, by omega, by omega, h3, h4⟩
theorem up_ok {ns : List Nd} {ks st : List Int} {out : List Sp} (I : PInv ns ks st out) (hp : poolF ns = true) {t : Nat} (ht : t < ns.length) {r : Int} (hr : r = 5 ∨ r = 6 ∨ r = 7 ∨ r = 8) {s : Sp} (h : upF ns st r t = some s) : stepOkF ns ks out s = true ∧ s.t = t := by
  unfold upF at h
  obtain ⟨j, h1, h2, h3, rfl⟩ := upGo_some h
  have hj : j < ns.length := by have : (t : Int).toNat = t := rfl; omega
  refine ⟨?_, rfl⟩
  simp only [upOk, Bool.and_eq_true, Bool.or_eq_true, decide_eq_true_eq] at h3
  obtain ⟨h4, h5⟩ := h3
  obtain ⟨a1, a2, a3⟩ := I.at hj h4
  simp only [stepOkF, hasF_of ht, Bool.true_and, holdsF]
  rcases hr with rfl | rfl | rfl | rfl
  · have h6 : (nodeAt ns j).k = 2 ∧ (nodeAt ns j).a = t := by simpa using h5
    simp [needsF, lackF, ruleF, a1, h6]
  · have h6 : (nodeAt ns j).k = 2 ∧ (nodeAt ns j).b = t := by simpa using h5
    simp [needsF, lackF, ruleF, a1, h6]
  · have h6 : ((nodeAt ns j).k = 3 ∧ (nodeAt ns j).a = t) ∧ 0 ≤ sv st (nodeAt ns j).b := by simpa using h5
    obtain ⟨⟨h6, h7⟩, h8⟩ := h6
    have hk := h6
    rw [nodeAt_nat hj] at hk
    obtain ⟨_, b, eb, hb⟩ := parts_in hp hj (by rw [hk]; rfl)
    rw [nodeAt_nat hj] at h8
    rw [eb] at h8
    obtain ⟨b1, b2, b3⟩ := I.at (by omega) h8
    have eb2 : (nodeAt ns j).b = b := by rw [nodeAt_nat hj, eb]
    simp [needsF, lackF, ruleF, a1, h6, h7, eb2, b1, b3]
  · have h6 : (nodeAt ns j).k = 4 ∧ (nodeAt ns j).a = t := by simpa using h5
    simp [needsF, lackF, ruleF, a1, h6]
theorem share_ok {ns : List Nd} {ks st : List Int} {out : List Sp} (I : PInv ns ks st out) (hp : poolF ns = true) {t : Nat} (ht : t < ns.length) {s : Sp} (h : shareF ns st t = some s) : stepOkF ns ks out s = true ∧ s.t = t := by
  have en := nodeAt_nat ht
  unfold shareF at h
  split at h
  · cases h
  · rename_i hk
    have hk8 : ns[t].k = 8 := by rw [en] at hk; omega
    obtain ⟨⟨a, ea, hal⟩, b, eb, hbl⟩ := parts_in hp ht (by rw [hk8]; rfl)
    rw [en, ea, eb] at h
    split at h
    · rename_i g
      obtain ⟨g1, g2, g3⟩ := g
      obtain ⟨x, ex, hx, enx⟩ := findF_nodeAt g2
      rw [ex] at g3 h
      obtain ⟨a1, a2, a3⟩ := I.at (by omega) g1
      obtain ⟨b1, b2, b3⟩ := I.at hx g3
      cases h
      refine ⟨?_, rfl⟩
      simp only [stepOkF, hasF_of ht, Bool.true_and, holdsF]
      simp [needsF, lackF, ruleF, a1, b1, enx, en, ea, eb, hk8]
    · split at h
      · rename_i g
        obtain ⟨g1, g2, g3⟩ := g
        obtain ⟨x, ex, hx, enx⟩ := findF_nodeAt g2
        rw [ex] at g3 h
        obtain ⟨a1, a2, a3⟩ := I.at (by omega) g1
        obtain ⟨b1, b2, b3⟩ := I.at hx g3
        cases h
        refine ⟨?_, rfl⟩
        simp only [stepOkF, hasF_of ht, Bool.true_and, holdsF]
        simp [needsF, lackF, ruleF, a1, b1, enx, en, ea, eb, hk8]
      · cases h
theorem made_ok {ns : List Nd} {ks st : List Int} {out : List Sp} (I : PInv ns ks st out) (hp : poolF ns = true) {t : Nat} (ht : t < ns.length) {s : Sp} (h : madeF ns st t = some s) : stepOkF ns ks out s = true ∧ s.t = t := by
  have en := nodeAt_nat ht
  unfold madeF at h
  rw [en] at h
  split at h
  · rename_i hk
    have hk1 := partsF_ne (k := ns[t].k) (by omega)
    obtain ⟨a, ea, hal⟩ := part_in hp ht hk
    rw [ea] at h
    split at h
    · rename_i g
      obtain ⟨a1, a2, a3⟩ := I.at (by omega) g
      cases h
      refine ⟨?_, rfl⟩
      simp only [stepOkF, hasF_of ht, Bool.true_and, holdsF]
      simp [needsF, lackF, ruleF, a1, en, ea, hk, hk1]
    · cases h
  · split at h
    · rename_i hk
      have hk1 := partsF_ne (k := ns[t].k) (by omega)
      obtain ⟨⟨a, ea, hal⟩, b, eb, hbl⟩ := parts_in hp ht hk
      rw [ea, eb] at h
      split at h
      · rename_i g
        obtain ⟨a1, a2, a3⟩ := I.at (by omega) g.1
        obtain ⟨b1, b2, b3⟩ := I.at (by omega) g.2
        cases h
        refine ⟨?_, rfl⟩
        simp only [stepOkF, hasF_of ht, Bool.true_and, holdsF]
        simp [needsF, lackF, ruleF, a1, b1, en, ea, eb, hk, hk1]
      · cases h
    · cases h
theorem or_some {α : Type} {a b : Option α} {s : α} (h : a.or b = some s) : a = some s ∨ b = some s := by
  cases a with
  | none => right; simpa using h
  | some x => left; simpa using h
theorem step_ok {ns : List Nd} {ks st : List Int} {out : List Sp} (I : PInv ns ks st out) (hp : poolF ns = true) {t : Nat} (ht : t < ns.length) {s : Sp} (h : stepF ns ks st t = some s) : stepOkF ns ks out s = true ∧ s.t = t := by
  unfold stepF at h
  split at h
  · rename_i g
    cases h
    refine ⟨?_, rfl⟩
    simp only [stepOkF, hasF_of ht, Bool.true_and, holdsF]
    simp [needsF, lackF, ruleF, g]
  · split at h
    · rename_i g
      cases h
      refine ⟨?_, rfl⟩
      simp only [stepOkF, hasF_of ht, Bool.true_and, holdsF]
      simp [needsF, lackF, ruleF, g]
    · rcases or_some h with h | h
      · exact made_ok I hp ht h
      · unfold restF at h
        rcases or_some h with h | h
        · exact share_ok I hp ht h
        rcases or_some h with h | h
        · exact up_ok I hp ht (by simp) h
        rcases or_some h with h | h
        · exact up_ok I hp ht (by simp) h
        rcases or_some h with h | h
        · exact up_ok I hp ht (by simp) h
        · exact up_ok I hp ht (by simp) h
theorem prF_snoc {ns : List Nd} {ks : List Int} {out : List Sp} {s : Sp} {i : Nat} (h : i < out.length) : prF ns ks (out ++ [s]) i = prF ns ks out i := by
  have e1 : (out ++ [s]).take i = out.take i := List.take_append_of_le_length (by omega)
  have e2 : spAt (out ++ [s]) i = spAt out i := by simp [spAt, List.getElem?_append_left h]
  simp only [prF, freshF, e1, e2]
theorem PInv.put {ns : List Nd} {ks st : List Int} {out : List Sp} (I : PInv ns ks st out) (hp : poolF ns = true) {t : Nat} (ht : t < st.length) (hn : st[t] < 0) {s : Sp} (h : stepF ns ks st t = some s) : PInv ns ks (st.set t out.length) (out ++ [s]) := by
  have htn : t < ns.length := by rw [← I.len]; exact ht
  obtain ⟨s1, s2⟩ := step_ok I hp htn h
  refine ⟨by simp [I.len], ?_, ?_, ?_⟩
  · intro u hu hpos
    simp only [List.length_set] at hu
    rw [List.getElem_set] at hpos ⊢
    split at hpos
    · rename_i e
      subst e
      exact ⟨out.length, by simp, by simp, by simp [s2]⟩
    · rename_i e
      obtain ⟨i, hi, e1, e2⟩ := I.idx u hu hpos
      refine ⟨i, by simp; omega, by rw [if_neg e]; exact e1, by rw [List.getElem_append_left hi]; exact e2⟩
  · intro u hu hneg x hx
    simp only [List.length_set] at hu
    rw [List.getElem_set] at hneg
    split at hneg
    · omega
    · rename_i e
      rcases List.mem_append.1 hx with hx | hx
      · exact I.neg u hu hneg x hx
      · simp only [List.mem_singleton] at hx
        subst hx
        rw [s2]
        omega
  · intro i hi
    simp only [List.length_append, List.length_singleton] at hi
    rcases Nat.lt_or_ge i out.length with g | g
    · rw [prF_snoc g]; exact I.ok i g
    · have : i = out.length := by omega
      subst this
      have e1 : (out ++ [s]).take out.length = out := List.take_left' rfl
      have e2 : spAt (out ++ [s]) out.length = s := by simp [spAt]
      simp only [prF, freshF, e1, e2, s1, Bool.true_and, decide_eq_true_eq]
      intro x hx
      rw [s2]
      exact I.neg t ht hn x hx
theorem passGo_inv {ns : List Nd} {ks : List Int} (hp : poolF ns = true) : ∀ (n t : Nat) (st : List Int) (out : List Sp) (m : Bool), t + n = ns.length → PInv ns ks st out → PInv ns ks (passGo ns ks n t st out m).1 (passGo ns ks n t st out m).2.1
  | 0, t, st, out, m, _, I => I
  | n + 1, t, st, out, m, ht, I => by
    have hts : t < st.length := by rw [I.len]; omega
    unfold passGo
    split
    · exact passGo_inv hp n (t + 1) st out m (by omega) I
    · rename_i g
      rw [sv_nat hts] at g
      split
      · rename_i s hs
        exact passGo_inv hp n (t + 1) _ _ true (by omega) (I.put hp hts (by omega) hs)
      · exact passGo_inv hp n (t + 1) st out m (by omega) I
theorem allGo_inv {ns : List Nd} {ks : List Int} (hp : poolF ns = true) : ∀ (n : Nat) (st : List Int) (out : List Sp), PInv ns ks st out → PInv ns ks (allGo ns ks n st out).1 (allGo ns ks n st out).2
  | 0, st, out, I => I
  | n + 1, st, out, I => by
    have J := passGo_inv hp ns.length 0 st out false (by omega) I
    unfold allGo
    split
    · exact allGo_inv hp n _ _ J
    · exact J
theorem PInv.start (ns : List Nd) (ks : List Int) : PInv ns ks (List.replicate ns.length (-1)) [] := by
  refine ⟨by simp, ?_, ?_, ?_⟩
  · intro t h hp; simp at hp
  · intro t h hn x hx; cases hx
  · intro i hi; simp at hi
theorem allV_inv {ns : List Nd} (ks : List Int) (hp : poolF ns = true) : PInv ns ks (allGo ns ks (ns.length + 1) (List.replicate ns.length (-1)) []).1 (allV ns ks) := allGo_inv hp _ _ _ (PInv.start ns ks)
theorem spAt_take {ss : List Sp} {m i : Nat} (h : i < m) : spAt (ss.take m) i = spAt ss i := by simp [spAt, List.getElem?_take, h]
theorem prF_take {ns : List Nd} {ks : List Int} {ss : List Sp} {m i : Nat} (h : i < m) : prF ns ks (ss.take m) i = prF ns ks ss i := by
  have e1 : (ss.take m).take i = ss.take i := by rw [List.take_take, Nat.min_eq_left (by omega)]
  simp only [prF, freshF, e1, spAt_take h]
theorem prF_well {ns : List Nd} {ks : List Int} {ss : List Sp} {i : Nat} (hi : i < ss.length) (h : prF ns ks ss i = true) : wellF ns ss i = true := by
  simp only [prF, stepOkF, Bool.and_eq_true, holdsF, termAt_take (Nat.le_of_lt hi)] at h
  obtain ⟨⟨h1, h2, _⟩, _⟩ := h
  simp only [lackF, Bool.not_eq_true', decide_eq_false_iff_not, not_or, not_and] at h2
  obtain ⟨g1, g2, g3, g4, g5⟩ := h2
  have key : ∀ k, ¬ termAt ss i k < 0 → inF k 0 ((i : Int) - 1) = true := fun k hk => by
    cases hc : inF k 0 ((i : Int) - 1) with
    | true => rfl
    | false => exact absurd (by simp [termAt, hc]) hk
  simp only [wellF, h1, Bool.true_and, Bool.and_eq_true, Bool.or_eq_true, decide_eq_true_eq]
  refine ⟨⟨by omega, ?_⟩, ?_⟩
  · rcases Int.lt_or_le (needsF ns (spAt ss i)) 1 with u | u
    · exact .inl u
    · exact .inr (key _ (g2 (by omega)))
  · rcases Int.lt_or_le (needsF ns (spAt ss i)) 2 with u | u
    · exact .inl u
    · exact .inr (key _ (g3 (by omega)))
theorem allF_of {p : Nat → Bool} {n : Nat} (h : ∀ i : Nat, i < n → p i = true) : allF p n 0 = true := by
  simp only [allF, List.all_eq_true]
  intro i hi
  simp [List.mem_range'] at hi
  exact h i (by omega)
end Go.Proofs.YtcfgiffgahdlbaaGreat.C

set_option linter.unusedVariables false
set_option linter.unusedSimpArgs false
set_option maxRecDepth 4000
namespace Go.Proofs.YtcfgiffgahdlbaaGreat.C
open Go.Sym Go.Proofs.YtcfgiffgahdlbaaGreat.I
def idxT : List Sp → Int → Int → Int
  | [], _, _ => -1
  | x :: xs, t, i => if x.t = t then i else idxT xs t (i + 1)
theorem idxT_at (t : Int) : ∀ (ss : List Sp) (i : Nat), 0 ≤ idxT ss t i → ∃ j : Nat, ∃ h : j < ss.length, idxT ss t i = i + j ∧ ss[j].t = t
  | [], i, h => by simp [idxT] at h
  | x :: xs, i, h => by
    unfold idxT at h ⊢
    by_cases e : x.t = t
    · rw [if_pos e]; exact ⟨0, by simp, by simp, by simpa using e⟩
    · rw [if_neg e] at h ⊢
      obtain ⟨j, h1, h2, h3⟩ := idxT_at t xs (i + 1) (by simpa using h)
      exact ⟨j + 1, by simp; omega, by push_cast at h2 ⊢; omega, by simpa using h3⟩
theorem idxT_at0 {t : Int} {ss : List Sp} (h : 0 ≤ idxT ss t 0) : ∃ j : Nat, ∃ h : j < ss.length, idxT ss t 0 = j ∧ ss[j].t = t := by
  obtain ⟨j, h1, h2, h3⟩ := idxT_at t ss 0 h
  exact ⟨j, h1, by simpa using h2, h3⟩
/-- The steps up to that of a term. -/
def upto (ss : List Sp) (t : Int) : List Sp := ss.take ((idxT ss t 0).toNat + 1)
def ofF (ns : List Nd) (ks : List Int) (t : Int) : List Sp × Bool := if 0 ≤ idxT (allSt ns ks) t 0 then (trimF ns (upto (allSt ns ks) t), true) else ([], false)
theorem passGo_len (ns : List Nd) (ks : List Int) : ∀ (n t : Nat) (st : List Int) (out : List Sp) (m : Bool), t + n = ns.length → st.length = ns.length → out.length + negs st = ns.length →
    (passGo ns ks n t st out m).1.length = ns.length ∧ (passGo ns ks n t st out m).2.1.length + negs (passGo ns ks n t st out m).1 = ns.length
  | 0, t, st, out, m, _, h1, h2 => ⟨h1, h2⟩
  | n + 1, t, st, out, m, ht, h1, h2 => by
    have hts : t < st.length := by omega
    unfold passGo
    split
    · exact passGo_len ns ks n (t + 1) st out m (by omega) h1 h2
    · rename_i g
      rw [sv_nat hts] at g
      split
      · have := negs_set hts (by omega) (v := (out.length : Int)) (by omega)
        exact passGo_len ns ks n (t + 1) _ _ true (by omega) (by simpa using h1) (by simp; omega)
      · exact passGo_len ns ks n (t + 1) st out m (by omega) h1 h2
theorem allGo_len (ns : List Nd) (ks : List Int) : ∀ (n : Nat) (st : List Int) (out : List Sp), st.length = ns.length → out.length + negs st = ns.length → (allGo ns ks n st out).2.length ≤ ns.length
  | 0, st, out, _, h2 => by simp only [allGo]; omega
  | n + 1, st, out, h1, h2 => by
    have := passGo_len ns ks ns.length 0 st out false (by omega) h1 h2
    unfold allGo
    split
    · exact allGo_len ns ks n _ _ this.1 this.2
    · simp only; omega
theorem allSt_len (ns : List Nd) (ks : List Int) : (allSt ns ks).length ≤ ns.length := by
  unfold allSt
  split
  · exact allGo_len ns ks _ _ _ (by simp) (by simp [negs_rep])
  · simp
theorem allSt_le (ns : List Nd) (ks : List Int) : (allSt ns ks).length ≤ 500 := by
  by_cases h : kpF ns ks = true
  · have := allSt_len ns ks
    have := poolF_len (kpF_pool h)
    omega
  · simp [allSt, h]
theorem encS_tq {ns : List Sp} {j : Nat} (h : j < ns.length) : (encS ns)[j * 4 + 1]? = some (i6 ns[j].t) := by
  obtain ⟨r, hr⟩ := encS_at h
  rw [← List.getElem?_drop, hr]
  rfl
theorem spec_ProofOf_c (ns : List Nd) (ks : List Int) (t : Int) (hl : ns.length < 9223372036854775807) (hk : ks.length < 9223372036854775807) : T 8 [aP ns, aI ks, i6 t] [] (.tup [tref' 0 (ofF ns ks t).1, .bool (ofF ns ks t).2]) ([tblk (ofF ns ks t).1]) := by
  refine semT' (S := S0) hm spec_ProofOf_ok (Nat.le_of_ble_eq_true rfl) ?_
  unfold spec_ProofOf; dsimp only
  have hle := allSt_le ns ks
  simp
  refine spec_ProofAll_k (ns := ns) (ks := ks) hl hk rfl (by simp) (by simp [noslBlks]) ?_; simp [shiftB]
  have hof : ofF ns ks t = if 0 ≤ idxT (allSt ns ks) t 0 then (trimF ns (upto (allSt ns ks) t), true) else ([], false) := rfl
  generalize hss : allSt ns ks = ss at hle hof ⊢
  refine WLoop_fam (fun i : Nat => [(2, i6 t), (3, A.ptr 0 0 0), (8, tref' 1 ss), (9, i6 i)]) (fun _ => [⟨0, false, 1, [A.sl ns.length (enc ns)], none⟩, ⟨ss.length, decide (ss = []), 4, encS ss, none⟩]) (fun i => ss.length - i)
    (fun i => i ≤ ss.length ∧ idxT ss t 0 = idxT (ss.drop i) t i) ?_ 0 ⟨Nat.zero_le _, rfl⟩
  intro i ⟨hi, hf⟩ ih
  simp
  refine br_intro' (fun h => ?_) (fun h => ?_) <;> (have h0 := h) <;> (try simp at h) <;> try simp [h0, h]
  · have h' := h
    have hd : ss.drop i = ss[i] :: ss.drop (i + 1) := List.drop_eq_getElem_cons h'
    have hw := wrap_succ (n := i) (by omega)
    obtain ⟨q, hr⟩ := encS_at h'
    have h4 : i * 4 + 1 < ss.length * 4 := by omega
    have hg := encS_tq h'
    have hge : ∀ h : i * 4 + 1 < (encS ss).length, (encS ss)[i * 4 + 1]'h = i6 ss[i].t := fun h => by
      rw [List.getElem?_eq_getElem h] at hg
      simpa using hg
    simp [h', h4, hr, hge]
    refine br_intro' (fun g => ?_) (fun g => ?_) <;> (have g0 := g) <;> simp only [decide_eq_true_eq, decide_eq_false_iff_not] at g <;> simp [g0, g]
    · have hx : idxT ss t 0 = i := by rw [hf, hd, idxT, if_pos g]
      have hup : upto ss t = ss.take (i + 1) := by simp [upto, hx]
      have hoo : ofF ns ks t = (trimF ns (ss.take (i + 1)), true) := by
        rw [hof, if_pos (by omega), hup]
      rw [hoo]
      refine ck_intro' (by omega) ?_; simp [hw]
      have hmin : min (i + 1) ss.length = i + 1 := by omega
      have h44 : (i + 1) * 4 ≤ ss.length * 4 := by omega
      refine spec_ProofTrim_k (ns := ns) (ss := ss.take (i + 1)) hl (by simp; omega) rfl (by simp [encS_takes, hmin, h44]) (by simp [noslBlks]) ?_; simp [shiftB]
      first | (refine ck_intro' (by kernel_rfl) ?_; try simp) | skip
      first | (refine LeV.tell [none] ?_ ?_ ?_ <;> (simp; done)) | (refine LeV.tell [some 0] ?_ ?_ ?_ <;> (simp; done)) | (refine LeV.tell [some 1] ?_ ?_ ?_ <;> (simp; done)) | (refine LeV.tell [some 2] ?_ ?_ ?_ <;> (simp; done)) | (refine LeV.tell [some 3] ?_ ?_ ?_ <;> (simp; done)) | (refine LeV.tell [some 4] ?_ ?_ ?_ <;> (simp; done)) | (refine LeV.tell [some 5] ?_ ?_ ?_ <;> (simp; done)) | (refine LeV.tell [some 6] ?_ ?_ ?_ <;> (simp; done)) | (refine LeV.tell [some 7] ?_ ?_ ?_ <;> (simp; done)) | (refine LeV.tell [some 8] ?_ ?_ ?_ <;> (simp; done)) | (refine LeV.tell [some 9] ?_ ?_ ?_ <;> (simp; done)) | (refine LeV.tell [some 10] ?_ ?_ ?_ <;> (simp; done)) | (refine LeV.tell [some 11] ?_ ?_ ?_ <;> (simp; done)) | (refine LeV.tell [some 12] ?_ ?_ ?_ <;> (simp; done)) | (refine LeV.tell [some 13] ?_ ?_ ?_ <;> (simp; done)) | (refine LeV.tell [some 14] ?_ ?_ ?_ <;> (simp; done)) | (refine LeV.tell [some 15] ?_ ?_ ?_ <;> (simp; done))
    · rw [hw]
      refine ih (i + 1) ⟨h', ?_⟩ (by omega)
      rw [hf, hd, idxT, if_neg g]
      rfl
  · have hx : idxT ss t 0 = -1 := by rw [hf, List.drop_of_length_le h]; rfl
    rw [show ofF ns ks t = ([], false) by rw [hof, if_neg (by omega)]]
    first | (refine LeV.tell [none] ?_ ?_ ?_ <;> (simp; done)) | (refine LeV.tell [some 0] ?_ ?_ ?_ <;> (simp; done)) | (refine LeV.tell [some 1] ?_ ?_ ?_ <;> (simp; done)) | (refine LeV.tell [some 2] ?_ ?_ ?_ <;> (simp; done)) | (refine LeV.tell [some 3] ?_ ?_ ?_ <;> (simp; done)) | (refine LeV.tell [some 4] ?_ ?_ ?_ <;> (simp; done)) | (refine LeV.tell [some 5] ?_ ?_ ?_ <;> (simp; done)) | (refine LeV.tell [some 6] ?_ ?_ ?_ <;> (simp; done)) | (refine LeV.tell [some 7] ?_ ?_ ?_ <;> (simp; done)) | (refine LeV.tell [some 8] ?_ ?_ ?_ <;> (simp; done)) | (refine LeV.tell [some 9] ?_ ?_ ?_ <;> (simp; done)) | (refine LeV.tell [some 10] ?_ ?_ ?_ <;> (simp; done)) | (refine LeV.tell [some 11] ?_ ?_ ?_ <;> (simp; done)) | (refine LeV.tell [some 12] ?_ ?_ ?_ <;> (simp; done)) | (refine LeV.tell [some 13] ?_ ?_ ?_ <;> (simp; done)) | (refine LeV.tell [some 14] ?_ ?_ ?_ <;> (simp; done)) | (refine LeV.tell [some 15] ?_ ?_ ?_ <;> (simp; done))
theorem spec_ProofOf_k {ns : List Nd} {ks : List Int} {t : Int} (hl : ns.length < 9223372036854775807) (hk : ks.length < 9223372036854775807) {S : FuncId → Bool} {H : List Blk} {K : A → Dl → Prop} {zs : List A} (hS : S 8 = false) (hv : viewL (viewA 8 H) zs = some [aP ns, aI ks, i6 t]) (ho : noOwns zs = true ∨ nosl (.tup [tref' 0 (ofF ns ks t).1, .bool (ofF ns ks t).2]) = true ∧ noslBlks ([tblk (ofF ns ks t).1]) = true) (hK : K (shiftA H.length (.tup [tref' 0 (ofF ns ks t).1, .bool (ofF ns ks t).2])) (.news (([tblk (ofF ns ks t).1]).map (shiftB H.length)))) : @WCall' Go.Proofs.Tryz.prog S 8 zs H ⟨K⟩ :=
  WCall_ro' hS hv (spec_ProofOf_c ns ks t hl hk) rfl ho hK
theorem impl_ProofOf_1_c (s : Sp) (t : Int)  : T 16 [aSt s, .pt [i6 t]] [] (.bool (decide (s.t = t))) ([]) := by
  refine semT' (S := S0) hm impl_ProofOf_1_ok (Nat.le_of_ble_eq_true rfl) ?_
  unfold impl_ProofOf_1; dsimp only
  simp
  exact LeV.ro rfl rfl (by simp)
theorem impl_ProofOf_1_k {s : Sp} {t : Int}  {S : FuncId → Bool} {H : List Blk} {K : A → Dl → Prop} {zs : List A} (hS : S 16 = false) (hv : viewL (viewA 8 H) zs = some [aSt s, .pt [i6 t]]) (ho : noOwns zs = true ∨ nosl (.bool (decide (s.t = t))) = true) (hK : K (.bool (decide (s.t = t))) (.news [])) : @WCall' Go.Proofs.Tryz.prog S 16 zs H ⟨K⟩ :=
  WCall_pure hS (impl_ProofOf_1_c s t) hv ho (by simp) hK
theorem slices_IndexFunc_Step_c (ss : List Sp) (t : Int) (hls : ss.length < 9223372036854775807) : T 15 [aSs ss, .fn 16 [.pt [i6 t]]] [] (i6 (idxT ss t 0)) ([]) := by
  refine semT' (S := S0) hm slices_IndexFunc_Step_ok (Nat.le_of_ble_eq_true rfl) ?_
  unfold slices_IndexFunc_Step; dsimp only
  simp
  refine WLoop_fam (fun i : Nat => [(0, aSs ss), (1, .fn 16 [.pt [i6 t]]), (7, i6 ss.length), (8, i6 i)]) (fun _ => []) (fun i => ss.length - i)
    (fun i => i ≤ ss.length ∧ idxT ss t 0 = idxT (ss.drop i) t i) ?_ 0 ⟨Nat.zero_le _, rfl⟩
  intro i ⟨hi, hf⟩ ih
  simp
  refine br_intro' (fun h => ?_) (fun h => ?_) <;> (have h0 := h) <;> (try simp at h) <;> try simp [h0, h]
  · have h' := h
    have hd : ss.drop i = ss[i] :: ss.drop (i + 1) := List.drop_eq_getElem_cons h'
    have hw := wrap_succ (n := i) (by omega)
    obtain ⟨q, hr⟩ := encS_at h'
    have h4 : 4 ≤ ss.length * 4 - i * 4 := by omega
    simp [h', h4, hr]
    refine ck_intro' (by kernel_rfl) ?_; simp
    refine impl_ProofOf_1_k (s := ss[i]) (t := t) rfl (by simp) (by simp) ?_; simp
    refine br_intro' (fun g => ?_) (fun g => ?_) <;> (have g0 := g) <;> simp only [decide_eq_true_eq, decide_eq_false_iff_not] at g <;> simp [g0, g]
    · have hx : idxT ss t 0 = i := by rw [hf, hd, idxT, if_pos g]
      exact LeV.ro rfl rfl (by subst g; rw [hx]; rfl)
    · rw [hw]
      refine ih (i + 1) ⟨h', ?_⟩ (by omega)
      rw [hf, hd, idxT, if_neg g]
      rfl
  · have hx : idxT ss t 0 = -1 := by rw [hf, List.drop_of_length_le h]; rfl
    exact LeV.ro rfl rfl (by rw [hx]; rfl)
theorem slices_IndexFunc_Step_k {ss : List Sp} {t : Int} (hls : ss.length < 9223372036854775807) {S : FuncId → Bool} {H : List Blk} {K : A → Dl → Prop} {zs : List A} (hS : S 15 = false) (hv : viewL (viewA 8 H) zs = some [aSs ss, .fn 16 [.pt [i6 t]]]) (ho : noOwns zs = true ∨ nosl (i6 (idxT ss t 0)) = true) (hK : K (i6 (idxT ss t 0)) (.news [])) : @WCall' Go.Proofs.Tryz.prog S 15 zs H ⟨K⟩ :=
  WCall_pure hS (slices_IndexFunc_Step_c ss t hls) hv ho (by simp) hK
theorem allSt_pr {ns : List Nd} {ks : List Int} (h : kpF ns ks = true) : ∀ i : Nat, i < (allSt ns ks).length → prF ns ks (allSt ns ks) i = true := by
  rw [show allSt ns ks = allV ns ks from if_pos h]
  exact (allV_inv ks (kpF_pool h)).ok
theorem take_well {ns : List Nd} {ks : List Int} {ss : List Sp} (h : ∀ i : Nat, i < ss.length → prF ns ks ss i = true) (m : Nat) : ∀ i : Nat, i < (ss.take m).length → wellF ns (ss.take m) i = true := by
  intro i hi
  have hi' := hi
  simp only [List.length_take] at hi'
  exact prF_well (ks := ks) hi (by rw [prF_take (by omega)]; exact h i (by omega))
theorem impl_ProofOf_c (ns : List Nd) (ks : List Int) (t : Int) (hl : ns.length < 9223372036854775807) (hk : ks.length < 9223372036854775807) : T 7 [aP ns, aI ks, i6 t] [] (.tup [tref' 0 (ofF ns ks t).1, .bool (ofF ns ks t).2]) ([tblk (ofF ns ks t).1]) := by
  refine semT' (S := S0) hm impl_ProofOf_ok (Nat.le_of_ble_eq_true rfl) ?_
  unfold impl_ProofOf; dsimp only
  have hle := allSt_le ns ks
  simp
  refine impl_ProofAll_k (ns := ns) (ks := ks) hl hk rfl (by simp) (by simp [noslBlks]) ?_; simp [shiftB]
  have hof : ofF ns ks t = if 0 ≤ idxT (allSt ns ks) t 0 then (trimF ns (upto (allSt ns ks) t), true) else ([], false) := rfl
  have hpr : kpF ns ks = true → ∀ i : Nat, i < (allSt ns ks).length → prF ns ks (allSt ns ks) i = true := allSt_pr
  have hnil : kpF ns ks = false → allSt ns ks = [] := fun h => by simp [allSt, h]
  generalize hss : allSt ns ks = ss at hle hof hpr hnil ⊢
  refine slices_IndexFunc_Step_k (ss := ss) (t := t) (by omega) rfl (by simp) (by simp) ?_; simp
  refine br_intro' (fun g => ?_) (fun g => ?_) <;> (have g0 := g) <;> simp only [decide_eq_true_eq, decide_eq_false_iff_not] at g <;> simp [g0, g]
  · rw [show ofF ns ks t = ([], false) by rw [hof, if_neg (by omega)]]
    first | (refine LeV.tell [none] ?_ ?_ ?_ <;> (simp; done)) | (refine LeV.tell [some 0] ?_ ?_ ?_ <;> (simp; done)) | (refine LeV.tell [some 1] ?_ ?_ ?_ <;> (simp; done)) | (refine LeV.tell [some 2] ?_ ?_ ?_ <;> (simp; done)) | (refine LeV.tell [some 3] ?_ ?_ ?_ <;> (simp; done)) | (refine LeV.tell [some 4] ?_ ?_ ?_ <;> (simp; done)) | (refine LeV.tell [some 5] ?_ ?_ ?_ <;> (simp; done)) | (refine LeV.tell [some 6] ?_ ?_ ?_ <;> (simp; done)) | (refine LeV.tell [some 7] ?_ ?_ ?_ <;> (simp; done)) | (refine LeV.tell [some 8] ?_ ?_ ?_ <;> (simp; done)) | (refine LeV.tell [some 9] ?_ ?_ ?_ <;> (simp; done)) | (refine LeV.tell [some 10] ?_ ?_ ?_ <;> (simp; done)) | (refine LeV.tell [some 11] ?_ ?_ ?_ <;> (simp; done)) | (refine LeV.tell [some 12] ?_ ?_ ?_ <;> (simp; done)) | (refine LeV.tell [some 13] ?_ ?_ ?_ <;> (simp; done)) | (refine LeV.tell [some 14] ?_ ?_ ?_ <;> (simp; done)) | (refine LeV.tell [some 15] ?_ ?_ ?_ <;> (simp; done))
  · obtain ⟨i, hi, hx2, e2⟩ := idxT_at0 (t := t) (ss := ss) (by omega)
    have hw := wrap_succ (n := i) (by omega)
    have hup : upto ss t = ss.take (i + 1) := by simp [upto, hx2]
    have hoo : ofF ns ks t = (trimF ns (ss.take (i + 1)), true) := by rw [hof, if_pos (by omega), hup]
    have hmin : min (i + 1) ss.length = i + 1 := by omega
    have h44 : (i + 1) * 4 ≤ ss.length * 4 := by omega
    have hkp : kpF ns ks = true := by
      cases hc : kpF ns ks with
      | true => rfl
      | false => rw [hnil hc] at hi; simp at hi
    have hp := kpF_pool hkp
    have hne : ss.take (i + 1) ≠ [] := by
      intro e
      have := congrArg List.length e
      rw [List.length_take, List.length_nil] at this
      omega
    have hwl := take_well (hpr hkp) (i + 1)
    have ht : trimF ns (ss.take (i + 1)) = trimV ns (ss.take (i + 1)) := if_pos ⟨hne, by rw [List.length_take]; omega, hp, allF_of hwl⟩
    rw [hoo, ht, hx2, hw]
    refine ck_intro' (by omega) ?_; simp [hw]
    refine impl_Pool_trimmed_k (ns := ns) (ss := ss.take (i + 1)) hl hp hne (by rw [List.length_take]; omega) hwl rfl (by simp [encS_takes, hmin, h44]) (by simp [noslBlks]) ?_; simp [shiftB]
    first | (refine LeV.tell [none] ?_ ?_ ?_ <;> (simp; done)) | (refine LeV.tell [some 0] ?_ ?_ ?_ <;> (simp; done)) | (refine LeV.tell [some 1] ?_ ?_ ?_ <;> (simp; done)) | (refine LeV.tell [some 2] ?_ ?_ ?_ <;> (simp; done)) | (refine LeV.tell [some 3] ?_ ?_ ?_ <;> (simp; done)) | (refine LeV.tell [some 4] ?_ ?_ ?_ <;> (simp; done)) | (refine LeV.tell [some 5] ?_ ?_ ?_ <;> (simp; done)) | (refine LeV.tell [some 6] ?_ ?_ ?_ <;> (simp; done)) | (refine LeV.tell [some 7] ?_ ?_ ?_ <;> (simp; done)) | (refine LeV.tell [some 8] ?_ ?_ ?_ <;> (simp; done)) | (refine LeV.tell [some 9] ?_ ?_ ?_ <;> (simp; done)) | (refine LeV.tell [some 10] ?_ ?_ ?_ <;> (simp; done)) | (refine LeV.tell [some 11] ?_ ?_ ?_ <;> (simp; done)) | (refine LeV.tell [some 12] ?_ ?_ ?_ <;> (simp; done)) | (refine LeV.tell [some 13] ?_ ?_ ?_ <;> (simp; done)) | (refine LeV.tell [some 14] ?_ ?_ ?_ <;> (simp; done)) | (refine LeV.tell [some 15] ?_ ?_ ?_ <;> (simp; done))
theorem impl_ProofOf_k {ns : List Nd} {ks : List Int} {t : Int} (hl : ns.length < 9223372036854775807) (hk : ks.length < 9223372036854775807) {S : FuncId → Bool} {H : List Blk} {K : A → Dl → Prop} {zs : List A} (hS : S 7 = false) (hv : viewL (viewA 8 H) zs = some [aP ns, aI ks, i6 t]) (ho : noOwns zs = true ∨ nosl (.tup [tref' 0 (ofF ns ks t).1, .bool (ofF ns ks t).2]) = true ∧ noslBlks ([tblk (ofF ns ks t).1]) = true) (hK : K (shiftA H.length (.tup [tref' 0 (ofF ns ks t).1, .bool (ofF ns ks t).2])) (.news (([tblk (ofF ns ks t).1]).map (shiftB H.length)))) : @WCall' Go.Proofs.Tryz.prog S 7 zs H ⟨K⟩ :=
  WCall_ro' hS hv (impl_ProofOf_c ns ks t hl hk) rfl ho hK
end Go.Proofs.YtcfgiffgahdlbaaGreat.C

set_option linter.unusedVariables false
set_option linter.unusedSimpArgs false
set_option maxRecDepth 4000
namespace Go.Proofs.YtcfgiffgahdlbaaGreat.C
open Go.Sym Go.Proofs.YtcfgiffgahdlbaaGreat.I
/-- What of the first terms can be made. -/
def mkUp (ns : List Nd) (ks : List Int) : Nat → List Bool
  | 0 => []
  | n + 1 => mkUp ns ks n ++ [hasK ks n || madeB ns (mkUp ns ks n) n ks]
theorem mkUp_len (ns : List Nd) (ks : List Int) (n : Nat) : (mkUp ns ks n).length = n := by induction n with | zero => rfl | succ n ih => simp [mkUp, ih]
theorem spec_l7All_c (ns : List Nd) (ks : List Int) (hl : ns.length ≤ 500) (hk : ks.length < 9223372036854775807) (hp : poolF ns = true) : T 92 [aP ns, aI ks] [] (bref 0 (mkUp ns ks ns.length)) ([bblk (mkUp ns ks ns.length)]) := by
  refine semT' (S := S0) hm spec_l7All_ok (Nat.le_of_ble_eq_true rfl) ?_
  unfold spec_l7All; dsimp only
  simp
  refine WLoop_virt 1 [(1, aI ks), (2, A.ptr 0 0 0), (5, A.ref 1 0 0 0), (6, i6 0)] ?_ ?_
  · intro s y hy
    simp [Sym.get] at hy ⊢
    (repeat' split at hy) <;> simp_all
  refine WLoop_fam (fun j : Nat => [(1, aI ks), (2, A.ptr 0 0 0), (5, bref 1 (mkUp ns ks j)), (6, i6 j)]) (fun j => [⟨0, false, 1, [A.sl ns.length (enc ns)], none⟩, bblk (mkUp ns ks j)]) (fun j => ns.length - j)
    (fun j => j ≤ ns.length) ?_ 0 (Nat.zero_le _)
  intro j hj ih
  simp
  refine br_intro' (fun u => ?_) (fun u => ?_) <;> (have u0 := u) <;> simp at u <;> simp [u0, u]
  · have hw := wrap_succ (n := j) (by omega)
    have hm := mkUp_len ns ks j
    refine spec_KnowHas_call (ks := ks) (t := j) hk rfl ?_; simp
    refine br_intro' (fun g => ?_) (fun g => ?_) <;> simp [g]
    · have e : mkUp ns ks (j + 1) = mkUp ns ks j ++ [true] := by simp [mkUp, g]
      repeat (refine ck_intro' (by first | omega | (simp; omega) | kernel_rfl) ?_; try simp [hw])
      rw [show A.ref 1 ((mkUp ns ks j).length + 1) 0 ((mkUp ns ks j).length + 1) = bref 1 (mkUp ns ks (j + 1)) by rw [e]; simp]
      refine WLoop_drop [⟨0, false, 1, [A.sl ns.length (enc ns)], none⟩, bblk (mkUp ns ks (j + 1))] [⟨0, false, 1, [.bool true], none⟩] (by rw [e]; simp [bls_snoc]) (by simp) (by simp) (by simp) ?_
      exact ih (j + 1) u (by omega)
    · refine spec_l7Made_k (ns := ns) (mk := mkUp ns ks j) (t := j) (ks := ks) (by omega) hk hp (hasF_of u) (by omega) rfl (by simp) (by simp) ?_; simp
      have e : mkUp ns ks (j + 1) = mkUp ns ks j ++ [madeB ns (mkUp ns ks j) j ks] := by simp [mkUp, g]
      repeat (refine ck_intro' (by first | omega | (simp; omega) | kernel_rfl) ?_; try simp [hw])
      rw [show A.ref 1 ((mkUp ns ks j).length + 1) 0 ((mkUp ns ks j).length + 1) = bref 1 (mkUp ns ks (j + 1)) by rw [e]; simp]
      refine WLoop_drop [⟨0, false, 1, [A.sl ns.length (enc ns)], none⟩, bblk (mkUp ns ks (j + 1))] [⟨0, false, 1, [.bool (madeB ns (mkUp ns ks j) j ks)], none⟩] (by rw [e]; simp [bls_snoc]) (by simp) (by simp) (by simp) ?_
      exact ih (j + 1) u (by omega)
  · have : j = ns.length := by omega
    subst this
    first | (refine LeV.tell [none] ?_ ?_ ?_ <;> (simp; done)) | (refine LeV.tell [some 0] ?_ ?_ ?_ <;> (simp; done)) | (refine LeV.tell [some 1] ?_ ?_ ?_ <;> (simp; done)) | (refine LeV.tell [some 2] ?_ ?_ ?_ <;> (simp; done)) | (refine LeV.tell [some 3] ?_ ?_ ?_ <;> (simp; done)) | (refine LeV.tell [some 4] ?_ ?_ ?_ <;> (simp; done)) | (refine LeV.tell [some 5] ?_ ?_ ?_ <;> (simp; done)) | (refine LeV.tell [some 6] ?_ ?_ ?_ <;> (simp; done)) | (refine LeV.tell [some 7] ?_ ?_ ?_ <;> (simp; done)) | (refine LeV.tell [some 8] ?_ ?_ ?_ <;> (simp; done)) | (refine LeV.tell [some 9] ?_ ?_ ?_ <;> (simp; done)) | (refine LeV.tell [some 10] ?_ ?_ ?_ <;> (simp; done)) | (refine LeV.tell [some 11] ?_ ?_ ?_ <;> (simp; done)) | (refine LeV.tell [some 12] ?_ ?_ ?_ <;> (simp; done)) | (refine LeV.tell [some 13] ?_ ?_ ?_ <;> (simp; done)) | (refine LeV.tell [some 14] ?_ ?_ ?_ <;> (simp; done)) | (refine LeV.tell [some 15] ?_ ?_ ?_ <;> (simp; done))
theorem spec_l7All_k {ns : List Nd} {ks : List Int} (hl : ns.length ≤ 500) (hk : ks.length < 9223372036854775807) (hp : poolF ns = true) {S : FuncId → Bool} {H : List Blk} {K : A → Dl → Prop} {zs : List A} (hS : S 92 = false) (hv : viewL (viewA 8 H) zs = some [aP ns, aI ks]) (ho : noOwns zs = true ∨ nosl (bref 0 (mkUp ns ks ns.length)) = true ∧ noslBlks ([bblk (mkUp ns ks ns.length)]) = true) (hK : K (shiftA H.length (bref 0 (mkUp ns ks ns.length))) (.news (([bblk (mkUp ns ks ns.length)]).map (shiftB H.length)))) : @WCall' Go.Proofs.Tryz.prog S 92 zs H ⟨K⟩ :=
  WCall_ro' hS hv (spec_l7All_c ns ks hl hk hp) rfl ho hK
/-- The numbers of what is true. -/
def listGo : Nat → List Bool → List Int
  | _, [] => []
  | i, b :: bs => if b = true then (i : Int) :: listGo (i + 1) bs else listGo (i + 1) bs
def listF (mk : List Bool) : List Int := listGo 0 mk
theorem spec_l1List_c (mk : List Bool) (hl : mk.length ≤ 4294960000) : T 78 [aBl mk] [] (jref 0 (listF mk)) ([jblk (listF mk)]) := by
  refine semT' (S := S0) hm spec_l1List_ok (Nat.le_of_ble_eq_true rfl) ?_
  unfold spec_l1List; dsimp only
  simp
  refine WLoop_virt 1 [(0, aBl mk), (3, A.ref 0 0 0 0), (4, i6 0)] ?_ ?_
  · intro s y hy
    simp [Sym.get] at hy ⊢
    (repeat' split at hy) <;> simp_all
  refine WLoop_fam (fun p : Nat × List Int => [(0, aBl mk), (3, jref 0 p.2), (4, i6 p.1)]) (fun p => [jblk p.2]) (fun p => mk.length - p.1)
    (fun p => p.1 ≤ mk.length ∧ p.2.length ≤ p.1 ∧ listF mk = p.2 ++ listGo p.1 (mk.drop p.1)) ?_ (0, []) ⟨Nat.zero_le _, by simp, by simp [listF]⟩
  rintro ⟨j, out⟩ ⟨hj, hol, hf⟩ ih
  simp only at hj hol hf
  simp
  refine br_intro' (fun u => ?_) (fun u => ?_) <;> (have u0 := u) <;> simp at u <;> simp [u0, u]
  · have hd : mk.drop j = mk[j] :: mk.drop (j + 1) := List.drop_eq_getElem_cons u
    have hw := wrap_succ (n := j) (by omega)
    try simp [u]
    refine br_intro' (fun g => ?_) (fun g => ?_) <;> (try simp at g) <;> simp [g]
    · repeat (refine ck_intro' (by first | omega | (simp; omega) | kernel_rfl) ?_; try simp [hw])
      rw [show A.ref 0 (out.length + 1) 0 (out.length + 1) = jref 0 (out ++ [(j : Int)]) by simp]
      refine WLoop_drop [jblk (out ++ [(j : Int)])] [_] (by simp [ints_snoc]; exact rfl) (by simp) (by simp) (by simp) ?_
      exact ih (j + 1, out ++ [(j : Int)]) ⟨u, by simp; omega, by rw [hf, hd]; simp [listGo, g]⟩ (by simp; omega)
    · rw [hw]
      exact ih (j + 1, out) ⟨u, by simp; omega, by rw [hf, hd]; simp [listGo, g]⟩ (by simp; omega)
  · have hd : mk.drop j = [] := List.drop_of_length_le (by omega)
    rw [show listF mk = out by rw [hf, hd]; simp [listGo]]
    first | (refine LeV.tell [none] ?_ ?_ ?_ <;> (simp; done)) | (refine LeV.tell [some 0] ?_ ?_ ?_ <;> (simp; done)) | (refine LeV.tell [some 1] ?_ ?_ ?_ <;> (simp; done)) | (refine LeV.tell [some 2] ?_ ?_ ?_ <;> (simp; done)) | (refine LeV.tell [some 3] ?_ ?_ ?_ <;> (simp; done)) | (refine LeV.tell [some 4] ?_ ?_ ?_ <;> (simp; done)) | (refine LeV.tell [some 5] ?_ ?_ ?_ <;> (simp; done)) | (refine LeV.tell [some 6] ?_ ?_ ?_ <;> (simp; done)) | (refine LeV.tell [some 7] ?_ ?_ ?_ <;> (simp; done)) | (refine LeV.tell [some 8] ?_ ?_ ?_ <;> (simp; done)) | (refine LeV.tell [some 9] ?_ ?_ ?_ <;> (simp; done)) | (refine LeV.tell [some 10] ?_ ?_ ?_ <;> (simp; done)) | (refine LeV.tell [some 11] ?_ ?_ ?_ <;> (simp; done)) | (refine LeV.tell [some 12] ?_ ?_ ?_ <;> (simp; done)) | (refine LeV.tell [some 13] ?_ ?_ ?_ <;> (simp; done)) | (refine LeV.tell [some 14] ?_ ?_ ?_ <;> (simp; done)) | (refine LeV.tell [some 15] ?_ ?_ ?_ <;> (simp; done))
theorem spec_l1List_k {mk : List Bool} (hl : mk.length ≤ 4294960000) {S : FuncId → Bool} {H : List Blk} {K : A → Dl → Prop} {zs : List A} (hS : S 78 = false) (hv : viewL (viewA 8 H) zs = some [aBl mk]) (ho : noOwns zs = true ∨ nosl (jref 0 (listF mk)) = true ∧ noslBlks ([jblk (listF mk)]) = true) (hK : K (shiftA H.length (jref 0 (listF mk))) (.news (([jblk (listF mk)]).map (shiftB H.length)))) : @WCall' Go.Proofs.Tryz.prog S 78 zs H ⟨K⟩ :=
  WCall_ro' hS hv (spec_l1List_c mk hl) rfl ho hK
def makesF (ns : List Nd) (ks : List Int) : List Bool := if kpF ns ks = true then mkUp ns ks ns.length else []
theorem spec_MakesAll_c (ns : List Nd) (ks : List Int) (hl : ns.length < 9223372036854775807) (hk : ks.length < 9223372036854775807) : T 79 [aP ns, aI ks] [] (bref 0 (makesF ns ks)) ([bblk (makesF ns ks)]) := by
  refine semT' (S := S0) hm spec_MakesAll_ok (Nat.le_of_ble_eq_true rfl) ?_
  unfold spec_MakesAll; dsimp only
  simp
  refine spec_KnowOk_k (ns := ns) (ks := ks) hl rfl (by simp) (by simp [noslBlks]) ?_; simp [shiftB]
  refine br_intro' (fun h => ?_) (fun h => ?_) <;> simp [h]
  · rw [show makesF ns ks = mkUp ns ks ns.length from if_pos h]
    refine spec_l7All_k (ns := ns) (ks := ks) (poolF_len (kpF_pool h)) hk (kpF_pool h) rfl (by simp) (by simp [noslBlks]) ?_; simp [shiftB]
    first | (refine LeV.tell [none] ?_ ?_ ?_ <;> (simp; done)) | (refine LeV.tell [some 0] ?_ ?_ ?_ <;> (simp; done)) | (refine LeV.tell [some 1] ?_ ?_ ?_ <;> (simp; done)) | (refine LeV.tell [some 2] ?_ ?_ ?_ <;> (simp; done)) | (refine LeV.tell [some 3] ?_ ?_ ?_ <;> (simp; done)) | (refine LeV.tell [some 4] ?_ ?_ ?_ <;> (simp; done)) | (refine LeV.tell [some 5] ?_ ?_ ?_ <;> (simp; done)) | (refine LeV.tell [some 6] ?_ ?_ ?_ <;> (simp; done)) | (refine LeV.tell [some 7] ?_ ?_ ?_ <;> (simp; done)) | (refine LeV.tell [some 8] ?_ ?_ ?_ <;> (simp; done)) | (refine LeV.tell [some 9] ?_ ?_ ?_ <;> (simp; done)) | (refine LeV.tell [some 10] ?_ ?_ ?_ <;> (simp; done)) | (refine LeV.tell [some 11] ?_ ?_ ?_ <;> (simp; done)) | (refine LeV.tell [some 12] ?_ ?_ ?_ <;> (simp; done)) | (refine LeV.tell [some 13] ?_ ?_ ?_ <;> (simp; done)) | (refine LeV.tell [some 14] ?_ ?_ ?_ <;> (simp; done)) | (refine LeV.tell [some 15] ?_ ?_ ?_ <;> (simp; done))
  · rw [show makesF ns ks = [] from if_neg (by simp [h])]
    first | (refine LeV.tell [none] ?_ ?_ ?_ <;> (simp; done)) | (refine LeV.tell [some 0] ?_ ?_ ?_ <;> (simp; done)) | (refine LeV.tell [some 1] ?_ ?_ ?_ <;> (simp; done)) | (refine LeV.tell [some 2] ?_ ?_ ?_ <;> (simp; done)) | (refine LeV.tell [some 3] ?_ ?_ ?_ <;> (simp; done)) | (refine LeV.tell [some 4] ?_ ?_ ?_ <;> (simp; done)) | (refine LeV.tell [some 5] ?_ ?_ ?_ <;> (simp; done)) | (refine LeV.tell [some 6] ?_ ?_ ?_ <;> (simp; done)) | (refine LeV.tell [some 7] ?_ ?_ ?_ <;> (simp; done)) | (refine LeV.tell [some 8] ?_ ?_ ?_ <;> (simp; done)) | (refine LeV.tell [some 9] ?_ ?_ ?_ <;> (simp; done)) | (refine LeV.tell [some 10] ?_ ?_ ?_ <;> (simp; done)) | (refine LeV.tell [some 11] ?_ ?_ ?_ <;> (simp; done)) | (refine LeV.tell [some 12] ?_ ?_ ?_ <;> (simp; done)) | (refine LeV.tell [some 13] ?_ ?_ ?_ <;> (simp; done)) | (refine LeV.tell [some 14] ?_ ?_ ?_ <;> (simp; done)) | (refine LeV.tell [some 15] ?_ ?_ ?_ <;> (simp; done))
theorem spec_MakesAll_k {ns : List Nd} {ks : List Int} (hl : ns.length < 9223372036854775807) (hk : ks.length < 9223372036854775807) {S : FuncId → Bool} {H : List Blk} {K : A → Dl → Prop} {zs : List A} (hS : S 79 = false) (hv : viewL (viewA 8 H) zs = some [aP ns, aI ks]) (ho : noOwns zs = true ∨ nosl (bref 0 (makesF ns ks)) = true ∧ noslBlks ([bblk (makesF ns ks)]) = true) (hK : K (shiftA H.length (bref 0 (makesF ns ks))) (.news (([bblk (makesF ns ks)]).map (shiftB H.length)))) : @WCall' Go.Proofs.Tryz.prog S 79 zs H ⟨K⟩ :=
  WCall_ro' hS hv (spec_MakesAll_c ns ks hl hk) rfl ho hK
def mlistF (ns : List Nd) (ks : List Int) : List Int := listF (makesF ns ks)
theorem makesF_len (ns : List Nd) (ks : List Int) : (makesF ns ks).length ≤ 500 := by
  unfold makesF
  split
  · rename_i h; rw [mkUp_len]; exact poolF_len (kpF_pool h)
  · simp
theorem spec_MakesList_c (ns : List Nd) (ks : List Int) (hl : ns.length < 9223372036854775807) (hk : ks.length < 9223372036854775807) : T 50 [aP ns, aI ks] [] (jref 0 (mlistF ns ks)) ([jblk (mlistF ns ks)]) := by
  refine semT' (S := S0) hm spec_MakesList_ok (Nat.le_of_ble_eq_true rfl) ?_
  unfold spec_MakesList; dsimp only
  have := makesF_len ns ks
  simp
  refine spec_MakesAll_k (ns := ns) (ks := ks) hl hk rfl (by simp) (by simp [noslBlks]) ?_; simp [shiftB]
  refine spec_l1List_k (mk := makesF ns ks) (by omega) rfl (by simp) (by simp [noslBlks]) ?_; simp [shiftB]
  first | (refine LeV.tell [none] ?_ ?_ ?_ <;> (simp [mlistF]; done)) | (refine LeV.tell [some 0] ?_ ?_ ?_ <;> (simp [mlistF]; done)) | (refine LeV.tell [some 1] ?_ ?_ ?_ <;> (simp [mlistF]; done)) | (refine LeV.tell [some 2] ?_ ?_ ?_ <;> (simp [mlistF]; done)) | (refine LeV.tell [some 3] ?_ ?_ ?_ <;> (simp [mlistF]; done)) | (refine LeV.tell [some 4] ?_ ?_ ?_ <;> (simp [mlistF]; done)) | (refine LeV.tell [some 5] ?_ ?_ ?_ <;> (simp [mlistF]; done)) | (refine LeV.tell [some 6] ?_ ?_ ?_ <;> (simp [mlistF]; done)) | (refine LeV.tell [some 7] ?_ ?_ ?_ <;> (simp [mlistF]; done)) | (refine LeV.tell [some 8] ?_ ?_ ?_ <;> (simp [mlistF]; done)) | (refine LeV.tell [some 9] ?_ ?_ ?_ <;> (simp [mlistF]; done)) | (refine LeV.tell [some 10] ?_ ?_ ?_ <;> (simp [mlistF]; done)) | (refine LeV.tell [some 11] ?_ ?_ ?_ <;> (simp [mlistF]; done)) | (refine LeV.tell [some 12] ?_ ?_ ?_ <;> (simp [mlistF]; done)) | (refine LeV.tell [some 13] ?_ ?_ ?_ <;> (simp [mlistF]; done)) | (refine LeV.tell [some 14] ?_ ?_ ?_ <;> (simp [mlistF]; done)) | (refine LeV.tell [some 15] ?_ ?_ ?_ <;> (simp [mlistF]; done))
theorem spec_MakesList_k {ns : List Nd} {ks : List Int} (hl : ns.length < 9223372036854775807) (hk : ks.length < 9223372036854775807) {S : FuncId → Bool} {H : List Blk} {K : A → Dl → Prop} {zs : List A} (hS : S 50 = false) (hv : viewL (viewA 8 H) zs = some [aP ns, aI ks]) (ho : noOwns zs = true ∨ nosl (jref 0 (mlistF ns ks)) = true ∧ noslBlks ([jblk (mlistF ns ks)]) = true) (hK : K (shiftA H.length (jref 0 (mlistF ns ks))) (.news (([jblk (mlistF ns ks)]).map (shiftB H.length)))) : @WCall' Go.Proofs.Tryz.prog S 50 zs H ⟨K⟩ :=
  WCall_ro' hS hv (spec_MakesList_c ns ks hl hk) rfl ho hK
end Go.Proofs.YtcfgiffgahdlbaaGreat.C

set_option linter.unusedVariables false
set_option linter.unusedSimpArgs false
set_option maxRecDepth 4000
namespace Go.Proofs.YtcfgiffgahdlbaaGreat.C
open Go.Sym Go.Proofs.YtcfgiffgahdlbaaGreat.I
/-- What one term that is known opens. -/
def stepO (ns : List Nd) (mk : List Bool) (out : List Int) (t : Int) : List Int :=
  if (nodeAt ns t).k = 2 then putF (putF out (nodeAt ns t).a) (nodeAt ns t).b
  else if (nodeAt ns t).k = 4 ∨ (nodeAt ns t).k = 3 ∧ bv mk (nodeAt ns t).b = true then putF out (nodeAt ns t).a
  else out
def onceV (ns : List Nd) (ks : List Int) : List Int := ks.foldl (stepO ns (mkUp ns ks ns.length)) ks
theorem putF_mem {ks : List Int} {t x : Int} : x ∈ putF ks t ↔ x = t ∨ x ∈ ks := by
  have key : ∀ (ks : List Int) (put : Bool), x ∈ putGo t ks put ↔ (put = false ∧ x = t) ∨ x ∈ ks := by
    intro ks
    induction ks with
    | nil => intro put; cases put <;> simp [putGo]
    | cons y ys ih =>
      intro put
      unfold putGo
      split
      · rename_i h
        simp [ih, h.1]
      · rw [List.mem_cons, ih, List.mem_cons]
        constructor
        · rintro (h | h | h)
          · exact .inr (.inl h)
          · exact .inl h
          · exact .inr (.inr h)
        · rintro (h | h | h)
          · exact .inr (.inl h)
          · exact .inl h
          · exact .inr (.inr h)
  unfold putF
  rw [key]
  cases hk : hasK ks t with
  | true =>
    have hm : t ∈ ks := by simpa [hasK] using hk
    constructor
    · rintro (⟨h, _⟩ | h)
      · cases h
      · exact .inr h
    · rintro (rfl | h)
      · exact .inr hm
      · exact .inr h
  | false => simp
theorem stepO_mem {ns : List Nd} (hp : poolF ns = true) {mk : List Bool} {out : List Int} {t : Int} (ht : hasF ns.length t = true) (ho : ∀ x ∈ out, hasF ns.length x = true) : ∀ x ∈ stepO ns mk out t, hasF ns.length x = true := by
  obtain ⟨j, rfl, hj⟩ := hasN ht
  have en := nodeAt_nat hj
  intro x hx
  unfold stepO at hx
  rw [en] at hx
  have h2 : partsF ns[j].k = 2 → hasF ns.length ns[j].a = true ∧ hasF ns.length ns[j].b = true := fun e => by
    obtain ⟨⟨a, ea, ha⟩, b, eb, hb⟩ := parts_in hp hj e
    rw [ea, eb]
    exact ⟨hasF_of (by omega), hasF_of (by omega)⟩
  split at hx
  · rename_i h
    obtain ⟨q1, q2⟩ := h2 (by rw [h]; rfl)
    rcases putF_mem.1 hx with rfl | hx
    · exact q2
    rcases putF_mem.1 hx with rfl | hx
    · exact q1
    · exact ho x hx
  · split at hx
    · rename_i h
      have hk : partsF ns[j].k = 2 := by rcases h with h | ⟨h, _⟩ <;> rw [h] <;> rfl
      obtain ⟨q1, q2⟩ := h2 hk
      rcases putF_mem.1 hx with rfl | hx
      · exact q1
      · exact ho x hx
    · exact ho x hx
theorem stepO_len (ns : List Nd) (mk : List Bool) (out : List Int) (t : Int) : out.length ≤ (stepO ns mk out t).length ∧ (stepO ns mk out t).length ≤ out.length + 2 := by
  unfold stepO
  split
  · have h1 := putF_len out (nodeAt ns t).a
    have h2 := putF_len (putF out (nodeAt ns t).a) (nodeAt ns t).b
    omega
  · split
    · have h1 := putF_len out (nodeAt ns t).a
      omega
    · omega
theorem spec_l8Once_c (ns : List Nd) (ks : List Int) (hl : ns.length ≤ 500) (hk : ks.length ≤ 1000) (hp : poolF ns = true) (hks : ∀ x ∈ ks, hasF ns.length x = true) : T 77 [aP ns, aI ks] [] (.tup [jref 0 (onceV ns ks), .bool (decide ((onceV ns ks).length ≤ 200))]) ([jblk (onceV ns ks)]) := by
  refine semT' (S := S0) hm spec_l8Once_ok (Nat.le_of_ble_eq_true rfl) ?_
  unfold spec_l8Once; dsimp only
  have hov : onceV ns ks = ks.foldl (stepO ns (mkUp ns ks ns.length)) ks := rfl
  simp
  refine spec_l7All_k (ns := ns) (ks := ks) hl (by omega) hp rfl (by simp) (by simp [noslBlks]) ?_; simp [shiftB]
  have hml := mkUp_len ns ks ns.length
  by_cases h0 : ks = []
  · subst h0
    try simp
    refine WLoop_step' ?_; simp
    rw [show onceV ns [] = [] from rfl]
    exact LeV.tell [none] (by simp) (by simp) (by simp)
  · try simp [h0]
    refine ck_intro' (by omega) ?_; simp [h0]
    generalize mkUp ns ks ns.length = mk at hov hml ⊢
    refine WLoop_ren [some 0, some 1, some 2] [(1, aI ks), (2, A.ptr 0 0 0), (6, bref 1 mk), (7, jref 2 ks), (8, i6 0)] [⟨0, false, 1, [A.sl ns.length (enc ns)], none⟩, bblk mk, jblk ks] (by simp) (by simp [h0]) (by simp) ?_
    refine WLoop_fam (fun p : Nat × List Int => [(1, aI ks), (2, A.ptr 0 0 0), (6, bref 1 mk), (7, jref 2 p.2), (8, i6 p.1)]) (fun p => [⟨0, false, 1, [A.sl ns.length (enc ns)], none⟩, bblk mk, jblk p.2]) (fun p => ks.length - p.1)
      (fun p => p.1 ≤ ks.length ∧ p.2.length ≤ ks.length + 2 * p.1 ∧ onceV ns ks = (ks.drop p.1).foldl (stepO ns mk) p.2) ?_ (0, ks) ⟨Nat.zero_le _, by simp, hov⟩
    rintro ⟨j, out⟩ ⟨hj, hol, hf⟩ ih
    simp only at hj hol hf
    simp
    refine br_intro' (fun u => ?_) (fun u => ?_) <;> (have u0 := u) <;> simp at u <;> simp [u0, u]
    · have hd : ks.drop j = ks[j] :: ks.drop (j + 1) := List.drop_eq_getElem_cons u
      have hw := wrap_succ (n := j) (by omega)
      have hhf := hks ks[j] (List.getElem_mem u)
      have hst := stepO_len ns mk out ks[j]
      have hfn : onceV ns ks = (ks.drop (j + 1)).foldl (stepO ns mk) (stepO ns mk out ks[j]) := by rw [hf, hd]; rfl
      obtain ⟨m, em, hm2⟩ := hasN hhf
      obtain ⟨q, hq⟩ := enc_at hm2
      have h3 : 3 ≤ ns.length * 3 - m * 3 := by omega
      have en := nodeAt_nat hm2
      have hso : stepO ns mk out ks[j] = if ns[m].k = 2 then putF (putF out ns[m].a) ns[m].b else if ns[m].k = 4 ∨ ns[m].k = 3 ∧ bv mk ns[m].b = true then putF out ns[m].a else out := by
        simp only [stepO, em, en]
      have hki : ∀ x, x = stepO ns mk out ks[j] → x.length ≤ ks.length + 2 * (j + 1) ∧ onceV ns ks = (ks.drop (j + 1)).foldl (stepO ns mk) x := fun x e => by
        subst e
        exact ⟨by omega, hfn⟩
      simp [u, em, h3, hq, hm2]
      refine ck_intro' (by kernel_rfl) ?_; simp [h3, hq, hm2]
      have hbk : ns[m].k = 3 → ∃ b : Nat, ns[m].b = b ∧ b < mk.length := fun e => by
        obtain ⟨_, b, e2, e3⟩ := parts_in hp hm2 (by rw [e]; rfl)
        exact ⟨b, e2, by omega⟩
      have hol1 : out.length ≤ 3000 := by omega
      refine br_intro' (fun g => ?_) (fun g => ?_) <;> (have g0 := g) <;> simp only [decide_eq_true_eq, decide_eq_false_iff_not] at g <;> simp [g0, g]
      · refine spec_l6Put_k (ks := out) (t := ns[m].a) (by omega) rfl (by simp) (by simp [noslBlks]) ?_; simp [shiftB]
        have hp1 := putF_len out ns[m].a
        refine spec_l6Put_k (ks := putF out ns[m].a) (t := ns[m].b) (by omega) rfl (by simp) (by simp [noslBlks]) ?_; simp [shiftB]
        first | (refine ck_intro' (by kernel_rfl) ?_; try simp) | skip
        rw [hw]
        refine WLoop_ren [some 0, some 1, some 5] [(1, aI ks), (2, A.ptr 0 0 0), (6, bref 1 mk), (7, jref 2 (putF (putF out ns[m].a) ns[m].b)), (8, i6 ((j + 1 : Nat) : Int))] [⟨0, false, 1, [A.sl ns.length (enc ns)], none⟩, bblk mk, jblk (putF (putF out ns[m].a) ns[m].b)] (by simp) (by simp) (by simp) ?_
        have hz := hki (putF (putF out ns[m].a) ns[m].b) (by rw [hso]; simp [g])
        exact ih (j + 1, (putF (putF out ns[m].a) ns[m].b)) ⟨u, hz.1, hz.2⟩ (by simp; omega)
      · refine br_intro' (fun f => ?_) (fun f => ?_) <;> (have f0 := f) <;> simp only [decide_eq_true_eq, decide_eq_false_iff_not] at f <;> simp [f0, f]
        · refine spec_l6Put_k (ks := out) (t := ns[m].a) (by omega) rfl (by simp) (by simp [noslBlks]) ?_; simp [shiftB]
          rw [hw]
          refine WLoop_ren [some 0, some 1, some 4] [(1, aI ks), (2, A.ptr 0 0 0), (6, bref 1 mk), (7, jref 2 (putF out ns[m].a)), (8, i6 ((j + 1 : Nat) : Int))] [⟨0, false, 1, [A.sl ns.length (enc ns)], none⟩, bblk mk, jblk (putF out ns[m].a)] (by simp) (by simp) (by simp) ?_
          have hz := hki (putF out ns[m].a) (by rw [hso]; simp [g, f])
          exact ih (j + 1, (putF out ns[m].a)) ⟨u, hz.1, hz.2⟩ (by simp; omega)
        · refine br_intro' (fun z => ?_) (fun z => ?_) <;> (have z0 := z) <;> simp only [decide_eq_true_eq, decide_eq_false_iff_not] at z <;> simp [z0, z]
          · obtain ⟨b, eb, hb⟩ := hbk z
            have ebv := bv_nat hb
            simp [eb, hb]
            refine br_intro' (fun y => ?_) (fun y => ?_) <;> simp [y]
            · refine spec_l6Put_k (ks := out) (t := ns[m].a) (by omega) rfl (by simp) (by simp [noslBlks]) ?_; simp [shiftB]
              rw [hw]
              refine WLoop_ren [some 0, some 1, some 4] [(1, aI ks), (2, A.ptr 0 0 0), (6, bref 1 mk), (7, jref 2 (putF out ns[m].a)), (8, i6 ((j + 1 : Nat) : Int))] [⟨0, false, 1, [A.sl ns.length (enc ns)], none⟩, bblk mk, jblk (putF out ns[m].a)] (by simp) (by simp) (by simp) ?_
              have hz := hki (putF out ns[m].a) (by rw [hso]; simp [g, f, z, eb, ebv, y])
              exact ih (j + 1, (putF out ns[m].a)) ⟨u, hz.1, hz.2⟩ (by simp; omega)
            · rw [hw]
              refine WLoop_ren [some 0, some 1, some 2] [(1, aI ks), (2, A.ptr 0 0 0), (6, bref 1 mk), (7, jref 2 out), (8, i6 ((j + 1 : Nat) : Int))] [⟨0, false, 1, [A.sl ns.length (enc ns)], none⟩, bblk mk, jblk out] (by simp) (by simp) (by simp) ?_
              have hz := hki out (by rw [hso]; simp [g, f, z, eb, ebv, y])
              exact ih (j + 1, out) ⟨u, hz.1, hz.2⟩ (by simp; omega)
          · rw [hw]
            refine WLoop_ren [some 0, some 1, some 2] [(1, aI ks), (2, A.ptr 0 0 0), (6, bref 1 mk), (7, jref 2 out), (8, i6 ((j + 1 : Nat) : Int))] [⟨0, false, 1, [A.sl ns.length (enc ns)], none⟩, bblk mk, jblk out] (by simp) (by simp) (by simp) ?_
            have hz := hki out (by rw [hso]; simp [g, f, z])
            exact ih (j + 1, out) ⟨u, hz.1, hz.2⟩ (by simp; omega)
    · have hd : ks.drop j = [] := List.drop_of_length_le (by omega)
      rw [show onceV ns ks = out by rw [hf, hd]; rfl]
      exact LeV.tell [some 2] (by simp) (by simp) (by simp; omega)
theorem spec_l8Once_k {ns : List Nd} {ks : List Int} (hl : ns.length ≤ 500) (hk : ks.length ≤ 1000) (hp : poolF ns = true) (hks : ∀ x ∈ ks, hasF ns.length x = true) {S : FuncId → Bool} {H : List Blk} {K : A → Dl → Prop} {zs : List A} (hS : S 77 = false) (hv : viewL (viewA 8 H) zs = some [aP ns, aI ks]) (ho : noOwns zs = true ∨ nosl (.tup [jref 0 (onceV ns ks), .bool (decide ((onceV ns ks).length ≤ 200))]) = true ∧ noslBlks ([jblk (onceV ns ks)]) = true) (hK : K (shiftA H.length (.tup [jref 0 (onceV ns ks), .bool (decide ((onceV ns ks).length ≤ 200))])) (.news (([jblk (onceV ns ks)]).map (shiftB H.length)))) : @WCall' Go.Proofs.Tryz.prog S 77 zs H ⟨K⟩ :=
  WCall_ro' hS hv (spec_l8Once_c ns ks hl hk hp hks) rfl ho hK
/-- What is opened as a whole, and in how many times. -/
def allO (ns : List Nd) : Nat → List Int → Nat → List Int × Nat
  | 0, out, t => (out, t)
  | n + 1, out, t => if (onceV ns out).length ≤ 200 ∧ (onceV ns out).length ≠ out.length then allO ns n (onceV ns out) (t + 1) else (out, t)
def openV (ns : List Nd) (ks : List Int) : List Int × Nat := allO ns 201 ks 0
theorem foldO_len (ns : List Nd) (mk : List Bool) : ∀ (xs out : List Int), out.length ≤ (xs.foldl (stepO ns mk) out).length
  | [], out => Nat.le_refl _
  | x :: xs, out => Nat.le_trans (stepO_len ns mk out x).1 (foldO_len ns mk xs _)
theorem onceV_len (ns : List Nd) (ks : List Int) : ks.length ≤ (onceV ns ks).length := foldO_len _ _ _ _
theorem foldO_mem {ns : List Nd} (hp : poolF ns = true) {mk : List Bool} : ∀ {xs out : List Int}, (∀ x ∈ xs, hasF ns.length x = true) → (∀ x ∈ out, hasF ns.length x = true) → ∀ x ∈ xs.foldl (stepO ns mk) out, hasF ns.length x = true
  | [], out, _, ho => ho
  | x :: xs, out, hx, ho => foldO_mem (xs := xs) hp (fun y hy => hx y (List.mem_cons_of_mem _ hy)) (stepO_mem hp (hx x (List.mem_cons_self ..)) ho)
theorem onceV_mem {ns : List Nd} (hp : poolF ns = true) {ks : List Int} (h : ∀ x ∈ ks, hasF ns.length x = true) : ∀ x ∈ onceV ns ks, hasF ns.length x = true := foldO_mem hp h h
theorem spec_l8All_c (ns : List Nd) (ks : List Int) (hl : ns.length ≤ 500) (hk : ks.length ≤ 200) (hp : poolF ns = true) (hks : ∀ x ∈ ks, hasF ns.length x = true) : T 49 [aP ns, aI ks] [] (.tup [jref 0 (openV ns ks).1, i6 (openV ns ks).2]) ([jblk (openV ns ks).1]) := by
  refine semT' (S := S0) hm spec_l8All_ok (Nat.le_of_ble_eq_true rfl) ?_
  unfold spec_l8All; dsimp only
  simp
  by_cases h0 : ks = []
  · subst h0
    try simp
    refine WLoop_virt 1 [(2, A.ptr 0 0 0), (6, A.ref 1 0 0 0), (7, i6 0)] ?_ ?_
    · intro s y hy
      simp [Sym.get] at hy ⊢
      (repeat' split at hy) <;> simp_all
    refine WLoop_fam (fun p : List Int × Nat => [(2, A.ptr 0 0 0), (6, jref 1 p.1), (7, i6 p.2)]) (fun p => [⟨0, false, 1, [A.sl ns.length (enc ns)], none⟩, jblk p.1]) (fun p => 201 - p.1.length)
      (fun p => p.1.length ≤ 200 ∧ p.2 ≤ p.1.length ∧ (∀ x ∈ p.1, hasF ns.length x = true) ∧ ∃ n, 201 - p.1.length ≤ n ∧ openV ns [] = allO ns n p.1 p.2) ?_ ([], 0) ⟨by simp; try omega, by simp, hks, 201, by simp, rfl⟩
    rintro ⟨out, t⟩ ⟨hol, htl, hom, n, hn, hf⟩ ih
    simp only at hol htl hom hn hf
    simp
    refine spec_l8Once_k (ns := ns) (ks := out) hl (by omega) hp hom rfl (by simp) (by simp [noslBlks]) ?_; simp [shiftB]
    obtain ⟨n', rfl⟩ : ∃ n', n = n' + 1 := ⟨n - 1, by omega⟩
    have hge := onceV_len ns out
    have hmm := onceV_mem hp hom
    have hw := wrap_succ (n := t) (by omega)
    have hstep : allO ns (n' + 1) out t = if (onceV ns out).length ≤ 200 ∧ (onceV ns out).length ≠ out.length then allO ns n' (onceV ns out) (t + 1) else (out, t) := rfl
    refine br_intro' (fun g => ?_) (fun g => ?_) <;> (have g0 := g) <;> simp only [decide_eq_true_eq, decide_eq_false_iff_not] at g <;> simp [g0, g]
    · refine br_intro' (fun f => ?_) (fun f => ?_) <;> (have f0 := f) <;> simp only [decide_eq_true_eq, decide_eq_false_iff_not] at f <;> simp [f0, f]
      · have f' : (onceV ns out).length = out.length := by omega
        rw [show openV ns [] = (out, t) by rw [hf, hstep, if_neg (by omega)]]
        exact LeV.tell [some 1] (by simp) (by simp) (by simp)
      · have f' : (onceV ns out).length ≠ out.length := by omega
        rw [hw]
        refine WLoop_ren [some 0, some 2] [(2, A.ptr 0 0 0), (6, jref 1 (onceV ns out)), (7, i6 ((t + 1 : Nat) : Int))] [⟨0, false, 1, [A.sl ns.length (enc ns)], none⟩, jblk (onceV ns out)] (by simp) (by simp) (by simp) ?_
        exact ih (onceV ns out, t + 1) ⟨g, by simp; omega, hmm, n', by simp; omega, by rw [hf, hstep, if_pos ⟨g, f'⟩]⟩ (by simp; omega)
    · rw [show openV ns [] = (out, t) by rw [hf, hstep, if_neg (by omega)]]
      exact LeV.tell [some 1] (by simp) (by simp) (by simp)
  · try simp [h0]
    refine ck_intro' (by omega) ?_; simp [h0]
    refine WLoop_ren [some 0, some 1] [(2, A.ptr 0 0 0), (6, jref 1 ks), (7, i6 0)] [⟨0, false, 1, [A.sl ns.length (enc ns)], none⟩, jblk ks] (by simp) (by simp [h0]) (by simp) ?_
    refine WLoop_fam (fun p : List Int × Nat => [(2, A.ptr 0 0 0), (6, jref 1 p.1), (7, i6 p.2)]) (fun p => [⟨0, false, 1, [A.sl ns.length (enc ns)], none⟩, jblk p.1]) (fun p => 201 - p.1.length)
      (fun p => p.1.length ≤ 200 ∧ p.2 ≤ p.1.length ∧ (∀ x ∈ p.1, hasF ns.length x = true) ∧ ∃ n, 201 - p.1.length ≤ n ∧ openV ns ks = allO ns n p.1 p.2) ?_ (ks, 0) ⟨by simp; try omega, by simp, hks, 201, by simp, rfl⟩
    rintro ⟨out, t⟩ ⟨hol, htl, hom, n, hn, hf⟩ ih
    simp only at hol htl hom hn hf
    simp
    refine spec_l8Once_k (ns := ns) (ks := out) hl (by omega) hp hom rfl (by simp) (by simp [noslBlks]) ?_; simp [shiftB]
    obtain ⟨n', rfl⟩ : ∃ n', n = n' + 1 := ⟨n - 1, by omega⟩
    have hge := onceV_len ns out
    have hmm := onceV_mem hp hom
    have hw := wrap_succ (n := t) (by omega)
    have hstep : allO ns (n' + 1) out t = if (onceV ns out).length ≤ 200 ∧ (onceV ns out).length ≠ out.length then allO ns n' (onceV ns out) (t + 1) else (out, t) := rfl
    refine br_intro' (fun g => ?_) (fun g => ?_) <;> (have g0 := g) <;> simp only [decide_eq_true_eq, decide_eq_false_iff_not] at g <;> simp [g0, g]
    · refine br_intro' (fun f => ?_) (fun f => ?_) <;> (have f0 := f) <;> simp only [decide_eq_true_eq, decide_eq_false_iff_not] at f <;> simp [f0, f]
      · have f' : (onceV ns out).length = out.length := by omega
        rw [show openV ns ks = (out, t) by rw [hf, hstep, if_neg (by omega)]]
        exact LeV.tell [some 1] (by simp) (by simp) (by simp)
      · have f' : (onceV ns out).length ≠ out.length := by omega
        rw [hw]
        refine WLoop_ren [some 0, some 2] [(2, A.ptr 0 0 0), (6, jref 1 (onceV ns out)), (7, i6 ((t + 1 : Nat) : Int))] [⟨0, false, 1, [A.sl ns.length (enc ns)], none⟩, jblk (onceV ns out)] (by simp) (by simp) (by simp) ?_
        exact ih (onceV ns out, t + 1) ⟨g, by simp; omega, hmm, n', by simp; omega, by rw [hf, hstep, if_pos ⟨g, f'⟩]⟩ (by simp; omega)
    · rw [show openV ns ks = (out, t) by rw [hf, hstep, if_neg (by omega)]]
      exact LeV.tell [some 1] (by simp) (by simp) (by simp)
theorem spec_l8All_k {ns : List Nd} {ks : List Int} (hl : ns.length ≤ 500) (hk : ks.length ≤ 200) (hp : poolF ns = true) (hks : ∀ x ∈ ks, hasF ns.length x = true) {S : FuncId → Bool} {H : List Blk} {K : A → Dl → Prop} {zs : List A} (hS : S 49 = false) (hv : viewL (viewA 8 H) zs = some [aP ns, aI ks]) (ho : noOwns zs = true ∨ nosl (.tup [jref 0 (openV ns ks).1, i6 (openV ns ks).2]) = true ∧ noslBlks ([jblk (openV ns ks).1]) = true) (hK : K (shiftA H.length (.tup [jref 0 (openV ns ks).1, i6 (openV ns ks).2])) (.news (([jblk (openV ns ks).1]).map (shiftB H.length)))) : @WCall' Go.Proofs.Tryz.prog S 49 zs H ⟨K⟩ :=
  WCall_ro' hS hv (spec_l8All_c ns ks hl hk hp hks) rfl ho hK
/-- What can be derived. -/
def derF (ns : List Nd) (ks : List Int) : List Int := if kpF ns ks = true then mlistF ns (openV ns ks).1 else []
theorem allF_all' {p : Nat → Bool} {n : Nat} (h : allF p n 0 = true) {i : Nat} (hi : i < n) : p i = true := by
  simp only [allF, List.all_eq_true] at h
  exact h i (by simp [List.mem_range']; omega)
theorem kpF_mem {ns : List Nd} {ks : List Int} (h : kpF ns ks = true) : ∀ x ∈ ks, hasF ns.length x = true := by
  intro x hx
  obtain ⟨i, hi, rfl⟩ := List.getElem_of_mem hx
  simp only [kpF, knowF, Bool.and_eq_true] at h
  have := allF_all' h.2.1 hi
  simp only [kn, Bool.and_eq_true] at this
  simpa [hi] using this.1
theorem kpF_len {ns : List Nd} {ks : List Int} (h : kpF ns ks = true) : ks.length ≤ 200 := by
  simp only [kpF, knowF, Bool.and_eq_true, decide_eq_true_eq] at h
  exact h.2.2
theorem allO_len (ns : List Nd) : ∀ (n : Nat) (out : List Int) (t : Nat), out.length ≤ 200 → (allO ns n out t).1.length ≤ 200
  | 0, out, t, h => h
  | n + 1, out, t, h => by
    unfold allO
    split
    · rename_i g; exact allO_len ns n _ _ g.1
    · exact h
theorem spec_DerivesList_c (ns : List Nd) (ks : List Int) (hl : ns.length < 9223372036854775807) (hk : ks.length < 9223372036854775807) : T 27 [aP ns, aI ks] [] (jref 0 (derF ns ks)) ([jblk (derF ns ks)]) := by
  refine semT' (S := S0) hm spec_DerivesList_ok (Nat.le_of_ble_eq_true rfl) ?_
  unfold spec_DerivesList; dsimp only
  simp
  refine spec_KnowOk_k (ns := ns) (ks := ks) hl rfl (by simp) (by simp [noslBlks]) ?_; simp [shiftB]
  refine br_intro' (fun h => ?_) (fun h => ?_) <;> simp [h]
  · have hle := allO_len ns 201 ks 0 (kpF_len h)
    rw [show derF ns ks = mlistF ns (openV ns ks).1 from if_pos h]
    refine spec_l8All_k (ns := ns) (ks := ks) (poolF_len (kpF_pool h)) (kpF_len h) (kpF_pool h) (kpF_mem h) rfl (by simp) (by simp [noslBlks]) ?_; simp [shiftB]
    refine spec_MakesList_k (ns := ns) (ks := (openV ns ks).1) hl (by simp only [openV]; omega) rfl (by simp) (by simp [noslBlks]) ?_; simp [shiftB]
    first | (refine LeV.tell [none] ?_ ?_ ?_ <;> (simp; done)) | (refine LeV.tell [some 0] ?_ ?_ ?_ <;> (simp; done)) | (refine LeV.tell [some 1] ?_ ?_ ?_ <;> (simp; done)) | (refine LeV.tell [some 2] ?_ ?_ ?_ <;> (simp; done)) | (refine LeV.tell [some 3] ?_ ?_ ?_ <;> (simp; done)) | (refine LeV.tell [some 4] ?_ ?_ ?_ <;> (simp; done)) | (refine LeV.tell [some 5] ?_ ?_ ?_ <;> (simp; done)) | (refine LeV.tell [some 6] ?_ ?_ ?_ <;> (simp; done)) | (refine LeV.tell [some 7] ?_ ?_ ?_ <;> (simp; done)) | (refine LeV.tell [some 8] ?_ ?_ ?_ <;> (simp; done)) | (refine LeV.tell [some 9] ?_ ?_ ?_ <;> (simp; done)) | (refine LeV.tell [some 10] ?_ ?_ ?_ <;> (simp; done)) | (refine LeV.tell [some 11] ?_ ?_ ?_ <;> (simp; done)) | (refine LeV.tell [some 12] ?_ ?_ ?_ <;> (simp; done)) | (refine LeV.tell [some 13] ?_ ?_ ?_ <;> (simp; done)) | (refine LeV.tell [some 14] ?_ ?_ ?_ <;> (simp; done)) | (refine LeV.tell [some 15] ?_ ?_ ?_ <;> (simp; done))
  · rw [show derF ns ks = [] from if_neg (by simp [h])]
    first | (refine LeV.tell [none] ?_ ?_ ?_ <;> (simp; done)) | (refine LeV.tell [some 0] ?_ ?_ ?_ <;> (simp; done)) | (refine LeV.tell [some 1] ?_ ?_ ?_ <;> (simp; done)) | (refine LeV.tell [some 2] ?_ ?_ ?_ <;> (simp; done)) | (refine LeV.tell [some 3] ?_ ?_ ?_ <;> (simp; done)) | (refine LeV.tell [some 4] ?_ ?_ ?_ <;> (simp; done)) | (refine LeV.tell [some 5] ?_ ?_ ?_ <;> (simp; done)) | (refine LeV.tell [some 6] ?_ ?_ ?_ <;> (simp; done)) | (refine LeV.tell [some 7] ?_ ?_ ?_ <;> (simp; done)) | (refine LeV.tell [some 8] ?_ ?_ ?_ <;> (simp; done)) | (refine LeV.tell [some 9] ?_ ?_ ?_ <;> (simp; done)) | (refine LeV.tell [some 10] ?_ ?_ ?_ <;> (simp; done)) | (refine LeV.tell [some 11] ?_ ?_ ?_ <;> (simp; done)) | (refine LeV.tell [some 12] ?_ ?_ ?_ <;> (simp; done)) | (refine LeV.tell [some 13] ?_ ?_ ?_ <;> (simp; done)) | (refine LeV.tell [some 14] ?_ ?_ ?_ <;> (simp; done)) | (refine LeV.tell [some 15] ?_ ?_ ?_ <;> (simp; done))
theorem spec_DerivesList_k {ns : List Nd} {ks : List Int} (hl : ns.length < 9223372036854775807) (hk : ks.length < 9223372036854775807) {S : FuncId → Bool} {H : List Blk} {K : A → Dl → Prop} {zs : List A} (hS : S 27 = false) (hv : viewL (viewA 8 H) zs = some [aP ns, aI ks]) (ho : noOwns zs = true ∨ nosl (jref 0 (derF ns ks)) = true ∧ noslBlks ([jblk (derF ns ks)]) = true) (hK : K (shiftA H.length (jref 0 (derF ns ks))) (.news (([jblk (derF ns ks)]).map (shiftB H.length)))) : @WCall' Go.Proofs.Tryz.prog S 27 zs H ⟨K⟩ :=
  WCall_ro' hS hv (spec_DerivesList_c ns ks hl hk) rfl ho hK
end Go.Proofs.YtcfgiffgahdlbaaGreat.C

set_option linter.unusedVariables false
set_option linter.unusedSimpArgs false
namespace Go.Proofs.YtcfgiffgahdlbaaGreat.C
theorem findF_node {ns : List Nd} {n : Nd} (h : 0 ≤ findF ns n 0) : ∃ x : Nat, findF ns n 0 = x ∧ x < ns.length ∧ nodeAt ns x = n := by
  obtain ⟨j, hj, e, e2⟩ := findF_at ns n 0 h
  exact ⟨j, by simpa using e, hj, by rw [nodeAt_nat hj, e2]⟩
/-- In a right pool no node stands twice. -/
theorem node_uniq {ns : List Nd} (hp : poolF ns = true) {i j : Nat} (hi : i < ns.length) (hj : j < ns.length) (h : nodeAt ns i = nodeAt ns j) : i = j := by
  rw [nodeAt_nat hi, nodeAt_nat hj] at h
  rcases Nat.lt_trichotomy i j with g | g | g
  · exact absurd (List.mem_take_iff_getElem.2 ⟨i, by omega, h⟩) (okFrom_all hp hj).2
  · exact g
  · exact absurd (List.mem_take_iff_getElem.2 ⟨j, by omega, h.symm⟩) (okFrom_all hp hi).2
theorem findF_of {ns : List Nd} (hp : poolF ns = true) {x : Nat} (hx : x < ns.length) : findF ns (nodeAt ns x) 0 = x := by
  have h0 := findF_mem (show nodeAt ns x ∈ ns by rw [nodeAt_nat hx]; exact List.getElem_mem hx)
  obtain ⟨y, e, hy, ey⟩ := findF_node h0
  rw [e, node_uniq hp hy hx ey]
/-- What can be made of what is known. -/
inductive Mk (ns : List Nd) (ks : List Int) : Nat → Prop
  | know {t : Nat} (h : (t : Int) ∈ ks) : Mk ns ks t
  | pub {t : Nat} (ht : t < ns.length) (hk : (nodeAt ns t).k = 1) (h : pubF (nodeAt ns t).a = true) : Mk ns ks t
  | make1 {t a : Nat} (ht : t < ns.length) (hk : partsF (nodeAt ns t).k = 1) (ea : (nodeAt ns t).a = a) (h : Mk ns ks a) : Mk ns ks t
  | make2 {t a b : Nat} (ht : t < ns.length) (hk : partsF (nodeAt ns t).k = 2) (ea : (nodeAt ns t).a = a) (eb : (nodeAt ns t).b = b) (h : Mk ns ks a) (g : Mk ns ks b) : Mk ns ks t
  | shareA {t a x : Nat} (ht : t < ns.length) (hx : x < ns.length) (hk : (nodeAt ns t).k = 8) (ea : (nodeAt ns t).a = a) (ex : nodeAt ns x = ⟨7, (nodeAt ns t).b, 0⟩) (h : Mk ns ks a) (g : Mk ns ks x) : Mk ns ks t
  | shareB {t b x : Nat} (ht : t < ns.length) (hx : x < ns.length) (hk : (nodeAt ns t).k = 8) (eb : (nodeAt ns t).b = b) (ex : nodeAt ns x = ⟨7, (nodeAt ns t).a, 0⟩) (h : Mk ns ks b) (g : Mk ns ks x) : Mk ns ks t
def mkv (ns : List Nd) (ks : List Int) (t : Nat) : Bool := hasK ks t || madeB ns (mkUp ns ks t) t ks
theorem mkUp_get (ns : List Nd) (ks : List Int) : ∀ (n i : Nat) (h : i < (mkUp ns ks n).length), (mkUp ns ks n)[i] = mkv ns ks i
  | 0, i, h => by simp [mkUp] at h
  | n + 1, i, h => by
    have hm := mkUp_len ns ks n
    simp only [mkUp]
    rcases Nat.lt_or_ge i n with g | g
    · rw [List.getElem_append_left (by omega)]
      exact mkUp_get ns ks n i (by omega)
    · have hl := mkUp_len ns ks (n + 1)
      have : i = n := by omega
      subst this
      rw [List.getElem_append_right (by omega)]
      simp [mkv]
theorem bv_mkUp {ns : List Nd} {ks : List Int} {n a : Nat} (h : a < n) : bv (mkUp ns ks n) a = mkv ns ks a := by
  have hm := mkUp_len ns ks n
  rw [bv_nat (by omega), mkUp_get]
theorem powF_iff {ns : List Nd} (hp : poolF ns = true) {ks : List Int} {n b : Nat} (hb : b < n) : powF ns (mkUp ns ks n) ks b = true ↔ ∃ x : Nat, x < ns.length ∧ nodeAt ns x = ⟨7, b, 0⟩ ∧ (mkv ns ks b = true ∨ (x : Int) ∈ ks) := by
  unfold powF
  rw [bv_mkUp hb]
  constructor
  · intro h
    simp only [Bool.and_eq_true, decide_eq_true_eq, Bool.or_eq_true] at h
    obtain ⟨x, e, hx, ex⟩ := findF_node h.1
    refine ⟨x, hx, ex, h.2.imp id fun q => ?_⟩
    rw [e] at q
    simpa [hasK] using q
  · rintro ⟨x, hx, ex, h⟩
    have hf := findF_of hp hx
    rw [ex] at hf
    simp only [hf, Bool.and_eq_true, decide_eq_true_eq, Bool.or_eq_true]
    exact ⟨by omega, h.imp id fun q => by simpa [hasK] using q⟩
/-- What is told of a term. -/
theorem mkv_iff {ns : List Nd} (hp : poolF ns = true) {ks : List Int} {t : Nat} (ht : t < ns.length) : mkv ns ks t = true ↔ (t : Int) ∈ ks ∨ madeB ns (mkUp ns ks t) t ks = true := by
  simp [mkv, hasK]
theorem Mk_of {ns : List Nd} (hp : poolF ns = true) {ks : List Int} : ∀ (t : Nat), t < ns.length → mkv ns ks t = true → Mk ns ks t := by
  intro t
  induction t using Nat.strongRecOn with
  | ind t ih =>
    intro ht h
    rcases (mkv_iff hp ht).1 h with h | h
    · exact .know h
    · have en := nodeAt_nat ht
      unfold madeB at h
      split at h
      · rename_i hk; exact .pub ht hk h
      · rename_i hk1
        split at h
        · rename_i hk
          rw [en] at hk
          obtain ⟨a, ea, hal⟩ := part_in hp ht hk
          rw [← en] at ea hk
          rw [ea, bv_mkUp hal] at h
          exact .make1 ht hk ea (ih a hal (by omega) h)
        · rename_i hk2
          have hk : partsF (nodeAt ns t).k = 2 := by
            rcases parts_kind hp ht with q | q | q
            · rw [← en] at q; exact absurd (partsF_0' q) hk1
            · rw [← en] at q; exact absurd q hk2
            · rw [en]; exact q
          have hk' := hk
          rw [en] at hk'
          obtain ⟨⟨a, ea, hal⟩, b, eb, hbl⟩ := parts_in hp ht hk'
          rw [← en] at ea eb
          rw [ea, eb, bv_mkUp hal, bv_mkUp hbl] at h
          split at h
          · rename_i g
            exact .make2 ht hk ea eb (ih a hal (by omega) g.1) (ih b hbl (by omega) g.2)
          · split at h
            · rename_i hk8
              simp only [Bool.or_eq_true, Bool.and_eq_true] at h
              rcases h with ⟨h1, h2⟩ | ⟨h1, h2⟩
              · obtain ⟨x, hx, ex, h3⟩ := (powF_iff hp hbl).1 h2
                refine .shareA (x := x) ht hx hk8 ea (by rw [ex, eb]) (ih a hal (by omega) h1) ?_
                rcases h3 with h3 | h3
                · exact .make1 hx (by rw [ex]; rfl) (by rw [ex]) (ih b hbl (by omega) h3)
                · exact .know h3
              · obtain ⟨x, hx, ex, h3⟩ := (powF_iff hp hal).1 h2
                refine .shareB (x := x) ht hx hk8 eb (by rw [ex, ea]) (ih b hbl (by omega) h1) ?_
                rcases h3 with h3 | h3
                · exact .make1 hx (by rw [ex]; rfl) (by rw [ex]) (ih a hal (by omega) h3)
                · exact .know h3
            · cases h
theorem of_Mk {ns : List Nd} (hp : poolF ns = true) {ks : List Int} {t : Nat} (h : Mk ns ks t) : t < ns.length → mkv ns ks t = true := by
  induction h with
  | know h => intro ht; exact (mkv_iff hp ht).2 (.inl h)
  | pub ht hk h => intro _; refine (mkv_iff hp ht).2 (.inr ?_); unfold madeB; rw [if_pos hk]; exact h
  | @make1 t a ht hk ea h ih =>
    intro _
    refine (mkv_iff hp ht).2 (.inr ?_)
    have en := nodeAt_nat ht
    have hk' := hk
    rw [en] at hk'
    obtain ⟨a', ea', hal⟩ := part_in hp ht hk'
    rw [← en, ea] at ea'
    have : a = a' := by omega
    subst this
    unfold madeB
    rw [if_neg (by intro e; rw [e] at hk; simp [partsF] at hk), if_pos hk, ea, bv_mkUp hal]
    exact ih (by omega)
  | @make2 t a b ht hk ea eb h g ih1 ih2 =>
    intro _
    refine (mkv_iff hp ht).2 (.inr ?_)
    have en := nodeAt_nat ht
    have hk' := hk
    rw [en] at hk'
    obtain ⟨⟨a', ea', hal⟩, b', eb', hbl⟩ := parts_in hp ht hk'
    rw [← en, ea] at ea'
    rw [← en, eb] at eb'
    have h1 : a = a' := by omega
    have h2 : b = b' := by omega
    subst h1 h2
    unfold madeB
    rw [if_neg (by intro e; rw [e] at hk; simp [partsF] at hk), if_neg (by omega), ea, eb, bv_mkUp hal, bv_mkUp hbl, if_pos ⟨ih1 (by omega), ih2 (by omega)⟩]
  | @shareA t a x ht hx hk ea ex h g ih1 ih2 =>
    intro _
    refine (mkv_iff hp ht).2 (.inr ?_)
    have en := nodeAt_nat ht
    have hk' := hk
    rw [en] at hk'
    obtain ⟨⟨a', ea', hal⟩, b, eb, hbl⟩ := parts_in hp ht (by rw [hk']; rfl)
    rw [← en, ea] at ea'
    rw [← en] at eb
    have h1 : a = a' := by omega
    subst h1
    rw [eb] at ex
    have hpw : powF ns (mkUp ns ks t) ks b = true := by
      refine (powF_iff hp hbl).2 ⟨x, hx, ex, ?_⟩
      rcases (mkv_iff hp hx).1 (ih2 hx) with q | q
      · exact .inr q
      · left
        unfold madeB at q
        rw [ex] at q
        rw [if_neg (by simp), if_pos (by rfl)] at q
        have hbx : b < x := by
          have enx := nodeAt_nat hx
          obtain ⟨b', e', hb'⟩ := part_in hp hx (by rw [← enx, ex]; rfl)
          rw [← enx, ex] at e'
          simp only at e'
          omega
        rw [bv_mkUp hbx] at q
        exact q
    unfold madeB
    rw [if_neg (by omega), if_neg (by rw [hk]; simp [partsF]), ea, eb, bv_mkUp hal, bv_mkUp hbl, if_pos hk, ih1 (by omega), hpw]
    split <;> simp
  | @shareB t b x ht hx hk eb ex h g ih1 ih2 =>
    intro _
    refine (mkv_iff hp ht).2 (.inr ?_)
    have en := nodeAt_nat ht
    have hk' := hk
    rw [en] at hk'
    obtain ⟨⟨a, ea, hal⟩, b', eb', hbl⟩ := parts_in hp ht (by rw [hk']; rfl)
    rw [← en] at ea
    rw [← en, eb] at eb'
    have h1 : b = b' := by omega
    subst h1
    rw [ea] at ex
    have hpw : powF ns (mkUp ns ks t) ks a = true := by
      refine (powF_iff hp hal).2 ⟨x, hx, ex, ?_⟩
      rcases (mkv_iff hp hx).1 (ih2 hx) with q | q
      · exact .inr q
      · left
        unfold madeB at q
        rw [ex] at q
        rw [if_neg (by simp), if_pos (by rfl)] at q
        have hbx : a < x := by
          have enx := nodeAt_nat hx
          obtain ⟨b', e', hb'⟩ := part_in hp hx (by rw [← enx, ex]; rfl)
          rw [← enx, ex] at e'
          simp only at e'
          omega
        rw [bv_mkUp hbx] at q
        exact q
    unfold madeB
    rw [if_neg (by omega), if_neg (by rw [hk]; simp [partsF]), ea, eb, bv_mkUp hal, bv_mkUp hbl, if_pos hk, ih1 (by omega), hpw]
    split <;> simp
theorem mkv_Mk {ns : List Nd} (hp : poolF ns = true) {ks : List Int} {t : Nat} (ht : t < ns.length) : mkv ns ks t = true ↔ Mk ns ks t := ⟨Mk_of hp t ht, fun h => of_Mk hp h ht⟩
/-- What is listed of bools. -/
theorem listGo_mem {x : Int} : ∀ {mk : List Bool} {i : Nat}, x ∈ listGo i mk ↔ ∃ j : Nat, ∃ h : j < mk.length, x = (i + j : Nat) ∧ mk[j] = true
  | [], i => by simp [listGo]
  | b :: bs, i => by
    unfold listGo
    have ih := @listGo_mem x bs (i + 1)
    constructor
    · intro h
      split at h
      · rename_i hb
        rcases List.mem_cons.1 h with h | h
        · exact ⟨0, by simp, by simpa using h, by simpa using hb⟩
        · obtain ⟨j, h1, h2, h3⟩ := ih.1 h
          exact ⟨j + 1, by simp; omega, by rw [h2]; congr 1; omega, by simpa using h3⟩
      · obtain ⟨j, h1, h2, h3⟩ := ih.1 h
        exact ⟨j + 1, by simp; omega, by rw [h2]; congr 1; omega, by simpa using h3⟩
    · rintro ⟨j, h1, h2, h3⟩
      cases j with
      | zero =>
        have hb : b = true := by simpa using h3
        rw [if_pos hb]
        exact List.mem_cons.2 (.inl (by simpa using h2))
      | succ j =>
        have : x ∈ listGo (i + 1) bs := ih.2 ⟨j, by simpa using h1, by rw [h2]; congr 1; omega, by simpa using h3⟩
        split
        · exact List.mem_cons.2 (.inr this)
        · exact this
theorem listF_mem {x : Int} {mk : List Bool} : x ∈ listF mk ↔ ∃ j : Nat, ∃ h : j < mk.length, x = j ∧ mk[j] = true := by
  have := @listGo_mem x mk 0
  simpa [listF] using this
theorem listGo_len : ∀ (mk : List Bool) (i : Nat), (listGo i mk).length = mk.countP id
  | [], i => rfl
  | b :: bs, i => by
    unfold listGo
    cases b with
    | true => simp [listGo_len bs (i + 1)]
    | false => simp [listGo_len bs (i + 1)]
theorem mlistF_mem {ns : List Nd} {ks : List Int} (hk : kpF ns ks = true) {x : Int} : x ∈ mlistF ns ks ↔ ∃ t : Nat, x = t ∧ t < ns.length ∧ Mk ns ks t := by
  have hp := kpF_pool hk
  have hm := mkUp_len ns ks ns.length
  unfold mlistF makesF
  rw [if_pos hk, listF_mem]
  constructor
  · rintro ⟨j, h1, rfl, h3⟩
    rw [mkUp_get] at h3
    exact ⟨j, rfl, by omega, Mk_of hp j (by omega) h3⟩
  · rintro ⟨t, rfl, h1, h2⟩
    exact ⟨t, by omega, rfl, by rw [mkUp_get]; exact of_Mk hp h2 h1⟩
end Go.Proofs.YtcfgiffgahdlbaaGreat.C
