/- Plain facts: what can be derived, and the steps that derive it. Conditions: those that each theorem names. -/
import Derived.Test.YtfbfebaajdihiaaXE3Q4
import Derived.Test.YtfbfebaajdihiaaXSymY
import Derived.Shelf.Sort.Plain
import Derived.Shelf.Slices.In.SortNone
import Derived.Shelf.Slices.CompactI
import Derived.Lib.RowBridge
import Derived.Test.YtfbfebaajdihiaaXD3E2
set_option linter.unusedVariables false
set_option linter.unusedSimpArgs false
namespace Go.Proofs.Ytfbfebaajdihiaa.C
/-- What can be derived of what is known. -/
inductive Der (ns : List Nd) (ks : List Int) : Nat → Prop
  | know {t : Nat} (h : (t : Int) ∈ ks) : Der ns ks t
  | pub {t : Nat} (ht : t < ns.length) (hk : (nodeAt ns t).k = 1) (h : pubF (nodeAt ns t).a = true) : Der ns ks t
  | make1 {t a : Nat} (ht : t < ns.length) (hk : partsF (nodeAt ns t).k = 1) (ea : (nodeAt ns t).a = a) (h : Der ns ks a) : Der ns ks t
  | make2 {t a b : Nat} (ht : t < ns.length) (hk : partsF (nodeAt ns t).k = 2) (ea : (nodeAt ns t).a = a) (eb : (nodeAt ns t).b = b) (h : Der ns ks a) (g : Der ns ks b) : Der ns ks t
  | shareA {t a x : Nat} (ht : t < ns.length) (hx : x < ns.length) (hk : (nodeAt ns t).k = 8) (ea : (nodeAt ns t).a = a) (ex : nodeAt ns x = ⟨7, (nodeAt ns t).b, 0⟩) (h : Der ns ks a) (g : Der ns ks x) : Der ns ks t
  | shareB {t b x : Nat} (ht : t < ns.length) (hx : x < ns.length) (hk : (nodeAt ns t).k = 8) (eb : (nodeAt ns t).b = b) (ex : nodeAt ns x = ⟨7, (nodeAt ns t).a, 0⟩) (h : Der ns ks b) (g : Der ns ks x) : Der ns ks t
  | left {t i : Nat} (hi : i < ns.length) (hk : (nodeAt ns i).k = 2) (ea : (nodeAt ns i).a = t) (h : Der ns ks i) : Der ns ks t
  | right {t i : Nat} (hi : i < ns.length) (hk : (nodeAt ns i).k = 2) (eb : (nodeAt ns i).b = t) (h : Der ns ks i) : Der ns ks t
  | opens {t i y : Nat} (hi : i < ns.length) (hk : (nodeAt ns i).k = 3) (ea : (nodeAt ns i).a = t) (eb : (nodeAt ns i).b = y) (h : Der ns ks i) (g : Der ns ks y) : Der ns ks t
  | read {t i : Nat} (hi : i < ns.length) (hk : (nodeAt ns i).k = 4) (ea : (nodeAt ns i).a = t) (h : Der ns ks i) : Der ns ks t
theorem nodeA_lt {ns : List Nd} (hp : poolF ns = true) {i t : Nat} (hi : i < ns.length) (hk : partsF (nodeAt ns i).k = 1 ∨ partsF (nodeAt ns i).k = 2) (ea : (nodeAt ns i).a = t) : t < i := by
  rw [nodeAt_nat hi] at hk ea
  rcases hk with hk | hk
  · obtain ⟨a, e, h⟩ := part_in hp hi hk
    omega
  · obtain ⟨⟨a, e, h⟩, _⟩ := parts_in hp hi hk
    omega
theorem nodeB_lt {ns : List Nd} (hp : poolF ns = true) {i t : Nat} (hi : i < ns.length) (hk : partsF (nodeAt ns i).k = 2) (eb : (nodeAt ns i).b = t) : t < i := by
  rw [nodeAt_nat hi] at hk eb
  obtain ⟨_, b, e, h⟩ := parts_in hp hi hk
  omega
theorem nodeA_nat {ns : List Nd} (hp : poolF ns = true) {i : Nat} (hi : i < ns.length) (hk : partsF (nodeAt ns i).k = 1 ∨ partsF (nodeAt ns i).k = 2) : ∃ a : Nat, (nodeAt ns i).a = a ∧ a < i := by
  rw [nodeAt_nat hi] at hk ⊢
  rcases hk with hk | hk
  · exact part_in hp hi hk
  · exact (parts_in hp hi hk).1
theorem nodeB_nat {ns : List Nd} (hp : poolF ns = true) {i : Nat} (hi : i < ns.length) (hk : partsF (nodeAt ns i).k = 2) : ∃ b : Nat, (nodeAt ns i).b = b ∧ b < i := by
  rw [nodeAt_nat hi] at hk ⊢
  exact (parts_in hp hi hk).2
/-- What is derived is a term. -/
theorem Der.lt {ns : List Nd} {ks : List Int} (hp : poolF ns = true) (hks : ∀ x ∈ ks, hasF ns.length x = true) {t : Nat} (h : Der ns ks t) : t < ns.length := by
  induction h with
  | know h => obtain ⟨j, e, hj⟩ := hasN (hks _ h); omega
  | pub ht _ _ => exact ht
  | make1 ht _ _ _ _ => exact ht
  | make2 ht _ _ _ _ _ _ _ => exact ht
  | shareA ht _ _ _ _ _ _ _ _ => exact ht
  | shareB ht _ _ _ _ _ _ _ _ => exact ht
  | left hi hk ea _ _ => have := nodeA_lt hp hi (by rw [hk]; exact .inr rfl) ea; omega
  | right hi hk eb _ _ => have := nodeB_lt hp hi (by rw [hk]; rfl) eb; omega
  | opens hi hk ea _ _ _ _ _ => have := nodeA_lt hp hi (by rw [hk]; exact .inr rfl) ea; omega
  | read hi hk ea _ _ => have := nodeA_lt hp hi (by rw [hk]; exact .inr rfl) ea; omega
theorem termAt_on {ss : List Sp} {i : Nat} {k : Int} (h : 0 ≤ termAt ss i k ∨ ¬ termAt ss i k < 0) : ∃ j : Nat, k = j ∧ j < i ∧ termAt ss i k = (spAt ss j).t := by
  have e : inF k 0 ((i : Int) - 1) = true := by
    cases hc : inF k 0 ((i : Int) - 1) with
    | true => rfl
    | false =>
      have e2 : termAt ss i k = -1 := by unfold termAt; rw [if_neg (by simp [hc])]
      omega
  have e2 := e
  simp only [inF, decide_eq_true_eq] at e2
  refine ⟨k.toNat, by omega, by omega, ?_⟩
  unfold termAt
  rw [if_pos e]
/-- What the steps of a proof prove can be derived. -/
theorem proof_Der {ns : List Nd} {ks : List Int} {ss : List Sp} (hp : poolF ns = true) (hpr : ∀ i : Nat, i < ss.length → prF ns ks ss i = true) : ∀ i : Nat, i < ss.length → ∃ t : Nat, (spAt ss i).t = t ∧ t < ns.length ∧ Der ns ks t := by
  intro i
  induction i using Nat.strongRecOn with
  | ind i ih =>
    intro hi
    have h := hpr i hi
    simp only [prF, stepOkF, Bool.and_eq_true, termAt_take (Nat.le_of_lt hi)] at h
    obtain ⟨⟨h1, h2⟩, _⟩ := h
    obtain ⟨t, et, htl⟩ := hasN h1
    refine ⟨t, et, htl, ?_⟩
    simp only [holdsF, Bool.and_eq_true, Bool.not_eq_true', lackF, decide_eq_false_iff_not, not_or, not_and] at h2
    obtain ⟨⟨g1, g2, g3, _, _⟩, h2⟩ := h2
    have key : ∀ k : Int, ¬ termAt ss i k < 0 → ∃ a : Nat, termAt ss i k = a ∧ a < ns.length ∧ Der ns ks a := fun k hk => by
      obtain ⟨j, _, hj, e⟩ := termAt_on (.inr hk)
      obtain ⟨a, ea, hal, hd⟩ := ih j hj (by omega)
      exact ⟨a, by rw [e, ea], hal, hd⟩
    generalize spAt ss i = s at *
    by_cases r1 : s.r = 1
    · simp [ruleF, r1, et, hasK] at h2
      exact .know h2
    by_cases r2 : s.r = 2
    · simp [ruleF, r2, et] at h2
      exact .pub htl h2.1 h2.2
    by_cases r3 : s.r = 3
    · have hn : needsF ns s = partsF (nodeAt ns t).k := by simp [needsF, r3, et]
      simp only [ruleF, r3, et, if_neg (show ¬ (3 : Int) = 1 by omega), if_neg (show ¬ (3 : Int) = 2 by omega), if_true, Bool.and_eq_true, decide_eq_true_eq, Bool.or_eq_true] at h2
      obtain ⟨⟨k1, ea⟩, eb⟩ := h2
      have hpk := parts_kind hp htl
      rw [← nodeAt_nat htl] at hpk
      rcases hpk with k | k | k
      · unfold partsF at k
        rw [if_neg k1] at k
        split at k
        · omega
        · split at k <;> omega
      · obtain ⟨a, e, _, hd⟩ := key _ (g2 (by omega))
        exact .make1 htl k (by rw [← ea, e]) hd
      · obtain ⟨a, e, _, hd⟩ := key _ (g2 (by omega))
        obtain ⟨b, e', _, hd'⟩ := key _ (g3 (by omega))
        exact .make2 htl k (by rw [← ea, e]) (by rw [← eb.resolve_left (by omega), e']) hd hd'
    by_cases r4 : s.r = 4
    · have hn : needsF ns s = 2 := by simp [needsF, r4]
      obtain ⟨a, e, _, hd⟩ := key _ (g2 (by omega))
      obtain ⟨b, e', hbl, hd'⟩ := key _ (g3 (by omega))
      simp only [ruleF, r4, et, e, e', if_neg (show ¬ (4 : Int) = 1 by omega), if_neg (show ¬ (4 : Int) = 2 by omega), if_neg (show ¬ (4 : Int) = 3 by omega), if_true, Bool.and_eq_true, decide_eq_true_eq, Bool.or_eq_true] at h2
      obtain ⟨⟨k8, k7⟩, h⟩ := h2
      have hb0 : (nodeAt ns b).b = 0 := by
        have := (okFrom_all hp hbl).1
        rw [nodeAt_nat hbl] at k7 ⊢
        simp [rightF, k7, partsF] at this
        exact this.2
      have hnb : ∀ c, (nodeAt ns b).a = c → nodeAt ns b = ⟨7, c, 0⟩ := fun c hc => by
        generalize nodeAt ns b = n at k7 hb0 hc
        obtain ⟨nk, na, nb⟩ := n
        simp only at k7 hb0 hc
        rw [k7, hb0, hc]
      rcases h with ⟨h, h'⟩ | ⟨h, h'⟩
      · exact .shareA htl hbl k8 h.symm (hnb _ h') hd hd'
      · exact .shareB htl hbl k8 h.symm (hnb _ h') hd hd'
    by_cases r5 : s.r = 5
    · obtain ⟨a, e, hal, hd⟩ := key _ (g2 (by simp [needsF, r5]))
      simp [ruleF, r5, et, e] at h2
      exact .left hal h2.1 h2.2 hd
    by_cases r6 : s.r = 6
    · obtain ⟨a, e, hal, hd⟩ := key _ (g2 (by simp [needsF, r6]))
      simp [ruleF, r6, et, e] at h2
      exact .right hal h2.1 h2.2 hd
    by_cases r7 : s.r = 7
    · obtain ⟨a, e, hal, hd⟩ := key _ (g2 (by simp [needsF, r7]))
      obtain ⟨b, e', hbl, hd'⟩ := key _ (g3 (by simp [needsF, r7]))
      simp [ruleF, r7, et, e, e'] at h2
      exact .opens hal h2.1.1 h2.1.2 h2.2 hd hd'
    · have r8 : s.r = 8 := by
        unfold needsF at g1
        rw [if_neg (by omega), if_neg r3, if_neg (by omega)] at g1
        split at g1 <;> omega
      obtain ⟨a, e, hal, hd⟩ := key _ (g2 (by simp [needsF, r8]))
      simp [ruleF, r8, et, e] at h2
      exact .read hal h2.1 h2.2 hd
/-! ### All steps -/
theorem passGo_st {ns : List Nd} {ks : List Int} : ∀ (n t : Nat) (st : List Int) (out : List Sp) (m : Bool), out.length ≤ (passGo ns ks n t st out m).2.1.length ∧ ((passGo ns ks n t st out m).2.2 = true → m = true ∨ out.length < (passGo ns ks n t st out m).2.1.length) ∧
    ((passGo ns ks n t st out m).2.2 = false → m = false ∧ (passGo ns ks n t st out m).1 = st ∧ (passGo ns ks n t st out m).2.1 = out ∧ ∀ j : Nat, t ≤ j → j < t + n → ¬ 0 ≤ sv st j → stepF ns ks st j = none)
  | 0, t, st, out, m => ⟨Nat.le_refl _, fun h => .inl h, fun h => ⟨h, rfl, rfl, fun j h1 h2 => by omega⟩⟩
  | n + 1, t, st, out, m => by
    unfold passGo
    split
    · rename_i g
      obtain ⟨h1, h2, h3⟩ := @passGo_st ns ks n (t + 1) st out m
      refine ⟨h1, h2, fun h => ?_⟩
      obtain ⟨a, b, c, d⟩ := h3 h
      refine ⟨a, b, c, fun j h4 h5 h6 => ?_⟩
      rcases Nat.lt_or_ge t j with u | u
      · exact d j u (by omega) h6
      · have : j = t := by omega
        subst this
        exact absurd g h6
    · split
      · rename_i s e
        obtain ⟨h1, h2, h3⟩ := @passGo_st ns ks n (t + 1) (st.set t out.length) (out ++ [s]) true
        simp only [List.length_append, List.length_singleton] at h1
        refine ⟨by omega, fun _ => .inr (by omega), fun h => ?_⟩
        exact absurd (h3 h).1 (by simp)
      · rename_i e
        obtain ⟨h1, h2, h3⟩ := @passGo_st ns ks n (t + 1) st out m
        refine ⟨h1, h2, fun h => ?_⟩
        obtain ⟨a, b, c, d⟩ := h3 h
        refine ⟨a, b, c, fun j h4 h5 h6 => ?_⟩
        rcases Nat.lt_or_ge t j with u | u
        · exact d j u (by omega) h6
        · have : j = t := by omega
          subst this
          exact e
/-- At the end no term has a step more. -/
theorem allGo_stuck {ns : List Nd} {ks : List Int} : ∀ (n : Nat) (st : List Int) (out : List Sp), st.length = ns.length → out.length + negs st = ns.length → negs st < n →
    (allGo ns ks n st out).1.length = ns.length ∧ (allGo ns ks n st out).2.length + negs (allGo ns ks n st out).1 = ns.length ∧ ∀ j : Nat, j < ns.length → ¬ 0 ≤ sv (allGo ns ks n st out).1 j → stepF ns ks (allGo ns ks n st out).1 j = none
  | 0, st, out, _, _, h => absurd h (Nat.not_lt_zero _)
  | n + 1, st, out, h1, h2, h3 => by
    have hl := passGo_len ns ks ns.length 0 st out false (by omega) h1 h2
    obtain ⟨g1, g2, g3⟩ := @passGo_st ns ks ns.length 0 st out false
    unfold allGo
    split
    · rename_i e
      have := (g2 e).resolve_left (by simp)
      exact allGo_stuck n _ _ hl.1 hl.2 (by omega)
    · rename_i e
      obtain ⟨_, e1, e2, e3⟩ := g3 (by simpa using e)
      refine ⟨hl.1, hl.2, ?_⟩
      simp only
      rw [e1]
      exact fun j hj => e3 j (Nat.zero_le _) (by omega)
theorem upGo_none {ns : List Nd} {st : List Int} {r t : Int} : ∀ {n i : Nat}, upGo ns st r t n i = none → ∀ j : Nat, i ≤ j → j < i + n → upOk ns st r t j = false
  | 0, i, _, j, h1, h2 => by omega
  | n + 1, i, h, j, h1, h2 => by
    unfold upGo at h
    split at h
    · exact absurd h (by simp)
    · rename_i e
      rcases Nat.lt_or_ge i j with u | u
      · exact upGo_none h j u (by omega)
      · have : j = i := by omega
        subst this
        simpa using e
theorem or_none {α : Type} {a b : Option α} (h : a.or b = none) : a = none ∧ b = none := by cases a <;> simp_all
/-- Where no term has a step more, what can be derived has one. -/
theorem stuck_Der {ns : List Nd} {ks st : List Int} (hp : poolF ns = true) (hks : ∀ x ∈ ks, hasF ns.length x = true) (hst : ∀ j : Nat, j < ns.length → ¬ 0 ≤ sv st j → stepF ns ks st j = none) {t : Nat} (h : Der ns ks t) : 0 ≤ sv st t := by
  have key : ∀ t : Nat, t < ns.length → (¬ 0 ≤ sv st t → ¬ ((t : Int) ∈ ks) ∧ ¬ ((nodeAt ns t).k = 1 ∧ pubF (nodeAt ns t).a = true) ∧ madeF ns st t = none ∧ shareF ns st t = none ∧ ∀ r : Int, r = 5 ∨ r = 6 ∨ r = 7 ∨ r = 8 → upF ns st r t = none) := fun t ht hn => by
    have e := hst t ht hn
    unfold stepF at e
    split at e
    · simp at e
    · rename_i e1
      split at e
      · simp at e
      · rename_i e2
        obtain ⟨e3, e4⟩ := or_none e
        unfold restF at e4
        obtain ⟨e5, e6⟩ := or_none e4
        obtain ⟨e7, e8⟩ := or_none e6
        obtain ⟨e9, e10⟩ := or_none e8
        obtain ⟨e11, e12⟩ := or_none e10
        refine ⟨fun q => e1 (by simpa [hasK] using q), e2, e3, e5, ?_⟩
        rintro r (rfl | rfl | rfl | rfl) <;> assumption
  have up : ∀ (r : Int) (t i : Nat), t < i → i < ns.length → upF ns st r t = none → upOk ns st r t i = false := fun r t i h1 h2 h3 => by
    unfold upF at h3
    have e : ((t : Nat) : Int).toNat = t := rfl
    rw [e] at h3
    exact upGo_none h3 i h1 (by omega)
  induction h with
  | @know t h =>
    obtain ⟨j, e, hj⟩ := hasN (hks _ h)
    exact Classical.byContradiction fun hn => (key t (by omega) hn).1 h
  | @pub t ht hk h => exact Classical.byContradiction fun hn => (key t ht hn).2.1 ⟨hk, h⟩
  | @make1 t a ht hk ea h ih =>
    refine Classical.byContradiction fun hn => ?_
    have := (key t ht hn).2.2.1
    unfold madeF at this
    rw [if_pos hk, ea, if_pos ih] at this
    simp at this
  | @make2 t a b ht hk ea eb h g ih ih2 =>
    refine Classical.byContradiction fun hn => ?_
    have := (key t ht hn).2.2.1
    unfold madeF at this
    rw [if_neg (by omega), if_pos hk, ea, eb, if_pos ⟨ih, ih2⟩] at this
    simp at this
  | @shareA t a x ht hx hk ea ex h g ih ih2 =>
    refine Classical.byContradiction fun hn => ?_
    have := (key t ht hn).2.2.2.1
    have hf := findF_of hp hx
    rw [ex] at hf
    unfold shareF at this
    rw [if_neg (by omega), if_pos (by rw [ea, hf]; exact ⟨ih, by omega, ih2⟩)] at this
    simp at this
  | @shareB t b x ht hx hk eb ex h g ih ih2 =>
    refine Classical.byContradiction fun hn => ?_
    have := (key t ht hn).2.2.2.1
    have hf := findF_of hp hx
    rw [ex] at hf
    unfold shareF at this
    rw [if_neg (by omega)] at this
    split at this
    · simp at this
    · rw [if_pos (by rw [eb, hf]; exact ⟨ih, by omega, ih2⟩)] at this
      simp at this
  | @left t i hi hk ea h ih =>
    refine Classical.byContradiction fun hn => ?_
    have hlt := nodeA_lt hp hi (by rw [hk]; exact .inr rfl) ea
    have := up 5 t i hlt hi ((key t (by omega) hn).2.2.2.2 5 (by omega))
    simp [upOk, ih, hk, ea] at this
  | @right t i hi hk eb h ih =>
    refine Classical.byContradiction fun hn => ?_
    have hlt := nodeB_lt hp hi (by rw [hk]; rfl) eb
    have := up 6 t i hlt hi ((key t (by omega) hn).2.2.2.2 6 (by omega))
    simp [upOk, ih, hk, eb] at this
  | @opens t i y hi hk ea eb h g ih ih2 =>
    refine Classical.byContradiction fun hn => ?_
    have hlt := nodeA_lt hp hi (by rw [hk]; exact .inr rfl) ea
    have := up 7 t i hlt hi ((key t (by omega) hn).2.2.2.2 7 (by omega))
    simp [upOk, ih, hk, ea, eb, ih2] at this
  | @read t i hi hk ea h ih =>
    refine Classical.byContradiction fun hn => ?_
    have hlt := nodeA_lt hp hi (by rw [hk]; exact .inr rfl) ea
    have := up 8 t i hlt hi ((key t (by omega) hn).2.2.2.2 8 (by omega))
    simp [upOk, ih, hk, ea] at this
/-- All steps: those of the terms that can be derived, and their number. -/
theorem allV_spec {ns : List Nd} {ks : List Int} (hp : poolF ns = true) (hks : ∀ x ∈ ks, hasF ns.length x = true) : ∃ st : List Int, st.length = ns.length ∧ (allV ns ks).length + negs st = ns.length ∧ (∀ t : Nat, t < ns.length → (0 ≤ sv st t ↔ Der ns ks t)) ∧
    (∀ t : Nat, t < ns.length → (0 ≤ sv st t ↔ ∃ i : Nat, i < (allV ns ks).length ∧ (spAt (allV ns ks) i).t = t)) := by
  have I := allV_inv ks hp
  obtain ⟨h1, h2, h3⟩ := @allGo_stuck ns ks (ns.length + 1) (List.replicate ns.length (-1)) [] (by simp) (by simp [negs_rep]) (by rw [negs_rep]; omega)
  refine ⟨(allGo ns ks (ns.length + 1) (List.replicate ns.length (-1)) []).1, h1, h2, ?_, ?_⟩
  · intro t ht
    refine ⟨fun h => ?_, fun h => stuck_Der hp hks h3 h⟩
    have hts : t < (allGo ns ks (ns.length + 1) (List.replicate ns.length (-1)) []).1.length := by rw [h1]; exact ht
    rw [sv_nat hts] at h
    obtain ⟨i, hi, _, e⟩ := I.idx t hts h
    obtain ⟨t', e2, _, hd⟩ := proof_Der hp I.ok i hi
    rw [spAt_lt hi, e] at e2
    have : t = t' := by omega
    rw [this]
    exact hd
  · intro t ht
    have hts : t < (allGo ns ks (ns.length + 1) (List.replicate ns.length (-1)) []).1.length := by rw [h1]; exact ht
    rw [sv_nat hts]
    constructor
    · intro h
      obtain ⟨i, hi, _, e⟩ := I.idx t hts h
      exact ⟨i, hi, by rw [spAt_lt hi, e]⟩
    · rintro ⟨i, hi, e⟩
      refine Classical.byContradiction fun hn => ?_
      refine I.neg t hts (by omega) (spAt (allV ns ks) i) ?_ e
      rw [spAt_lt hi]
      exact List.getElem_mem hi
end Go.Proofs.Ytfbfebaajdihiaa.C

set_option linter.unusedVariables false
set_option linter.unusedSimpArgs false
namespace Go.Proofs.Ytfbfebaajdihiaa.C
/-! ### Sorted lists of numbers -/
abbrev Srt (xs : List Int) : Prop := xs.Pairwise (· < ·)
theorem putGo_true (t : Int) : ∀ xs : List Int, putGo t xs true = xs
  | [] => rfl
  | x :: xs => by
    unfold putGo
    rw [if_neg (by simp), putGo_true t xs]
theorem putF_in {ks : List Int} {t : Int} (h : t ∈ ks) : putF ks t = ks := by
  unfold putF
  rw [show hasK ks t = true by simpa [hasK] using h, putGo_true]
theorem putGo_mem {t x : Int} : ∀ {xs : List Int}, x ∈ putGo t xs false → x = t ∨ x ∈ xs
  | [], h => by simp [putGo] at h; exact .inl h
  | y :: ys, h => by
    unfold putGo at h
    split at h
    · rw [putGo_true] at h
      rcases List.mem_cons.1 h with h | h
      · exact .inl h
      · exact .inr h
    · rcases List.mem_cons.1 h with h | h
      · exact .inr (by simp [h])
      · exact (putGo_mem h).imp id (fun h => by simp [h])
theorem putGo_srt {t : Int} : ∀ {xs : List Int}, Srt xs → t ∉ xs → Srt (putGo t xs false)
  | [], _, _ => by simp [putGo]
  | y :: ys, h, hn => by
    obtain ⟨h1, h2⟩ := List.pairwise_cons.1 h
    unfold putGo
    split
    · rename_i g
      rw [putGo_true]
      refine List.pairwise_cons.2 ⟨fun z hz => ?_, h⟩
      rcases List.mem_cons.1 hz with e | e
      · omega
      · have := h1 z e; omega
    · rename_i g
      have hne : t ≠ y := fun e => hn (by simp [e])
      refine List.pairwise_cons.2 ⟨fun z hz => ?_, putGo_srt h2 (fun e => hn (by simp [e]))⟩
      rcases putGo_mem hz with e | e
      · simp at g; omega
      · exact h1 z e
theorem putF_srt {ks : List Int} {t : Int} (h : Srt ks) : Srt (putF ks t) := by
  by_cases g : t ∈ ks
  · rw [putF_in g]; exact h
  · unfold putF
    rw [show hasK ks t = false by simpa [hasK] using g]
    exact putGo_srt h g
theorem putGo_one (t : Int) : ∀ xs : List Int, (putGo t xs false).length = xs.length + 1
  | [] => rfl
  | y :: ys => by
    unfold putGo
    split
    · rw [putGo_true]; simp
    · simp [putGo_one t ys]
theorem putF_len_in {ks : List Int} {t : Int} (h : (putF ks t).length ≤ ks.length) : t ∈ ks := by
  refine Classical.byContradiction fun g => ?_
  unfold putF at h
  rw [show hasK ks t = false by simpa [hasK] using g, putGo_one] at h
  omega
theorem srt_get {xs : List Int} (h : Srt xs) {i j : Nat} (hij : i < j) (hj : j < xs.length) : xs[i] < xs[j] := List.pairwise_iff_getElem.1 h i j (by omega) hj hij
theorem srt_of {xs : List Int} (h : ∀ i : Nat, ∀ hi : i + 1 < xs.length, xs[i] < xs[i + 1]) : Srt xs := by
  refine List.pairwise_iff_getElem.2 fun i j hi hj hij => ?_
  induction j with
  | zero => omega
  | succ j ih =>
    rcases Nat.lt_or_ge i j with g | g
    · exact Int.lt_trans (ih (by omega) g) (h j hj)
    · have : i = j := by omega
      subst this
      exact h i hj
theorem srt_ge {xs : List Int} (h : Srt xs) (h0 : ∀ x ∈ xs, 0 ≤ x) : ∀ (i : Nat) (hi : i < xs.length), (i : Int) ≤ xs[i]
  | 0, hi => h0 _ (List.getElem_mem hi)
  | i + 1, hi => by
    have := srt_ge h h0 i (by omega)
    have := srt_get h (show i < i + 1 by omega) hi
    omega
theorem srt_len {xs : List Int} {m : Nat} (h : Srt xs) (hm : ∀ x ∈ xs, hasF m x = true) : xs.length ≤ m := by
  refine Classical.byContradiction fun g => ?_
  have hl : xs.length - 1 < xs.length := by omega
  have h1 := srt_ge h (fun x hx => by obtain ⟨j, e, _⟩ := hasN (hm x hx); omega) (xs.length - 1) hl
  obtain ⟨j, e, hj⟩ := hasN (hm _ (List.getElem_mem hl))
  omega
theorem kpF_iff {ns : List Nd} {ks : List Int} : kpF ns ks = true ↔ poolF ns = true ∧ (∀ x ∈ ks, hasF ns.length x = true) ∧ Srt ks ∧ ks.length ≤ 200 := by
  constructor
  · intro h
    refine ⟨kpF_pool h, kpF_mem h, srt_of fun i hi => ?_, kpF_len h⟩
    simp only [kpF, knowF, Bool.and_eq_true] at h
    have := allF_all' h.2.1 hi
    simp only [kn, Bool.and_eq_true, Bool.or_eq_true, decide_eq_true_eq] at this
    have h2 := this.2.resolve_left (by omega)
    have hi' : i < ks.length := by omega
    simpa [hi, hi'] using h2
  · rintro ⟨h1, h2, h3, h4⟩
    simp only [kpF, knowF, Bool.and_eq_true, decide_eq_true_eq]
    refine ⟨h1, allF_of fun i hi => ?_, h4⟩
    simp only [kn, Bool.and_eq_true, Bool.or_eq_true, decide_eq_true_eq]
    refine ⟨by simpa [hi] using h2 _ (List.getElem_mem hi), ?_⟩
    rcases Nat.eq_zero_or_pos i with e | e
    · exact .inl e
    · right
      have hi' : i - 1 < ks.length := by omega
      have := srt_get h3 (show i - 1 < i by omega) hi
      simpa [hi, hi'] using this
/-! ### Opening -/
theorem stepO_srt {ns : List Nd} {mk : List Bool} {out : List Int} {t : Int} (h : Srt out) : Srt (stepO ns mk out t) := by
  unfold stepO
  split
  · exact putF_srt (putF_srt h)
  · split
    · exact putF_srt h
    · exact h
theorem foldO_srt {ns : List Nd} {mk : List Bool} : ∀ {xs out : List Int}, Srt out → Srt (xs.foldl (stepO ns mk) out)
  | [], out, h => h
  | x :: xs, out, h => foldO_srt (xs := xs) (stepO_srt h)
theorem onceV_srt {ns : List Nd} {ks : List Int} (h : Srt ks) : Srt (onceV ns ks) := foldO_srt h
theorem onceV_kp {ns : List Nd} {ks : List Int} (h : kpF ns ks = true) (hl : (onceV ns ks).length ≤ 200) : kpF ns (onceV ns ks) = true := by
  obtain ⟨h1, h2, h3, h4⟩ := kpF_iff.1 h
  exact kpF_iff.2 ⟨h1, onceV_mem h1 h2, onceV_srt h3, hl⟩
/-- Nothing more is opened. -/
def Shut (ns : List Nd) (ks os : List Int) : Prop := ∀ x ∈ ks, ((nodeAt ns x).k = 2 → (nodeAt ns x).a ∈ os ∧ (nodeAt ns x).b ∈ os) ∧ ((nodeAt ns x).k = 4 → (nodeAt ns x).a ∈ os) ∧ ((nodeAt ns x).k = 3 → bv (mkUp ns ks ns.length) (nodeAt ns x).b = true → (nodeAt ns x).a ∈ os)
theorem stepO_len' (ns : List Nd) (mk : List Bool) (out : List Int) (t : Int) : out.length ≤ (stepO ns mk out t).length := by
  unfold stepO
  split
  · have h1 := putF_len out (nodeAt ns t).a
    have h2 := putF_len (putF out (nodeAt ns t).a) (nodeAt ns t).b
    omega
  · split
    · exact (putF_len out _).1
    · exact Nat.le_refl _
theorem stepO_same {ns : List Nd} {mk : List Bool} {out : List Int} {t : Int} (h : (stepO ns mk out t).length ≤ out.length) : stepO ns mk out t = out := by
  unfold stepO at h ⊢
  split at h
  · rename_i g
    rw [if_pos g]
    have h1 := putF_len out (nodeAt ns t).a
    have h2 := putF_len (putF out (nodeAt ns t).a) (nodeAt ns t).b
    have e1 := putF_in (putF_len_in (show (putF out (nodeAt ns t).a).length ≤ out.length by omega))
    rw [e1] at h ⊢
    exact putF_in (putF_len_in h)
  · rename_i g
    rw [if_neg g]
    split at h
    · rename_i g2
      rw [if_pos g2]
      exact putF_in (putF_len_in h)
    · rename_i g2
      rw [if_neg g2]
theorem foldO_same {ns : List Nd} {mk : List Bool} : ∀ {xs out : List Int}, (xs.foldl (stepO ns mk) out).length ≤ out.length → ∀ x ∈ xs, stepO ns mk out x = out
  | [], out, _, x, hx => by simp at hx
  | y :: ys, out, h, x, hx => by
    simp only [List.foldl_cons] at h
    have h1 := foldO_len ns mk ys (stepO ns mk out y)
    have h2 := stepO_len' ns mk out y
    have e := stepO_same (show (stepO ns mk out y).length ≤ out.length by omega)
    rw [e] at h
    rcases List.mem_cons.1 hx with g | g
    · rw [g]; exact e
    · exact foldO_same h x g
theorem stepO_shut {ns : List Nd} {mk : List Bool} {out : List Int} {x : Int} : ((nodeAt ns x).k = 2 → (nodeAt ns x).a ∈ stepO ns mk out x ∧ (nodeAt ns x).b ∈ stepO ns mk out x) ∧ ((nodeAt ns x).k = 4 → (nodeAt ns x).a ∈ stepO ns mk out x) ∧ ((nodeAt ns x).k = 3 → bv mk (nodeAt ns x).b = true → (nodeAt ns x).a ∈ stepO ns mk out x) := by
  refine ⟨fun h => ?_, fun h => ?_, fun h g => ?_⟩
  · unfold stepO
    rw [if_pos h]
    exact ⟨putF_mem.2 (.inr (putF_mem.2 (.inl rfl))), putF_mem.2 (.inl rfl)⟩
  · unfold stepO
    rw [if_neg (by omega), if_pos (.inl h)]
    exact putF_mem.2 (.inl rfl)
  · unfold stepO
    rw [if_neg (by omega), if_pos (.inr ⟨h, g⟩)]
    exact putF_mem.2 (.inl rfl)
theorem onceV_shut {ns : List Nd} {ks : List Int} (h : (onceV ns ks).length ≤ ks.length) : Shut ns ks ks := by
  intro x hx
  have e := foldO_same h x hx
  have := @stepO_shut ns (mkUp ns ks ns.length) ks x
  rw [e] at this
  exact this
theorem Mk_Der {ns : List Nd} {ks os : List Int} (ho : ∀ t : Nat, (t : Int) ∈ os → Der ns ks t) {t : Nat} (h : Mk ns os t) : Der ns ks t := by
  induction h with
  | know h => exact ho _ h
  | pub ht hk h => exact .pub ht hk h
  | make1 ht hk ea _ ih => exact .make1 ht hk ea ih
  | make2 ht hk ea eb _ _ ih ih2 => exact .make2 ht hk ea eb ih ih2
  | shareA ht hx hk ea ex _ _ ih ih2 => exact .shareA ht hx hk ea ex ih ih2
  | shareB ht hx hk eb ex _ _ ih ih2 => exact .shareB ht hx hk eb ex ih ih2
theorem bv_Mk {ns : List Nd} (hp : poolF ns = true) {ks : List Int} {b : Nat} (hb : b < ns.length) : bv (mkUp ns ks ns.length) b = true ↔ Mk ns ks b := by rw [bv_mkUp hb]; exact mkv_Mk hp hb
theorem stepO_Der {ns : List Nd} (hp : poolF ns = true) {k0 ks out : List Int} (hd : ∀ t : Nat, (t : Int) ∈ ks → Der ns k0 t) (ho : ∀ t : Nat, (t : Int) ∈ out → Der ns k0 t) {x : Nat} (hx : x < ns.length) (hxk : (x : Int) ∈ ks) : ∀ t : Nat, (t : Int) ∈ stepO ns (mkUp ns ks ns.length) out x → Der ns k0 t := by
  intro t ht
  have dx := hd x hxk
  unfold stepO at ht
  split at ht
  · rename_i k
    rcases putF_mem.1 ht with e | ht
    · exact .right hx k e.symm dx
    · rcases putF_mem.1 ht with e | ht
      · exact .left hx k e.symm dx
      · exact ho t ht
  · split at ht
    · rename_i g
      rcases putF_mem.1 ht with e | ht
      · rcases g with g | ⟨g, g2⟩
        · exact .read hx g e.symm dx
        · obtain ⟨b, eb, hb⟩ := nodeB_nat hp hx (by rw [g]; rfl)
          rw [eb] at g2
          exact .opens hx g e.symm eb dx (Mk_Der hd ((bv_Mk hp (by omega)).1 g2))
      · exact ho t ht
    · exact ho t ht
theorem foldO_Der {ns : List Nd} (hp : poolF ns = true) {k0 ks : List Int} (hm : ∀ x ∈ ks, hasF ns.length x = true) (hd : ∀ t : Nat, (t : Int) ∈ ks → Der ns k0 t) : ∀ {xs out : List Int}, (∀ x ∈ xs, x ∈ ks) → (∀ t : Nat, (t : Int) ∈ out → Der ns k0 t) → ∀ t : Nat, (t : Int) ∈ xs.foldl (stepO ns (mkUp ns ks ns.length)) out → Der ns k0 t
  | [], out, _, ho => ho
  | x :: xs, out, hx, ho => by
    obtain ⟨j, rfl, hj⟩ := hasN (hm x (hx x (by simp)))
    exact foldO_Der hp hm hd (xs := xs) (fun y hy => hx y (by simp [hy])) (stepO_Der hp hd ho hj (hx _ (by simp)))
theorem onceV_Der {ns : List Nd} (hp : poolF ns = true) {k0 ks : List Int} (hm : ∀ x ∈ ks, hasF ns.length x = true) (hd : ∀ t : Nat, (t : Int) ∈ ks → Der ns k0 t) : ∀ t : Nat, (t : Int) ∈ onceV ns ks → Der ns k0 t := foldO_Der hp hm hd (fun x hx => hx) hd
theorem foldO_sub {ns : List Nd} {mk : List Bool} : ∀ {xs out : List Int} {x : Int}, x ∈ out → x ∈ xs.foldl (stepO ns mk) out
  | [], out, x, h => h
  | y :: ys, out, x, h => foldO_sub (xs := ys) (by
      unfold stepO
      split
      · exact putF_mem.2 (.inr (putF_mem.2 (.inr h)))
      · split
        · exact putF_mem.2 (.inr h)
        · exact h)
theorem onceV_sub {ns : List Nd} {ks : List Int} {x : Int} (h : x ∈ ks) : x ∈ onceV ns ks := foldO_sub h
/-- A pool in which opening stays within what may be known. -/
def Meek (ns : List Nd) : Prop := ns.length ≤ 200 ∨ ∀ n ∈ ns, n.k = 1 ∨ n.k = 5
theorem onceV_meek {ns : List Nd} (hm : Meek ns) {ks : List Int} (h : kpF ns ks = true) : (onceV ns ks).length ≤ 200 := by
  obtain ⟨h1, h2, h3, h4⟩ := kpF_iff.1 h
  rcases hm with g | g
  · exact Nat.le_trans (srt_len (onceV_srt h3) (onceV_mem h1 h2)) g
  · have e : ∀ x ∈ ks, ∀ out mk, stepO ns mk out x = out := fun x hx out mk => by
      obtain ⟨j, rfl, hj⟩ := hasN (h2 x hx)
      have := g _ (List.getElem_mem hj)
      rw [← nodeAt_nat hj] at this
      unfold stepO
      rw [if_neg (by omega), if_neg (by omega)]
    have e2 : ∀ (xs out : List Int) (mk : List Bool), (∀ x ∈ xs, x ∈ ks) → xs.foldl (stepO ns mk) out = out := fun xs => by
      induction xs with
      | nil => intro out mk _; rfl
      | cons y ys ih =>
        intro out mk hx
        rw [List.foldl_cons, e y (hx y (by simp))]
        exact ih out mk fun z hz => hx z (by simp [hz])
    unfold onceV
    rw [e2 ks ks _ fun x hx => hx]
    exact h4
/-- What is opened as a whole. -/
structure Opn (ns : List Nd) (k0 os : List Int) : Prop where
  kp : kpF ns os = true
  sub : ∀ x ∈ k0, x ∈ os
  der : ∀ t : Nat, (t : Int) ∈ os → Der ns k0 t
theorem allO_spec {ns : List Nd} (hm : Meek ns) {k0 : List Int} : ∀ (n : Nat) (out : List Int) (t : Nat), Opn ns k0 out → 201 ≤ out.length + n → Opn ns k0 (allO ns n out t).1 ∧ Shut ns (allO ns n out t).1 (allO ns n out t).1
  | 0, out, t, h, hn => by have := kpF_len h.kp; omega
  | n + 1, out, t, h, hn => by
    have hl := onceV_meek hm h.kp
    obtain ⟨h1, h2, h3, h4⟩ := kpF_iff.1 h.kp
    have hge := onceV_len ns out
    unfold allO
    split
    · rename_i g
      exact allO_spec hm n _ _ ⟨onceV_kp h.kp hl, fun x hx => onceV_sub (h.sub x hx), onceV_Der h1 h2 h.der⟩ (by omega)
    · rename_i g
      have e : (onceV ns out).length = out.length := Classical.byContradiction fun e => g ⟨hl, e⟩
      exact ⟨h, onceV_shut (Nat.le_of_eq e)⟩
theorem openV_spec {ns : List Nd} (hm : Meek ns) {ks : List Int} (h : kpF ns ks = true) : Opn ns ks (openV ns ks).1 ∧ Shut ns (openV ns ks).1 (openV ns ks).1 := allO_spec hm 201 ks 0 ⟨h, fun x hx => hx, fun t ht => .know ht⟩ (by omega)
/-- Where nothing more is opened, what can be derived can be made. -/
theorem Der_Mk {ns : List Nd} {k0 os : List Int} (O : Opn ns k0 os) (S : Shut ns os os) {t : Nat} (h : Der ns k0 t) : Mk ns os t := by
  obtain ⟨hp, hm, _, _⟩ := kpF_iff.1 O.kp
  induction h with
  | know h => exact .know (O.sub _ h)
  | pub ht hk h => exact .pub ht hk h
  | make1 ht hk ea _ ih => exact .make1 ht hk ea ih
  | make2 ht hk ea eb _ _ ih ih2 => exact .make2 ht hk ea eb ih ih2
  | shareA ht hx hk ea ex _ _ ih ih2 => exact .shareA ht hx hk ea ex ih ih2
  | shareB ht hx hk eb ex _ _ ih ih2 => exact .shareB ht hx hk eb ex ih ih2
  | @left t i hi hk ea h ih =>
    cases ih with
    | know h => exact .know (by rw [← ea]; exact ((S _ h).1 hk).1)
    | pub _ k _ => omega
    | make1 _ k _ _ => rw [hk] at k; simp [partsF] at k
    | make2 _ _ ea' _ h _ => rw [Int.ofNat_inj.1 (ea.symm.trans ea')]; exact h
    | shareA _ _ k _ _ _ _ => omega
    | shareB _ _ k _ _ _ _ => omega
  | @right t i hi hk eb h ih =>
    cases ih with
    | know h => exact .know (by rw [← eb]; exact ((S _ h).1 hk).2)
    | pub _ k _ => omega
    | make1 _ k _ _ => rw [hk] at k; simp [partsF] at k
    | make2 _ _ _ eb' _ h => rw [Int.ofNat_inj.1 (eb.symm.trans eb')]; exact h
    | shareA _ _ k _ _ _ _ => omega
    | shareB _ _ k _ _ _ _ => omega
  | @opens t i y hi hk ea eb h g ih ih2 =>
    cases ih with
    | know h =>
      have hy := nodeB_lt hp hi (by rw [hk]; rfl) eb
      exact .know (by rw [← ea]; exact (S _ h).2.2 hk (by rw [eb]; exact (bv_Mk hp (by omega)).2 ih2))
    | pub _ k _ => omega
    | make1 _ k _ _ => rw [hk] at k; simp [partsF] at k
    | make2 _ _ ea' _ h _ => rw [Int.ofNat_inj.1 (ea.symm.trans ea')]; exact h
    | shareA _ _ k _ _ _ _ => omega
    | shareB _ _ k _ _ _ _ => omega
  | @read t i hi hk ea h ih =>
    cases ih with
    | know h => exact .know (by rw [← ea]; exact (S _ h).2.1 hk)
    | pub _ k _ => omega
    | make1 _ k _ _ => rw [hk] at k; simp [partsF] at k
    | make2 _ _ ea' _ h _ => rw [Int.ofNat_inj.1 (ea.symm.trans ea')]; exact h
    | shareA _ _ k _ _ _ _ => omega
    | shareB _ _ k _ _ _ _ => omega
/-- What is listed as derived. -/
theorem derF_mem {ns : List Nd} (hm : Meek ns) {ks : List Int} (h : kpF ns ks = true) {x : Int} : x ∈ derF ns ks ↔ ∃ t : Nat, x = t ∧ t < ns.length ∧ Der ns ks t := by
  obtain ⟨O, S⟩ := openV_spec hm h
  unfold derF
  rw [if_pos h, mlistF_mem O.kp]
  constructor
  · rintro ⟨t, e, h1, h2⟩
    exact ⟨t, e, h1, Mk_Der O.der h2⟩
  · rintro ⟨t, e, h1, h2⟩
    exact ⟨t, e, h1, Der_Mk O S h2⟩
/-- There are as many steps as terms that can be derived. -/
theorem derF_steps {ns : List Nd} (hm : Meek ns) (ks : List Int) : (allSt ns ks).length = (derF ns ks).length ∧ ∀ i : Nat, i < (allSt ns ks).length → (spAt (allSt ns ks) i).t ∈ derF ns ks := by
  by_cases h : kpF ns ks = true
  · obtain ⟨h1, h2, h3, h4⟩ := kpF_iff.1 h
    obtain ⟨O, S⟩ := openV_spec hm h
    obtain ⟨st, e1, e2, e3, e4⟩ := allV_spec h1 h2
    rw [show allSt ns ks = allV ns ks from if_pos h]
    constructor
    · have hmk : mkUp ns (openV ns ks).1 ns.length = st.map fun x => decide (0 ≤ x) := by
        refine List.ext_getElem (by simp [mkUp_len, e1]) fun i hi hi' => ?_
        have hil : i < ns.length := by simpa [mkUp_len] using hi
        rw [mkUp_get, List.getElem_map]
        have k1 := mkv_Mk h1 (ks := (openV ns ks).1) hil
        have k2 := e3 i hil
        rw [sv_nat (by omega)] at k2
        rw [Bool.eq_iff_iff, k1, decide_eq_true_eq, k2]
        exact ⟨fun q => Mk_Der O.der q, fun q => Der_Mk O S q⟩
      have hd : (derF ns ks).length = st.countP fun x => decide (0 ≤ x) := by
        unfold derF
        rw [if_pos h]
        unfold mlistF makesF listF
        rw [if_pos O.kp, listGo_len, hmk, List.countP_map]
        rfl
      have hc : (st.countP fun x => decide (0 ≤ x)) + negs st = st.length := by
        rw [List.length_eq_countP_add_countP (p := fun x => decide (0 ≤ x)) (l := st)]
        congr 1
        unfold negs
        refine List.countP_congr fun x _ => ?_
        simp
      omega
    · intro i hi
      obtain ⟨t, et, htl, hd⟩ := proof_Der h1 (allV_inv ks h1).ok i hi
      rw [et]
      exact (derF_mem hm h).2 ⟨t, rfl, htl, hd⟩
  · simp [allSt, derF, h]
end Go.Proofs.Ytfbfebaajdihiaa.C

set_option linter.unusedVariables false
set_option linter.unusedSimpArgs false
namespace Go.Proofs
open Go.Shelf
def Try.laysSort_ren : Go.Shelf.Ren := ⟨fun | 189 => 72 | 125 => 99 | 257 => 98 | 128 => 131 | 129 => 132 | 294 => 123 | 295 => 124 | 296 => 125 | 297 => 126 | 298 => 127 | 299 => 128 | 216 => 113 | 300 => 129 | 301 => 130 | 328 => 137 | 329 => 138 | 330 => 139 | 331 => 140 | 332 => 141 | 215 => 134 | 343 => 142 | n => n, fun | 28 => 25 | 3 => 3 | 46 => 98 | 0 => 0 | 51 => 122 | 53 => 124 | 4 => 4 | 183 => 116 | 182 => 115 | 131 => 89 | 5 => 5 | 9 => 9 | 218 => 127 | 222 => 131 | 228 => 133 | 229 => 134 | n => n, fun | n => n⟩
theorem Try.laysSort : Go.Proofs.Lays.n189 Try.prog Try.laysSort_ren := {
  mixed := by kernel_rfl
  f125 := Try.func99.trans (congrArg some (by kernel_rfl))
  f128 := Try.func131.trans (congrArg some (by kernel_rfl))
  f129 := Try.func132.trans (congrArg some (by kernel_rfl))
  f189 := Try.func72.trans (congrArg some (by kernel_rfl))
  f215 := Try.func134.trans (congrArg some (by kernel_rfl))
  f216 := Try.func113.trans (congrArg some (by kernel_rfl))
  f257 := Try.func98.trans (congrArg some (by kernel_rfl))
  f294 := Try.func123.trans (congrArg some (by kernel_rfl))
  f295 := Try.func124.trans (congrArg some (by kernel_rfl))
  f296 := Try.func125.trans (congrArg some (by kernel_rfl))
  f297 := Try.func126.trans (congrArg some (by kernel_rfl))
  f298 := Try.func127.trans (congrArg some (by kernel_rfl))
  f299 := Try.func128.trans (congrArg some (by kernel_rfl))
  f300 := Try.func129.trans (congrArg some (by kernel_rfl))
  f301 := Try.func130.trans (congrArg some (by kernel_rfl))
  f328 := Try.func137.trans (congrArg some (by kernel_rfl))
  f329 := Try.func138.trans (congrArg some (by kernel_rfl))
  f330 := Try.func139.trans (congrArg some (by kernel_rfl))
  f331 := Try.func140.trans (congrArg some (by kernel_rfl))
  f332 := Try.func141.trans (congrArg some (by kernel_rfl))
  f343 := Try.func142.trans (congrArg some (by kernel_rfl))
  t0 := Try.underlying0
  a0 := Try.isAgg0
  z0 := Try.sizeOf0
  v0 := Try.zeroValue0
  t3 := Try.underlying3
  a3 := Try.isAgg3
  z3 := Try.sizeOf3
  v3 := Try.zeroValue3
  t4 := Try.underlying4
  a4 := Try.isAgg4
  z4 := Try.sizeOf4
  v4 := Try.zeroValue4
  t5 := Try.underlying5
  a5 := Try.isAgg5
  z5 := Try.sizeOf5
  v5 := Try.zeroValue5
  t9 := Try.underlying9
  a9 := Try.isAgg9
  z9 := Try.sizeOf9
  v9 := Try.zeroValue9
  t28 := Try.underlying25
  a28 := Try.isAgg25
  z28 := Try.sizeOf25
  v28 := Try.zeroValue25
  t46 := Try.underlying98
  a46 := Try.isAgg98
  z46 := Try.sizeOf98
  v46 := Try.zeroValue98
  t51 := Try.underlying122
  a51 := Try.isAgg122
  z51 := Try.sizeOf122
  v51 := Try.zeroValue122
  t53 := Try.underlying124
  a53 := Try.isAgg124
  z53 := Try.sizeOf124
  v53 := Try.zeroValue124
  t131 := Try.underlying89
  a131 := Try.isAgg89
  z131 := Try.sizeOf89
  v131 := Try.zeroValue89
  t182 := Try.underlying115
  a182 := Try.isAgg115
  z182 := Try.sizeOf115
  v182 := Try.zeroValue115
  t183 := Try.underlying116
  a183 := Try.isAgg116
  z183 := Try.sizeOf116
  v183 := Try.zeroValue116
  t218 := Try.underlying127
  a218 := Try.isAgg127
  z218 := Try.sizeOf127
  v218 := Try.zeroValue127
  t222 := Try.underlying131
  a222 := Try.isAgg131
  z222 := Try.sizeOf131
  v222 := Try.zeroValue131
  t228 := Try.underlying133
  a228 := Try.isAgg133
  z228 := Try.sizeOf133
  v228 := Try.zeroValue133
  t229 := Try.underlying134
  a229 := Try.isAgg134
  z229 := Try.sizeOf134
  v229 := Try.zeroValue134 }
def Try.laysCompact_ren : Go.Shelf.Ren := ⟨fun | 20 => 74 | n => n, fun | 22 => 25 | 3 => 3 | 4 => 4 | 0 => 0 | n => n, fun | n => n⟩
theorem Try.laysCompact : Go.Proofs.Lays2.n20 Try.prog Try.laysCompact_ren := {
  mixed := by kernel_rfl
  f20 := Try.func74.trans (congrArg some (by kernel_rfl))
  t0 := Try.underlying0
  a0 := Try.isAgg0
  z0 := Try.sizeOf0
  v0 := Try.zeroValue0
  t3 := Try.underlying3
  a3 := Try.isAgg3
  z3 := Try.sizeOf3
  v3 := Try.zeroValue3
  t4 := Try.underlying4
  a4 := Try.isAgg4
  z4 := Try.sizeOf4
  v4 := Try.zeroValue4
  t22 := Try.underlying25
  a22 := Try.isAgg25
  z22 := Try.sizeOf25
  v22 := Try.zeroValue25
  i3 := by kernel_rfl }
end Go.Proofs
namespace Go.Proofs.Ytfbfebaajdihiaa.C
open Go.Sym Go.Proofs.Ytfbfebaajdihiaa.I
def sortI (xs : List Int) : List Int := xs.mergeSort fun x y => decide (x ≤ y)
theorem sortI_len (xs : List Int) : (sortI xs).length = xs.length := List.length_mergeSort xs
theorem sortI_mem {xs : List Int} {x : Int} : x ∈ sortI xs ↔ x ∈ xs := (List.mergeSort_perm xs _).mem_iff
theorem sortI_le (xs : List Int) : (sortI xs).Pairwise (· ≤ ·) := by
  have := List.pairwise_mergeSort (le := fun x y : Int => decide (x ≤ y)) (fun a b c h g => by simp only [decide_eq_true_eq] at *; omega) (fun a b => by simp only [Bool.or_eq_true, decide_eq_true_eq]; omega) xs
  exact this.imp fun h => by simpa using h
theorem set_same {H : List Blk} {b : Nat} {k : Blk} (h : H[b]? = some k) : H.set b k = H := by
  refine List.ext_getElem? fun q => ?_
  rcases Nat.decEq b q with e | e
  · rw [List.getElem?_set_ne e]
  · subst e
    have hl : b < H.length := by
      rcases Nat.lt_or_ge b H.length with g | g
      · exact g
      · rw [List.getElem?_eq_none g] at h; cases h
    rw [List.getElem?_set_self hl, h]
theorem sort_t {H : List Blk} {b v : Nat} {ro : Bool} {xs : List Int} (hk : H[b]? = some ⟨v, ro, 1, ints xs, none⟩) (hro : ro = true → xs = []) (hsz : xs.length < 4611686018427387904) :
    T 72 [.ref b v 0 xs.length] H (.tup []) (H.set b ⟨v, ro, 1, ints (sortI xs), none⟩) := by
  by_cases hne : xs = []
  · subst hne
    have e : H.set b ⟨v, ro, 1, ints (sortI []), none⟩ = H := by
      rw [show sortI [] = [] by simp [sortI]]
      exact set_same hk
    rw [e]
    exact semT_row0 fun a cap w => Any.slices_Sort_int_none Try.laysSort a cap w
  · have hro' : ro = false := by cases ro with | false => rfl | true => exact absurd (hro rfl) hne
    subst hro'
    exact semT_row (ys := sortI xs) hk rfl rfl rfl rfl (sortI_len xs) hne fun B off cap w hH hB => Any.slices_Sort_int Try.laysSort B off cap xs w hH hB hsz
def cmp (xs : List Int) : List Int := Lib.compact xs
theorem cmp_le (xs : List Int) : (cmp xs).length ≤ xs.length := Lib.compact_length_le xs
theorem compact_t {H : List Blk} {b v : Nat} {ro : Bool} {xs : List Int} (hk : H[b]? = some ⟨v, ro, 1, ints xs, none⟩) (hro : ro = true → xs = []) (hsz : xs.length ≤ 9223372036854775807) :
    T 74 [.ref b v 0 xs.length] H (.ref b v 0 (cmp xs).length) (H.set b ⟨v, ro, 1, ints (cmp xs ++ List.replicate (xs.length - (cmp xs).length) 0), none⟩) := by
  have hle := cmp_le xs
  by_cases hne : xs = []
  · subst hne
    have e : H.set b ⟨v, ro, 1, ints (cmp [] ++ List.replicate (([] : List Int).length - (cmp []).length) 0), none⟩ = H := set_same hk
    rw [e]
    exact semT_cut0 fun a cap w => Any.slices_Compact_int_empty Try.laysCompact a cap w
  · have hro' : ro = false := by cases ro with | false => rfl | true => exact absurd (hro rfl) hne
    subst hro'
    exact semT_cut (ys := cmp xs ++ List.replicate (xs.length - (cmp xs).length) 0) hk rfl rfl rfl rfl (by simp; omega) hne hle fun B off cap w hH hB hcap => Any.slices_Compact_int Try.laysCompact B off cap xs w hH hsz hcap
/-! ### What sorting and compacting come to -/
theorem cmp_spec {d : Array Int} (hd : d.toList.Pairwise (· ≤ ·)) : ∀ m : Nat, m ≤ d.size → Srt (Lib.compactUpTo d m) ∧ (∀ x : Int, x ∈ Lib.compactUpTo d m ↔ ∃ j : Nat, j < m ∧ d[j]! = x)
  | 0, _ => by simp [Lib.compactUpTo]
  | m + 1, hm' => by
    obtain ⟨h1, h2⟩ := cmp_spec hd m (by omega)
    have hle : ∀ i j : Nat, i < j → j < d.size → d[i]! ≤ d[j]! := fun i j hij hj => by
      have := List.pairwise_iff_getElem.1 hd i j (by simp; omega) (by simpa using hj) hij
      simpa [getElem!_pos, hj, show i < d.size by omega] using this
    rw [Lib.compactUpTo_succ]
    cases hk : Lib.keeps d m with
    | true =>
      simp only [if_true]
      constructor
      · refine List.pairwise_append.2 ⟨h1, by simp, fun x hx y hy => ?_⟩
        obtain ⟨j, hj, rfl⟩ := (h2 x).1 hx
        obtain rfl : y = d[m]! := by simpa using hy
        have a1 := hle j m hj (by omega)
        simp only [Lib.keeps, decide_eq_true_eq] at hk
        have a2 := hk.resolve_left (by omega)
        rcases Nat.lt_or_ge j (m - 1) with g | g
        · have a3 := hle j (m - 1) g (by omega)
          have a4 := hle (m - 1) m (by omega) (by omega)
          omega
        · have : j = m - 1 := by omega
          subst this
          omega
      · intro x
        rw [List.mem_append, h2]
        constructor
        · rintro (⟨j, hj, e⟩ | h)
          · exact ⟨j, by omega, e⟩
          · exact ⟨m, by omega, by simpa using (List.mem_singleton.1 h).symm⟩
        · rintro ⟨j, hj, e⟩
          rcases Nat.lt_or_ge j m with g | g
          · exact .inl ⟨j, g, e⟩
          · have : j = m := by omega
            subst this
            exact .inr (by simp [e])
    | false =>
      simp only [Bool.false_eq_true, if_false, List.append_nil]
      refine ⟨h1, fun x => ?_⟩
      rw [h2]
      constructor
      · rintro ⟨j, hj, e⟩
        exact ⟨j, by omega, e⟩
      · rintro ⟨j, hj, e⟩
        rcases Nat.lt_or_ge j m with g | g
        · exact ⟨j, g, e⟩
        · have : j = m := by omega
          subst this
          simp only [Lib.keeps, decide_eq_false_iff_not, not_or, Classical.not_not] at hk
          exact ⟨j - 1, by omega, by rw [← hk.2]; exact e⟩
/-- Sorted and compacted: the same numbers, each once, in order. -/
theorem sqz_spec (xs : List Int) : Srt (cmp (sortI xs)) ∧ ∀ x : Int, x ∈ cmp (sortI xs) ↔ x ∈ xs := by
  have h := cmp_spec (d := (sortI xs).toArray) (by simpa using sortI_le xs) (sortI xs).length (by simp)
  refine ⟨h.1, fun x => ?_⟩
  rw [← sortI_mem (xs := xs)]
  refine (h.2 x).trans ?_
  constructor
  · rintro ⟨j, hj, e⟩
    rw [← e]
    simp [hj]
  · intro hx
    obtain ⟨j, hj, e⟩ := List.getElem_of_mem hx
    exact ⟨j, hj, by simp [hj, e]⟩
theorem srt_ext : ∀ {xs ys : List Int}, Srt xs → Srt ys → (∀ x, x ∈ xs ↔ x ∈ ys) → xs = ys
  | [], [], _, _, _ => rfl
  | [], y :: ys, _, _, h => absurd ((h y).2 (by simp)) (by simp)
  | x :: xs, [], _, _, h => absurd ((h x).1 (by simp)) (by simp)
  | x :: xs, y :: ys, hx, hy, h => by
    obtain ⟨x1, x2⟩ := List.pairwise_cons.1 hx
    obtain ⟨y1, y2⟩ := List.pairwise_cons.1 hy
    have e : x = y := by
      rcases List.mem_cons.1 ((h x).1 (by simp)) with e | e
      · exact e
      · rcases List.mem_cons.1 ((h y).2 (by simp)) with g | g
        · exact g.symm
        · have := y1 x e; have := x1 y g; omega
    subst e
    congr 1
    refine srt_ext x2 y2 fun z => ⟨fun hz => ?_, fun hz => ?_⟩
    · rcases List.mem_cons.1 ((h z).1 (by simp [hz])) with e | e
      · have := x1 z hz; omega
      · exact e
    · rcases List.mem_cons.1 ((h z).2 (by simp [hz])) with e | e
      · have := y1 z hz; omega
      · exact e
end Go.Proofs.Ytfbfebaajdihiaa.C

set_option linter.unusedVariables false
set_option linter.unusedSimpArgs false
set_option maxRecDepth 4000
namespace Go.Proofs.Ytfbfebaajdihiaa.C
open Go.Sym Go.Proofs.Ytfbfebaajdihiaa.I
def isMd (ns : List Nd) (mk : List Bool) (n : Nd) : Bool := decide (0 ≤ findF ns n 0) && bv mk (findF ns n 0)
theorem findF_lt' {ns : List Nd} {n : Nd} (h : 0 ≤ findF ns n 0) : ∃ x : Nat, findF ns n 0 = x ∧ x < ns.length := by
  obtain ⟨j, hj, e, _⟩ := findF_at ns n 0 h
  exact ⟨j, by simpa using e, hj⟩
theorem impl_Pool_isMade_c (ns : List Nd) (n : Nd) (mk : List Bool) (hl : ns.length < 9223372036854775807) (hmk : mk.length = ns.length) : T 122 [.pt [.sl ns.length (enc ns)], aN n, aBl mk] [] (.bool (isMd ns mk n)) ([]) := by
  refine semT' (S := S0) hm impl_Pool_isMade_ok (Nat.le_of_ble_eq_true rfl) ?_
  unfold impl_Pool_isMade; dsimp only
  simp
  refine impl_Pool_find_k (ns := ns) (r := []) (n := n) hl rfl (by simp) (by simp) ?_; simp
  refine br_intro' (fun g => ?_) (fun g => ?_) <;> (have g0 := g) <;> simp only [decide_eq_true_eq, decide_eq_false_iff_not] at g <;> simp [g0, g]
  · obtain ⟨x, e, hx⟩ := findF_lt' g
    have hxm : x < mk.length := by omega
    have eb := bls_at hxm
    have ebv := bv_nat hxm
    simp [e, hxm, eb]
    repeat (refine ck_intro' (by first | omega | (simp; omega) | kernel_rfl) ?_; try simp [hxm])
    exact LeV.ro rfl rfl (by simp [isMd, e, ebv])
  · repeat (refine ck_intro' (by first | omega | (simp; omega) | kernel_rfl) ?_; try simp [g])
    exact LeV.ro rfl rfl (by simp [isMd, g])
theorem impl_Pool_isMade_k {ns : List Nd} {n : Nd} {mk : List Bool} (hl : ns.length < 9223372036854775807) (hmk : mk.length = ns.length) {S : FuncId → Bool} {H : List Blk} {K : A → Dl → Prop} {zs : List A} (hS : S 122 = false) (hv : viewL (viewA 8 H) zs = some [.pt [.sl ns.length (enc ns)], aN n, aBl mk]) (ho : noOwns zs = true ∨ nosl (.bool (isMd ns mk n)) = true) (hK : K (.bool (isMd ns mk n)) (.news [])) : @WCall' Go.Proofs.Try.prog S 122 zs H ⟨K⟩ :=
  WCall_pure hS (impl_Pool_isMade_c ns n mk hl hmk) hv ho (by simp) hK
/-- What can be made, by what can be. -/
def canF (ns : List Nd) (mk : List Bool) (t : Int) : Bool :=
  if (nodeAt ns t).k = 1 then pubF (nodeAt ns t).a
  else if partsF (nodeAt ns t).k = 1 then bv mk (nodeAt ns t).a
  else if bv mk (nodeAt ns t).a = true ∧ bv mk (nodeAt ns t).b = true then true
  else if (nodeAt ns t).k = 8 then (bv mk (nodeAt ns t).a && isMd ns mk ⟨7, (nodeAt ns t).b, 0⟩) || (bv mk (nodeAt ns t).b && isMd ns mk ⟨7, (nodeAt ns t).a, 0⟩)
  else false
theorem impl_Pool_canMake_c (ns : List Nd) (t : Int) (mk : List Bool) (hl : ns.length < 9223372036854775807) (hp : poolF ns = true) (hmk : mk.length = ns.length) (ht : hasF ns.length t = true) : T 97 [.pt [.sl ns.length (enc ns)], i6 t, aBl mk] [] (.bool (canF ns mk t)) ([]) := by
  refine semT' (S := S0) hm impl_Pool_canMake_ok (Nat.le_of_ble_eq_true rfl) ?_
  unfold impl_Pool_canMake; dsimp only
  have hht := ht
  obtain ⟨j, rfl, hj⟩ := hasN ht
  obtain ⟨q, hq⟩ := enc_at hj
  have h3 : 3 ≤ ns.length * 3 - j * 3 := by omega
  have en := nodeAt_nat hj
  simp [h3, hq, hj]
  refine br_intro' (fun u => ?_) (fun u => ?_) <;> (have u0 := u) <;> (try simp at u) <;> try simp [u0, u, hj, h3, hq]
  · refine impl_IsPublic_k (x := ns[j].a) rfl (by simp) (by simp [noslBlks]) ?_; simp [shiftB]
    exact LeV.ro rfl rfl (by simp [canF, en, u])
  · refine impl_Pool_parts_k (ns := ns) (r := []) (t := j) hl hht rfl (by simp) (by simp [noslBlks]) ?_; simp [shiftB]
    rw [en]
    have w1 : IntKind.i64.wrap 1 = 1 := wrap64 (by omega) (by omega)
    have w2 : IntKind.i64.wrap 2 = 2 := wrap64 (by omega) (by omega)
    rcases parts_kind hp hj with hpk | hpk | hpk
    · unfold partsF at hpk
      rw [if_neg u] at hpk
      exfalso
      split at hpk
      · omega
      · split at hpk <;> omega
    · obtain ⟨a, ea, ha⟩ := part_in hp hj hpk
      have ham : a < mk.length := by omega
      have eba := bls_at ham
      have ebva := bv_nat ham
      have k8 : ¬ ns[j].k = 8 := by intro e; rw [e] at hpk; simp [partsF] at hpk
      rw [show partsL ns[j] = [ns[j].a] by simp [partsL, hpk], ea]
      simp [ints]
      refine WLoop_step' ?_; simp [ints, eba]
      repeat (refine ck_intro' (by first | omega | (simp; omega) | kernel_rfl) ?_; try simp [ham])
      rw [w1]
      refine WLoop_step' ?_; simp
      refine br_intro' (fun v => ?_) (fun v => ?_) <;> (have v0 := v) <;> simp [v0]
      · repeat (refine ck_intro' (by first | omega | (simp; omega) | kernel_rfl) ?_; try simp [ham])
        exact LeV.ro rfl rfl (by simp [canF, en, u, hpk, ea, ebva, v])
      · repeat (refine ck_intro' (by first | omega | (simp; omega) | kernel_rfl) ?_; try simp [ham])
        simp [k8]
        exact LeV.ro rfl rfl (by simp [canF, en, u, hpk, ea, ebva, v])
    · obtain ⟨⟨a, ea, ha⟩, b, eb, hb⟩ := parts_in hp hj hpk
      have ham : a < mk.length := by omega
      have eba := bls_at ham
      have ebva := bv_nat ham
      have hbm : b < mk.length := by omega
      have ebb := bls_at hbm
      have ebvb := bv_nat hbm
      rw [show partsL ns[j] = [ns[j].a, ns[j].b] by simp [partsL, hpk], ea, eb]
      simp [ints]
      refine WLoop_step' ?_; simp [ints, eba]
      repeat (refine ck_intro' (by first | omega | (simp; omega) | kernel_rfl) ?_; try simp [ham])
      rw [w1]
      cases va : mk[a] with
      | false =>
        refine WLoop_step' ?_; simp [ints]
        repeat (refine ck_intro' (by first | omega | (simp; omega) | kernel_rfl) ?_; try simp [hbm])
        rw [w2]
        refine WLoop_step' ?_; simp
        cases vb : mk[b] with
        | false =>
          refine br_intro' (fun k8 => ?_) (fun k8 => ?_) <;> (have k80 := k8) <;> (try simp only [decide_eq_true_eq, decide_eq_false_iff_not] at k8) <;> simp [k80, k8, ea, eb, eba, ebb]
          · repeat (refine ck_intro' (by first | omega | (simp; omega) | kernel_rfl) ?_; try simp [ham, va])
            try simp [eba, va]
            repeat (refine ck_intro' (by first | omega | (simp; omega) | kernel_rfl) ?_; try simp [hbm, va])
            try simp [ebb, vb, va]
            skip
            repeat (refine ck_intro' (by first | omega | (simp; omega) | kernel_rfl) ?_; try simp [ham, va])
            skip
            all_goals first | (have zz := z0; exact LeV.ro rfl rfl (by simp [canF, en, u, hpk, ea, eb, ebva, ebvb, va, vb, k8, show ¬ partsF 8 = 1 by simp [partsF], z0])) | exact LeV.ro rfl rfl (by simp [canF, en, u, hpk, ea, eb, ebva, ebvb, va, vb, k8, show ¬ partsF 8 = 1 by simp [partsF]])
          · exact LeV.ro rfl rfl (by simp [canF, en, u, hpk, ea, eb, ebva, ebvb, va, vb, k8, show ¬ partsF 8 = 1 by simp [partsF]])
        | true =>
          refine br_intro' (fun k8 => ?_) (fun k8 => ?_) <;> (have k80 := k8) <;> (try simp only [decide_eq_true_eq, decide_eq_false_iff_not] at k8) <;> simp [k80, k8, ea, eb, eba, ebb]
          · repeat (refine ck_intro' (by first | omega | (simp; omega) | kernel_rfl) ?_; try simp [ham, va])
            try simp [eba, va]
            repeat (refine ck_intro' (by first | omega | (simp; omega) | kernel_rfl) ?_; try simp [hbm, va])
            try simp [ebb, vb, va]
            refine impl_Pool_isMade_k (ns := ns) (n := ⟨7, a, 0⟩) (mk := mk) hl hmk rfl (by simp) (by simp) ?_; simp
            repeat (refine ck_intro' (by first | omega | (simp; omega) | kernel_rfl) ?_; try simp [ham, va])
            skip
            all_goals first | (have zz := z0; exact LeV.ro rfl rfl (by simp [canF, en, u, hpk, ea, eb, ebva, ebvb, va, vb, k8, show ¬ partsF 8 = 1 by simp [partsF], z0])) | exact LeV.ro rfl rfl (by simp [canF, en, u, hpk, ea, eb, ebva, ebvb, va, vb, k8, show ¬ partsF 8 = 1 by simp [partsF]])
          · exact LeV.ro rfl rfl (by simp [canF, en, u, hpk, ea, eb, ebva, ebvb, va, vb, k8, show ¬ partsF 8 = 1 by simp [partsF]])
      | true =>
        refine WLoop_step' ?_; simp [ints, ebb]
        repeat (refine ck_intro' (by first | omega | (simp; omega) | kernel_rfl) ?_; try simp [hbm])
        rw [w2]
        refine WLoop_step' ?_; simp
        refine br_intro' (fun v => ?_) (fun v => ?_) <;> (have v0 := v) <;> simp [v0]
        · exact LeV.ro rfl rfl (by simp [canF, en, u, hpk, ea, eb, ebva, ebvb, va, v])
        · have vb := v
          refine br_intro' (fun k8 => ?_) (fun k8 => ?_) <;> (have k80 := k8) <;> (try simp only [decide_eq_true_eq, decide_eq_false_iff_not] at k8) <;> simp [k80, k8, ea, eb, eba, ebb]
          · repeat (refine ck_intro' (by first | omega | (simp; omega) | kernel_rfl) ?_; try simp [ham, va])
            try simp [eba, va]
            repeat (refine ck_intro' (by first | omega | (simp; omega) | kernel_rfl) ?_; try simp [hbm, va])
            try simp [ebb, vb, va]
            refine impl_Pool_isMade_k (ns := ns) (n := ⟨7, b, 0⟩) (mk := mk) hl hmk rfl (by simp) (by simp) ?_; simp
            repeat (refine ck_intro' (by first | omega | (simp; omega) | kernel_rfl) ?_; try simp [ham, va])
            refine br_intro' (fun z => ?_) (fun z => ?_) <;> (have z0 := z) <;> simp [z0, ebb, vb, hbm]
            all_goals first | (have zz := z0; exact LeV.ro rfl rfl (by simp [canF, en, u, hpk, ea, eb, ebva, ebvb, va, vb, k8, show ¬ partsF 8 = 1 by simp [partsF], z0])) | exact LeV.ro rfl rfl (by simp [canF, en, u, hpk, ea, eb, ebva, ebvb, va, vb, k8, show ¬ partsF 8 = 1 by simp [partsF]])
          · exact LeV.ro rfl rfl (by simp [canF, en, u, hpk, ea, eb, ebva, ebvb, va, vb, k8, show ¬ partsF 8 = 1 by simp [partsF]])
theorem impl_Pool_canMake_k {ns : List Nd} {t : Int} {mk : List Bool} (hl : ns.length < 9223372036854775807) (hp : poolF ns = true) (hmk : mk.length = ns.length) (ht : hasF ns.length t = true) {S : FuncId → Bool} {H : List Blk} {K : A → Dl → Prop} {zs : List A} (hS : S 97 = false) (hv : viewL (viewA 8 H) zs = some [.pt [.sl ns.length (enc ns)], i6 t, aBl mk]) (ho : noOwns zs = true ∨ nosl (.bool (canF ns mk t)) = true) (hK : K (.bool (canF ns mk t)) (.news [])) : @WCall' Go.Proofs.Try.prog S 97 zs H ⟨K⟩ :=
  WCall_pure hS (impl_Pool_canMake_c ns t mk hl hp hmk ht) hv ho (by simp) hK
end Go.Proofs.Ytfbfebaajdihiaa.C

set_option linter.unusedVariables false
set_option linter.unusedSimpArgs false
set_option maxRecDepth 4000
namespace Go.Proofs.Ytfbfebaajdihiaa.C
open Go.Sym Go.Proofs.Ytfbfebaajdihiaa.I
def mkPass (ns : List Nd) : Nat → Nat → List Bool → Bool → List Bool × Bool
  | 0, _, mk, m => (mk, m)
  | n + 1, t, mk, m => if mk.getD t false = false ∧ canF ns mk t = true then mkPass ns n (t + 1) (mk.set t true) true else mkPass ns n (t + 1) mk m
def falses (mk : List Bool) : Nat := mk.countP fun x => !x
theorem falses_set {mk : List Bool} {t : Nat} (ht : t < mk.length) (h : mk[t] = false) : falses (mk.set t true) + 1 = falses mk := by
  have hp : 0 < mk.countP fun x => !x := List.countP_pos_iff.2 ⟨mk[t], List.getElem_mem ht, by simp [h]⟩
  simp only [falses]
  rw [List.countP_set ht]
  simp [h]
  omega
/-- What is made so far. -/
structure MkI (ns : List Nd) (ks : List Int) (mk : List Bool) : Prop where
  len : mk.length = ns.length
  ok : ∀ t : Nat, mk.getD t false = true → Mk ns ks t
  know : ∀ t : Nat, (t : Int) ∈ ks → mk.getD t false = true
theorem bv_get (mk : List Bool) (t : Nat) : bv mk t = mk.getD t false := rfl
theorem canF_Mk {ns : List Nd} (hp : poolF ns = true) {ks : List Int} {mk : List Bool} (I : MkI ns ks mk) {t : Nat} (ht : t < ns.length) (h : canF ns mk t = true) : Mk ns ks t := by
  have en := nodeAt_nat ht
  have isM : ∀ c : Int, isMd ns mk ⟨7, c, 0⟩ = true → ∃ x : Nat, x < ns.length ∧ nodeAt ns x = ⟨7, c, 0⟩ ∧ Mk ns ks x := fun c hc => by
    simp only [isMd, Bool.and_eq_true, decide_eq_true_eq] at hc
    obtain ⟨x, e, hx, ex⟩ := findF_node hc.1
    rw [e] at hc
    exact ⟨x, hx, ex, I.ok x hc.2⟩
  unfold canF at h
  split at h
  · rename_i k
    exact .pub ht k h
  · rename_i k
    split at h
    · rename_i k1
      obtain ⟨a, ea, ha⟩ := part_in hp ht (by rw [← en]; exact k1)
      rw [← en] at ea
      rw [ea] at h
      exact .make1 ht k1 ea (I.ok a h)
    · rename_i k1
      have k2 : partsF (nodeAt ns t).k = 2 := by
        have := parts_kind hp ht
        rw [← en] at this
        rcases this with e | e | e
        · unfold partsF at e
          rw [if_neg k] at e
          split at e
          · omega
          · split at e <;> omega
        · exact absurd e k1
        · exact e
      obtain ⟨⟨a, ea, ha⟩, b, eb, hb⟩ := parts_in hp ht (by rw [← en]; exact k2)
      rw [← en] at ea eb
      rw [ea, eb] at h
      split at h
      · rename_i g
        exact .make2 ht k2 ea eb (I.ok a g.1) (I.ok b g.2)
      · split at h
        · rename_i k8
          simp only [Bool.or_eq_true, Bool.and_eq_true] at h
          rcases h with ⟨h1, h2⟩ | ⟨h1, h2⟩
          · obtain ⟨x, hx, ex, hm'⟩ := isM _ h2
            exact .shareA ht hx k8 ea (by rw [ex, eb]) (I.ok a h1) hm'
          · obtain ⟨x, hx, ex, hm'⟩ := isM _ h2
            exact .shareB ht hx k8 eb (by rw [ex, ea]) (I.ok b h1) hm'
        · simp at h
theorem MkI.put {ns : List Nd} (hp : poolF ns = true) {ks : List Int} {mk : List Bool} (I : MkI ns ks mk) {t : Nat} (ht : t < ns.length) (h : canF ns mk t = true) : MkI ns ks (mk.set t true) := by
  have htm : t < mk.length := by rw [I.len]; exact ht
  have key : ∀ i : Nat, (mk.set t true).getD i false = true ↔ t = i ∨ mk.getD i false = true := fun i => by
    rcases Nat.decEq t i with e | e
    · simp [List.getElem?_set_ne e, e]
    · subst e; simp [List.getElem?_set_self htm]
  refine ⟨by simpa using I.len, fun i hi => ?_, fun i hi => (key i).2 (.inr (I.know i hi))⟩
  rcases (key i).1 hi with e | e
  · subst e; exact canF_Mk hp I ht h
  · exact I.ok i e
theorem mkPass_spec {ns : List Nd} (hp : poolF ns = true) {ks : List Int} : ∀ (n t : Nat) (mk : List Bool) (m : Bool), t + n = ns.length → MkI ns ks mk → MkI ns ks (mkPass ns n t mk m).1 ∧ falses (mkPass ns n t mk m).1 ≤ falses mk ∧
    ((mkPass ns n t mk m).2 = true → m = true ∨ falses (mkPass ns n t mk m).1 < falses mk) ∧
    ((mkPass ns n t mk m).2 = false → m = false ∧ (mkPass ns n t mk m).1 = mk ∧ ∀ i : Nat, t ≤ i → i < ns.length → mk.getD i false = false → canF ns mk i = false)
  | 0, t, mk, m, _, I => ⟨I, Nat.le_refl _, fun h => .inl h, fun h => ⟨h, rfl, fun i h1 h2 => by omega⟩⟩
  | n + 1, t, mk, m, ht, I => by
    have htm : t < mk.length := by rw [I.len]; omega
    unfold mkPass
    split
    · rename_i g
      obtain ⟨h1, h2, h3, h4⟩ := mkPass_spec hp n (t + 1) (mk.set t true) true (by omega) (I.put hp (by omega) g.2)
      have hf := falses_set htm (by have := g.1; simpa [htm] using this)
      exact ⟨h1, by omega, fun _ => .inr (by omega), fun h => absurd (h4 h).1 (by simp)⟩
    · rename_i g
      obtain ⟨h1, h2, h3, h4⟩ := mkPass_spec hp n (t + 1) mk m (by omega) I
      refine ⟨h1, h2, h3, fun h => ?_⟩
      obtain ⟨e1, e2, e3⟩ := h4 h
      refine ⟨e1, e2, fun i hi hil hn => ?_⟩
      rcases Nat.lt_or_ge t i with u | u
      · exact e3 i u hil hn
      · have : i = t := by omega
        subst this
        cases hc : canF ns mk i with
        | false => rfl
        | true => exact absurd ⟨hn, hc⟩ g
/-- Where nothing more can be made, all is made. -/
theorem mk_stuck {ns : List Nd} (hp : poolF ns = true) {ks : List Int} (hks : ∀ x ∈ ks, hasF ns.length x = true) {mk : List Bool} (I : MkI ns ks mk) (hs : ∀ i : Nat, i < ns.length → mk.getD i false = false → canF ns mk i = false) : mk = mkUp ns ks ns.length := by
  have all : ∀ t : Nat, Mk ns ks t → mk.getD t false = true := by
    intro t h
    have key : ∀ t : Nat, t < ns.length → canF ns mk t = true → mk.getD t false = true := fun t ht hc => by
      cases hv : mk.getD t false with
      | true => rfl
      | false => rw [hs t ht hv] at hc; simp at hc
    have isM : ∀ (c : Int) (x : Nat), x < ns.length → nodeAt ns x = ⟨7, c, 0⟩ → mk.getD x false = true → isMd ns mk ⟨7, c, 0⟩ = true := fun c x hx ex hv => by
      have hf := findF_of hp hx
      rw [ex] at hf
      simp only [isMd, hf, Bool.and_eq_true, decide_eq_true_eq]
      exact ⟨by omega, hv⟩
    induction h with
    | know h => exact I.know _ h
    | pub ht hk h => exact key _ ht (by unfold canF; rw [if_pos hk]; exact h)
    | make1 ht hk ea _ ih =>
      refine key _ ht ?_
      unfold canF
      rw [if_neg (by intro e; rw [e] at hk; simp [partsF] at hk), if_pos hk, ea]
      exact ih
    | make2 ht hk ea eb _ _ ih ih2 =>
      refine key _ ht ?_
      unfold canF
      rw [if_neg (by intro e; rw [e] at hk; simp [partsF] at hk), if_neg (by omega), ea, eb, if_pos ⟨ih, ih2⟩]
    | @shareA t a x ht hx hk ea ex _ _ ih ih2 =>
      refine key _ ht ?_
      unfold canF
      rw [if_neg (by omega), if_neg (by rw [hk]; simp [partsF])]
      split
      · rfl
      · simp only [Bool.or_eq_true, Bool.and_eq_true]
        exact .inl ⟨by rw [ea]; exact ih, isM _ x hx ex ih2⟩
    | @shareB t b x ht hx hk eb ex _ _ ih ih2 =>
      refine key _ ht ?_
      unfold canF
      rw [if_neg (by omega), if_neg (by rw [hk]; simp [partsF])]
      split
      · rfl
      · simp only [Bool.or_eq_true, Bool.and_eq_true]
        exact .inr ⟨by rw [eb]; exact ih, isM _ x hx ex ih2⟩
  refine List.ext_getElem (by rw [mkUp_len, I.len]) fun i hi hi' => ?_
  have hil : i < ns.length := by rw [← I.len]; exact hi
  rw [mkUp_get, Bool.eq_iff_iff, mkv_Mk hp hil]
  have e : mk.getD i false = mk[i] := by simp [hi]
  exact ⟨fun h => I.ok i (by rw [e]; exact h), fun h => by rw [← e]; exact all i h⟩
/-- What is known, marked. -/
def seedF (n : Nat) (ks : List Int) : List Bool := ks.foldl (fun mk t => mk.set t.toNat true) (List.replicate n false)
theorem seed_len (ks : List Int) : ∀ mk : List Bool, (ks.foldl (fun mk t => mk.set t.toNat true) mk).length = mk.length := by
  induction ks with
  | nil => intro mk; rfl
  | cons x xs ih => intro mk; rw [List.foldl_cons, ih]; simp
theorem seed_get {n : Nat} : ∀ (ks : List Int) (mk : List Bool), mk.length = n → (∀ x ∈ ks, hasF n x = true) → ∀ t : Nat, (ks.foldl (fun mk t => mk.set t.toNat true) mk).getD t false = true ↔ (t : Int) ∈ ks ∨ mk.getD t false = true
  | [], mk, hl, _, t => by simp
  | x :: xs, mk, hl, hx, t => by
    obtain ⟨j, rfl, hj⟩ := hasN (hx x (by simp))
    rw [List.foldl_cons, seed_get xs _ (by simpa using hl) (fun y hy => hx y (by simp [hy]))]
    have e : ((j : Nat) : Int).toNat = j := rfl
    rw [e]
    have key : (mk.set j true).getD t false = true ↔ j = t ∨ mk.getD t false = true := by
      rcases Nat.decEq j t with e | e
      · simp [List.getElem?_set_ne e, e]
      · subst e; simp [List.getElem?_set_self (show j < mk.length by omega)]
    rw [key]
    simp only [List.mem_cons]
    constructor
    · rintro (h | h | h)
      · exact .inl (.inr h)
      · exact .inl (.inl (by omega))
      · exact .inr h
    · rintro ((h | h) | h)
      · exact .inr (.inl (by omega))
      · exact .inl h
      · exact .inr (.inr h)
theorem seed_inv {ns : List Nd} {ks : List Int} (hks : ∀ x ∈ ks, hasF ns.length x = true) : MkI ns ks (seedF ns.length ks) := by
  have h := fun t => seed_get ks (List.replicate ns.length false) (by simp) hks t
  have h0 : ∀ t, ¬ (List.replicate ns.length false).getD t false = true := fun t => by simp [List.getElem?_replicate]; split <;> simp
  exact ⟨by simp [seedF, seed_len], fun t ht => .know (((h t).1 ht).resolve_right (h0 t)), fun t ht => (h t).2 (.inl ht)⟩
end Go.Proofs.Ytfbfebaajdihiaa.C

set_option linter.unusedVariables false
set_option linter.unusedSimpArgs false
set_option maxRecDepth 4000
namespace Go.Proofs.Ytfbfebaajdihiaa.C
open Go.Sym Go.Proofs.Ytfbfebaajdihiaa.I
theorem impl_Pool_makes_c (ns : List Nd) (ks : List Int) (hp : poolF ns = true) (hks : ∀ x ∈ ks, hasF ns.length x = true) (hkl : ks.length < 9223372036854775807) : T 71 [.pt [.sl ns.length (enc ns)], aI ks] [] (bref 0 (mkUp ns ks ns.length)) ([⟨(mkUp ns ks ns.length).length, false, 1, bls (mkUp ns ks ns.length), none⟩]) := by
  refine semT' (S := S0) hm impl_Pool_makes_ok (Nat.le_of_ble_eq_true rfl) ?_
  unfold impl_Pool_makes; dsimp only
  have hl5 := poolF_len hp
  have hl : ns.length < 9223372036854775807 := by omega
  have I0 := seed_inv hks
  simp
  repeat (refine ck_intro' (by first | omega | (simp; omega) | kernel_rfl) ?_; try simp [hl5])
  rw [← bls_rep]
  refine WLoop_fam (fun p : Nat × List Bool => [(0, A.pt [A.sl ns.length (enc ns)]), (5, A.ref 0 0 0 ns.length), (16, aI ks), (17, i6 ks.length), (18, i6 p.1)]) (fun p => [⟨0, false, 1, bls p.2, none⟩]) (fun p => ks.length - p.1)
    (fun p => p.1 ≤ ks.length ∧ p.2.length = ns.length ∧ p.2 = (ks.take p.1).foldl (fun mk t => mk.set t.toNat true) (List.replicate ns.length false)) ?_ (0, List.replicate ns.length false) ⟨Nat.zero_le _, by simp, by simp⟩
  rintro ⟨i, mk⟩ ⟨hi, hml, hmk⟩ ih
  simp only at hi hml hmk
  simp
  refine br_intro' (fun u => ?_) (fun u => ?_) <;> (have u0 := u) <;> simp only [decide_eq_true_eq, decide_eq_false_iff_not] at u <;> simp [u0, u]
  · obtain ⟨t, et, ht⟩ := hasN (hks _ (List.getElem_mem u))
    have hw := wrap_succ (n := i) (by omega)
    have htm : t < mk.length := by omega
    repeat (refine ck_intro' (by first | omega | (simp; omega) | kernel_rfl) ?_; try simp [u])
    rw [et]
    simp [ht, hml, htm, bls_set]
    repeat (refine ck_intro' (by first | omega | (simp; omega) | kernel_rfl) ?_; try simp [ht, hml, htm])
    rw [hw]
    exact ih (i + 1, mk.set t true) ⟨u, by simpa using hml, by rw [List.take_succ_eq_append_getElem u, List.foldl_append, ← hmk, et]; rfl⟩ (by simp; omega)
  · have hik : i = ks.length := by omega
    have hseed : mk = seedF ns.length ks := by rw [hmk, hik, List.take_length]; rfl
    rw [hseed]
    clear hseed hmk hml ih u0 u hi mk
    refine WLoop_fam (fun p : Bool × List Bool => [(0, A.pt [A.sl ns.length (enc ns)]), (5, A.ref 0 0 0 ns.length), (8, A.bool p.1)]) (fun p => [⟨0, false, 1, bls p.2, none⟩]) (fun p => 2 * falses p.2 + if p.1 = true then 1 else 0)
      (fun p => MkI ns ks p.2 ∧ (p.1 = false → ∀ i : Nat, i < ns.length → p.2.getD i false = false → canF ns p.2 i = false)) ?_ (true, seedF ns.length ks) ⟨I0, fun h => by simp at h⟩
    rintro ⟨b, mk⟩ ⟨I, hst⟩ ih
    simp only at I hst
    have hml := I.len
    cases b with
    | false =>
      have e := mk_stuck hp hks I (hst rfl)
      simp
      rw [e]
      have hmm := mkUp_len ns ks ns.length
      exact LeV.tell [some 0] (by simp) (by simp) (by simp [hmm])
    | true =>
      simp
      have hps := mkPass_spec hp ns.length 0 mk false (by omega) I
      refine WLoop_fam (fun p : Nat × List Bool × Bool => [(0, A.pt [A.sl ns.length (enc ns)]), (5, A.ref 0 0 0 ns.length), (8, A.bool p.2.2), (28, i6 ns.length), (29, i6 p.1)]) (fun p => [⟨0, false, 1, bls p.2.1, none⟩]) (fun p => ns.length - p.1)
        (fun p => p.1 ≤ ns.length ∧ p.2.1.length = ns.length ∧ mkPass ns ns.length 0 mk false = mkPass ns (ns.length - p.1) p.1 p.2.1 p.2.2) ?_ (0, mk, false) ⟨Nat.zero_le _, hml, rfl⟩
      rintro ⟨t, mk2, m2⟩ ⟨ht, hml2, hgo⟩ ih2
      simp only at ht hml2 hgo
      simp
      refine br_intro' (fun u => ?_) (fun u => ?_) <;> (have u0 := u) <;> simp only [decide_eq_true_eq, decide_eq_false_iff_not] at u <;> simp [u0, u]
      · have hw := wrap_succ (n := t) (by omega)
        have htm : t < mk2.length := by omega
        have hgn : mkPass ns (ns.length - t) t mk2 m2 = if mk2.getD t false = false ∧ canF ns mk2 t = true then mkPass ns (ns.length - (t + 1)) (t + 1) (mk2.set t true) true else mkPass ns (ns.length - (t + 1)) (t + 1) mk2 m2 := by
          rw [show ns.length - t = (ns.length - (t + 1)) + 1 by omega]; rfl
        have eb := bls_at htm
        repeat (refine ck_intro' (by first | omega | (simp; omega) | kernel_rfl) ?_; try simp [u, htm])
        simp [eb]
        refine br_intro' (fun v => ?_) (fun v => ?_) <;> (have v0 := v) <;> simp [v0]
        · rw [hw]
          exact ih2 (t + 1, mk2, m2) ⟨u, hml2, by rw [hgo, hgn, if_neg (by simp [htm, v])]⟩ (by simp; omega)
        · have tk : (bls mk2).take ns.length = bls mk2 := List.take_of_length_le (by simp; omega)
          refine impl_Pool_canMake_k (ns := ns) (t := t) (mk := mk2) hl hp hml2 (hasF_of u) rfl (by simp [hml2, tk]) (by simp [noslBlks]) ?_; simp [shiftB]
          refine br_intro' (fun z => ?_) (fun z => ?_) <;> (have z0 := z) <;> simp [z0]
          · have hul : t < ns.length := u
            repeat (refine ck_intro' (by first | omega | (simp; omega) | kernel_rfl) ?_; try simp [u, htm, hml2])
            simp [u, htm, bls_set]
            repeat (refine ck_intro' (by first | omega | (simp; omega) | kernel_rfl) ?_; try simp [u, htm, hml2])
            rw [hw]
            exact ih2 (t + 1, mk2.set t true, true) ⟨u, by simpa using hml2, by rw [hgo, hgn, if_pos (by simp [htm, v, z])]⟩ (by simp; omega)
          · rw [hw]
            exact ih2 (t + 1, mk2, m2) ⟨u, hml2, by rw [hgo, hgn, if_neg (by simp [z])]⟩ (by simp; omega)
      · have ht0 : ns.length - t = 0 := by omega
        have e0 : mkPass ns ns.length 0 mk false = (mk2, m2) := by rw [hgo, ht0]; rfl
        rw [e0] at hps
        obtain ⟨p1, p2, p3, p4⟩ := hps
        refine WLoop_env [(0, A.pt [A.sl ns.length (enc ns)]), (5, A.ref 0 0 0 ns.length), (8, A.bool m2)] ?_ ?_
        · intro s y hy
          simp [Sym.get] at hy ⊢
          (repeat' split at hy) <;> simp_all
        refine ih (m2, mk2) ⟨p1, fun h => ?_⟩ ?_
        · obtain ⟨_, q1, q2⟩ := p4 h
          simp only at q1 ⊢
          rw [q1]
          exact fun i hi => q2 i (Nat.zero_le _) hi
        · simp only at p2 p3 p4 ⊢
          cases m2 with
          | true => have := (p3 rfl).resolve_left (by simp); simp; omega
          | false => have := (p4 rfl).2.1; rw [this]; simp
theorem impl_Pool_makes_k {ns : List Nd} {ks : List Int} (hp : poolF ns = true) (hks : ∀ x ∈ ks, hasF ns.length x = true) (hkl : ks.length < 9223372036854775807) {S : FuncId → Bool} {H : List Blk} {K : A → Dl → Prop} {zs : List A} (hS : S 71 = false) (hv : viewL (viewA 8 H) zs = some [.pt [.sl ns.length (enc ns)], aI ks]) (ho : noOwns zs = true ∨ nosl (bref 0 (mkUp ns ks ns.length)) = true ∧ noslBlks ([⟨(mkUp ns ks ns.length).length, false, 1, bls (mkUp ns ks ns.length), none⟩]) = true) (hK : K (shiftA H.length (bref 0 (mkUp ns ks ns.length))) (.news (([⟨(mkUp ns ks ns.length).length, false, 1, bls (mkUp ns ks ns.length), none⟩]).map (shiftB H.length)))) : @WCall' Go.Proofs.Try.prog S 71 zs H ⟨K⟩ :=
  WCall_ro' hS hv (impl_Pool_makes_c ns ks hp hks hkl) rfl ho hK
end Go.Proofs.Ytfbfebaajdihiaa.C

set_option linter.unusedVariables false
set_option linter.unusedSimpArgs false
set_option maxRecDepth 4000
namespace Go.Proofs.Ytfbfebaajdihiaa.C
open Go.Sym Go.Proofs.Ytfbfebaajdihiaa.I
theorem row_call {f : FuncId} {S : FuncId → Bool} {H : List Blk} {K : A → Dl → Prop} {b : Nat} {k' : Blk} {zs : List A} {r : A} (hS : S f = true) (hf : SemT Go.Proofs.Try.prog f zs H r (H.set b k')) (hK : K r (.full [b] (H.set b k'))) : @WCall' Go.Proofs.Try.prog S f zs H ⟨K⟩ :=
  WCall_t' hS [b] hf (by simp) (fun q hq hl => by
    simp at hq
    rw [List.getElem?_set_ne (Ne.symm hq)]) hK
theorem same_call {f : FuncId} {S : FuncId → Bool} {H : List Blk} {K : A → Dl → Prop} {zs : List A} {r : A} (hS : S f = true) (hf : SemT Go.Proofs.Try.prog f zs H r H) (hK : K r (.full [] H)) : @WCall' Go.Proofs.Try.prog S f zs H ⟨K⟩ :=
  WCall_t' hS [] hf (Nat.le_refl _) (fun q hq hl => rfl) hK
theorem slices_Clip_int_m (H : List Blk) (b v m : Nat) (ro : Bool) (cs : List A) (hk : H[b]? = some ⟨v, ro, 1, cs, none⟩) (hl : m ≤ cs.length) : T 73 [.ref b v 0 m] (H) (.ref b v 0 m) (H) := by
  refine semT' (S := S0) hm slices_Clip_int_ok (Nat.le_of_ble_eq_true rfl) ?_
  unfold slices_Clip_int; dsimp only
  simp [hk]
  exact LeV.refl _ _ _
theorem slices_Clone_int_c (xs : List Int) (hl : xs.length ≤ 4294967296) : T 64 [aI xs] [] (jref 0 xs) ([jblk xs]) := by
  refine semT' (S := S0) hm slices_Clone_int_ok (Nat.le_of_ble_eq_true rfl) ?_
  unfold slices_Clone_int; dsimp only
  simp
  have h1 : ((xs.length : Int)) * 8 ≤ 17592186044416 := by omega
  have h2 : (xs.length : Int) ≤ 4294967296 := by omega
  refine br_intro' (fun h => ?_) (fun h => ?_)
  · have h0 : xs = [] := by simpa using h
    subst h0
    simp
    first | (refine LeV.tell [none] ?_ ?_ ?_ <;> (simp; done)) | (refine LeV.tell [some 0] ?_ ?_ ?_ <;> (simp; done)) | (refine LeV.tell [some 1] ?_ ?_ ?_ <;> (simp; done)) | (refine LeV.tell [some 2] ?_ ?_ ?_ <;> (simp; done)) | (refine LeV.tell [some 3] ?_ ?_ ?_ <;> (simp; done)) | (refine LeV.tell [some 4] ?_ ?_ ?_ <;> (simp; done)) | (refine LeV.tell [some 5] ?_ ?_ ?_ <;> (simp; done)) | (refine LeV.tell [some 6] ?_ ?_ ?_ <;> (simp; done)) | (refine LeV.tell [some 7] ?_ ?_ ?_ <;> (simp; done)) | (refine LeV.tell [some 8] ?_ ?_ ?_ <;> (simp; done)) | (refine LeV.tell [some 9] ?_ ?_ ?_ <;> (simp; done)) | (refine LeV.tell [some 10] ?_ ?_ ?_ <;> (simp; done)) | (refine LeV.tell [some 11] ?_ ?_ ?_ <;> (simp; done)) | (refine LeV.tell [some 12] ?_ ?_ ?_ <;> (simp; done)) | (refine LeV.tell [some 13] ?_ ?_ ?_ <;> (simp; done)) | (refine LeV.tell [some 14] ?_ ?_ ?_ <;> (simp; done)) | (refine LeV.tell [some 15] ?_ ?_ ?_ <;> (simp; done))
  · have h0 : xs ≠ [] := by simpa using h
    simp [h0]
    refine ck_intro' (by omega) ?_; simp [h0]
    first | (refine LeV.tell [none] ?_ ?_ ?_ <;> (simp [h0]; done)) | (refine LeV.tell [some 0] ?_ ?_ ?_ <;> (simp [h0]; done)) | (refine LeV.tell [some 1] ?_ ?_ ?_ <;> (simp [h0]; done)) | (refine LeV.tell [some 2] ?_ ?_ ?_ <;> (simp [h0]; done)) | (refine LeV.tell [some 3] ?_ ?_ ?_ <;> (simp [h0]; done)) | (refine LeV.tell [some 4] ?_ ?_ ?_ <;> (simp [h0]; done)) | (refine LeV.tell [some 5] ?_ ?_ ?_ <;> (simp [h0]; done)) | (refine LeV.tell [some 6] ?_ ?_ ?_ <;> (simp [h0]; done)) | (refine LeV.tell [some 7] ?_ ?_ ?_ <;> (simp [h0]; done)) | (refine LeV.tell [some 8] ?_ ?_ ?_ <;> (simp [h0]; done)) | (refine LeV.tell [some 9] ?_ ?_ ?_ <;> (simp [h0]; done)) | (refine LeV.tell [some 10] ?_ ?_ ?_ <;> (simp [h0]; done)) | (refine LeV.tell [some 11] ?_ ?_ ?_ <;> (simp [h0]; done)) | (refine LeV.tell [some 12] ?_ ?_ ?_ <;> (simp [h0]; done)) | (refine LeV.tell [some 13] ?_ ?_ ?_ <;> (simp [h0]; done)) | (refine LeV.tell [some 14] ?_ ?_ ?_ <;> (simp [h0]; done)) | (refine LeV.tell [some 15] ?_ ?_ ?_ <;> (simp [h0]; done))
theorem slices_Clone_int_k {xs : List Int} (hl : xs.length ≤ 4294967296) {S : FuncId → Bool} {H : List Blk} {K : A → Dl → Prop} {zs : List A} (hS : S 64 = false) (hv : viewL (viewA 8 H) zs = some [aI xs]) (ho : noOwns zs = true ∨ nosl (jref 0 xs) = true ∧ noslBlks ([jblk xs]) = true) (hK : K (shiftA H.length (jref 0 xs)) (.news (([jblk xs]).map (shiftB H.length)))) : @WCall' Go.Proofs.Try.prog S 64 zs H ⟨K⟩ :=
  WCall_ro' hS hv (slices_Clone_int_c xs hl) rfl ho hK
/-- What a term that is known opens. -/
def addO (ns : List Nd) (mk : List Bool) (t : Int) : List Int :=
  if (nodeAt ns t).k = 2 then [(nodeAt ns t).a, (nodeAt ns t).b] else if (nodeAt ns t).k = 4 ∨ (nodeAt ns t).k = 3 ∧ bv mk (nodeAt ns t).b = true then [(nodeAt ns t).a] else []
def outO (ns : List Nd) (mk : List Bool) (ks : List Int) : List Int := ks.foldl (fun out t => out ++ addO ns mk t) ks
theorem outO_mem {ns : List Nd} {mk : List Bool} {x : Int} : ∀ {ks out : List Int}, x ∈ ks.foldl (fun out t => out ++ addO ns mk t) out ↔ x ∈ out ∨ ∃ t ∈ ks, x ∈ addO ns mk t
  | [], out => by simp
  | y :: ys, out => by
    rw [List.foldl_cons, outO_mem]
    simp only [List.mem_append, List.mem_cons, exists_eq_or_imp, or_assoc]
theorem stepO_mem' {ns : List Nd} {mk : List Bool} {out : List Int} {t x : Int} : x ∈ stepO ns mk out t ↔ x ∈ out ∨ x ∈ addO ns mk t := by
  unfold stepO addO
  split
  · rw [putF_mem, putF_mem]
    simp only [List.mem_cons, List.not_mem_nil, or_false]
    constructor
    · rintro (h | h | h)
      · exact .inr (.inr h)
      · exact .inr (.inl h)
      · exact .inl h
    · rintro (h | h | h)
      · exact .inr (.inr h)
      · exact .inr (.inl h)
      · exact .inl h
  · split
    · rw [putF_mem]
      simp [or_comm]
    · simp
theorem foldO_mem' {ns : List Nd} {mk : List Bool} {x : Int} : ∀ {ks out : List Int}, x ∈ ks.foldl (stepO ns mk) out ↔ x ∈ out ∨ ∃ t ∈ ks, x ∈ addO ns mk t
  | [], out => by simp
  | y :: ys, out => by
    rw [List.foldl_cons, foldO_mem', stepO_mem']
    simp only [List.mem_cons, exists_eq_or_imp, or_assoc]
theorem once_eq {ns : List Nd} {ks : List Int} (hs : Srt ks) : cmp (sortI (outO ns (mkUp ns ks ns.length) ks)) = onceV ns ks := by
  obtain ⟨h1, h2⟩ := sqz_spec (outO ns (mkUp ns ks ns.length) ks)
  refine srt_ext h1 (onceV_srt hs) fun x => ?_
  rw [h2]
  unfold outO onceV
  rw [outO_mem, foldO_mem']
theorem outO_len {ns : List Nd} {mk : List Bool} : ∀ {ks out : List Int}, (ks.foldl (fun out t => out ++ addO ns mk t) out).length ≤ out.length + 2 * ks.length
  | [], out => by simp
  | y :: ys, out => by
    have h := @outO_len ns mk ys (out ++ addO ns mk y)
    have h2 : (addO ns mk y).length ≤ 2 := by
      unfold addO
      split
      · simp
      · split <;> simp
    rw [List.foldl_cons]
    simp only [List.length_append, List.length_cons] at h ⊢
    omega
end Go.Proofs.Ytfbfebaajdihiaa.C

set_option linter.unusedVariables false
set_option linter.unusedSimpArgs false
set_option maxRecDepth 4000
namespace Go.Proofs.Ytfbfebaajdihiaa.C
open Go.Sym Go.Proofs.Ytfbfebaajdihiaa.I
def openF (ns : List Nd) (ks : List Int) : List Int := if 200 < (onceV ns ks).length then ks else onceV ns ks
theorem impl_Pool_openOnce_c (ns : List Nd) (ks : List Int) (hkp : kpF ns ks = true) : T 48 [.pt [.sl ns.length (enc ns)], aI ks] [] (jref 0 (openF ns ks)) ([jblk (openF ns ks)]) := by
  refine semT' (S := (fun f => [72, 74, 73].contains f)) hm impl_Pool_openOnce_ok (Nat.le_of_ble_eq_true rfl) ?_
  unfold impl_Pool_openOnce; dsimp only
  obtain ⟨hp, hks, hsr, hkl⟩ := kpF_iff.1 hkp
  have hl5 := poolF_len hp
  simp
  refine impl_Pool_makes_k (ns := ns) (ks := ks) hp hks (by omega) rfl (by simp) (by simp [noslBlks]) ?_; simp [shiftB]
  have hmm := mkUp_len ns ks ns.length
  refine slices_Clone_int_k (xs := ks) (by omega) rfl (by simp) (by simp [noslBlks]) ?_; simp [shiftB]
  have hon := once_eq (ns := ns) hsr
  have hol := @outO_len ns (mkUp ns ks ns.length) ks ks
  have hoe : outO ns (mkUp ns ks ns.length) ks = ks.foldl (fun out t => out ++ addO ns (mkUp ns ks ns.length) t) ks := rfl
  generalize mkUp ns ks ns.length = mk at hmm hon hol hoe ⊢
  have hmt : (bls mk).take mk.length = bls mk := List.take_of_length_le (by simp)
  refine WLoop_fam (fun p : Nat × Nat × List Int => [(0, A.pt [A.sl ns.length (enc ns)]), (1, aI ks), (5, A.ref 0 mk.length 0 mk.length), (6, A.ref 1 p.2.1 0 p.2.2.length), (15, aI ks), (16, i6 ks.length), (17, i6 p.1)])
    (fun p => [⟨mk.length, false, 1, bls mk, none⟩, ⟨p.2.1, decide (p.2.2 = []), 1, ints p.2.2, none⟩]) (fun p => ks.length - p.1)
    (fun p => p.1 ≤ ks.length ∧ p.2.2.length ≤ ks.length + 2 * p.1 ∧ p.2.1 ≤ ks.length + p.1 ∧ outO ns mk ks = (ks.drop p.1).foldl (fun out t => out ++ addO ns mk t) p.2.2) ?_ (0, ks.length, ks) ⟨Nat.zero_le _, by simp, by simp, by simp [hoe]⟩
  rintro ⟨i, v, out⟩ ⟨hi, hil, hvl, hgo⟩ ih
  simp only at hi hil hvl hgo
  simp
  refine br_intro' (fun u => ?_) (fun u => ?_) <;> (have u0 := u) <;> simp only [decide_eq_true_eq, decide_eq_false_iff_not] at u <;> simp [u0, u]
  · obtain ⟨j, ej, hj⟩ := hasN (hks _ (List.getElem_mem u))
    have hw := wrap_succ (n := i) (by omega)
    obtain ⟨q, hq⟩ := enc_at hj
    have h3 : 3 ≤ ns.length * 3 - j * 3 := by omega
    have en := nodeAt_nat hj
    have hgn : ∀ o, addO ns mk j = o → outO ns mk ks = (ks.drop (i + 1)).foldl (fun out t => out ++ addO ns mk t) (out ++ o) := fun o ho => by
      rw [hgo, List.drop_eq_getElem_cons u, List.foldl_cons, ej, ho]
    repeat (refine ck_intro' (by first | omega | (simp; omega) | kernel_rfl) ?_; try simp [u])
    rw [ej]
    simp [h3, hq, hj]
    repeat (refine ck_intro' (by first | omega | (simp; omega) | kernel_rfl) ?_; try simp [hj])
    refine br_intro' (fun v1 => ?_) (fun v1 => ?_) <;> (have v10 := v1) <;> simp only [decide_eq_true_eq, decide_eq_false_iff_not] at v1 <;> simp [v10, v1]
    · have ho : addO ns mk j = [ns[j].a, ns[j].b] := by simp [addO, en, v1]
      repeat (refine ck_intro' (by first | omega | (simp; omega) | kernel_rfl) ?_; try simp [v1])
      rw [hw]
      refine WLoop_drop [⟨mk.length, false, 1, bls mk, none⟩, ⟨v + 1, decide (out ++ [ns[j].a, ns[j].b] = []), 1, ints (out ++ [ns[j].a, ns[j].b]), none⟩] [_, _] (by simp [ints]; exact ⟨rfl, rfl⟩) (by simp) (by simp) (by simp) ?_
      rw [show A.ref 1 (v + 1) 0 (out.length + 2) = A.ref 1 (v + 1) 0 (out ++ [ns[j].a, ns[j].b]).length by simp]
      exact ih (i + 1, v + 1, out ++ [ns[j].a, ns[j].b]) ⟨u, by simp; omega, by simp; omega, by simpa using hgn _ ho⟩ (by simp; omega)
    · refine br_intro' (fun v2 => ?_) (fun v2 => ?_) <;> (have v20 := v2) <;> simp only [decide_eq_true_eq, decide_eq_false_iff_not] at v2 <;> simp [v20, v2]
      · have ho : addO ns mk j = [ns[j].a] := by simp [addO, en, v2]
        repeat (refine ck_intro' (by first | omega | (simp; omega) | kernel_rfl) ?_; try simp [v2])
        rw [hw]
        refine WLoop_drop [⟨mk.length, false, 1, bls mk, none⟩, ⟨v + 1, decide (out ++ [ns[j].a] = []), 1, ints (out ++ [ns[j].a]), none⟩] [_, _] (by simp [ints]; exact ⟨rfl, rfl⟩) (by simp) (by simp) (by simp) ?_
        rw [show A.ref 1 (v + 1) 0 (out.length + 1) = A.ref 1 (v + 1) 0 (out ++ [ns[j].a]).length by simp]
        exact ih (i + 1, v + 1, out ++ [ns[j].a]) ⟨u, by simp; omega, by simp; omega, by simpa using hgn _ ho⟩ (by simp; omega)
      · refine br_intro' (fun v3 => ?_) (fun v3 => ?_) <;> (have v30 := v3) <;> simp only [decide_eq_true_eq, decide_eq_false_iff_not] at v3 <;> simp [v30, v3]
        · obtain ⟨_, b, eb, hb⟩ := parts_in hp hj (by rw [v3]; rfl)
          have hbm : b < mk.length := by omega
          have ebb := bls_at hbm
          have ebv := bv_nat hbm
          rw [eb]
          repeat (refine ck_intro' (by first | omega | (simp; omega) | kernel_rfl) ?_; try simp [hbm, ebb])
          refine br_intro' (fun z => ?_) (fun z => ?_) <;> (have z0 := z) <;> simp [z0]
          · have ho : addO ns mk j = [ns[j].a] := by simp [addO, en, v3, eb, ebv, z]
            repeat (refine ck_intro' (by first | omega | (simp; omega) | kernel_rfl) ?_; try simp [z0])
            rw [hw]
            refine WLoop_drop [⟨mk.length, false, 1, bls mk, none⟩, ⟨v + 1, decide (out ++ [ns[j].a] = []), 1, ints (out ++ [ns[j].a]), none⟩] [_, _] (by simp [ints]; exact ⟨rfl, rfl⟩) (by simp) (by simp) (by simp) ?_
            rw [show A.ref 1 (v + 1) 0 (out.length + 1) = A.ref 1 (v + 1) 0 (out ++ [ns[j].a]).length by simp]
            exact ih (i + 1, v + 1, out ++ [ns[j].a]) ⟨u, by simp; omega, by simp; omega, by simpa using hgn _ ho⟩ (by simp; omega)
          · have ho : addO ns mk j = [] := by simp [addO, en, v3, eb, ebv, z]
            rw [hw]
            refine WLoop_drop [⟨mk.length, false, 1, bls mk, none⟩, ⟨v, decide (out = []), 1, ints out, none⟩] [_] (by simp; rfl) (by simp) (by simp) (by simp) ?_
            exact ih (i + 1, v, out) ⟨u, by simp; omega, by simp; omega, by simpa using hgn _ ho⟩ (by simp; omega)
        · have ho : addO ns mk j = [] := by simp [addO, en, v1, v2, v3]
          rw [hw]
          refine WLoop_drop [⟨mk.length, false, 1, bls mk, none⟩, ⟨v, decide (out = []), 1, ints out, none⟩] [_] (by simp; rfl) (by simp) (by simp) (by simp) ?_
          exact ih (i + 1, v, out) ⟨u, by simp; omega, by simp; omega, by simpa using hgn _ ho⟩ (by simp; omega)
  · have hik : ks.drop i = [] := List.drop_of_length_le (by omega)
    have hout : out = outO ns mk ks := by rw [hgo, hik]; rfl
    refine row_call (b := 1) rfl (sort_t (b := 1) (v := v) (ro := decide (out = [])) (xs := out) rfl (by simp) (by omega)) ?_; simp
    have hsl := sortI_len out
    have hcm := compact_t (H := [⟨mk.length, false, 1, bls mk, none⟩, ⟨v, decide (out = []), 1, ints (sortI out), none⟩]) (b := 1) (v := v) (ro := decide (out = [])) (xs := sortI out) rfl (fun h => by simp at h; subst h; simp [sortI]) (by omega)
    rw [hsl] at hcm
    refine row_call (b := 1) rfl hcm ?_; simp
    have hce := cmp_le (sortI out)
    refine same_call rfl (slices_Clip_int_m _ 1 v (cmp (sortI out)).length (decide (out = [])) _ rfl (by simp)) ?_; simp
    rw [hout, hon]
    refine br_intro' (fun z => ?_) (fun z => ?_) <;> (have z0 := z) <;> simp only [decide_eq_true_eq, decide_eq_false_iff_not] at z <;> simp [z0]
    · rw [show openF ns ks = ks from if_pos (by omega)]
      refine slices_Clone_int_k (xs := ks) (by omega) rfl (by simp) (by simp [noslBlks]) ?_; simp [shiftB]
      exact LeV.tell [some 2] (by simp) (by simp) (by simp)
    · rw [show openF ns ks = onceV ns ks from if_neg (by omega)]
      have he : decide (outO ns mk ks = []) = decide ((onceV ns ks).length = 0) := by
        have hmem := (sqz_spec (outO ns mk ks)).2
        rw [hon] at hmem
        rw [decide_eq_decide, List.length_eq_zero_iff]
        constructor
        · intro e
          refine List.eq_nil_iff_forall_not_mem.2 fun x hx => ?_
          have := (hmem x).1 hx
          rw [e] at this
          simp at this
        · intro e
          refine List.eq_nil_iff_forall_not_mem.2 fun x hx => ?_
          have := (hmem x).2 hx
          rw [e] at this
          simp at this
      rw [he]
      refine LeV.trans (LeV.trim (b := 1) (n := (onceV ns ks).length) rfl (Nat.zero_le _) rfl) ?_
      have ht : (ints (onceV ns ks ++ List.replicate ((outO ns mk ks).length - (onceV ns ks).length) 0)).take (onceV ns ks).length = ints (onceV ns ks) := by
        simp [ints]
      simp [ht]
      exact LeV.tell [some 1] (by simp) (by simp) (by simp)
theorem impl_Pool_openOnce_k {ns : List Nd} {ks : List Int} (hkp : kpF ns ks = true) {S : FuncId → Bool} {H : List Blk} {K : A → Dl → Prop} {zs : List A} (hS : S 48 = false) (hv : viewL (viewA 8 H) zs = some [.pt [.sl ns.length (enc ns)], aI ks]) (ho : noOwns zs = true ∨ nosl (jref 0 (openF ns ks)) = true ∧ noslBlks ([jblk (openF ns ks)]) = true) (hK : K (shiftA H.length (jref 0 (openF ns ks))) (.news (([jblk (openF ns ks)]).map (shiftB H.length)))) : @WCall' Go.Proofs.Try.prog S 48 zs H ⟨K⟩ :=
  WCall_ro' hS hv (impl_Pool_openOnce_c ns ks hkp) rfl ho hK
end Go.Proofs.Ytfbfebaajdihiaa.C

set_option linter.unusedVariables false
set_option linter.unusedSimpArgs false
set_option maxRecDepth 4000
namespace Go.Proofs.Ytfbfebaajdihiaa.C
open Go.Sym Go.Proofs.Ytfbfebaajdihiaa.I
def opOnceF (ns : List Nd) (ks : List Int) : List Int := if kpF ns ks = true then openF ns ks else []
theorem openF_len {ns : List Nd} {ks : List Int} (h : kpF ns ks = true) : (openF ns ks).length ≤ 200 := by
  unfold openF
  split
  · exact kpF_len h
  · omega
theorem opOnceF_len (ns : List Nd) (ks : List Int) : (opOnceF ns ks).length ≤ 200 := by
  unfold opOnceF
  split
  · exact openF_len ‹_›
  · simp
theorem impl_OpenOnce_c (ns : List Nd) (ks : List Int) (hl : ns.length < 9223372036854775807) (hk : ks.length < 9223372036854775807) : T 16 [aP ns, aI ks] [] (jref 0 (opOnceF ns ks)) ([jblk (opOnceF ns ks)]) := by
  refine semT' (S := S0) hm impl_OpenOnce_ok (Nat.le_of_ble_eq_true rfl) ?_
  unfold impl_OpenOnce; dsimp only
  simp
  refine impl_KnowOk_k (ns := ns) (ks := ks) hl hk rfl (by simp) (by simp [noslBlks]) ?_; simp [shiftB]
  refine br_intro' (fun g => ?_) (fun g => ?_) <;> (have g0 := g) <;> simp [g0]
  · rw [show opOnceF ns ks = openF ns ks from if_pos g]
    refine impl_Pool_openOnce_k (ns := ns) (ks := ks) g rfl (by simp) (by simp [noslBlks]) ?_; simp [shiftB]
    first | (refine LeV.tell [none] ?_ ?_ ?_ <;> (simp; done)) | (refine LeV.tell [some 0] ?_ ?_ ?_ <;> (simp; done)) | (refine LeV.tell [some 1] ?_ ?_ ?_ <;> (simp; done)) | (refine LeV.tell [some 2] ?_ ?_ ?_ <;> (simp; done)) | (refine LeV.tell [some 3] ?_ ?_ ?_ <;> (simp; done)) | (refine LeV.tell [some 4] ?_ ?_ ?_ <;> (simp; done)) | (refine LeV.tell [some 5] ?_ ?_ ?_ <;> (simp; done)) | (refine LeV.tell [some 6] ?_ ?_ ?_ <;> (simp; done)) | (refine LeV.tell [some 7] ?_ ?_ ?_ <;> (simp; done)) | (refine LeV.tell [some 8] ?_ ?_ ?_ <;> (simp; done)) | (refine LeV.tell [some 9] ?_ ?_ ?_ <;> (simp; done)) | (refine LeV.tell [some 10] ?_ ?_ ?_ <;> (simp; done)) | (refine LeV.tell [some 11] ?_ ?_ ?_ <;> (simp; done)) | (refine LeV.tell [some 12] ?_ ?_ ?_ <;> (simp; done)) | (refine LeV.tell [some 13] ?_ ?_ ?_ <;> (simp; done)) | (refine LeV.tell [some 14] ?_ ?_ ?_ <;> (simp; done)) | (refine LeV.tell [some 15] ?_ ?_ ?_ <;> (simp; done))
  · rw [show opOnceF ns ks = [] from if_neg (by simp [g])]
    first | (refine LeV.tell [none] ?_ ?_ ?_ <;> (simp; done)) | (refine LeV.tell [some 0] ?_ ?_ ?_ <;> (simp; done)) | (refine LeV.tell [some 1] ?_ ?_ ?_ <;> (simp; done)) | (refine LeV.tell [some 2] ?_ ?_ ?_ <;> (simp; done)) | (refine LeV.tell [some 3] ?_ ?_ ?_ <;> (simp; done)) | (refine LeV.tell [some 4] ?_ ?_ ?_ <;> (simp; done)) | (refine LeV.tell [some 5] ?_ ?_ ?_ <;> (simp; done)) | (refine LeV.tell [some 6] ?_ ?_ ?_ <;> (simp; done)) | (refine LeV.tell [some 7] ?_ ?_ ?_ <;> (simp; done)) | (refine LeV.tell [some 8] ?_ ?_ ?_ <;> (simp; done)) | (refine LeV.tell [some 9] ?_ ?_ ?_ <;> (simp; done)) | (refine LeV.tell [some 10] ?_ ?_ ?_ <;> (simp; done)) | (refine LeV.tell [some 11] ?_ ?_ ?_ <;> (simp; done)) | (refine LeV.tell [some 12] ?_ ?_ ?_ <;> (simp; done)) | (refine LeV.tell [some 13] ?_ ?_ ?_ <;> (simp; done)) | (refine LeV.tell [some 14] ?_ ?_ ?_ <;> (simp; done)) | (refine LeV.tell [some 15] ?_ ?_ ?_ <;> (simp; done))
theorem impl_OpenOnce_k {ns : List Nd} {ks : List Int} (hl : ns.length < 9223372036854775807) (hk : ks.length < 9223372036854775807) {S : FuncId → Bool} {H : List Blk} {K : A → Dl → Prop} {zs : List A} (hS : S 16 = false) (hv : viewL (viewA 8 H) zs = some [aP ns, aI ks]) (ho : noOwns zs = true ∨ nosl (jref 0 (opOnceF ns ks)) = true ∧ noslBlks ([jblk (opOnceF ns ks)]) = true) (hK : K (shiftA H.length (jref 0 (opOnceF ns ks))) (.news (([jblk (opOnceF ns ks)]).map (shiftB H.length)))) : @WCall' Go.Proofs.Try.prog S 16 zs H ⟨K⟩ :=
  WCall_ro' hS hv (impl_OpenOnce_c ns ks hl hk) rfl ho hK
theorem spec_OpenOnce_c (ns : List Nd) (ks : List Int) (hl : ns.length < 9223372036854775807) (hk : ks.length < 9223372036854775807) : T 13 [aP ns, aI ks] [] (jref 0 (opOnceF ns ks)) ([jblk (opOnceF ns ks)]) := by
  refine semT' (S := S0) hm spec_OpenOnce_ok (Nat.le_of_ble_eq_true rfl) ?_
  unfold spec_OpenOnce; dsimp only
  simp
  refine spec_KnowOk_k (ns := ns) (ks := ks) hl rfl (by simp) (by simp [noslBlks]) ?_; simp [shiftB]
  refine br_intro' (fun g => ?_) (fun g => ?_) <;> (have g0 := g) <;> simp [g0]
  · rw [show opOnceF ns ks = openF ns ks from if_pos g]
    obtain ⟨hp, hks, hsr, hkl⟩ := kpF_iff.1 g
    refine spec_l8Once_k (ns := ns) (ks := ks) (poolF_len hp) (by omega) hp hks rfl (by simp) (by simp [noslBlks]) ?_; simp [shiftB]
    refine br_intro' (fun u => ?_) (fun u => ?_) <;> (have u0 := u) <;> simp only [decide_eq_true_eq, decide_eq_false_iff_not] at u <;> simp [u0, u]
    · rw [show openF ns ks = onceV ns ks from if_neg (by omega)]
      first | (refine LeV.tell [none] ?_ ?_ ?_ <;> (simp; done)) | (refine LeV.tell [some 0] ?_ ?_ ?_ <;> (simp; done)) | (refine LeV.tell [some 1] ?_ ?_ ?_ <;> (simp; done)) | (refine LeV.tell [some 2] ?_ ?_ ?_ <;> (simp; done)) | (refine LeV.tell [some 3] ?_ ?_ ?_ <;> (simp; done)) | (refine LeV.tell [some 4] ?_ ?_ ?_ <;> (simp; done)) | (refine LeV.tell [some 5] ?_ ?_ ?_ <;> (simp; done)) | (refine LeV.tell [some 6] ?_ ?_ ?_ <;> (simp; done)) | (refine LeV.tell [some 7] ?_ ?_ ?_ <;> (simp; done)) | (refine LeV.tell [some 8] ?_ ?_ ?_ <;> (simp; done)) | (refine LeV.tell [some 9] ?_ ?_ ?_ <;> (simp; done)) | (refine LeV.tell [some 10] ?_ ?_ ?_ <;> (simp; done)) | (refine LeV.tell [some 11] ?_ ?_ ?_ <;> (simp; done)) | (refine LeV.tell [some 12] ?_ ?_ ?_ <;> (simp; done)) | (refine LeV.tell [some 13] ?_ ?_ ?_ <;> (simp; done)) | (refine LeV.tell [some 14] ?_ ?_ ?_ <;> (simp; done)) | (refine LeV.tell [some 15] ?_ ?_ ?_ <;> (simp; done))
    · rw [show openF ns ks = ks from if_pos (by omega)]
      by_cases h0 : ks = []
      · simp [h0]
        repeat (refine ck_intro' (by first | omega | (simp; omega) | kernel_rfl) ?_; try simp [h0])
        exact LeV.tell [none] (by simp) (by simp) (by simp)
      · repeat (refine ck_intro' (by first | omega | (simp; omega) | kernel_rfl) ?_; try simp [h0])
        first | (refine LeV.tell [none] ?_ ?_ ?_ <;> (simp [h0]; done)) | (refine LeV.tell [some 0] ?_ ?_ ?_ <;> (simp [h0]; done)) | (refine LeV.tell [some 1] ?_ ?_ ?_ <;> (simp [h0]; done)) | (refine LeV.tell [some 2] ?_ ?_ ?_ <;> (simp [h0]; done)) | (refine LeV.tell [some 3] ?_ ?_ ?_ <;> (simp [h0]; done)) | (refine LeV.tell [some 4] ?_ ?_ ?_ <;> (simp [h0]; done)) | (refine LeV.tell [some 5] ?_ ?_ ?_ <;> (simp [h0]; done)) | (refine LeV.tell [some 6] ?_ ?_ ?_ <;> (simp [h0]; done)) | (refine LeV.tell [some 7] ?_ ?_ ?_ <;> (simp [h0]; done)) | (refine LeV.tell [some 8] ?_ ?_ ?_ <;> (simp [h0]; done)) | (refine LeV.tell [some 9] ?_ ?_ ?_ <;> (simp [h0]; done)) | (refine LeV.tell [some 10] ?_ ?_ ?_ <;> (simp [h0]; done)) | (refine LeV.tell [some 11] ?_ ?_ ?_ <;> (simp [h0]; done)) | (refine LeV.tell [some 12] ?_ ?_ ?_ <;> (simp [h0]; done)) | (refine LeV.tell [some 13] ?_ ?_ ?_ <;> (simp [h0]; done)) | (refine LeV.tell [some 14] ?_ ?_ ?_ <;> (simp [h0]; done)) | (refine LeV.tell [some 15] ?_ ?_ ?_ <;> (simp [h0]; done))
  · rw [show opOnceF ns ks = [] from if_neg (by simp [g])]
    first | (refine LeV.tell [none] ?_ ?_ ?_ <;> (simp; done)) | (refine LeV.tell [some 0] ?_ ?_ ?_ <;> (simp; done)) | (refine LeV.tell [some 1] ?_ ?_ ?_ <;> (simp; done)) | (refine LeV.tell [some 2] ?_ ?_ ?_ <;> (simp; done)) | (refine LeV.tell [some 3] ?_ ?_ ?_ <;> (simp; done)) | (refine LeV.tell [some 4] ?_ ?_ ?_ <;> (simp; done)) | (refine LeV.tell [some 5] ?_ ?_ ?_ <;> (simp; done)) | (refine LeV.tell [some 6] ?_ ?_ ?_ <;> (simp; done)) | (refine LeV.tell [some 7] ?_ ?_ ?_ <;> (simp; done)) | (refine LeV.tell [some 8] ?_ ?_ ?_ <;> (simp; done)) | (refine LeV.tell [some 9] ?_ ?_ ?_ <;> (simp; done)) | (refine LeV.tell [some 10] ?_ ?_ ?_ <;> (simp; done)) | (refine LeV.tell [some 11] ?_ ?_ ?_ <;> (simp; done)) | (refine LeV.tell [some 12] ?_ ?_ ?_ <;> (simp; done)) | (refine LeV.tell [some 13] ?_ ?_ ?_ <;> (simp; done)) | (refine LeV.tell [some 14] ?_ ?_ ?_ <;> (simp; done)) | (refine LeV.tell [some 15] ?_ ?_ ?_ <;> (simp; done))
theorem spec_OpenOnce_k {ns : List Nd} {ks : List Int} (hl : ns.length < 9223372036854775807) (hk : ks.length < 9223372036854775807) {S : FuncId → Bool} {H : List Blk} {K : A → Dl → Prop} {zs : List A} (hS : S 13 = false) (hv : viewL (viewA 8 H) zs = some [aP ns, aI ks]) (ho : noOwns zs = true ∨ nosl (jref 0 (opOnceF ns ks)) = true ∧ noslBlks ([jblk (opOnceF ns ks)]) = true) (hK : K (shiftA H.length (jref 0 (opOnceF ns ks))) (.news (([jblk (opOnceF ns ks)]).map (shiftB H.length)))) : @WCall' Go.Proofs.Try.prog S 13 zs H ⟨K⟩ :=
  WCall_ro' hS hv (spec_OpenOnce_c ns ks hl hk) rfl ho hK
end Go.Proofs.Ytfbfebaajdihiaa.C

set_option linter.unusedVariables false
set_option linter.unusedSimpArgs false
set_option maxRecDepth 4000
namespace Go.Proofs.Ytfbfebaajdihiaa.C
open Go.Sym Go.Proofs.Ytfbfebaajdihiaa.I
theorem foldO_id {ns : List Nd} {mk : List Bool} {out : List Int} : ∀ {xs : List Int}, (∀ x ∈ xs, stepO ns mk out x = out) → xs.foldl (stepO ns mk) out = out
  | [], _ => rfl
  | x :: xs, h => by rw [List.foldl_cons, h x (by simp)]; exact foldO_id fun y hy => h y (by simp [hy])
theorem once_same {ns : List Nd} {ks : List Int} (h : (onceV ns ks).length = ks.length) : onceV ns ks = ks := foldO_id (foldO_same (Nat.le_of_eq h))
theorem openF_same {ns : List Nd} {ks : List Int} (hk : kpF ns ks = true) : ((openF ns ks).length = ks.length ↔ ¬ ((onceV ns ks).length ≤ 200 ∧ (onceV ns ks).length ≠ ks.length)) ∧ (¬ ((onceV ns ks).length ≤ 200 ∧ (onceV ns ks).length ≠ ks.length) → openF ns ks = ks) := by
  have hl := kpF_len hk
  unfold openF
  split
  · rename_i g
    exact ⟨⟨fun _ h => by omega, fun _ => rfl⟩, fun _ => rfl⟩
  · rename_i g
    refine ⟨⟨fun h g2 => g2.2 h, fun h => Classical.byContradiction fun e => h ⟨by omega, e⟩⟩, fun h => once_same (Classical.byContradiction fun e => h ⟨by omega, e⟩)⟩
theorem impl_Pool_openAll_c (ns : List Nd) (ks : List Int) (hkp : kpF ns ks = true) : T 52 [.pt [.sl ns.length (enc ns)], aI ks] [] (.tup [jref 0 (openV ns ks).1, i6 (openV ns ks).2]) ([jblk (openV ns ks).1]) := by
  refine semT' (S := S0) hm impl_Pool_openAll_ok (Nat.le_of_ble_eq_true rfl) ?_
  unfold impl_Pool_openAll; dsimp only
  simp
  refine WLoop_fam (fun p : Bool × Nat × List Int × Nat => [(0, A.pt [A.sl ns.length (enc ns)]), (1, if p.1 = true then aI p.2.2.1 else jref 0 p.2.2.1), (6, i6 p.2.2.2)]) (fun p => if p.1 = true then [] else [jblk p.2.2.1]) (fun p => 200 - p.2.2.1.length)
    (fun p => kpF ns p.2.2.1 = true ∧ openV ns ks = allO ns p.2.1 p.2.2.1 p.2.2.2 ∧ 201 ≤ p.2.2.1.length + p.2.1 ∧ p.2.2.2 + p.2.1 ≤ 201 ∧ (p.1 = true → p.2.2.1 = ks)) ?_ (true, 201, ks, 0) ⟨hkp, rfl, by simp, by simp, by simp⟩
  rintro ⟨b, n1, out, t⟩ ⟨hko, hgo, hn, htn, hb⟩ ih
  simp only at hko hgo hn htn hb
  have hol := kpF_len hko
  obtain ⟨n, rfl⟩ : ∃ n, n1 = n + 1 := ⟨n1 - 1, by omega⟩
  have hgn : allO ns (n + 1) out t = if (onceV ns out).length ≤ 200 ∧ (onceV ns out).length ≠ out.length then allO ns n (onceV ns out) (t + 1) else (out, t) := rfl
  have hw := wrap_succ (n := t) (by omega)
  cases b with
  | true =>
    simp
    refine impl_Pool_openOnce_k (ns := ns) (ks := out) hko rfl (by simp) (by simp [noslBlks]) ?_; simp [shiftB]
    obtain ⟨hs1, hs2⟩ := openF_same hko
    refine br_intro' (fun u => ?_) (fun u => ?_) <;> (have u0 := u) <;> simp only [decide_eq_true_eq, decide_eq_false_iff_not] at u <;> simp [u0, u]
    · have hcond := hs1.1 (by omega)
      have e := hs2 hcond
      have hv : openV ns ks = (out, t) := by rw [hgo, hgn, if_neg hcond]
      rw [hv, e]
      exact LeV.tell [some 0] (by simp) (by simp) (by simp)
    · have hcond : (onceV ns out).length ≤ 200 ∧ (onceV ns out).length ≠ out.length := Classical.byContradiction fun e => u (by have := hs1.2 e; omega)
      have e : openF ns out = onceV ns out := if_neg (by omega)
      have hge := onceV_len ns out
      rw [e, hw]
      refine WLoop_ren [some 0] [(0, A.pt [A.sl ns.length (enc ns)]), (1, jref 0 (onceV ns out)), (6, i6 ((t + 1 : Nat) : Int))] [jblk (onceV ns out)] (by simp) (by simp) (by simp) ?_
      exact ih (false, n, onceV ns out, t + 1) ⟨onceV_kp hko hcond.1, by rw [hgo, hgn, if_pos hcond], by simp only; omega, by simp only; omega, by simp⟩ (by simp; omega)
  | false =>
    simp
    refine impl_Pool_openOnce_k (ns := ns) (ks := out) hko rfl (by simp) (by simp [noslBlks]) ?_; simp [shiftB]
    obtain ⟨hs1, hs2⟩ := openF_same hko
    refine br_intro' (fun u => ?_) (fun u => ?_) <;> (have u0 := u) <;> simp only [decide_eq_true_eq, decide_eq_false_iff_not] at u <;> simp [u0, u]
    · have hcond := hs1.1 (by omega)
      have e := hs2 hcond
      have hv : openV ns ks = (out, t) := by rw [hgo, hgn, if_neg hcond]
      rw [hv, e]
      exact LeV.tell [some 1] (by simp) (by simp) (by simp)
    · have hcond : (onceV ns out).length ≤ 200 ∧ (onceV ns out).length ≠ out.length := Classical.byContradiction fun e => u (by have := hs1.2 e; omega)
      have e : openF ns out = onceV ns out := if_neg (by omega)
      have hge := onceV_len ns out
      rw [e, hw]
      refine WLoop_ren [some 1] [(0, A.pt [A.sl ns.length (enc ns)]), (1, jref 0 (onceV ns out)), (6, i6 ((t + 1 : Nat) : Int))] [jblk (onceV ns out)] (by simp) (by simp) (by simp) ?_
      exact ih (false, n, onceV ns out, t + 1) ⟨onceV_kp hko hcond.1, by rw [hgo, hgn, if_pos hcond], by simp only; omega, by simp only; omega, by simp⟩ (by simp; omega)
end Go.Proofs.Ytfbfebaajdihiaa.C
