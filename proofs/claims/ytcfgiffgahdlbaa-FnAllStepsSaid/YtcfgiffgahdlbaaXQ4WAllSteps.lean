/- Trimming a proof: what is kept, that it is a proof still, that it is trimmed once. Conditions: those that each theorem names. -/
import Derived.Test.YtcfgiffgahdlbaaXE13Q2
import Derived.Test.YtcfgiffgahdlbaaXB1E6
import Derived.Test.YtcfgiffgahdlbaaXC1D4
set_option linter.unusedVariables false
set_option linter.unusedSimpArgs false
namespace Go.Proofs.Ytcfgiffgahdlbaa.C
open Go.Sym Go.Proofs.Ytcfgiffgahdlbaa.I
/-- Step j asks for step i. -/
def Us (ns : List Nd) (ss : List Sp) (j i : Nat) : Prop := (0 < needsF ns (spAt ss j) ∧ (spAt ss j).a = i) ∨ (1 < needsF ns (spAt ss j) ∧ (spAt ss j).b = i)
theorem Us_lt {ns : List Nd} {ss : List Sp} {j i : Nat} (h : wellF ns ss j = true) (u : Us ns ss j i) : i < j := by
  simp only [wellF, Bool.and_eq_true, Bool.or_eq_true, decide_eq_true_eq] at h
  obtain ⟨⟨⟨h1, h2⟩, h3⟩, h4⟩ := h
  rcases u with ⟨u1, u2⟩ | ⟨u1, u2⟩
  · have := h3.resolve_left (by omega)
    simp only [inF, Bool.and_eq_true, decide_eq_true_eq] at this
    omega
  · have := h4.resolve_left (by omega)
    simp only [inF, Bool.and_eq_true, decide_eq_true_eq] at this
    omega
theorem well_a {ns : List Nd} {ss : List Sp} {j : Nat} (h : wellF ns ss j = true) (n : 0 < needsF ns (spAt ss j)) : (spAt ss j).a = ((spAt ss j).a.toNat : Int) ∧ (spAt ss j).a.toNat < j := by
  simp only [wellF, Bool.and_eq_true, Bool.or_eq_true, decide_eq_true_eq] at h
  have := h.1.2.resolve_left (by omega)
  simp only [inF, Bool.and_eq_true, decide_eq_true_eq] at this
  omega
theorem well_b {ns : List Nd} {ss : List Sp} {j : Nat} (h : wellF ns ss j = true) (n : 1 < needsF ns (spAt ss j)) : (spAt ss j).b = ((spAt ss j).b.toNat : Int) ∧ (spAt ss j).b.toNat < j := by
  simp only [wellF, Bool.and_eq_true, Bool.or_eq_true, decide_eq_true_eq] at h
  have := h.2.resolve_left (by omega)
  simp only [inF, Bool.and_eq_true, decide_eq_true_eq] at this
  omega
theorem getD_set' {kb : List Bool} {p i : Nat} (h : p < kb.length) : (kb.set p true).getD i false = true ↔ p = i ∨ kb.getD i false = true := by
  rcases Nat.decEq p i with e | e
  · simp [List.getElem?_set_ne e, e]
  · subst e; simp [List.getElem?_set_self h]
theorem keepStep_iff {ns : List Nd} {ss : List Sp} {kb : List Bool} {n : Nat} (h : wellF ns ss n = true) (hn : n < kb.length) (i : Nat) : (keepStep ns ss kb n).getD i false = true ↔ kb.getD i false = true ∨ (kb.getD n false = true ∧ Us ns ss n i) := by
  unfold keepStep
  split
  · rename_i k
    split
    · rename_i k0
      have ea := well_a h k0
      split
      · rename_i k1
        have eb := well_b h k1
        rw [getD_set' (by rw [List.length_set]; omega), getD_set' (by omega)]
        constructor
        · rintro (e | e | e)
          · exact .inr ⟨k, .inr ⟨k1, by omega⟩⟩
          · exact .inr ⟨k, .inl ⟨k0, by omega⟩⟩
          · exact .inl e
        · rintro (e | ⟨_, ⟨_, e⟩ | ⟨_, e⟩⟩)
          · exact .inr (.inr e)
          · exact .inr (.inl (by omega))
          · exact .inl (by omega)
      · rename_i k1
        rw [getD_set' (by omega)]
        constructor
        · rintro (e | e)
          · exact .inr ⟨k, .inl ⟨k0, by omega⟩⟩
          · exact .inl e
        · rintro (e | ⟨_, ⟨_, e⟩ | ⟨e, _⟩⟩)
          · exact .inr e
          · exact .inl (by omega)
          · exact absurd e k1
    · rename_i k0
      constructor
      · exact .inl
      · rintro (e | ⟨_, ⟨e, _⟩ | ⟨e, _⟩⟩)
        · exact e
        · exact absurd e k0
        · exact absurd e (by omega)
  · rename_i k
    exact ⟨.inl, fun e => e.elim id fun e => absurd e.1 k⟩
theorem keepGo_mono {ns : List Nd} {ss : List Sp} (hw : ∀ i : Nat, i < ss.length → wellF ns ss i = true) {i : Nat} : ∀ (n : Nat) (kb : List Bool), n ≤ ss.length → kb.length = ss.length → kb.getD i false = true → (keepGo ns ss n kb).getD i false = true
  | 0, kb, _, _, h => h
  | n + 1, kb, hn, hl, h => keepGo_mono hw n _ (by omega) (by rw [keepStep_len, hl]) ((keepStep_iff (hw n (by omega)) (by omega) i).2 (.inl h))
theorem keepGo_closed {ns : List Nd} {ss : List Sp} (hw : ∀ i : Nat, i < ss.length → wellF ns ss i = true) : ∀ (n : Nat) (kb : List Bool), n ≤ ss.length → kb.length = ss.length →
    (∀ j i : Nat, n ≤ j → j < ss.length → kb.getD j false = true → Us ns ss j i → kb.getD i false = true) →
    ∀ j i : Nat, j < ss.length → (keepGo ns ss n kb).getD j false = true → Us ns ss j i → (keepGo ns ss n kb).getD i false = true
  | 0, kb, _, _, h => fun j i hj => h j i (Nat.zero_le _) hj
  | n + 1, kb, hn, hl, h => by
    have key := fun i => keepStep_iff (kb := kb) (hw n (by omega)) (by omega) i
    refine keepGo_closed hw n (keepStep ns ss kb n) (by omega) (by rw [keepStep_len, hl]) ?_
    intro j i hj hjl hk hu
    rw [key] at hk ⊢
    have hij := Us_lt (hw j hjl) hu
    rcases hk with hk | ⟨hk, hu2⟩
    · rcases Nat.lt_or_ge n j with g | g
      · exact .inl (h j i (by omega) hjl hk hu)
      · have : j = n := by omega
        subst this
        exact .inr ⟨hk, hu⟩
    · have := Us_lt (hw n (by omega)) hu2
      omega
theorem keepGo_used {ns : List Nd} {ss : List Sp} (hw : ∀ i : Nat, i < ss.length → wellF ns ss i = true) {l : Nat} : ∀ (n : Nat) (kb : List Bool), n ≤ ss.length → kb.length = ss.length →
    (∀ i : Nat, kb.getD i false = true → i = l ∨ ∃ j : Nat, j < ss.length ∧ kb.getD j false = true ∧ Us ns ss j i) →
    ∀ i : Nat, (keepGo ns ss n kb).getD i false = true → i = l ∨ ∃ j : Nat, j < ss.length ∧ (keepGo ns ss n kb).getD j false = true ∧ Us ns ss j i
  | 0, kb, _, _, h => h
  | n + 1, kb, hn, hl, h => by
    have key := fun i => keepStep_iff (kb := kb) (hw n (by omega)) (by omega) i
    refine keepGo_used hw n (keepStep ns ss kb n) (by omega) (by rw [keepStep_len, hl]) ?_
    intro i hk
    rw [key] at hk
    rcases hk with hk | ⟨hk, hu⟩
    · rcases h i hk with e | ⟨j, h1, h2, h3⟩
      · exact .inl e
      · exact .inr ⟨j, h1, (key j).2 (.inl h2), h3⟩
    · exact .inr ⟨n, by omega, (key n).2 (.inl hk), hu⟩
theorem keepGo_len' (ns : List Nd) (ss : List Sp) : ∀ (n : Nat) (kb : List Bool), (keepGo ns ss n kb).length = kb.length
  | 0, kb => rfl
  | n + 1, kb => by rw [keepGo, keepGo_len' ns ss n, keepStep_len]
/-- What is kept: the last step, what kept steps ask for, and nothing else. -/
theorem keepV_spec {ns : List Nd} {ss : List Sp} (hw : ∀ i : Nat, i < ss.length → wellF ns ss i = true) (hne : ss ≠ []) :
    (keepV ns ss).length = ss.length ∧ (keepV ns ss).getD (ss.length - 1) false = true ∧
    (∀ j i : Nat, j < ss.length → (keepV ns ss).getD j false = true → Us ns ss j i → (keepV ns ss).getD i false = true) ∧
    (∀ i : Nat, (keepV ns ss).getD i false = true → i = ss.length - 1 ∨ ∃ j : Nat, j < ss.length ∧ (keepV ns ss).getD j false = true ∧ Us ns ss j i) := by
  have h0 : 0 < ss.length := List.length_pos_iff.2 hne
  have hl : ((List.replicate ss.length false).set (ss.length - 1) true).length = ss.length := by simp
  refine ⟨by rw [keepV, keepGo_len', hl], ?_, ?_, ?_⟩
  · exact keepGo_mono hw _ _ (Nat.le_refl _) hl ((getD_set' (by simp; omega)).2 (.inl rfl))
  · exact keepGo_closed hw _ _ (Nat.le_refl _) hl (fun j i h1 h2 => by omega)
  · refine keepGo_used hw _ _ (Nat.le_refl _) hl ?_
    intro i hi
    rw [getD_set' (by simp; omega)] at hi
    rcases hi with e | e
    · exact .inl e.symm
    · simp [List.getElem?_replicate] at e
      split at e <;> simp at e
/-- How many of the first are kept. -/
def rk (kb : List Bool) : Nat → Nat
  | 0 => 0
  | n + 1 => rk kb n + if kb.getD n false = true then 1 else 0
theorem rk_one {kb : List Bool} {n : Nat} (h : kb.getD n false = true) : rk kb (n + 1) = rk kb n + 1 := by rw [rk, if_pos h]
theorem rk_no {kb : List Bool} {n : Nat} (h : ¬ kb.getD n false = true) : rk kb (n + 1) = rk kb n := by rw [rk, if_neg h]; rfl
theorem rk_le (kb : List Bool) {i : Nat} : ∀ {j : Nat}, i ≤ j → rk kb i ≤ rk kb j
  | 0, h => by rw [Nat.le_zero.1 h]; exact Nat.le_refl _
  | j + 1, h => by
    rcases Nat.lt_or_ge i (j + 1) with g | g
    · have := rk_le kb (i := i) (j := j) (by omega)
      rw [show rk kb (j + 1) = rk kb j + if kb.getD j false = true then 1 else 0 from rfl]; omega
    · rw [show i = j + 1 by omega]; exact Nat.le_refl _
theorem rk_lt {kb : List Bool} {i j : Nat} (h : i < j) (k : kb.getD i false = true) : rk kb i < rk kb j := by
  have := rk_le kb (show i + 1 ≤ j from h)
  rw [rk_one k] at this
  omega
theorem rk_on {kb : List Bool} {p : Nat} : ∀ {j : Nat}, p < rk kb j → ∃ i : Nat, i < j ∧ kb.getD i false = true ∧ rk kb i = p
  | 0, h => absurd h (Nat.not_lt_zero _)
  | j + 1, h => by
    rcases Nat.lt_or_ge p (rk kb j) with g | g
    · obtain ⟨i, h1, h2⟩ := rk_on g
      exact ⟨i, by omega, h2⟩
    · by_cases k : kb.getD j false = true
      · rw [rk_one k] at h
        exact ⟨j, by omega, k, by omega⟩
      · rw [rk_no k] at h
        omega
/-- A kept step, its places told anew. -/
def mvS (ns : List Nd) (ss : List Sp) (kb : List Bool) (i : Nat) : Sp :=
  ⟨(spAt ss i).r, (spAt ss i).t, if 0 < needsF ns (spAt ss i) then rk kb (spAt ss i).a.toNat else (spAt ss i).a, if 1 < needsF ns (spAt ss i) then rk kb (spAt ss i).b.toNat else (spAt ss i).b⟩
theorem trimGo_spec {ns : List Nd} {ss : List Sp} {kb : List Bool} (hw : ∀ i : Nat, i < ss.length → wellF ns ss i = true)
    (hc : ∀ j i : Nat, j < ss.length → kb.getD j false = true → Us ns ss j i → kb.getD i false = true) : ∀ (n j : Nat) (now : List Int) (out : List Sp), j + n = ss.length → now.length = ss.length → out.length = rk kb j →
    (∀ i : Nat, i < j → kb.getD i false = true → now.getD i 0 = rk kb i) → (∀ i : Nat, i < j → kb.getD i false = true → out[rk kb i]? = some (mvS ns ss kb i)) →
    (trimGo ns ss kb n j now out).length = rk kb ss.length ∧ ∀ i : Nat, i < ss.length → kb.getD i false = true → (trimGo ns ss kb n j now out)[rk kb i]? = some (mvS ns ss kb i)
  | 0, j, now, out, hj, hnl, hol, _, ho => by
    have : j = ss.length := by omega
    subst this
    exact ⟨hol, ho⟩
  | n + 1, j, now, out, hj, hnl, hol, hn, ho => by
    have hjl : j < ss.length := by omega
    unfold trimGo
    split
    · rename_i k
      have hmv : moveF ns now (spAt ss j) = mvS ns ss kb j := by
        unfold moveF mvS
        congr 1
        · split
          · rename_i g
            have := well_a (hw j hjl) g
            exact hn _ this.2 (hc j _ hjl k (.inl ⟨g, this.1⟩))
          · rfl
        · split
          · rename_i g
            have := well_b (hw j hjl) g
            exact hn _ this.2 (hc j _ hjl k (.inr ⟨g, this.1⟩))
          · rfl
      refine trimGo_spec hw hc n (j + 1) _ _ (by omega) (by simpa using hnl) (by rw [rk_one k]; simp; omega) ?_ ?_
      · intro i hi ki
        rcases Nat.lt_or_ge i j with g | g
        · rw [← hn i g ki]
          simp [List.getElem?_set_ne (show j ≠ i by omega)]
        · have : i = j := by omega
          subst this
          simp [List.getElem?_set_self (show i < now.length by omega), hol]
      · intro i hi ki
        rcases Nat.lt_or_ge i j with g | g
        · rw [List.getElem?_append_left (by rw [hol]; exact rk_lt g ki)]
          exact ho i g ki
        · have : i = j := by omega
          subst this
          rw [← hol, List.getElem?_append_right (Nat.le_refl _), hmv]
          simp
    · rename_i k
      refine trimGo_spec hw hc n (j + 1) now out (by omega) hnl (by rw [rk_no k]; exact hol) ?_ ?_
      · intro i hi ki
        rcases Nat.lt_or_ge i j with g | g
        · exact hn i g ki
        · have : i = j := by omega
          subst this
          exact absurd ki k
      · intro i hi ki
        rcases Nat.lt_or_ge i j with g | g
        · exact ho i g ki
        · have : i = j := by omega
          subst this
          exact absurd ki k
theorem trimV_spec {ns : List Nd} {ss : List Sp} (hw : ∀ i : Nat, i < ss.length → wellF ns ss i = true) (hne : ss ≠ []) :
    (trimV ns ss).length = rk (keepV ns ss) ss.length ∧ ∀ i : Nat, i < ss.length → (keepV ns ss).getD i false = true → (trimV ns ss)[rk (keepV ns ss) i]? = some (mvS ns ss (keepV ns ss) i) :=
  trimGo_spec hw (keepV_spec hw hne).2.2.1 ss.length 0 _ [] (by omega) (by simp) rfl (fun i h => absurd h (Nat.not_lt_zero _)) (fun i h => absurd h (Nat.not_lt_zero _))
theorem holds_move {ns : List Nd} {ks : List Int} {s s' : Sp} {a b a' b' : Int} (h : holdsF ns ks s a b = true) (er : s'.r = s.r) (et : s'.t = s.t)
    (ha : 0 < needsF ns s → a' = a) (hb : 1 < needsF ns s → b' = b) (ga : needsF ns s < 1 → s'.a = s.a) (gb : needsF ns s < 2 → s'.b = s.b) : holdsF ns ks s' a' b' = true := by
  have en : needsF ns s' = needsF ns s := by simp [needsF, er, et]
  simp only [holdsF, Bool.and_eq_true, Bool.not_eq_true', lackF, decide_eq_false_iff_not, not_or, not_and] at h ⊢
  rw [en]
  obtain ⟨⟨g1, g2, g3, g4, g5⟩, h2⟩ := h
  refine ⟨⟨g1, fun n => by rw [ha n]; exact g2 n, fun n => by rw [hb n]; exact g3 n, fun n => by rw [ga n]; exact g4 n, fun n => by rw [gb n]; exact g5 n⟩, ?_⟩
  by_cases r1 : s.r = 1
  · simp [ruleF, er, et, r1] at h2 ⊢; exact h2
  by_cases r2 : s.r = 2
  · simp [ruleF, er, et, r2] at h2 ⊢; exact h2
  by_cases r3 : s.r = 3
  · have hn : needsF ns s = partsF (nodeAt ns s.t).k := by simp [needsF, r3]
    by_cases k : (nodeAt ns s.t).k = 1
    · simp [ruleF, er, et, r3, k] at h2
    · have h0 : 0 < needsF ns s := by
        rw [hn] at g1 ⊢
        unfold partsF at g1 ⊢
        rw [if_neg k] at g1 ⊢
        split
        · omega
        · rename_i k5
          rw [if_neg k5] at g1
          split
          · omega
          · rename_i k2
            rw [if_neg k2] at g1
            omega
      rw [ha h0]
      by_cases u : 1 < needsF ns s
      · rw [hb u]
        simp only [ruleF, er, et, r3, en] at h2 ⊢
        exact h2
      · have u' : needsF ns s < 2 := by omega
        simp [ruleF, er, et, r3, en, u'] at h2 ⊢
        exact h2
  by_cases r4 : s.r = 4
  · have hn : needsF ns s = 2 := by simp [needsF, r4]
    rw [ha (by omega), hb (by omega)]
    simp only [ruleF, er, et, r4] at h2 ⊢
    exact h2
  by_cases r7 : s.r = 7
  · have hn : needsF ns s = 2 := by simp [needsF, r7]
    rw [ha (by omega), hb (by omega)]
    simp only [ruleF, er, et, r7] at h2 ⊢
    exact h2
  have h0 : 0 < needsF ns s := by
    unfold needsF at g1 ⊢
    rw [if_neg (by omega), if_neg r3, if_neg (by omega)] at g1 ⊢
    split
    · omega
    · rename_i k
      rw [if_neg k] at g1
      omega
  rw [ha h0]
  simp only [ruleF, er, et, r1, r2, r3, r4, r7, if_false] at h2 ⊢
  exact h2
theorem spAt_get {ss : List Sp} {i : Nat} {s : Sp} (h : ss[i]? = some s) : spAt ss i = s := by simp [spAt, h]
theorem get_spAt {ss : List Sp} {i : Nat} (h : i < ss.length) : ss[i]? = some (spAt ss i) := by rw [spAt_lt h]; exact List.getElem?_eq_getElem h
theorem termAt_nat {ss : List Sp} {i k : Nat} (h : k < i) : termAt ss i (k : Int) = (spAt ss k).t := by
  have e : inF (k : Int) 0 ((i : Int) - 1) = true := by simp only [inF, decide_eq_true_eq]; omega
  unfold termAt
  rw [if_pos e]
  rfl
theorem trim_at {ns : List Nd} {ss : List Sp} (hw : ∀ i : Nat, i < ss.length → wellF ns ss i = true) (hne : ss ≠ []) {i : Nat} (hi : i < ss.length) (k : (keepV ns ss).getD i false = true) : spAt (trimV ns ss) (rk (keepV ns ss) i) = mvS ns ss (keepV ns ss) i := spAt_get ((trimV_spec hw hne).2 i hi k)
theorem trim_on {ns : List Nd} {ss : List Sp} (hw : ∀ i : Nat, i < ss.length → wellF ns ss i = true) (hne : ss ≠ []) {p : Nat} (hp : p < (trimV ns ss).length) : ∃ i : Nat, i < ss.length ∧ (keepV ns ss).getD i false = true ∧ rk (keepV ns ss) i = p ∧ spAt (trimV ns ss) p = mvS ns ss (keepV ns ss) i := by
  rw [(trimV_spec hw hne).1] at hp
  obtain ⟨i, h1, h2, h3⟩ := rk_on hp
  exact ⟨i, h1, h2, h3, h3 ▸ trim_at hw hne h1 h2⟩
/-- What is trimmed of a proof is a proof. -/
theorem trim_pr {ns : List Nd} {ks : List Int} {ss : List Sp} (hpr : ∀ i : Nat, i < ss.length → prF ns ks ss i = true) (hne : ss ≠ []) : ∀ p : Nat, p < (trimV ns ss).length → prF ns ks (trimV ns ss) p = true := by
  have hw : ∀ i : Nat, i < ss.length → wellF ns ss i = true := fun i hi => prF_well hi (hpr i hi)
  have hc := (keepV_spec hw hne).2.2.1
  intro p hp
  obtain ⟨i, hi, ki, ri, ei⟩ := trim_on hw hne hp
  have h := hpr i hi
  simp only [prF, stepOkF, Bool.and_eq_true, termAt_take (Nat.le_of_lt hi)] at h
  obtain ⟨⟨h1, h2⟩, h3⟩ := h
  simp only [prF, stepOkF, Bool.and_eq_true, termAt_take (Nat.le_of_lt hp)]
  have et : (spAt (trimV ns ss) p).t = (spAt ss i).t := by rw [ei]; rfl
  have key : ∀ a : Nat, a < i → (keepV ns ss).getD a false = true → termAt (trimV ns ss) p (rk (keepV ns ss) a : Nat) = termAt ss i (a : Int) := fun a ha ka => by
    rw [termAt_nat (by rw [← ri]; exact rk_lt ha ka), termAt_nat ha, trim_at hw hne (by omega) ka]
    rfl
  refine ⟨⟨by rw [et]; exact h1, ?_⟩, ?_⟩
  · refine holds_move h2 (by rw [ei]; rfl) et ?_ ?_ ?_ ?_
    · intro n
      have ea := well_a (hw i hi) n
      rw [ei, show (mvS ns ss (keepV ns ss) i).a = (rk (keepV ns ss) (spAt ss i).a.toNat : Int) from if_pos n, key _ ea.2 (hc i _ hi ki (.inl ⟨n, ea.1⟩)), ← ea.1]
    · intro n
      have eb := well_b (hw i hi) n
      rw [ei, show (mvS ns ss (keepV ns ss) i).b = (rk (keepV ns ss) (spAt ss i).b.toNat : Int) from if_pos n, key _ eb.2 (hc i _ hi ki (.inr ⟨n, eb.1⟩)), ← eb.1]
    · intro n
      rw [ei]
      exact if_neg (by omega)
    · intro n
      rw [ei]
      exact if_neg (by omega)
  · simp only [freshF, decide_eq_true_eq] at h3 ⊢
    intro x hx
    obtain ⟨q, hq, rfl⟩ := List.getElem_of_mem hx
    simp only [List.length_take] at hq
    rw [List.getElem_take, ← spAt_lt (by omega), et]
    obtain ⟨i', hi', ki', ri', ei'⟩ := trim_on hw hne (p := q) (by omega)
    rw [ei']
    have hlt : i' < i := by
      rcases Nat.lt_or_ge i' i with g | g
      · exact g
      · have := rk_le (keepV ns ss) g
        omega
    refine h3 (spAt ss i') ?_
    rw [spAt_lt hi']
    exact List.mem_take_iff_getElem.2 ⟨i', by omega, rfl⟩
theorem trim_ne {ns : List Nd} {ss : List Sp} (hw : ∀ i : Nat, i < ss.length → wellF ns ss i = true) (hne : ss ≠ []) : (trimV ns ss).length = rk (keepV ns ss) (ss.length - 1) + 1 := by
  have h0 : 0 < ss.length := List.length_pos_iff.2 hne
  have h := rk_one (keepV_spec hw hne).2.1
  rw [show ss.length - 1 + 1 = ss.length by omega] at h
  rw [(trimV_spec hw hne).1, h]
/-- Trimmed twice it is trimmed once. -/
theorem trim_twice {ns : List Nd} {ks : List Int} {ss : List Sp} (hpr : ∀ i : Nat, i < ss.length → prF ns ks ss i = true) (hne : ss ≠ []) : trimV ns (trimV ns ss) = trimV ns ss := by
  have hw : ∀ i : Nat, i < ss.length → wellF ns ss i = true := fun i hi => prF_well hi (hpr i hi)
  have hpr2 := trim_pr hpr hne
  have hln := trim_ne hw hne
  have hne2 : trimV ns ss ≠ [] := by intro e; rw [e] at hln; simp at hln
  have hw2 : ∀ i : Nat, i < (trimV ns ss).length → wellF ns (trimV ns ss) i = true := fun i hi => prF_well hi (hpr2 i hi)
  have hs := keepV_spec hw hne
  have hs2 := keepV_spec hw2 hne2
  have hlen := (trimV_spec hw hne).1
  have all : ∀ n p : Nat, p < (trimV ns ss).length → (trimV ns ss).length - p ≤ n → (keepV ns (trimV ns ss)).getD p false = true := by
    intro n
    induction n with
    | zero => intro p h1 h2; omega
    | succ n ihn =>
      intro p h1 h2
      obtain ⟨i, hi, ki, ri, ei⟩ := trim_on hw hne h1
      rcases hs.2.2.2 i ki with e | ⟨j, hj, kj, uj⟩
      · have : p = (trimV ns ss).length - 1 := by rw [hln, ← ri, e]; rfl
        rw [this]
        exact hs2.2.1
      · have hij := Us_lt (hw j hj) uj
        have hr := rk_lt hij ki
        have hrl : rk (keepV ns ss) j < (trimV ns ss).length := by rw [hlen]; exact rk_lt hj kj
        refine hs2.2.2.1 (rk (keepV ns ss) j) p hrl (ihn _ hrl (by omega)) ?_
        have ej := trim_at hw hne hj kj
        have en : needsF ns (mvS ns ss (keepV ns ss) j) = needsF ns (spAt ss j) := rfl
        unfold Us
        rw [ej, en]
        rcases uj with ⟨u1, u2⟩ | ⟨u1, u2⟩
        · left
          refine ⟨u1, ?_⟩
          rw [show (mvS ns ss (keepV ns ss) j).a = (rk (keepV ns ss) (spAt ss j).a.toNat : Int) from if_pos u1, u2, ← ri]
          rfl
        · right
          refine ⟨u1, ?_⟩
          rw [show (mvS ns ss (keepV ns ss) j).b = (rk (keepV ns ss) (spAt ss j).b.toNat : Int) from if_pos u1, u2, ← ri]
          rfl
  have rkp : ∀ p : Nat, p ≤ (trimV ns ss).length → rk (keepV ns (trimV ns ss)) p = p := by
    intro p
    induction p with
    | zero => intro _; rfl
    | succ p ihp => intro h; rw [rk_one (all _ p (by omega) (Nat.le_refl _)), ihp (by omega)]
  have h2 := trimV_spec hw2 hne2
  refine List.ext_getElem? fun p => ?_
  rcases Nat.lt_or_ge p (trimV ns ss).length with g | g
  · have h3 := h2.2 p g (all _ p g (Nat.le_refl _))
    rw [rkp p (by omega)] at h3
    rw [h3, get_spAt g]
    congr 1
    have a1 : (mvS ns (trimV ns ss) (keepV ns (trimV ns ss)) p).a = (spAt (trimV ns ss) p).a := by
      unfold mvS
      simp only
      split
      · rename_i n
        have ea := well_a (hw2 p g) n
        rw [rkp _ (by omega), ← ea.1]
      · rfl
    have b1 : (mvS ns (trimV ns ss) (keepV ns (trimV ns ss)) p).b = (spAt (trimV ns ss) p).b := by
      unfold mvS
      simp only
      split
      · rename_i n
        have eb := well_b (hw2 p g) n
        rw [rkp _ (by omega), ← eb.1]
      · rfl
    exact Sp_eq.2 ⟨rfl, rfl, a1, b1⟩
  · rw [List.getElem?_eq_none (by rw [h2.1, rkp _ (Nat.le_refl _)]; exact g), List.getElem?_eq_none g]
theorem checkF_iff {ns : List Nd} {ks : List Int} {ss : List Sp} {t : Int} : checkF ns ks ss t = true ↔ ss ≠ [] ∧ kpF ns ks = true ∧ ss.length ≤ 500 ∧ (∀ i : Nat, i < ss.length → prF ns ks ss i = true) ∧ (spAt ss (ss.length - 1)).t = t := by
  simp only [checkF, proofF, Bool.and_eq_true, decide_eq_true_eq]
  constructor
  · rintro ⟨⟨h1, ⟨h2, h3⟩, h4⟩, h5⟩
    exact ⟨h1, h2, h3, fun i hi => allF_all h4 hi, h5⟩
  · rintro ⟨h1, h2, h3, h4, h5⟩
    exact ⟨⟨h1, ⟨h2, h3⟩, allF_of h4⟩, h5⟩
/-- A proof that is trimmed. -/
theorem trimF_spec {ns : List Nd} {ks : List Int} {ss : List Sp} {t : Int} (h : checkF ns ks ss t = true) : checkF ns ks (trimF ns ss) t = true ∧ trimF ns (trimF ns ss) = trimF ns ss := by
  obtain ⟨h1, h2, h3, h4, h5⟩ := checkF_iff.1 h
  have hw : ∀ i : Nat, i < ss.length → wellF ns ss i = true := fun i hi => prF_well hi (h4 i hi)
  have hp := kpF_pool h2
  have e : trimF ns ss = trimV ns ss := if_pos ⟨h1, h3, hp, allF_of hw⟩
  have hln := trim_ne hw h1
  have hne2 : trimV ns ss ≠ [] := by intro e; rw [e] at hln; simp at hln
  have h0 : 0 < ss.length := List.length_pos_iff.2 h1
  have hpr2 := trim_pr h4 h1
  have hs := keepV_spec hw h1
  have hrl : ∀ j, rk (keepV ns ss) j ≤ j := fun j => by
    induction j with
    | zero => exact Nat.le_refl _
    | succ j ih => unfold rk; split <;> omega
  have hle : (trimV ns ss).length ≤ 500 := by have := hrl (ss.length - 1); omega
  have hc : checkF ns ks (trimV ns ss) t = true := checkF_iff.2 ⟨hne2, h2, hle, hpr2, by
    rw [hln, show rk (keepV ns ss) (ss.length - 1) + 1 - 1 = rk (keepV ns ss) (ss.length - 1) from rfl, trim_at hw h1 (by omega) hs.2.1]
    exact h5⟩
  rw [e]
  refine ⟨hc, ?_⟩
  rw [show trimF ns (trimV ns ss) = trimV ns (trimV ns ss) from if_pos ⟨hne2, hle, hp, allF_of fun i hi => prF_well hi (hpr2 i hi)⟩]
  exact trim_twice h4 h1
theorem checkF_needs {ns : List Nd} {ks : List Int} {ss : List Sp} {t : Int} (h : checkF ns ks ss t = true) {i : Nat} (hi : i < ss.length) : 0 ≤ stepNeedsF ns (spAt ss i) := by
  obtain ⟨h1, h2, h3, h4, h5⟩ := checkF_iff.1 h
  have hw := prF_well hi (h4 i hi)
  simp only [wellF, Bool.and_eq_true, decide_eq_true_eq] at hw
  rw [stepNeedsF, if_pos ⟨kpF_pool h2, hw.1.1.1⟩]
  exact hw.1.1.2
end Go.Proofs.Ytcfgiffgahdlbaa.C

set_option linter.unusedVariables false
set_option linter.unusedSimpArgs false
namespace Go.Proofs.Ytcfgiffgahdlbaa.C
/-- What can be derived of what is known. -/
inductive Der (ns : List Nd) (ks : List Int) : Nat → Prop
  | know {t : Nat} (h : (t : Int) ∈ ks) : Der ns ks t
  | pub {t : Nat} (ht : t < ns.length) (hk : (nodeAt ns t).k = 1) (h : pubF (nodeAt ns t).a = true) : Der ns ks t
  | make1 {t a : Nat} (ht : t < ns.length) (hk : partsF (nodeAt ns t).k = 1) (ea : (nodeAt ns t).a = a) (h : Der ns ks a) : Der ns ks t
  | make2 {t a b : Nat} (ht : t < ns.length) (hk : partsF (nodeAt ns t).k = 2) (ea : (nodeAt ns t).a = a) (eb : (nodeAt ns t).b = b) (h : Der ns ks a) (g : Der ns ks b) : Der ns ks t
  | shareA {t a x : Nat} (ht : t < ns.length) (hx : x < ns.length) (hk : (nodeAt ns t).k = 8) (ea : (nodeAt ns t).a = a) (ex : nodeAt ns x = ⟨7, (nodeAt ns t).b, 0⟩) (h : Der ns ks a) (g : Der ns ks x) : Der ns ks t
  | shareB {t b x : Nat} (ht : t < ns.length) (hx : x < ns.length) (hk : (nodeAt ns t).k = 8) (eb : (nodeAt ns t).b = b) (ex : nodeAt ns x = ⟨7, (nodeAt ns t).a, 0⟩) (h : Der ns ks b) (g : Der ns ks x) : Der ns ks t
  | left {t i : Nat} (hi : i < ns.length) (hk : (nodeAt ns i).k = 2) (ea : (nodeAt ns i).a = t) (h : Der ns ks i) : Der ns ks t
  | right {t i : Nat} (hi : i < ns.length) (hk : (nodeAt ns i).k = 2) (eb : (nodeAt ns i).b = t) (h : Der ns ks i) : Der ns ks t
  | opens {t i y : Nat} (hi : i < ns.length) (hk : (nodeAt ns i).k = 3) (ea : (nodeAt ns i).a = t) (eb : (nodeAt ns i).b = y) (h : Der ns ks i) (g : Der ns ks y) : Der ns ks t
  | read {t i : Nat} (hi : i < ns.length) (hk : (nodeAt ns i).k = 4) (ea : (nodeAt ns i).a = t) (h : Der ns ks i) : Der ns ks t
theorem nodeA_lt {ns : List Nd} (hp : poolF ns = true) {i t : Nat} (hi : i < ns.length) (hk : partsF (nodeAt ns i).k = 1 ∨ partsF (nodeAt ns i).k = 2) (ea : (nodeAt ns i).a = t) : t < i := by
  rw [nodeAt_nat hi] at hk ea
  rcases hk with hk | hk
  · obtain ⟨a, e, h⟩ := part_in hp hi hk
    omega
  · obtain ⟨⟨a, e, h⟩, _⟩ := parts_in hp hi hk
    omega
theorem nodeB_lt {ns : List Nd} (hp : poolF ns = true) {i t : Nat} (hi : i < ns.length) (hk : partsF (nodeAt ns i).k = 2) (eb : (nodeAt ns i).b = t) : t < i := by
  rw [nodeAt_nat hi] at hk eb
  obtain ⟨_, b, e, h⟩ := parts_in hp hi hk
  omega
theorem nodeA_nat {ns : List Nd} (hp : poolF ns = true) {i : Nat} (hi : i < ns.length) (hk : partsF (nodeAt ns i).k = 1 ∨ partsF (nodeAt ns i).k = 2) : ∃ a : Nat, (nodeAt ns i).a = a ∧ a < i := by
  rw [nodeAt_nat hi] at hk ⊢
  rcases hk with hk | hk
  · exact part_in hp hi hk
  · exact (parts_in hp hi hk).1
theorem nodeB_nat {ns : List Nd} (hp : poolF ns = true) {i : Nat} (hi : i < ns.length) (hk : partsF (nodeAt ns i).k = 2) : ∃ b : Nat, (nodeAt ns i).b = b ∧ b < i := by
  rw [nodeAt_nat hi] at hk ⊢
  exact (parts_in hp hi hk).2
/-- What is derived is a term. -/
theorem Der.lt {ns : List Nd} {ks : List Int} (hp : poolF ns = true) (hks : ∀ x ∈ ks, hasF ns.length x = true) {t : Nat} (h : Der ns ks t) : t < ns.length := by
  induction h with
  | know h => obtain ⟨j, e, hj⟩ := hasN (hks _ h); omega
  | pub ht _ _ => exact ht
  | make1 ht _ _ _ _ => exact ht
  | make2 ht _ _ _ _ _ _ _ => exact ht
  | shareA ht _ _ _ _ _ _ _ _ => exact ht
  | shareB ht _ _ _ _ _ _ _ _ => exact ht
  | left hi hk ea _ _ => have := nodeA_lt hp hi (by rw [hk]; exact .inr rfl) ea; omega
  | right hi hk eb _ _ => have := nodeB_lt hp hi (by rw [hk]; rfl) eb; omega
  | opens hi hk ea _ _ _ _ _ => have := nodeA_lt hp hi (by rw [hk]; exact .inr rfl) ea; omega
  | read hi hk ea _ _ => have := nodeA_lt hp hi (by rw [hk]; exact .inr rfl) ea; omega
theorem termAt_on {ss : List Sp} {i : Nat} {k : Int} (h : 0 ≤ termAt ss i k ∨ ¬ termAt ss i k < 0) : ∃ j : Nat, k = j ∧ j < i ∧ termAt ss i k = (spAt ss j).t := by
  have e : inF k 0 ((i : Int) - 1) = true := by
    cases hc : inF k 0 ((i : Int) - 1) with
    | true => rfl
    | false =>
      have e2 : termAt ss i k = -1 := by unfold termAt; rw [if_neg (by simp [hc])]
      omega
  have e2 := e
  simp only [inF, decide_eq_true_eq] at e2
  refine ⟨k.toNat, by omega, by omega, ?_⟩
  unfold termAt
  rw [if_pos e]
/-- What the steps of a proof prove can be derived. -/
theorem proof_Der {ns : List Nd} {ks : List Int} {ss : List Sp} (hp : poolF ns = true) (hpr : ∀ i : Nat, i < ss.length → prF ns ks ss i = true) : ∀ i : Nat, i < ss.length → ∃ t : Nat, (spAt ss i).t = t ∧ t < ns.length ∧ Der ns ks t := by
  intro i
  induction i using Nat.strongRecOn with
  | ind i ih =>
    intro hi
    have h := hpr i hi
    simp only [prF, stepOkF, Bool.and_eq_true, termAt_take (Nat.le_of_lt hi)] at h
    obtain ⟨⟨h1, h2⟩, _⟩ := h
    obtain ⟨t, et, htl⟩ := hasN h1
    refine ⟨t, et, htl, ?_⟩
    simp only [holdsF, Bool.and_eq_true, Bool.not_eq_true', lackF, decide_eq_false_iff_not, not_or, not_and] at h2
    obtain ⟨⟨g1, g2, g3, _, _⟩, h2⟩ := h2
    have key : ∀ k : Int, ¬ termAt ss i k < 0 → ∃ a : Nat, termAt ss i k = a ∧ a < ns.length ∧ Der ns ks a := fun k hk => by
      obtain ⟨j, _, hj, e⟩ := termAt_on (.inr hk)
      obtain ⟨a, ea, hal, hd⟩ := ih j hj (by omega)
      exact ⟨a, by rw [e, ea], hal, hd⟩
    generalize spAt ss i = s at *
    by_cases r1 : s.r = 1
    · simp [ruleF, r1, et, hasK] at h2
      exact .know h2
    by_cases r2 : s.r = 2
    · simp [ruleF, r2, et] at h2
      exact .pub htl h2.1 h2.2
    by_cases r3 : s.r = 3
    · have hn : needsF ns s = partsF (nodeAt ns t).k := by simp [needsF, r3, et]
      simp only [ruleF, r3, et, if_neg (show ¬ (3 : Int) = 1 by omega), if_neg (show ¬ (3 : Int) = 2 by omega), if_true, Bool.and_eq_true, decide_eq_true_eq, Bool.or_eq_true] at h2
      obtain ⟨⟨k1, ea⟩, eb⟩ := h2
      have hpk := parts_kind hp htl
      rw [← nodeAt_nat htl] at hpk
      rcases hpk with k | k | k
      · unfold partsF at k
        rw [if_neg k1] at k
        split at k
        · omega
        · split at k <;> omega
      · obtain ⟨a, e, _, hd⟩ := key _ (g2 (by omega))
        exact .make1 htl k (by rw [← ea, e]) hd
      · obtain ⟨a, e, _, hd⟩ := key _ (g2 (by omega))
        obtain ⟨b, e', _, hd'⟩ := key _ (g3 (by omega))
        exact .make2 htl k (by rw [← ea, e]) (by rw [← eb.resolve_left (by omega), e']) hd hd'
    by_cases r4 : s.r = 4
    · have hn : needsF ns s = 2 := by simp [needsF, r4]
      obtain ⟨a, e, _, hd⟩ := key _ (g2 (by omega))
      obtain ⟨b, e', hbl, hd'⟩ := key _ (g3 (by omega))
      simp only [ruleF, r4, et, e, e', if_neg (show ¬ (4 : Int) = 1 by omega), if_neg (show ¬ (4 : Int) = 2 by omega), if_neg (show ¬ (4 : Int) = 3 by omega), if_true, Bool.and_eq_true, decide_eq_true_eq, Bool.or_eq_true] at h2
      obtain ⟨⟨k8, k7⟩, h⟩ := h2
      have hb0 : (nodeAt ns b).b = 0 := by
        have := (okFrom_all hp hbl).1
        rw [nodeAt_nat hbl] at k7 ⊢
        simp [rightF, k7, partsF] at this
        exact this.2
      have hnb : ∀ c, (nodeAt ns b).a = c → nodeAt ns b = ⟨7, c, 0⟩ := fun c hc => by
        generalize nodeAt ns b = n at k7 hb0 hc
        obtain ⟨nk, na, nb⟩ := n
        simp only at k7 hb0 hc
        rw [k7, hb0, hc]
      rcases h with ⟨h, h'⟩ | ⟨h, h'⟩
      · exact .shareA htl hbl k8 h.symm (hnb _ h') hd hd'
      · exact .shareB htl hbl k8 h.symm (hnb _ h') hd hd'
    by_cases r5 : s.r = 5
    · obtain ⟨a, e, hal, hd⟩ := key _ (g2 (by simp [needsF, r5]))
      simp [ruleF, r5, et, e] at h2
      exact .left hal h2.1 h2.2 hd
    by_cases r6 : s.r = 6
    · obtain ⟨a, e, hal, hd⟩ := key _ (g2 (by simp [needsF, r6]))
      simp [ruleF, r6, et, e] at h2
      exact .right hal h2.1 h2.2 hd
    by_cases r7 : s.r = 7
    · obtain ⟨a, e, hal, hd⟩ := key _ (g2 (by simp [needsF, r7]))
      obtain ⟨b, e', hbl, hd'⟩ := key _ (g3 (by simp [needsF, r7]))
      simp [ruleF, r7, et, e, e'] at h2
      exact .opens hal h2.1.1 h2.1.2 h2.2 hd hd'
    · have r8 : s.r = 8 := by
        unfold needsF at g1
        rw [if_neg (by omega), if_neg r3, if_neg (by omega)] at g1
        split at g1 <;> omega
      obtain ⟨a, e, hal, hd⟩ := key _ (g2 (by simp [needsF, r8]))
      simp [ruleF, r8, et, e] at h2
      exact .read hal h2.1 h2.2 hd
/-! ### All steps -/
theorem passGo_st {ns : List Nd} {ks : List Int} : ∀ (n t : Nat) (st : List Int) (out : List Sp) (m : Bool), out.length ≤ (passGo ns ks n t st out m).2.1.length ∧ ((passGo ns ks n t st out m).2.2 = true → m = true ∨ out.length < (passGo ns ks n t st out m).2.1.length) ∧
    ((passGo ns ks n t st out m).2.2 = false → m = false ∧ (passGo ns ks n t st out m).1 = st ∧ (passGo ns ks n t st out m).2.1 = out ∧ ∀ j : Nat, t ≤ j → j < t + n → ¬ 0 ≤ sv st j → stepF ns ks st j = none)
  | 0, t, st, out, m => ⟨Nat.le_refl _, fun h => .inl h, fun h => ⟨h, rfl, rfl, fun j h1 h2 => by omega⟩⟩
  | n + 1, t, st, out, m => by
    unfold passGo
    split
    · rename_i g
      obtain ⟨h1, h2, h3⟩ := @passGo_st ns ks n (t + 1) st out m
      refine ⟨h1, h2, fun h => ?_⟩
      obtain ⟨a, b, c, d⟩ := h3 h
      refine ⟨a, b, c, fun j h4 h5 h6 => ?_⟩
      rcases Nat.lt_or_ge t j with u | u
      · exact d j u (by omega) h6
      · have : j = t := by omega
        subst this
        exact absurd g h6
    · split
      · rename_i s e
        obtain ⟨h1, h2, h3⟩ := @passGo_st ns ks n (t + 1) (st.set t out.length) (out ++ [s]) true
        simp only [List.length_append, List.length_singleton] at h1
        refine ⟨by omega, fun _ => .inr (by omega), fun h => ?_⟩
        exact absurd (h3 h).1 (by simp)
      · rename_i e
        obtain ⟨h1, h2, h3⟩ := @passGo_st ns ks n (t + 1) st out m
        refine ⟨h1, h2, fun h => ?_⟩
        obtain ⟨a, b, c, d⟩ := h3 h
        refine ⟨a, b, c, fun j h4 h5 h6 => ?_⟩
        rcases Nat.lt_or_ge t j with u | u
        · exact d j u (by omega) h6
        · have : j = t := by omega
          subst this
          exact e
/-- At the end no term has a step more. -/
theorem allGo_stuck {ns : List Nd} {ks : List Int} : ∀ (n : Nat) (st : List Int) (out : List Sp), st.length = ns.length → out.length + negs st = ns.length → negs st < n →
    (allGo ns ks n st out).1.length = ns.length ∧ (allGo ns ks n st out).2.length + negs (allGo ns ks n st out).1 = ns.length ∧ ∀ j : Nat, j < ns.length → ¬ 0 ≤ sv (allGo ns ks n st out).1 j → stepF ns ks (allGo ns ks n st out).1 j = none
  | 0, st, out, _, _, h => absurd h (Nat.not_lt_zero _)
  | n + 1, st, out, h1, h2, h3 => by
    have hl := passGo_len ns ks ns.length 0 st out false (by omega) h1 h2
    obtain ⟨g1, g2, g3⟩ := @passGo_st ns ks ns.length 0 st out false
    unfold allGo
    split
    · rename_i e
      have := (g2 e).resolve_left (by simp)
      exact allGo_stuck n _ _ hl.1 hl.2 (by omega)
    · rename_i e
      obtain ⟨_, e1, e2, e3⟩ := g3 (by simpa using e)
      refine ⟨hl.1, hl.2, ?_⟩
      simp only
      rw [e1]
      exact fun j hj => e3 j (Nat.zero_le _) (by omega)
theorem upGo_none {ns : List Nd} {st : List Int} {r t : Int} : ∀ {n i : Nat}, upGo ns st r t n i = none → ∀ j : Nat, i ≤ j → j < i + n → upOk ns st r t j = false
  | 0, i, _, j, h1, h2 => by omega
  | n + 1, i, h, j, h1, h2 => by
    unfold upGo at h
    split at h
    · exact absurd h (by simp)
    · rename_i e
      rcases Nat.lt_or_ge i j with u | u
      · exact upGo_none h j u (by omega)
      · have : j = i := by omega
        subst this
        simpa using e
theorem or_none {α : Type} {a b : Option α} (h : a.or b = none) : a = none ∧ b = none := by cases a <;> simp_all
/-- Where no term has a step more, what can be derived has one. -/
theorem stuck_Der {ns : List Nd} {ks st : List Int} (hp : poolF ns = true) (hks : ∀ x ∈ ks, hasF ns.length x = true) (hst : ∀ j : Nat, j < ns.length → ¬ 0 ≤ sv st j → stepF ns ks st j = none) {t : Nat} (h : Der ns ks t) : 0 ≤ sv st t := by
  have key : ∀ t : Nat, t < ns.length → (¬ 0 ≤ sv st t → ¬ ((t : Int) ∈ ks) ∧ ¬ ((nodeAt ns t).k = 1 ∧ pubF (nodeAt ns t).a = true) ∧ madeF ns st t = none ∧ shareF ns st t = none ∧ ∀ r : Int, r = 5 ∨ r = 6 ∨ r = 7 ∨ r = 8 → upF ns st r t = none) := fun t ht hn => by
    have e := hst t ht hn
    unfold stepF at e
    split at e
    · simp at e
    · rename_i e1
      split at e
      · simp at e
      · rename_i e2
        obtain ⟨e3, e4⟩ := or_none e
        unfold restF at e4
        obtain ⟨e5, e6⟩ := or_none e4
        obtain ⟨e7, e8⟩ := or_none e6
        obtain ⟨e9, e10⟩ := or_none e8
        obtain ⟨e11, e12⟩ := or_none e10
        refine ⟨fun q => e1 (by simpa [hasK] using q), e2, e3, e5, ?_⟩
        rintro r (rfl | rfl | rfl | rfl) <;> assumption
  have up : ∀ (r : Int) (t i : Nat), t < i → i < ns.length → upF ns st r t = none → upOk ns st r t i = false := fun r t i h1 h2 h3 => by
    unfold upF at h3
    have e : ((t : Nat) : Int).toNat = t := rfl
    rw [e] at h3
    exact upGo_none h3 i h1 (by omega)
  induction h with
  | @know t h =>
    obtain ⟨j, e, hj⟩ := hasN (hks _ h)
    exact Classical.byContradiction fun hn => (key t (by omega) hn).1 h
  | @pub t ht hk h => exact Classical.byContradiction fun hn => (key t ht hn).2.1 ⟨hk, h⟩
  | @make1 t a ht hk ea h ih =>
    refine Classical.byContradiction fun hn => ?_
    have := (key t ht hn).2.2.1
    unfold madeF at this
    rw [if_pos hk, ea, if_pos ih] at this
    simp at this
  | @make2 t a b ht hk ea eb h g ih ih2 =>
    refine Classical.byContradiction fun hn => ?_
    have := (key t ht hn).2.2.1
    unfold madeF at this
    rw [if_neg (by omega), if_pos hk, ea, eb, if_pos ⟨ih, ih2⟩] at this
    simp at this
  | @shareA t a x ht hx hk ea ex h g ih ih2 =>
    refine Classical.byContradiction fun hn => ?_
    have := (key t ht hn).2.2.2.1
    have hf := findF_of hp hx
    rw [ex] at hf
    unfold shareF at this
    rw [if_neg (by omega), if_pos (by rw [ea, hf]; exact ⟨ih, by omega, ih2⟩)] at this
    simp at this
  | @shareB t b x ht hx hk eb ex h g ih ih2 =>
    refine Classical.byContradiction fun hn => ?_
    have := (key t ht hn).2.2.2.1
    have hf := findF_of hp hx
    rw [ex] at hf
    unfold shareF at this
    rw [if_neg (by omega)] at this
    split at this
    · simp at this
    · rw [if_pos (by rw [eb, hf]; exact ⟨ih, by omega, ih2⟩)] at this
      simp at this
  | @left t i hi hk ea h ih =>
    refine Classical.byContradiction fun hn => ?_
    have hlt := nodeA_lt hp hi (by rw [hk]; exact .inr rfl) ea
    have := up 5 t i hlt hi ((key t (by omega) hn).2.2.2.2 5 (by omega))
    simp [upOk, ih, hk, ea] at this
  | @right t i hi hk eb h ih =>
    refine Classical.byContradiction fun hn => ?_
    have hlt := nodeB_lt hp hi (by rw [hk]; rfl) eb
    have := up 6 t i hlt hi ((key t (by omega) hn).2.2.2.2 6 (by omega))
    simp [upOk, ih, hk, eb] at this
  | @opens t i y hi hk ea eb h g ih ih2 =>
    refine Classical.byContradiction fun hn => ?_
    have hlt := nodeA_lt hp hi (by rw [hk]; exact .inr rfl) ea
    have := up 7 t i hlt hi ((key t (by omega) hn).2.2.2.2 7 (by omega))
    simp [upOk, ih, hk, ea, eb, ih2] at this
  | @read t i hi hk ea h ih =>
    refine Classical.byContradiction fun hn => ?_
    have hlt := nodeA_lt hp hi (by rw [hk]; exact .inr rfl) ea
    have := up 8 t i hlt hi ((key t (by omega) hn).2.2.2.2 8 (by omega))
    simp [upOk, ih, hk, ea] at this
/-- All steps: those of the terms that can be derived, and their number. -/
theorem allV_spec {ns : List Nd} {ks : List Int} (hp : poolF ns = true) (hks : ∀ x ∈ ks, hasF ns.length x = true) : ∃ st : List Int, st.length = ns.length ∧ (allV ns ks).length + negs st = ns.length ∧ (∀ t : Nat, t < ns.length → (0 ≤ sv st t ↔ Der ns ks t)) ∧
    (∀ t : Nat, t < ns.length → (0 ≤ sv st t ↔ ∃ i : Nat, i < (allV ns ks).length ∧ (spAt (allV ns ks) i).t = t)) := by
  have I := allV_inv ks hp
  obtain ⟨h1, h2, h3⟩ := @allGo_stuck ns ks (ns.length + 1) (List.replicate ns.length (-1)) [] (by simp) (by simp [negs_rep]) (by rw [negs_rep]; omega)
  refine ⟨(allGo ns ks (ns.length + 1) (List.replicate ns.length (-1)) []).1, h1, h2, ?_, ?_⟩
  · intro t ht
    refine ⟨fun h => ?_, fun h => stuck_Der hp hks h3 h⟩
    have hts : t < (allGo ns ks (ns.length + 1) (List.replicate ns.length (-1)) []).1.length := by rw [h1]; exact ht
    rw [sv_nat hts] at h
    obtain ⟨i, hi, _, e⟩ := I.idx t hts h
    obtain ⟨t', e2, _, hd⟩ := proof_Der hp I.ok i hi
    rw [spAt_lt hi, e] at e2
    have : t = t' := by omega
    rw [this]
    exact hd
  · intro t ht
    have hts : t < (allGo ns ks (ns.length + 1) (List.replicate ns.length (-1)) []).1.length := by rw [h1]; exact ht
    rw [sv_nat hts]
    constructor
    · intro h
      obtain ⟨i, hi, _, e⟩ := I.idx t hts h
      exact ⟨i, hi, by rw [spAt_lt hi, e]⟩
    · rintro ⟨i, hi, e⟩
      refine Classical.byContradiction fun hn => ?_
      refine I.neg t hts (by omega) (spAt (allV ns ks) i) ?_ e
      rw [spAt_lt hi]
      exact List.getElem_mem hi
end Go.Proofs.Ytcfgiffgahdlbaa.C

set_option linter.unusedVariables false
set_option linter.unusedSimpArgs false
namespace Go.Proofs.Ytcfgiffgahdlbaa.C
/-! ### Sorted lists of numbers -/
abbrev Srt (xs : List Int) : Prop := xs.Pairwise (· < ·)
theorem putGo_true (t : Int) : ∀ xs : List Int, putGo t xs true = xs
  | [] => rfl
  | x :: xs => by
    unfold putGo
    rw [if_neg (by simp), putGo_true t xs]
theorem putF_in {ks : List Int} {t : Int} (h : t ∈ ks) : putF ks t = ks := by
  unfold putF
  rw [show hasK ks t = true by simpa [hasK] using h, putGo_true]
theorem putGo_mem {t x : Int} : ∀ {xs : List Int}, x ∈ putGo t xs false → x = t ∨ x ∈ xs
  | [], h => by simp [putGo] at h; exact .inl h
  | y :: ys, h => by
    unfold putGo at h
    split at h
    · rw [putGo_true] at h
      rcases List.mem_cons.1 h with h | h
      · exact .inl h
      · exact .inr h
    · rcases List.mem_cons.1 h with h | h
      · exact .inr (by simp [h])
      · exact (putGo_mem h).imp id (fun h => by simp [h])
theorem putGo_srt {t : Int} : ∀ {xs : List Int}, Srt xs → t ∉ xs → Srt (putGo t xs false)
  | [], _, _ => by simp [putGo]
  | y :: ys, h, hn => by
    obtain ⟨h1, h2⟩ := List.pairwise_cons.1 h
    unfold putGo
    split
    · rename_i g
      rw [putGo_true]
      refine List.pairwise_cons.2 ⟨fun z hz => ?_, h⟩
      rcases List.mem_cons.1 hz with e | e
      · omega
      · have := h1 z e; omega
    · rename_i g
      have hne : t ≠ y := fun e => hn (by simp [e])
      refine List.pairwise_cons.2 ⟨fun z hz => ?_, putGo_srt h2 (fun e => hn (by simp [e]))⟩
      rcases putGo_mem hz with e | e
      · simp at g; omega
      · exact h1 z e
theorem putF_srt {ks : List Int} {t : Int} (h : Srt ks) : Srt (putF ks t) := by
  by_cases g : t ∈ ks
  · rw [putF_in g]; exact h
  · unfold putF
    rw [show hasK ks t = false by simpa [hasK] using g]
    exact putGo_srt h g
theorem putGo_one (t : Int) : ∀ xs : List Int, (putGo t xs false).length = xs.length + 1
  | [] => rfl
  | y :: ys => by
    unfold putGo
    split
    · rw [putGo_true]; simp
    · simp [putGo_one t ys]
theorem putF_len_in {ks : List Int} {t : Int} (h : (putF ks t).length ≤ ks.length) : t ∈ ks := by
  refine Classical.byContradiction fun g => ?_
  unfold putF at h
  rw [show hasK ks t = false by simpa [hasK] using g, putGo_one] at h
  omega
theorem srt_get {xs : List Int} (h : Srt xs) {i j : Nat} (hij : i < j) (hj : j < xs.length) : xs[i] < xs[j] := List.pairwise_iff_getElem.1 h i j (by omega) hj hij
theorem srt_of {xs : List Int} (h : ∀ i : Nat, ∀ hi : i + 1 < xs.length, xs[i] < xs[i + 1]) : Srt xs := by
  refine List.pairwise_iff_getElem.2 fun i j hi hj hij => ?_
  induction j with
  | zero => omega
  | succ j ih =>
    rcases Nat.lt_or_ge i j with g | g
    · exact Int.lt_trans (ih (by omega) g) (h j hj)
    · have : i = j := by omega
      subst this
      exact h i hj
theorem srt_ge {xs : List Int} (h : Srt xs) (h0 : ∀ x ∈ xs, 0 ≤ x) : ∀ (i : Nat) (hi : i < xs.length), (i : Int) ≤ xs[i]
  | 0, hi => h0 _ (List.getElem_mem hi)
  | i + 1, hi => by
    have := srt_ge h h0 i (by omega)
    have := srt_get h (show i < i + 1 by omega) hi
    omega
theorem srt_len {xs : List Int} {m : Nat} (h : Srt xs) (hm : ∀ x ∈ xs, hasF m x = true) : xs.length ≤ m := by
  refine Classical.byContradiction fun g => ?_
  have hl : xs.length - 1 < xs.length := by omega
  have h1 := srt_ge h (fun x hx => by obtain ⟨j, e, _⟩ := hasN (hm x hx); omega) (xs.length - 1) hl
  obtain ⟨j, e, hj⟩ := hasN (hm _ (List.getElem_mem hl))
  omega
theorem kpF_iff {ns : List Nd} {ks : List Int} : kpF ns ks = true ↔ poolF ns = true ∧ (∀ x ∈ ks, hasF ns.length x = true) ∧ Srt ks ∧ ks.length ≤ 200 := by
  constructor
  · intro h
    refine ⟨kpF_pool h, kpF_mem h, srt_of fun i hi => ?_, kpF_len h⟩
    simp only [kpF, knowF, Bool.and_eq_true] at h
    have := allF_all' h.2.1 hi
    simp only [kn, Bool.and_eq_true, Bool.or_eq_true, decide_eq_true_eq] at this
    have h2 := this.2.resolve_left (by omega)
    have hi' : i < ks.length := by omega
    simpa [hi, hi'] using h2
  · rintro ⟨h1, h2, h3, h4⟩
    simp only [kpF, knowF, Bool.and_eq_true, decide_eq_true_eq]
    refine ⟨h1, allF_of fun i hi => ?_, h4⟩
    simp only [kn, Bool.and_eq_true, Bool.or_eq_true, decide_eq_true_eq]
    refine ⟨by simpa [hi] using h2 _ (List.getElem_mem hi), ?_⟩
    rcases Nat.eq_zero_or_pos i with e | e
    · exact .inl e
    · right
      have hi' : i - 1 < ks.length := by omega
      have := srt_get h3 (show i - 1 < i by omega) hi
      simpa [hi, hi'] using this
/-! ### Opening -/
theorem stepO_srt {ns : List Nd} {mk : List Bool} {out : List Int} {t : Int} (h : Srt out) : Srt (stepO ns mk out t) := by
  unfold stepO
  split
  · exact putF_srt (putF_srt h)
  · split
    · exact putF_srt h
    · exact h
theorem foldO_srt {ns : List Nd} {mk : List Bool} : ∀ {xs out : List Int}, Srt out → Srt (xs.foldl (stepO ns mk) out)
  | [], out, h => h
  | x :: xs, out, h => foldO_srt (xs := xs) (stepO_srt h)
theorem onceV_srt {ns : List Nd} {ks : List Int} (h : Srt ks) : Srt (onceV ns ks) := foldO_srt h
theorem onceV_kp {ns : List Nd} {ks : List Int} (h : kpF ns ks = true) (hl : (onceV ns ks).length ≤ 200) : kpF ns (onceV ns ks) = true := by
  obtain ⟨h1, h2, h3, h4⟩ := kpF_iff.1 h
  exact kpF_iff.2 ⟨h1, onceV_mem h1 h2, onceV_srt h3, hl⟩
/-- Nothing more is opened. -/
def Shut (ns : List Nd) (ks os : List Int) : Prop := ∀ x ∈ ks, ((nodeAt ns x).k = 2 → (nodeAt ns x).a ∈ os ∧ (nodeAt ns x).b ∈ os) ∧ ((nodeAt ns x).k = 4 → (nodeAt ns x).a ∈ os) ∧ ((nodeAt ns x).k = 3 → bv (mkUp ns ks ns.length) (nodeAt ns x).b = true → (nodeAt ns x).a ∈ os)
theorem stepO_len' (ns : List Nd) (mk : List Bool) (out : List Int) (t : Int) : out.length ≤ (stepO ns mk out t).length := by
  unfold stepO
  split
  · have h1 := putF_len out (nodeAt ns t).a
    have h2 := putF_len (putF out (nodeAt ns t).a) (nodeAt ns t).b
    omega
  · split
    · exact (putF_len out _).1
    · exact Nat.le_refl _
theorem stepO_same {ns : List Nd} {mk : List Bool} {out : List Int} {t : Int} (h : (stepO ns mk out t).length ≤ out.length) : stepO ns mk out t = out := by
  unfold stepO at h ⊢
  split at h
  · rename_i g
    rw [if_pos g]
    have h1 := putF_len out (nodeAt ns t).a
    have h2 := putF_len (putF out (nodeAt ns t).a) (nodeAt ns t).b
    have e1 := putF_in (putF_len_in (show (putF out (nodeAt ns t).a).length ≤ out.length by omega))
    rw [e1] at h ⊢
    exact putF_in (putF_len_in h)
  · rename_i g
    rw [if_neg g]
    split at h
    · rename_i g2
      rw [if_pos g2]
      exact putF_in (putF_len_in h)
    · rename_i g2
      rw [if_neg g2]
theorem foldO_same {ns : List Nd} {mk : List Bool} : ∀ {xs out : List Int}, (xs.foldl (stepO ns mk) out).length ≤ out.length → ∀ x ∈ xs, stepO ns mk out x = out
  | [], out, _, x, hx => by simp at hx
  | y :: ys, out, h, x, hx => by
    simp only [List.foldl_cons] at h
    have h1 := foldO_len ns mk ys (stepO ns mk out y)
    have h2 := stepO_len' ns mk out y
    have e := stepO_same (show (stepO ns mk out y).length ≤ out.length by omega)
    rw [e] at h
    rcases List.mem_cons.1 hx with g | g
    · rw [g]; exact e
    · exact foldO_same h x g
theorem stepO_shut {ns : List Nd} {mk : List Bool} {out : List Int} {x : Int} : ((nodeAt ns x).k = 2 → (nodeAt ns x).a ∈ stepO ns mk out x ∧ (nodeAt ns x).b ∈ stepO ns mk out x) ∧ ((nodeAt ns x).k = 4 → (nodeAt ns x).a ∈ stepO ns mk out x) ∧ ((nodeAt ns x).k = 3 → bv mk (nodeAt ns x).b = true → (nodeAt ns x).a ∈ stepO ns mk out x) := by
  refine ⟨fun h => ?_, fun h => ?_, fun h g => ?_⟩
  · unfold stepO
    rw [if_pos h]
    exact ⟨putF_mem.2 (.inr (putF_mem.2 (.inl rfl))), putF_mem.2 (.inl rfl)⟩
  · unfold stepO
    rw [if_neg (by omega), if_pos (.inl h)]
    exact putF_mem.2 (.inl rfl)
  · unfold stepO
    rw [if_neg (by omega), if_pos (.inr ⟨h, g⟩)]
    exact putF_mem.2 (.inl rfl)
theorem onceV_shut {ns : List Nd} {ks : List Int} (h : (onceV ns ks).length ≤ ks.length) : Shut ns ks ks := by
  intro x hx
  have e := foldO_same h x hx
  have := @stepO_shut ns (mkUp ns ks ns.length) ks x
  rw [e] at this
  exact this
theorem Mk_Der {ns : List Nd} {ks os : List Int} (ho : ∀ t : Nat, (t : Int) ∈ os → Der ns ks t) {t : Nat} (h : Mk ns os t) : Der ns ks t := by
  induction h with
  | know h => exact ho _ h
  | pub ht hk h => exact .pub ht hk h
  | make1 ht hk ea _ ih => exact .make1 ht hk ea ih
  | make2 ht hk ea eb _ _ ih ih2 => exact .make2 ht hk ea eb ih ih2
  | shareA ht hx hk ea ex _ _ ih ih2 => exact .shareA ht hx hk ea ex ih ih2
  | shareB ht hx hk eb ex _ _ ih ih2 => exact .shareB ht hx hk eb ex ih ih2
theorem bv_Mk {ns : List Nd} (hp : poolF ns = true) {ks : List Int} {b : Nat} (hb : b < ns.length) : bv (mkUp ns ks ns.length) b = true ↔ Mk ns ks b := by rw [bv_mkUp hb]; exact mkv_Mk hp hb
theorem stepO_Der {ns : List Nd} (hp : poolF ns = true) {k0 ks out : List Int} (hd : ∀ t : Nat, (t : Int) ∈ ks → Der ns k0 t) (ho : ∀ t : Nat, (t : Int) ∈ out → Der ns k0 t) {x : Nat} (hx : x < ns.length) (hxk : (x : Int) ∈ ks) : ∀ t : Nat, (t : Int) ∈ stepO ns (mkUp ns ks ns.length) out x → Der ns k0 t := by
  intro t ht
  have dx := hd x hxk
  unfold stepO at ht
  split at ht
  · rename_i k
    rcases putF_mem.1 ht with e | ht
    · exact .right hx k e.symm dx
    · rcases putF_mem.1 ht with e | ht
      · exact .left hx k e.symm dx
      · exact ho t ht
  · split at ht
    · rename_i g
      rcases putF_mem.1 ht with e | ht
      · rcases g with g | ⟨g, g2⟩
        · exact .read hx g e.symm dx
        · obtain ⟨b, eb, hb⟩ := nodeB_nat hp hx (by rw [g]; rfl)
          rw [eb] at g2
          exact .opens hx g e.symm eb dx (Mk_Der hd ((bv_Mk hp (by omega)).1 g2))
      · exact ho t ht
    · exact ho t ht
theorem foldO_Der {ns : List Nd} (hp : poolF ns = true) {k0 ks : List Int} (hm : ∀ x ∈ ks, hasF ns.length x = true) (hd : ∀ t : Nat, (t : Int) ∈ ks → Der ns k0 t) : ∀ {xs out : List Int}, (∀ x ∈ xs, x ∈ ks) → (∀ t : Nat, (t : Int) ∈ out → Der ns k0 t) → ∀ t : Nat, (t : Int) ∈ xs.foldl (stepO ns (mkUp ns ks ns.length)) out → Der ns k0 t
  | [], out, _, ho => ho
  | x :: xs, out, hx, ho => by
    obtain ⟨j, rfl, hj⟩ := hasN (hm x (hx x (by simp)))
    exact foldO_Der hp hm hd (xs := xs) (fun y hy => hx y (by simp [hy])) (stepO_Der hp hd ho hj (hx _ (by simp)))
theorem onceV_Der {ns : List Nd} (hp : poolF ns = true) {k0 ks : List Int} (hm : ∀ x ∈ ks, hasF ns.length x = true) (hd : ∀ t : Nat, (t : Int) ∈ ks → Der ns k0 t) : ∀ t : Nat, (t : Int) ∈ onceV ns ks → Der ns k0 t := foldO_Der hp hm hd (fun x hx => hx) hd
theorem foldO_sub {ns : List Nd} {mk : List Bool} : ∀ {xs out : List Int} {x : Int}, x ∈ out → x ∈ xs.foldl (stepO ns mk) out
  | [], out, x, h => h
  | y :: ys, out, x, h => foldO_sub (xs := ys) (by
      unfold stepO
      split
      · exact putF_mem.2 (.inr (putF_mem.2 (.inr h)))
      · split
        · exact putF_mem.2 (.inr h)
        · exact h)
theorem onceV_sub {ns : List Nd} {ks : List Int} {x : Int} (h : x ∈ ks) : x ∈ onceV ns ks := foldO_sub h
/-- A pool in which opening stays within what may be known. -/
def Meek (ns : List Nd) : Prop := ns.length ≤ 200 ∨ ∀ n ∈ ns, n.k = 1 ∨ n.k = 5
theorem onceV_meek {ns : List Nd} (hm : Meek ns) {ks : List Int} (h : kpF ns ks = true) : (onceV ns ks).length ≤ 200 := by
  obtain ⟨h1, h2, h3, h4⟩ := kpF_iff.1 h
  rcases hm with g | g
  · exact Nat.le_trans (srt_len (onceV_srt h3) (onceV_mem h1 h2)) g
  · have e : ∀ x ∈ ks, ∀ out mk, stepO ns mk out x = out := fun x hx out mk => by
      obtain ⟨j, rfl, hj⟩ := hasN (h2 x hx)
      have := g _ (List.getElem_mem hj)
      rw [← nodeAt_nat hj] at this
      unfold stepO
      rw [if_neg (by omega), if_neg (by omega)]
    have e2 : ∀ (xs out : List Int) (mk : List Bool), (∀ x ∈ xs, x ∈ ks) → xs.foldl (stepO ns mk) out = out := fun xs => by
      induction xs with
      | nil => intro out mk _; rfl
      | cons y ys ih =>
        intro out mk hx
        rw [List.foldl_cons, e y (hx y (by simp))]
        exact ih out mk fun z hz => hx z (by simp [hz])
    unfold onceV
    rw [e2 ks ks _ fun x hx => hx]
    exact h4
/-- What is opened as a whole. -/
structure Opn (ns : List Nd) (k0 os : List Int) : Prop where
  kp : kpF ns os = true
  sub : ∀ x ∈ k0, x ∈ os
  der : ∀ t : Nat, (t : Int) ∈ os → Der ns k0 t
theorem allO_spec {ns : List Nd} (hm : Meek ns) {k0 : List Int} : ∀ (n : Nat) (out : List Int) (t : Nat), Opn ns k0 out → 201 ≤ out.length + n → Opn ns k0 (allO ns n out t).1 ∧ Shut ns (allO ns n out t).1 (allO ns n out t).1
  | 0, out, t, h, hn => by have := kpF_len h.kp; omega
  | n + 1, out, t, h, hn => by
    have hl := onceV_meek hm h.kp
    obtain ⟨h1, h2, h3, h4⟩ := kpF_iff.1 h.kp
    have hge := onceV_len ns out
    unfold allO
    split
    · rename_i g
      exact allO_spec hm n _ _ ⟨onceV_kp h.kp hl, fun x hx => onceV_sub (h.sub x hx), onceV_Der h1 h2 h.der⟩ (by omega)
    · rename_i g
      have e : (onceV ns out).length = out.length := Classical.byContradiction fun e => g ⟨hl, e⟩
      exact ⟨h, onceV_shut (Nat.le_of_eq e)⟩
theorem openV_spec {ns : List Nd} (hm : Meek ns) {ks : List Int} (h : kpF ns ks = true) : Opn ns ks (openV ns ks).1 ∧ Shut ns (openV ns ks).1 (openV ns ks).1 := allO_spec hm 201 ks 0 ⟨h, fun x hx => hx, fun t ht => .know ht⟩ (by omega)
/-- Where nothing more is opened, what can be derived can be made. -/
theorem Der_Mk {ns : List Nd} {k0 os : List Int} (O : Opn ns k0 os) (S : Shut ns os os) {t : Nat} (h : Der ns k0 t) : Mk ns os t := by
  obtain ⟨hp, hm, _, _⟩ := kpF_iff.1 O.kp
  induction h with
  | know h => exact .know (O.sub _ h)
  | pub ht hk h => exact .pub ht hk h
  | make1 ht hk ea _ ih => exact .make1 ht hk ea ih
  | make2 ht hk ea eb _ _ ih ih2 => exact .make2 ht hk ea eb ih ih2
  | shareA ht hx hk ea ex _ _ ih ih2 => exact .shareA ht hx hk ea ex ih ih2
  | shareB ht hx hk eb ex _ _ ih ih2 => exact .shareB ht hx hk eb ex ih ih2
  | @left t i hi hk ea h ih =>
    cases ih with
    | know h => exact .know (by rw [← ea]; exact ((S _ h).1 hk).1)
    | pub _ k _ => omega
    | make1 _ k _ _ => rw [hk] at k; simp [partsF] at k
    | make2 _ _ ea' _ h _ => rw [Int.ofNat_inj.1 (ea.symm.trans ea')]; exact h
    | shareA _ _ k _ _ _ _ => omega
    | shareB _ _ k _ _ _ _ => omega
  | @right t i hi hk eb h ih =>
    cases ih with
    | know h => exact .know (by rw [← eb]; exact ((S _ h).1 hk).2)
    | pub _ k _ => omega
    | make1 _ k _ _ => rw [hk] at k; simp [partsF] at k
    | make2 _ _ _ eb' _ h => rw [Int.ofNat_inj.1 (eb.symm.trans eb')]; exact h
    | shareA _ _ k _ _ _ _ => omega
    | shareB _ _ k _ _ _ _ => omega
  | @opens t i y hi hk ea eb h g ih ih2 =>
    cases ih with
    | know h =>
      have hy := nodeB_lt hp hi (by rw [hk]; rfl) eb
      exact .know (by rw [← ea]; exact (S _ h).2.2 hk (by rw [eb]; exact (bv_Mk hp (by omega)).2 ih2))
    | pub _ k _ => omega
    | make1 _ k _ _ => rw [hk] at k; simp [partsF] at k
    | make2 _ _ ea' _ h _ => rw [Int.ofNat_inj.1 (ea.symm.trans ea')]; exact h
    | shareA _ _ k _ _ _ _ => omega
    | shareB _ _ k _ _ _ _ => omega
  | @read t i hi hk ea h ih =>
    cases ih with
    | know h => exact .know (by rw [← ea]; exact (S _ h).2.1 hk)
    | pub _ k _ => omega
    | make1 _ k _ _ => rw [hk] at k; simp [partsF] at k
    | make2 _ _ ea' _ h _ => rw [Int.ofNat_inj.1 (ea.symm.trans ea')]; exact h
    | shareA _ _ k _ _ _ _ => omega
    | shareB _ _ k _ _ _ _ => omega
/-- What is listed as derived. -/
theorem derF_mem {ns : List Nd} (hm : Meek ns) {ks : List Int} (h : kpF ns ks = true) {x : Int} : x ∈ derF ns ks ↔ ∃ t : Nat, x = t ∧ t < ns.length ∧ Der ns ks t := by
  obtain ⟨O, S⟩ := openV_spec hm h
  unfold derF
  rw [if_pos h, mlistF_mem O.kp]
  constructor
  · rintro ⟨t, e, h1, h2⟩
    exact ⟨t, e, h1, Mk_Der O.der h2⟩
  · rintro ⟨t, e, h1, h2⟩
    exact ⟨t, e, h1, Der_Mk O S h2⟩
/-- There are as many steps as terms that can be derived. -/
theorem derF_steps {ns : List Nd} (hm : Meek ns) (ks : List Int) : (allSt ns ks).length = (derF ns ks).length ∧ ∀ i : Nat, i < (allSt ns ks).length → (spAt (allSt ns ks) i).t ∈ derF ns ks := by
  by_cases h : kpF ns ks = true
  · obtain ⟨h1, h2, h3, h4⟩ := kpF_iff.1 h
    obtain ⟨O, S⟩ := openV_spec hm h
    obtain ⟨st, e1, e2, e3, e4⟩ := allV_spec h1 h2
    rw [show allSt ns ks = allV ns ks from if_pos h]
    constructor
    · have hmk : mkUp ns (openV ns ks).1 ns.length = st.map fun x => decide (0 ≤ x) := by
        refine List.ext_getElem (by simp [mkUp_len, e1]) fun i hi hi' => ?_
        have hil : i < ns.length := by simpa [mkUp_len] using hi
        rw [mkUp_get, List.getElem_map]
        have k1 := mkv_Mk h1 (ks := (openV ns ks).1) hil
        have k2 := e3 i hil
        rw [sv_nat (by omega)] at k2
        rw [Bool.eq_iff_iff, k1, decide_eq_true_eq, k2]
        exact ⟨fun q => Mk_Der O.der q, fun q => Der_Mk O S q⟩
      have hd : (derF ns ks).length = st.countP fun x => decide (0 ≤ x) := by
        unfold derF
        rw [if_pos h]
        unfold mlistF makesF listF
        rw [if_pos O.kp, listGo_len, hmk, List.countP_map]
        rfl
      have hc : (st.countP fun x => decide (0 ≤ x)) + negs st = st.length := by
        rw [List.length_eq_countP_add_countP (p := fun x => decide (0 ≤ x)) (l := st)]
        congr 1
        unfold negs
        refine List.countP_congr fun x _ => ?_
        simp
      omega
    · intro i hi
      obtain ⟨t, et, htl, hd⟩ := proof_Der h1 (allV_inv ks h1).ok i hi
      rw [et]
      exact (derF_mem hm h).2 ⟨t, rfl, htl, hd⟩
  · simp [allSt, derF, h]
end Go.Proofs.Ytcfgiffgahdlbaa.C

set_option linter.unusedVariables false
set_option linter.unusedSimpArgs false
namespace Go.Proofs.Ytcfgiffgahdlbaa.C
theorem addF_one (ns : List Nd) (n : Nd) : (addF ns n).1.length ≤ ns.length + 1 := by
  rcases addF_cases ns n with h | h
  · rw [h]; omega
  · omega
theorem poolGo_len (bs : List Int) : ∀ (n : Nat) (ns : List Nd) (s : Cu), (poolGo bs n ns s).1.length ≤ ns.length + n
  | 0, ns, s => Nat.le_refl _
  | n + 1, ns, s => by
    have h1 := poolGo_len bs n (addF ns (nodeF bs s ns.length).1).1 (nodeF bs s ns.length).2
    have h2 := addF_one ns (nodeF bs s ns.length).1
    unfold poolGo
    omega
theorem poolD_len (bs : List Int) (s : Cu) : (poolD bs s 24).1.length ≤ 24 := by
  have h := poolGo_len bs (belowF bs s (24 + 1)).1.toNat [] (belowF bs s (24 + 1)).2
  have hi := belowF_in bs s (24 + 1)
  have := hi.2.1 (by omega)
  unfold poolD
  simp only [List.length_nil] at h
  omega
def K15 (ns : List Nd) : Prop := ∀ n ∈ ns, n.k = 1 ∨ n.k = 5
theorem K15_add {ns : List Nd} {n : Nd} (h : K15 ns) (hn : n.k = 1 ∨ n.k = 5) : K15 (addF ns n).1 := by
  unfold addF
  split
  · exact h
  · split
    · exact h
    · split
      · exact h
      · intro x hx
        rcases List.mem_append.1 hx with g | g
        · exact h x g
        · have : x = normN n := by simpa using g
          subst this
          have : (normN n).k = n.k := by unfold normN; split <;> simp_all
          rw [this]; exact hn
theorem K15_fill : ∀ (n : Nat) (ns : List Nd), K15 ns → K15 (fillF n ns)
  | 0, ns, h => h
  | n + 1, ns, h => by
    unfold fillF
    split
    · exact K15_fill n _ (K15_add (K15_add h (.inl rfl)) (.inr rfl))
    · exact h
theorem anyF_meek (bs : List Int) (s : Cu) : Meek (anyF bs s).1 := by
  have hp := poolD_len bs s
  unfold anyF anyEnd
  split
  · have h := fun n => K15_fill n [] (fun n hn => by simp at hn)
    dsimp only
    exact .inr (h 500)
  · left
    unfold anyMid
    split
    · simp; omega
    · split
      · simp; omega
      · simp only; omega
theorem d6_meek (bs : List Int) : Meek (d6 bs).1 := anyF_meek bs ⟨0, newH bs⟩
end Go.Proofs.Ytcfgiffgahdlbaa.C

set_option linter.unusedVariables false
set_option linter.unusedSimpArgs false
namespace Go.Proofs.Ytcfgiffgahdlbaa.C
open Go.Sym Go.Proofs.Ytcfgiffgahdlbaa.I
def In64 (n : Int) : Prop := -9223372036854775808 ≤ n ∧ n < 9223372036854775808
abbrev shI : Sh := .i .i64
abbrev shN : Sh := .st (.p shI (.p shI (.p shI .u)))
abbrev shP : Sh := .st (.p (.sl shN) .u)
abbrev shL : Sh := .st (.p shI (.p shI (.p shI (.p .b .u))))
abbrev shIs : Sh := .sl shI
abbrev shS : Sh := .st (.p shP (.p shIs (.p shL (.p shL (.p shIs (.p shIs .u))))))
theorem fit_i {cs : List A} (h : Fit shI cs) : ∃ n, cs = [i6 n] ∧ In64 n := by
  obtain ⟨n, rfl, hn⟩ := h
  exact ⟨n, rfl, fit_i64 hn⟩
theorem fit_n {cs : List A} (h : Fit shN cs) : ∃ n : Nd, cs = encN n ∧ In64 n.k ∧ In64 n.a ∧ In64 n.b := by
  obtain ⟨x, y, rfl, hx, z, t, rfl, hz, u, w, rfl, hu, rfl⟩ := h
  obtain ⟨a, rfl, ha⟩ := fit_i hx
  obtain ⟨b, rfl, hb⟩ := fit_i hz
  obtain ⟨c, rfl, hc⟩ := fit_i hu
  exact ⟨⟨a, b, c⟩, rfl, ha, hb, hc⟩
theorem fit_p {cs : List A} (h : Fit shP cs) : ∃ ns : List Nd, cs = [.sl ns.length (enc ns)] ∧ ns.length < 9223372036854775808 := by
  obtain ⟨x, y, rfl, hx, rfl⟩ := h
  obtain ⟨ns, rfl, h1, _⟩ := fit_sl (f := encN) (fun r hr => fit_n hr) hx
  exact ⟨ns, by simp [enc], h1⟩
theorem fit_is {cs : List A} (h : Fit shIs cs) : ∃ xs : List Int, cs = [aI xs] ∧ xs.length < 9223372036854775808 := by
  obtain ⟨xs, rfl, h1, _⟩ := fit_sl (f := fun n => [i6 n]) (fun r hr => fit_i hr) h
  exact ⟨xs, by simp only [aI, ints]; rw [List.map_eq_flatMap], h1⟩
structure Lk.fit (l : Lk) : Prop where
  k : In64 l.key
  e : In64 l.epoch
  s : In64 l.seq
theorem fit_l {cs : List A} (h : Fit shL cs) : ∃ l : Lk, cs = [i6 l.key, i6 l.epoch, i6 l.seq, .bool l.over] ∧ l.fit := by
  obtain ⟨x, y, rfl, hx, z, t, rfl, hz, u, w, rfl, hu, b, w, rfl, ⟨o, rfl⟩, rfl⟩ := h
  obtain ⟨a, rfl, ha⟩ := fit_i hx
  obtain ⟨b, rfl, hb⟩ := fit_i hz
  obtain ⟨c, rfl, hc⟩ := fit_i hu
  exact ⟨⟨a, b, c, o⟩, rfl, ha, hb, hc⟩
structure St.fitA (s : St) : Prop where
  p : s.pool.length < 9223372036854775808
  k : s.know.length < 9223372036854775808
  t : s.sent.length < 9223372036854775808
  g : s.got.length < 9223372036854775808
  o : s.out.fit
  i : s.inn.fit
theorem fit_s {cs : List A} (h : Fit shS cs) : ∃ s : St, cs = cS s ∧ s.fitA := by
  obtain ⟨x, y, rfl, hx, z, t, rfl, hz, u, w, rfl, hu, b, w, rfl, hb, e, f, rfl, he, g, i, rfl, hg, rfl⟩ := h
  obtain ⟨ns, rfl, h1⟩ := fit_p hx
  obtain ⟨ks, rfl, h2⟩ := fit_is hz
  obtain ⟨l, rfl, h3⟩ := fit_l hu
  obtain ⟨m, rfl, h4⟩ := fit_l hb
  obtain ⟨ts, rfl, h5⟩ := fit_is he
  obtain ⟨gs, rfl, h6⟩ := fit_is hg
  exact ⟨⟨ns, ks, l, m, ts, gs⟩, rfl, h1, h2, h5, h6, h3, h4⟩
theorem arg_p {x : A} (h : FitA shP x) : ∃ ns : List Nd, x = aP ns ∧ ns.length < 9223372036854775808 := by
  obtain ⟨cs, rfl, h⟩ := h
  obtain ⟨ns, rfl, g⟩ := fit_p h
  exact ⟨ns, rfl, g⟩
theorem arg_l {x : A} (h : FitA shL x) : ∃ l : Lk, x = aL l ∧ l.fit := by
  obtain ⟨cs, rfl, h⟩ := h
  obtain ⟨ns, rfl, g⟩ := fit_l h
  exact ⟨ns, rfl, g⟩
theorem arg_s {x : A} (h : FitA shS x) : ∃ s : St, x = aS s ∧ s.fitA := by
  obtain ⟨cs, rfl, h⟩ := h
  obtain ⟨ns, rfl, g⟩ := fit_s h
  exact ⟨ns, rfl, g⟩
theorem arg_is {x : A} (h : FitA shIs x) : ∃ xs : List Int, x = aI xs ∧ xs.length < 9223372036854775808 := by
  obtain ⟨xs, e, h⟩ := fit_is (show Fit shIs [x] from h)
  exact ⟨xs, by simpa using e, h⟩
theorem arg_i {x : A} (h : FitA shI x) : ∃ n : Int, x = i6 n ∧ In64 n := by
  obtain ⟨n, e, h⟩ := fit_i (show Fit shI [x] from h)
  exact ⟨n, by simpa using e, h⟩
end Go.Proofs.Ytcfgiffgahdlbaa.C

set_option linter.unusedVariables false
set_option linter.unusedSimpArgs false
namespace Go.Proofs.Ytcfgiffgahdlbaa.C
open Go.Sym Go.Proofs.Ytcfgiffgahdlbaa.I
abbrev qblk (ns : List Nd) : Blk := ⟨ns.length, false, 3, enc ns, none⟩
abbrev iblk (xs : List Int) : Blk := ⟨xs.length, false, 1, ints xs, none⟩
abbrev iref (b : Nat) (xs : List Int) : A := .ref b xs.length 0 xs.length
def szF (x : Int) (n : Nat) : Int := if x - n < 0 then -1 else x - n
theorem laws_szNodeS_c (ns : List Nd) (x : Int) (hl : ns.length < 9223372036854775808) (h0 : 0 ≤ x) (h1 : x < 9223372036854775808) : T 35 [.sl ns.length (enc ns), i6 x] [] (i6 (szF x ns.length)) ([]) := by
  refine semT' (S := S0) hm laws_szNodeS_ok (Nat.le_of_ble_eq_true rfl) ?_
  unfold laws_szNodeS; dsimp only
  have hw : IntKind.i64.wrap (x - ns.length) = x - ns.length := wrap64 (by omega) (by omega)
  simp [hw]
  refine br_intro' (fun h => ?_) (fun h => ?_) <;> (have h0 := h) <;> (try simp at h) <;> try simp [h0, h]
  · exact LeV.ro rfl rfl (by simp [szF, h])
  · exact LeV.ro rfl rfl (by simp [szF]; omega)
theorem laws_szNodeS_call {ns : List Nd} {x : Int} (hl : ns.length < 9223372036854775808) (h0 : 0 ≤ x) (h1 : x < 9223372036854775808) {S : FuncId → Bool} {H : List Blk} {K : A → Dl → Prop} (hS : S 35 = false) (hK : K (i6 (szF x ns.length)) (.news [])) : @WCall' Go.Proofs.Try.prog S 35 [.sl ns.length (enc ns), i6 x] H ⟨K⟩ :=
  WCall_pure hS (laws_szNodeS_c ns x hl h0 h1) (by simp) (by simp) (by simp) hK
theorem laws_szNodeS_k {ns : List Nd} {x : Int} (hl : ns.length < 9223372036854775808) (h0 : 0 ≤ x) (h1 : x < 9223372036854775808) {S : FuncId → Bool} {H : List Blk} {K : A → Dl → Prop} {zs : List A} (hS : S 35 = false) (hv : viewL (viewA 8 H) zs = some [.sl ns.length (enc ns), i6 x]) (ho : noOwns zs = true ∨ nosl (i6 (szF x ns.length)) = true) (hK : K (i6 (szF x ns.length)) (.news [])) : @WCall' Go.Proofs.Try.prog S 35 zs H ⟨K⟩ :=
  WCall_pure hS (laws_szNodeS_c ns x hl h0 h1) hv ho (by simp) hK
theorem laws_szPool_c (ns : List Nd) (x : Int) (hl : ns.length < 9223372036854775808) (h0 : 0 ≤ x) (h1 : x < 9223372036854775808) : T 9 [aP ns, i6 x] [] (i6 (szF x ns.length)) ([]) := by
  refine semT' (S := S0) hm laws_szPool_ok (Nat.le_of_ble_eq_true rfl) ?_
  unfold laws_szPool; dsimp only
  simp
  refine laws_szNodeS_call (ns := ns) (x := x) hl h0 h1 rfl ?_; simp
  refine br_intro' (fun h => ?_) (fun h => ?_) <;> (have h0 := h) <;> (try simp at h) <;> try simp [h0, h]
  · exact LeV.ro rfl rfl (by simp [szF] at h ⊢; omega)
  · exact LeV.ro rfl rfl (by simp)
theorem laws_szPool_call {ns : List Nd} {x : Int} (hl : ns.length < 9223372036854775808) (h0 : 0 ≤ x) (h1 : x < 9223372036854775808) {S : FuncId → Bool} {H : List Blk} {K : A → Dl → Prop} (hS : S 9 = false) (hK : K (i6 (szF x ns.length)) (.news [])) : @WCall' Go.Proofs.Try.prog S 9 [aP ns, i6 x] H ⟨K⟩ :=
  WCall_pure hS (laws_szPool_c ns x hl h0 h1) (by simp) (by simp) (by simp) hK
theorem laws_szPool_k {ns : List Nd} {x : Int} (hl : ns.length < 9223372036854775808) (h0 : 0 ≤ x) (h1 : x < 9223372036854775808) {S : FuncId → Bool} {H : List Blk} {K : A → Dl → Prop} {zs : List A} (hS : S 9 = false) (hv : viewL (viewA 8 H) zs = some [aP ns, i6 x]) (ho : noOwns zs = true ∨ nosl (i6 (szF x ns.length)) = true) (hK : K (i6 (szF x ns.length)) (.news [])) : @WCall' Go.Proofs.Try.prog S 9 zs H ⟨K⟩ :=
  WCall_pure hS (laws_szPool_c ns x hl h0 h1) hv ho (by simp) hK
theorem laws_toNode_c (n : Nd)  : T 64 [aN n] [] (aN n) ([]) := by
  refine semT' (S := S0) hm laws_toNode_ok (Nat.le_of_ble_eq_true rfl) ?_
  unfold laws_toNode; dsimp only
  simp
  exact LeV.ro rfl rfl (by simp)
theorem laws_toNode_call {n : Nd}  {S : FuncId → Bool} {H : List Blk} {K : A → Dl → Prop} (hS : S 64 = false) (hK : K (aN n) (.news [])) : @WCall' Go.Proofs.Try.prog S 64 [aN n] H ⟨K⟩ :=
  WCall_pure hS (laws_toNode_c n) (by simp) (by simp) (by simp) hK
theorem laws_toNode_k {n : Nd}  {S : FuncId → Bool} {H : List Blk} {K : A → Dl → Prop} {zs : List A} (hS : S 64 = false) (hv : viewL (viewA 8 H) zs = some [aN n]) (ho : noOwns zs = true ∨ nosl (aN n) = true) (hK : K (aN n) (.news [])) : @WCall' Go.Proofs.Try.prog S 64 zs H ⟨K⟩ :=
  WCall_pure hS (laws_toNode_c n) hv ho (by simp) hK
theorem laws_eqNode_c (n m : Nd)  : T 67 [aN n, aN m] [] (.bool (decide (n = m))) ([]) := by
  refine semT' (S := S0) hm laws_eqNode_ok (Nat.le_of_ble_eq_true rfl) ?_
  unfold laws_eqNode; dsimp only
  simp
  repeat (any_goals (first | (refine br_intro' (fun h => ?_) (fun h => ?_) <;> (have h0 := h) <;> (try simp at h) <;> try simp [h0, h])))
  all_goals exact LeV.ro rfl rfl (by simp [Nd_eq, *])
theorem laws_eqNode_call {n m : Nd}  {S : FuncId → Bool} {H : List Blk} {K : A → Dl → Prop} (hS : S 67 = false) (hK : K (.bool (decide (n = m))) (.news [])) : @WCall' Go.Proofs.Try.prog S 67 [aN n, aN m] H ⟨K⟩ :=
  WCall_pure hS (laws_eqNode_c n m) (by simp) (by simp) (by simp) hK
theorem laws_eqNode_k {n m : Nd}  {S : FuncId → Bool} {H : List Blk} {K : A → Dl → Prop} {zs : List A} (hS : S 67 = false) (hv : viewL (viewA 8 H) zs = some [aN n, aN m]) (ho : noOwns zs = true ∨ nosl (.bool (decide (n = m))) = true) (hK : K (.bool (decide (n = m))) (.news [])) : @WCall' Go.Proofs.Try.prog S 67 zs H ⟨K⟩ :=
  WCall_pure hS (laws_eqNode_c n m) hv ho (by simp) hK
theorem Lk_eq {x y : Lk} : x = y ↔ x.key = y.key ∧ x.epoch = y.epoch ∧ x.seq = y.seq ∧ x.over = y.over := by cases x; cases y; simp
def zN (j : Nat) : List Nd := List.replicate j ⟨0, 0, 0⟩
/-- A copy that is made up to a place. -/
def upN (ns : List Nd) (j : Nat) : List Nd := ns.take j ++ zN (ns.length - j)
theorem upN_len (ns : List Nd) (j : Nat) (h : j ≤ ns.length) : (upN ns j).length = ns.length := by simp [upN, zN]; omega
theorem upN_zero (ns : List Nd) : upN ns 0 = zN ns.length := by simp [upN]
theorem upN_end (ns : List Nd) : upN ns ns.length = ns := by simp [upN, zN]
theorem enc_zN (j : Nat) : enc (zN j) = (List.replicate j [i6 0, i6 0, i6 0]).flatten := by
  induction j with
  | zero => rfl
  | succ j ih => simp only [zN, List.replicate_succ, enc, List.flatMap_cons, List.flatten_cons] at ih ⊢; rw [ih]; rfl
theorem upN_set (ns : List Nd) (j : Nat) (h : j < ns.length) : (upN ns j).set j ns[j] = upN ns (j + 1) := by
  have hl : (ns.take j).length = j := by simp; omega
  have e : ns.length - j = (ns.length - (j + 1)) + 1 := by omega
  simp only [upN, zN]
  rw [List.set_append_right _ _ (by omega), hl, Nat.sub_self, e, List.replicate_succ, List.set_cons_zero, List.take_succ_eq_append_getElem h, List.append_assoc]
  rfl
theorem set3 {x y z : A} : ∀ (cs : List A) (a b c : A) (r : List A), (((a :: b :: c :: r).set 0 x).set 1 y).set 2 z = x :: y :: z :: r := fun _ _ _ _ _ => rfl
theorem enc_set : ∀ (xs : List Nd) (j : Nat) (n : Nd), (((enc xs).set (j * 3) (i6 n.k)).set (j * 3 + 1) (i6 n.a)).set (j * 3 + 2) (i6 n.b) = enc (xs.set j n)
  | [], j, n => by simp
  | x :: xs, 0, n => rfl
  | x :: xs, j + 1, n => by
    have := enc_set xs j n
    have e : (j + 1) * 3 = j * 3 + 1 + 1 + 1 := by omega
    show ((([i6 x.k, i6 x.a, i6 x.b] ++ enc xs).set ((j + 1) * 3) _).set ((j + 1) * 3 + 1) _).set ((j + 1) * 3 + 2) _ = [i6 x.k, i6 x.a, i6 x.b] ++ enc (xs.set j n)
    rw [e, ← this]
    rfl
theorem laws_toNodeS_c (ns : List Nd) (hl : ns.length ≤ 4294967296) : T 39 [.sl ns.length (enc ns)] [] (pref 0 ns) ([qblk ns]) := by
  refine semT' (S := S0) hm laws_toNodeS_ok (Nat.le_of_ble_eq_true rfl) ?_
  unfold laws_toNodeS; dsimp only
  have h1 : ((ns.length : Int)) * 24 ≤ 17592186044416 := by omega
  have h2 : (ns.length : Int) ≤ 4294967296 := by omega
  simp
  refine ck_intro' (by omega) ?_; simp
  rw [← enc_zN, ← upN_zero]
  refine WLoop_fam (fun j : Nat => [(0, A.sl ns.length (enc ns)), (3, A.ref 0 0 0 ns.length), (4, i6 j)]) (fun j => [⟨0, false, 3, enc (upN ns j), none⟩]) (fun j => ns.length - j)
    (fun j => j ≤ ns.length) ?_ 0 (Nat.zero_le _)
  intro j hj ih
  simp [upN_len ns j hj]
  refine br_intro' (fun h => ?_) (fun h => ?_) <;> (have h0 := h) <;> (try simp at h) <;> try simp [h0, h]
  · obtain ⟨r, hr⟩ := enc_at h
    have h3 : 3 ≤ ns.length * 3 - j * 3 := by omega
    have hw : IntKind.i64.wrap ((j : Int) + 1) = j + 1 := wrap64 (by omega) (by omega)
    have h' := h
    simp [h3, hr, h']
    refine laws_toNode_call (n := ns[j]) rfl ?_; simp [upN_len ns j hj, h']
    refine ck_intro' (by omega) ?_; simp
    rw [hw, enc_set, upN_set ns j h']
    exact ih (j + 1) h' (by omega)
  · have h0 : j = ns.length := by omega
    subst h0
    rw [upN_end]
    first | (refine LeV.tell [none] ?_ ?_ ?_ <;> (simp; done)) | (refine LeV.tell [some 0] ?_ ?_ ?_ <;> (simp; done)) | (refine LeV.tell [some 1] ?_ ?_ ?_ <;> (simp; done)) | (refine LeV.tell [some 2] ?_ ?_ ?_ <;> (simp; done)) | (refine LeV.tell [some 3] ?_ ?_ ?_ <;> (simp; done)) | (refine LeV.tell [some 4] ?_ ?_ ?_ <;> (simp; done)) | (refine LeV.tell [some 5] ?_ ?_ ?_ <;> (simp; done)) | (refine LeV.tell [some 6] ?_ ?_ ?_ <;> (simp; done)) | (refine LeV.tell [some 7] ?_ ?_ ?_ <;> (simp; done)) | (refine LeV.tell [some 8] ?_ ?_ ?_ <;> (simp; done)) | (refine LeV.tell [some 9] ?_ ?_ ?_ <;> (simp; done)) | (refine LeV.tell [some 10] ?_ ?_ ?_ <;> (simp; done)) | (refine LeV.tell [some 11] ?_ ?_ ?_ <;> (simp; done)) | (refine LeV.tell [some 12] ?_ ?_ ?_ <;> (simp; done)) | (refine LeV.tell [some 13] ?_ ?_ ?_ <;> (simp; done)) | (refine LeV.tell [some 14] ?_ ?_ ?_ <;> (simp; done)) | (refine LeV.tell [some 15] ?_ ?_ ?_ <;> (simp; done))
theorem laws_toNodeS_k {ns : List Nd} (hl : ns.length ≤ 4294967296) {S : FuncId → Bool} {H : List Blk} {K : A → Dl → Prop} {zs : List A} (hS : S 39 = false) (hv : viewL (viewA 8 H) zs = some [.sl ns.length (enc ns)]) (ho : noOwns zs = true ∨ nosl (pref 0 ns) = true ∧ noslBlks ([qblk ns]) = true) (hK : K (shiftA H.length (pref 0 ns)) (.news (([qblk ns]).map (shiftB H.length)))) : @WCall' Go.Proofs.Try.prog S 39 zs H ⟨K⟩ :=
  WCall_ro' hS hv (laws_toNodeS_c ns hl) rfl ho hK
theorem laws_toPool_c (ns : List Nd) (hl : ns.length ≤ 4294967296) : T 12 [aP ns] [] (.agg [pref 0 ns]) ([qblk ns]) := by
  refine semT' (S := S0) hm laws_toPool_ok (Nat.le_of_ble_eq_true rfl) ?_
  unfold laws_toPool; dsimp only
  simp
  refine laws_toNodeS_k (ns := ns) hl rfl (by simp) (by simp [noslBlks]) ?_; simp [shiftB]
  first | (refine LeV.tell [none] ?_ ?_ ?_ <;> (simp; done)) | (refine LeV.tell [some 0] ?_ ?_ ?_ <;> (simp; done)) | (refine LeV.tell [some 1] ?_ ?_ ?_ <;> (simp; done)) | (refine LeV.tell [some 2] ?_ ?_ ?_ <;> (simp; done)) | (refine LeV.tell [some 3] ?_ ?_ ?_ <;> (simp; done)) | (refine LeV.tell [some 4] ?_ ?_ ?_ <;> (simp; done)) | (refine LeV.tell [some 5] ?_ ?_ ?_ <;> (simp; done)) | (refine LeV.tell [some 6] ?_ ?_ ?_ <;> (simp; done)) | (refine LeV.tell [some 7] ?_ ?_ ?_ <;> (simp; done)) | (refine LeV.tell [some 8] ?_ ?_ ?_ <;> (simp; done)) | (refine LeV.tell [some 9] ?_ ?_ ?_ <;> (simp; done)) | (refine LeV.tell [some 10] ?_ ?_ ?_ <;> (simp; done)) | (refine LeV.tell [some 11] ?_ ?_ ?_ <;> (simp; done)) | (refine LeV.tell [some 12] ?_ ?_ ?_ <;> (simp; done)) | (refine LeV.tell [some 13] ?_ ?_ ?_ <;> (simp; done)) | (refine LeV.tell [some 14] ?_ ?_ ?_ <;> (simp; done)) | (refine LeV.tell [some 15] ?_ ?_ ?_ <;> (simp; done))
theorem laws_toPool_k {ns : List Nd} (hl : ns.length ≤ 4294967296) {S : FuncId → Bool} {H : List Blk} {K : A → Dl → Prop} {zs : List A} (hS : S 12 = false) (hv : viewL (viewA 8 H) zs = some [aP ns]) (ho : noOwns zs = true ∨ nosl (.agg [pref 0 ns]) = true ∧ noslBlks ([qblk ns]) = true) (hK : K (shiftA H.length (.agg [pref 0 ns])) (.news (([qblk ns]).map (shiftB H.length)))) : @WCall' Go.Proofs.Try.prog S 12 zs H ⟨K⟩ :=
  WCall_ro' hS hv (laws_toPool_c ns hl) rfl ho hK
/-- A copy of numbers that is made up to a place. -/
def upI (xs : List Int) (j : Nat) : List Int := xs.take j ++ List.replicate (xs.length - j) 0
theorem upI_len (xs : List Int) (j : Nat) (h : j ≤ xs.length) : (upI xs j).length = xs.length := by simp [upI]; omega
theorem upI_zero (xs : List Int) : upI xs 0 = List.replicate xs.length 0 := by simp [upI]
theorem upI_end (xs : List Int) : upI xs xs.length = xs := by simp [upI]
theorem upI_set (ns : List Int) (j : Nat) (h : j < ns.length) : (upI ns j).set j ns[j] = upI ns (j + 1) := by
  have hl : (ns.take j).length = j := by simp; omega
  have e : ns.length - j = (ns.length - (j + 1)) + 1 := by omega
  simp only [upI]
  rw [List.set_append_right _ _ (by omega), hl, Nat.sub_self, e, List.replicate_succ, List.set_cons_zero, List.take_succ_eq_append_getElem h, List.append_assoc]
  rfl
theorem ints_set (xs : List Int) (j : Nat) (n : Int) : (ints xs).set j (i6 n) = ints (xs.set j n) := by simp [ints, List.map_set]
@[simp] theorem ints_tells (H H' : List Blk) (g : List (Option Nat)) (xs : List Int) : Tells H H' g (ints xs) (ints xs) := Tells_scals _ (ints_scals xs)
@[simp] theorem ints_take (xs : List Int) : (ints xs).take xs.length = ints xs := List.take_of_length_le (by simp)
theorem ints_rep (n : Nat) : ints (List.replicate n 0) = List.replicate n (i6 0) := by simp [ints]
theorem laws_toIntS_c (xs : List Int) (hl : xs.length ≤ 4294967296) : T 21 [aI xs] [] (iref 0 xs) ([iblk xs]) := by
  refine semT' (S := S0) hm laws_toIntS_ok (Nat.le_of_ble_eq_true rfl) ?_
  unfold laws_toIntS; dsimp only
  have h1 : ((xs.length : Int)) * 8 ≤ 17592186044416 := by omega
  have h2 : (xs.length : Int) ≤ 4294967296 := by omega
  simp
  refine ck_intro' (by omega) ?_; simp
  rw [← ints_rep, ← upI_zero]
  refine WLoop_fam (fun j : Nat => [(0, aI xs), (3, A.ref 0 0 0 xs.length), (4, i6 j)]) (fun j => [⟨0, false, 1, ints (upI xs j), none⟩]) (fun j => xs.length - j)
    (fun j => j ≤ xs.length) ?_ 0 (Nat.zero_le _)
  intro j hj ih
  simp [upI_len xs j hj]
  refine br_intro' (fun h => ?_) (fun h => ?_) <;> (have h0 := h) <;> (try simp at h) <;> try simp [h0, h]
  · have hw : IntKind.i64.wrap ((j : Int) + 1) = j + 1 := wrap64 (by omega) (by omega)
    have h' := h
    simp [h', upI_len xs j hj]
    refine ck_intro' (by omega) ?_; simp
    rw [hw, ints_set, upI_set xs j h']
    exact ih (j + 1) h' (by omega)
  · have h0 : j = xs.length := by omega
    subst h0
    rw [upI_end]
    first | (refine LeV.tell [none] ?_ ?_ ?_ <;> (simp; done)) | (refine LeV.tell [some 0] ?_ ?_ ?_ <;> (simp; done)) | (refine LeV.tell [some 1] ?_ ?_ ?_ <;> (simp; done)) | (refine LeV.tell [some 2] ?_ ?_ ?_ <;> (simp; done)) | (refine LeV.tell [some 3] ?_ ?_ ?_ <;> (simp; done)) | (refine LeV.tell [some 4] ?_ ?_ ?_ <;> (simp; done)) | (refine LeV.tell [some 5] ?_ ?_ ?_ <;> (simp; done)) | (refine LeV.tell [some 6] ?_ ?_ ?_ <;> (simp; done)) | (refine LeV.tell [some 7] ?_ ?_ ?_ <;> (simp; done)) | (refine LeV.tell [some 8] ?_ ?_ ?_ <;> (simp; done)) | (refine LeV.tell [some 9] ?_ ?_ ?_ <;> (simp; done)) | (refine LeV.tell [some 10] ?_ ?_ ?_ <;> (simp; done)) | (refine LeV.tell [some 11] ?_ ?_ ?_ <;> (simp; done)) | (refine LeV.tell [some 12] ?_ ?_ ?_ <;> (simp; done)) | (refine LeV.tell [some 13] ?_ ?_ ?_ <;> (simp; done)) | (refine LeV.tell [some 14] ?_ ?_ ?_ <;> (simp; done)) | (refine LeV.tell [some 15] ?_ ?_ ?_ <;> (simp; done))
theorem laws_toIntS_k {xs : List Int} (hl : xs.length ≤ 4294967296) {S : FuncId → Bool} {H : List Blk} {K : A → Dl → Prop} {zs : List A} (hS : S 21 = false) (hv : viewL (viewA 8 H) zs = some [aI xs]) (ho : noOwns zs = true ∨ nosl (iref 0 xs) = true ∧ noslBlks ([iblk xs]) = true) (hK : K (shiftA H.length (iref 0 xs)) (.news (([iblk xs]).map (shiftB H.length)))) : @WCall' Go.Proofs.Try.prog S 21 zs H ⟨K⟩ :=
  WCall_ro' hS hv (laws_toIntS_c xs hl) rfl ho hK
theorem laws_eqNodeS_c (ns ms : List Nd) (hl : ns.length < 9223372036854775807) (hl2 : ms.length < 9223372036854775807) : T 47 [.sl ns.length (enc ns), .sl ms.length (enc ms)] [] (.bool (decide (ns = ms))) ([]) := by
  refine semT' (S := S0) hm laws_eqNodeS_ok (Nat.le_of_ble_eq_true rfl) ?_
  unfold laws_eqNodeS; dsimp only
  simp
  refine br_intro' (fun h => ?_) (fun h => ?_) <;> (try simp at h) <;> (try simp [h])
  · refine WLoop_fam (fun j : Nat => [(0, A.sl ns.length (enc ns)), (1, A.sl ms.length (enc ms)), (5, i6 j)]) (fun _ => []) (fun j => ns.length - j)
      (fun j => j ≤ ns.length ∧ ns.take j = ms.take j) ?_ 0 ⟨Nat.zero_le _, by simp⟩
    intro j ⟨hj, hf⟩ ih
    simp
    have hq : ns.length = ms.length := by omega
    refine br_intro' (fun h => ?_) (fun h => ?_) <;> (have h0 := h) <;> (try simp at h) <;> try simp [h0, h]
    · obtain ⟨r, hr⟩ := enc_at h
      have hm : j < ms.length := by omega
      obtain ⟨r2, hr2⟩ := enc_at hm
      have h3 : 3 ≤ ms.length * 3 - j * 3 := by omega
      have h4 : 3 ≤ ns.length * 3 - j * 3 := by omega
      have hw : IntKind.i64.wrap ((j : Int) + 1) = j + 1 := wrap64 (by omega) (by omega)
      have h' := h
      simp [h3, h4, hr, h', hr2, hm]
      refine laws_eqNode_call (n := ns[j]) (m := ms[j]) rfl ?_; simp
      first | (refine ck_intro' (by kernel_rfl) ?_; try simp) | skip
      refine br_intro' (fun g => ?_) (fun g => ?_) <;> simp at g <;> simp [g]
      · rw [hw]
        exact ih (j + 1) ⟨h', by rw [List.take_succ_eq_append_getElem h', List.take_succ_eq_append_getElem hm, hf, g]⟩ (by omega)
      · exact LeV.ro rfl rfl (by simp; intro e; subst e; exact g rfl)
    · have h0 : j = ns.length := by omega
      exact LeV.ro rfl rfl (by rw [h0, List.take_length, hq, List.take_length] at hf; simp [hf])
  · exact LeV.ro rfl rfl (by simp; intro e; rw [e] at h; exact h rfl)
theorem laws_eqNodeS_call {ns ms : List Nd} (hl : ns.length < 9223372036854775807) (hl2 : ms.length < 9223372036854775807) {S : FuncId → Bool} {H : List Blk} {K : A → Dl → Prop} (hS : S 47 = false) (hK : K (.bool (decide (ns = ms))) (.news [])) : @WCall' Go.Proofs.Try.prog S 47 [.sl ns.length (enc ns), .sl ms.length (enc ms)] H ⟨K⟩ :=
  WCall_pure hS (laws_eqNodeS_c ns ms hl hl2) (by simp) (by simp) (by simp) hK
theorem laws_eqNodeS_k {ns ms : List Nd} (hl : ns.length < 9223372036854775807) (hl2 : ms.length < 9223372036854775807) {S : FuncId → Bool} {H : List Blk} {K : A → Dl → Prop} {zs : List A} (hS : S 47 = false) (hv : viewL (viewA 8 H) zs = some [.sl ns.length (enc ns), .sl ms.length (enc ms)]) (ho : noOwns zs = true ∨ nosl (.bool (decide (ns = ms))) = true) (hK : K (.bool (decide (ns = ms))) (.news [])) : @WCall' Go.Proofs.Try.prog S 47 zs H ⟨K⟩ :=
  WCall_pure hS (laws_eqNodeS_c ns ms hl hl2) hv ho (by simp) hK
theorem laws_eqPool_c (ns ms : List Nd) (hl : ns.length < 9223372036854775807) (hl2 : ms.length < 9223372036854775807) : T 16 [aP ns, aP ms] [] (.bool (decide (ns = ms))) ([]) := by
  refine semT' (S := S0) hm laws_eqPool_ok (Nat.le_of_ble_eq_true rfl) ?_
  unfold laws_eqPool; dsimp only
  simp
  refine laws_eqNodeS_call (ns := ns) (ms := ms) hl hl2 rfl ?_; simp
  refine br_intro' (fun g => ?_) (fun g => ?_) <;> simp at g <;> simp [g]
  · exact LeV.ro rfl rfl (by simp)
  · exact LeV.ro rfl rfl (by simp [g])
theorem laws_eqPool_call {ns ms : List Nd} (hl : ns.length < 9223372036854775807) (hl2 : ms.length < 9223372036854775807) {S : FuncId → Bool} {H : List Blk} {K : A → Dl → Prop} (hS : S 16 = false) (hK : K (.bool (decide (ns = ms))) (.news [])) : @WCall' Go.Proofs.Try.prog S 16 [aP ns, aP ms] H ⟨K⟩ :=
  WCall_pure hS (laws_eqPool_c ns ms hl hl2) (by simp) (by simp) (by simp) hK
theorem laws_eqPool_k {ns ms : List Nd} (hl : ns.length < 9223372036854775807) (hl2 : ms.length < 9223372036854775807) {S : FuncId → Bool} {H : List Blk} {K : A → Dl → Prop} {zs : List A} (hS : S 16 = false) (hv : viewL (viewA 8 H) zs = some [aP ns, aP ms]) (ho : noOwns zs = true ∨ nosl (.bool (decide (ns = ms))) = true) (hK : K (.bool (decide (ns = ms))) (.news [])) : @WCall' Go.Proofs.Try.prog S 16 zs H ⟨K⟩ :=
  WCall_pure hS (laws_eqPool_c ns ms hl hl2) hv ho (by simp) hK
theorem laws_eqIntS_c (ns ms : List Int) (hl : ns.length < 9223372036854775807) (hl2 : ms.length < 9223372036854775807) : T 23 [aI ns, aI ms] [] (.bool (decide (ns = ms))) ([]) := by
  refine semT' (S := S0) hm laws_eqIntS_ok (Nat.le_of_ble_eq_true rfl) ?_
  unfold laws_eqIntS; dsimp only
  simp
  refine br_intro' (fun h => ?_) (fun h => ?_) <;> (try simp at h) <;> (try simp [h])
  · refine WLoop_fam (fun j : Nat => [(0, aI ns), (1, aI ms), (5, i6 j)]) (fun _ => []) (fun j => ns.length - j)
      (fun j => j ≤ ns.length ∧ ns.take j = ms.take j) ?_ 0 ⟨Nat.zero_le _, by simp⟩
    intro j ⟨hj, hf⟩ ih
    simp
    have hq : ns.length = ms.length := by omega
    refine br_intro' (fun h => ?_) (fun h => ?_) <;> (have h0 := h) <;> (try simp at h) <;> try simp [h0, h]
    · have hm : j < ms.length := by omega
      have hw : IntKind.i64.wrap ((j : Int) + 1) = j + 1 := wrap64 (by omega) (by omega)
      have h' := h
      simp [h', hm]
      first | (refine ck_intro' (by kernel_rfl) ?_; try simp) | skip
      refine br_intro' (fun g => ?_) (fun g => ?_) <;> simp at g <;> simp [g]
      · rw [hw]
        exact ih (j + 1) ⟨h', by rw [List.take_succ_eq_append_getElem h', List.take_succ_eq_append_getElem hm, hf, g]⟩ (by omega)
      · exact LeV.ro rfl rfl (by simp; intro e; subst e; exact g rfl)
    · have h0 : j = ns.length := by omega
      exact LeV.ro rfl rfl (by rw [h0, List.take_length, hq, List.take_length] at hf; simp [hf])
  · exact LeV.ro rfl rfl (by simp; intro e; rw [e] at h; exact h rfl)
theorem laws_eqIntS_call {ns ms : List Int} (hl : ns.length < 9223372036854775807) (hl2 : ms.length < 9223372036854775807) {S : FuncId → Bool} {H : List Blk} {K : A → Dl → Prop} (hS : S 23 = false) (hK : K (.bool (decide (ns = ms))) (.news [])) : @WCall' Go.Proofs.Try.prog S 23 [aI ns, aI ms] H ⟨K⟩ :=
  WCall_pure hS (laws_eqIntS_c ns ms hl hl2) (by simp) (by simp) (by simp) hK
theorem laws_eqIntS_k {ns ms : List Int} (hl : ns.length < 9223372036854775807) (hl2 : ms.length < 9223372036854775807) {S : FuncId → Bool} {H : List Blk} {K : A → Dl → Prop} {zs : List A} (hS : S 23 = false) (hv : viewL (viewA 8 H) zs = some [aI ns, aI ms]) (ho : noOwns zs = true ∨ nosl (.bool (decide (ns = ms))) = true) (hK : K (.bool (decide (ns = ms))) (.news [])) : @WCall' Go.Proofs.Try.prog S 23 zs H ⟨K⟩ :=
  WCall_pure hS (laws_eqIntS_c ns ms hl hl2) hv ho (by simp) hK
theorem szF_neg {x : Int} {n : Nat} : szF x n < 0 ↔ x < n := by unfold szF; split <;> omega
theorem szF_pos {x : Int} {n : Nat} (h : ¬ x < n) : szF x n = x - n := by unfold szF; rw [if_neg (by omega)]
/-- The size of a stream. -/
def szStr (s : St) (x : Int) : Int := if x < s.pool.length + s.know.length + s.sent.length + s.got.length then -1 else x - (s.pool.length + s.know.length + s.sent.length + s.got.length)
theorem St_eq {x y : St} : x = y ↔ x.pool = y.pool ∧ x.know = y.know ∧ x.out = y.out ∧ x.inn = y.inn ∧ x.sent = y.sent ∧ x.got = y.got := by cases x; cases y; simp
end Go.Proofs.Ytcfgiffgahdlbaa.C

set_option linter.unusedVariables false
set_option linter.unusedSimpArgs false
set_option maxRecDepth 4000
namespace Go.Proofs.Ytcfgiffgahdlbaa.C
open Go.Sym Go.Proofs.Ytcfgiffgahdlbaa.I
theorem laws_big_c (bs : List Int)  : T 29 [aB bs] [] (.bool (decide (1048576 < bs.length))) ([]) := by
  refine semT' (S := S0) hm laws_big_ok (Nat.le_of_ble_eq_true rfl) ?_
  unfold laws_big; dsimp only
  simp
  exact LeV.ro rfl rfl (by simp; omega)
theorem laws_big_call {bs : List Int}  {S : FuncId → Bool} {H : List Blk} {K : A → Dl → Prop} (hS : S 29 = false) (hK : K (.bool (decide (1048576 < bs.length))) (.news [])) : @WCall' Go.Proofs.Try.prog S 29 [aB bs] H ⟨K⟩ :=
  WCall_pure hS (laws_big_c bs) (by simp) (by simp) (by simp) hK
theorem laws_big_k {bs : List Int}  {S : FuncId → Bool} {H : List Blk} {K : A → Dl → Prop} {zs : List A} (hS : S 29 = false) (hv : viewL (viewA 8 H) zs = some [aB bs]) (ho : noOwns zs = true ∨ nosl (.bool (decide (1048576 < bs.length))) = true) (hK : K (.bool (decide (1048576 < bs.length))) (.news [])) : @WCall' Go.Proofs.Try.prog S 29 zs H ⟨K⟩ :=
  WCall_pure hS (laws_big_c bs) hv ho (by simp) hK
theorem laws_within_c (ks : List Int) (t : Int) (hl : ks.length < 9223372036854775807) : T 32 [aI ks, i6 t] [] (.bool (decide (t ∈ ks))) ([]) := by
  refine semT' (S := S0) hm laws_within_ok (Nat.le_of_ble_eq_true rfl) ?_
  unfold laws_within; dsimp only
  simp
  refine WLoop_fam (fun j : Nat => [(0, aI ks), (1, i6 t), (5, i6 j)]) (fun _ => []) (fun j => ks.length - j)
    (fun j => j ≤ ks.length ∧ t ∉ ks.take j) ?_ 0 ⟨Nat.zero_le _, by simp⟩
  intro j ⟨hj, hf⟩ ih
  simp
  refine br_intro' (fun u => ?_) (fun u => ?_) <;> (have u0 := u) <;> simp only [decide_eq_true_eq, decide_eq_false_iff_not] at u <;> simp [u0, u]
  · have hw := wrap_succ (n := j) (by omega)
    repeat (refine ck_intro' (by first | omega | (simp; omega) | kernel_rfl) ?_; try simp [u])
    refine br_intro' (fun g => ?_) (fun g => ?_) <;> (have g0 := g) <;> simp only [decide_eq_true_eq, decide_eq_false_iff_not] at g <;> simp [g0]
    · exact LeV.ro rfl rfl (by simp; rw [← g]; exact List.getElem_mem u)
    · rw [hw]
      refine ih (j + 1) ⟨u, fun h => ?_⟩ (by omega)
      rw [List.take_succ_eq_append_getElem u] at h
      rcases List.mem_append.1 h with h | h
      · exact hf h
      · have e : t = ks[j] := by simpa using h
        exact g e.symm
  · have h0 : ks.take j = ks := List.take_of_length_le (by omega)
    exact LeV.ro rfl rfl (by simp; rw [← h0]; exact hf)
theorem laws_within_call {ks : List Int} {t : Int} (hl : ks.length < 9223372036854775807) {S : FuncId → Bool} {H : List Blk} {K : A → Dl → Prop} (hS : S 32 = false) (hK : K (.bool (decide (t ∈ ks))) (.news [])) : @WCall' Go.Proofs.Try.prog S 32 [aI ks, i6 t] H ⟨K⟩ :=
  WCall_pure hS (laws_within_c ks t hl) (by simp) (by simp) (by simp) hK
theorem laws_within_k {ks : List Int} {t : Int} (hl : ks.length < 9223372036854775807) {S : FuncId → Bool} {H : List Blk} {K : A → Dl → Prop} {zs : List A} (hS : S 32 = false) (hv : viewL (viewA 8 H) zs = some [aI ks, i6 t]) (ho : noOwns zs = true ∨ nosl (.bool (decide (t ∈ ks))) = true) (hK : K (.bool (decide (t ∈ ks))) (.news [])) : @WCall' Go.Proofs.Try.prog S 32 zs H ⟨K⟩ :=
  WCall_pure hS (laws_within_c ks t hl) hv ho (by simp) hK
theorem laws_FnAllSteps_c (bs : List Int) (ha : bs.length < 9223372036854775808) : T 7 [aB bs] [] (.bool true) ([]) := by
  refine semT' (S := S0) hm laws_FnAllSteps_ok (Nat.le_of_ble_eq_true rfl) ?_
  unfold laws_FnAllSteps; dsimp only
  simp
  refine laws_big_k (bs := bs) rfl (by simp) (by simp) ?_; simp
  refine br_intro' (fun g => ?_) (fun g => ?_) <;> simp only [decide_eq_true_eq, decide_eq_false_iff_not] at g <;> simp [g]
  · exact LeV.ro rfl rfl rfl
  have hb : bs.length < 9223372036854775807 := by omega
  have hl := d6_len bs
  have hm := d6_meek bs
  refine spec_DrawProofAll_k (bs := bs) hb rfl (by simp) (by simp [noslBlks]) ?_; simp [shiftB]
  generalize d6 bs = d at hl hm ⊢
  obtain ⟨ns, ks, t0⟩ := d
  simp only at hl hm
  obtain ⟨e1, e2⟩ := derF_steps hm ks
  have hls := allSt_le ns ks
  simp
  refine impl_ProofAll_k (ns := ns) (ks := ks) (by omega) (by omega) rfl (by simp) (by simp [noslBlks]) ?_; simp [shiftB]
  refine spec_DerivesList_k (ns := ns) (ks := ks) (by omega) (by omega) rfl (by simp) (by simp [noslBlks]) ?_; simp [shiftB]
  have hck : allSt ns ks ≠ [] → checkF ns ks (allSt ns ks) (spAt (allSt ns ks) ((allSt ns ks).length - 1)).t = true := fun hne => by
    have hkp : kpF ns ks = true := by
      cases hc : kpF ns ks with
      | true => rfl
      | false => exact absurd (by simp [allSt, hc]) hne
    exact checkF_iff.2 ⟨hne, hkp, hls, allSt_pr hkp, rfl⟩
  rw [show decide (((allSt ns ks).length : Int) = (derF ns ks).length) = true by simp [e1]]
  simp
  refine spec_ProofAll_k (ns := ns) (ks := ks) (by omega) (by omega) rfl (by simp) (by simp [noslBlks]) ?_; simp [shiftB]
  rw [show decide (((allSt ns ks).length : Int) = (derF ns ks).length) = true by simp [e1]]
  simp
  generalize derF ns ks = ds at e1 e2 ⊢
  generalize allSt ns ks = ss at e1 e2 hls hck ⊢
  refine WLoop_fam (fun j : Nat => [(3, A.ptr 0 0 0), (4, aI ks), (5, A.ref 1 ss.length 0 ss.length), (6, A.ref 2 ds.length 0 ds.length), (7, i6 j)])
    (fun _ => [⟨0, false, 1, [A.sl ns.length (enc ns)], none⟩, ⟨ss.length, decide (ss = []), 4, encS ss, none⟩, ⟨ds.length, decide (ds = []), 1, ints ds, none⟩, ⟨ss.length, decide (ss = []), 4, encS ss, none⟩]) (fun j => ss.length - j) (fun j => j ≤ ss.length) ?_ 0 (Nat.zero_le _)
  intro j hj ih
  simp
  refine br_intro' (fun u => ?_) (fun u => ?_) <;> (have u0 := u) <;> simp only [decide_eq_true_eq, decide_eq_false_iff_not] at u <;> simp [u0, u]
  · obtain ⟨r4, hr4⟩ := encS_at u
    have hw := wrap_succ (n := j) (by omega)
    have h4 := encS_tq u
    repeat (refine ck_intro' (by first | omega | (simp; omega) | kernel_rfl) ?_; try simp [u])
    simp [h4]
    refine laws_within_k (ks := ds) (t := ss[j].t) (by omega) rfl (by simp) (by simp) ?_; simp
    have hin := e2 j u
    rw [spAt_lt u] at hin
    simp [hin]
    rw [hw]
    exact ih (j + 1) (by omega) (by omega)
  · refine br_intro' (fun v => ?_) (fun v => ?_) <;> (have v0 := v) <;> simp only [decide_eq_true_eq, decide_eq_false_iff_not] at v
    · simp [v0]
      repeat (refine ck_intro' (by first | omega | (simp; omega) | kernel_rfl) ?_; try simp [v])
      exact LeV.ro rfl rfl rfl
    · simp [v0]
      have hne : ss ≠ [] := fun e => by subst e; exact v (by simp)
      have h0 : 0 < ss.length := List.length_pos_iff.2 hne
      have hw := wrap_len (n := ss.length) (by omega)
      obtain ⟨m, hm'⟩ : ∃ m : Nat, (ss.length : Int) - 1 = m := ⟨ss.length - 1, by omega⟩
      have hml : m < ss.length := by omega
      have h4 := encS_tq hml
      rw [hw, hm']
      repeat (refine ck_intro' (by first | omega | (simp; omega) | kernel_rfl) ?_; try simp [hml])
      simp [h4]
      have hc := hck hne
      rw [show ss.length - 1 = m by omega, spAt_lt hml] at hc
      refine impl_ProofCheck_k (ns := ns) (ks := ks) (ss := ss) (t := ss[m].t) (by omega) (by omega) (by omega) rfl (by simp) (by simp) ?_; simp
      rw [hc]
      repeat (refine ck_intro' (by first | omega | (simp; omega) | kernel_rfl) ?_; try simp [hml])
      exact LeV.ro rfl rfl (by simp [hc])
end Go.Proofs.Ytcfgiffgahdlbaa.C
