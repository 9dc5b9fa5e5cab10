/- A region of operations, in whatever order they are drawn, does what its operations do one behind the other. Conditions: the checks okReg, bfOk, regOk. -/
import Derived.Test.YtpohfpnlepmebaaXSymN
set_option linter.unusedVariables false
set_option linter.unusedSimpArgs false
namespace Go.Sym
open Go.RowKit

theorem on_comm {d1 d2 : Dl} (h1 : d1.adds) (h2 : d2.adds) {H1 H2 : List Blk} (hl : (d1.app H1).length ≤ H2.length) (f : Nat → Option Blk) :
    d2.on H2.length (d1.on H1.length f) = d1.on H1.length (d2.on H2.length f) := by
  funext b
  by_cases a1 : b < H1.length
  · have hH : H1.length ≤ (d1.app H1).length := by cases d1 <;> simp [Dl.app] <;> exact h1.elim
    rw [on_lt h2 (by omega), on_lt h1 a1, on_lt h1 a1, on_lt h2 (by omega)]
  · by_cases a2 : b < (d1.app H1).length
    · rw [on_lt h2 (by omega)]
      exact on_mid h1 (by omega) a2 _ _
    · rw [on_ge h1 (b := b) (by omega)]
      by_cases a3 : b < H2.length
      · rw [on_lt h2 a3, on_lt h2 a3, on_ge h1 (by omega)]
      · by_cases a4 : b < (d2.app H2).length
        · exact on_mid h2 (by omega) a4 _ _
        · rw [on_ge h2 (by omega), on_ge h2 (by omega), on_ge h1 (by omega)]

def Closed (bf : List Nat) (n : Nat) (p : Nat → Bool) : Prop := ∀ j, j < n → p j = true → ∀ i, bit bf i j = true → p i = true

theorem wanted_eq {c : Cx} {e : Env} {a : Act} {ops : Array Oper} {o : Oper} {i : IOper} (he : EnvRel c e a) (hg : gOk ops o i = true) {x : Bool} (hx : gd e i.g = some x) : Region.wanted o (yielded ops a.tmps) = x := by
  unfold gOk at hg
  unfold Region.wanted
  split at hg
  · rename_i h1 h2
    rw [h2] at hx
    simp [gd] at hx
    simp only [h1]; exact hx.symm
  · rename_i k w t w' h1 h2
    rw [h2] at hx
    simp only [Bool.and_eq_true, beq_iff_eq] at hg
    obtain ⟨rfl, hd⟩ := hg
    simp only [h1]
    simp only [gd] at hx
    split at hx
    · rename_i b hb
      have hv := he t _ hb
      simp only [VR] at hv
      have ht : a.tmps[t]? = some (.bool b) := by
        cases h : a.tmps[t]? with
        | none => simp [Array.getD_eq_getD_getElem?, h, undef] at hv
        | some v => simp [Array.getD_eq_getD_getElem?, h] at hv; rw [hv]
      have hy : yielded ops a.tmps k = some b := by simp [yielded, hd, ht]
      rw [hy]
      simpa using hx
    · rename_i hb
      have hv := he t _ hb
      simp only [VR, VRs] at hv
      obtain ⟨vs, h3, h4⟩ := hv
      have hy : yielded ops a.tmps k = none := by
        simp only [yielded, hd, Option.bind_some]
        cases h : a.tmps[t]? with
        | none => rfl
        | some v => simp [Array.getD_eq_getD_getElem?, h] at h3; rw [h3]
      rw [hy]
      simpa using hx
    · cases hx
  · cases hg

theorem okOne.out {P : Program} {ops : Array Oper} {N : Nat} {o : Oper} {i : IOper} (h : okOne P ops N o i = true) : okOp P o.op i.op = true ∧ o.dst = i.dst ∧ gOk ops o i = true ∧ ∀ d, i.dst = some d → d < N := by
  simp only [okOne, Bool.and_eq_true, beq_iff_eq] at h
  refine ⟨h.1.1.1, h.1.1.2, h.1.2, fun d hd => ?_⟩
  have := h.2
  rw [hd] at this
  simpa using this

theorem step_goes {P : Program} {S : FuncId → Bool} {c : Cx} {e : Env} {a : Act} {H : List Blk} (hgd : Gd P c) (hr : RelH c) (he : EnvRel c e a) (hsub : Sub c H) {o : Oper} {i : IOp} (hok : okOp P o.op i = true) {r : A} {d : Dl}
    (h : stepR P S i e H r d) (hT : clsOf S i e = 2 → c.H = fun b => H[b]?) (hn : d.adds → ∀ b, H.length ≤ b → b < (d.app H).length → c.H b = none) : Goes P c a o r (d.on H.length c.H) := by
  have key : stepK i e H (fun a b => a = r ∧ b = d) → Goes P c a o r (d.on H.length c.H) := fun h =>
    (op_sound hr he hsub hok (fun k hk => hn (by rw [hk]; trivial) H.length (Nat.le_refl _) (by rw [hk]; simp [Dl.app])) h).goes
  cases i with
  | call f xs =>
    obtain ⟨as, h1, h2⟩ := h
    refine call_goes hgd hr he hsub hok h1 h2 (fun hS => hT (by simp [clsOf, hS])) (fun b hb hb' hS => hn ?_ b hb hb')
    unfold callR at h2
    rw [hS] at h2
    simp only [Bool.false_eq_true, if_false] at h2
    obtain ⟨_, _, Hr, _, _, _, _, _, rfl⟩ := h2
    trivial
  | cv g xs =>
    obtain ⟨f, cs, as, h0, h1, h3, h2⟩ := h
    refine cv_goes hgd hr he hsub hok h0 h1 h3 h2 (fun hS => hT (by simp [clsOf, h0, hS])) (fun b hb hb' hS => hn ?_ b hb hb')
    unfold callR at h2
    rw [hS] at h2
    simp only [Bool.false_eq_true, if_false] at h2
    obtain ⟨_, _, Hr, _, _, _, _, _, rfl⟩ := h2
    trivial
  | _ => exact key h

section
variable {P : Program} {S : FuncId → Bool} {ops : Array Oper} {is : List IOper} {bf : List Nat} {cs : List Cl} {N : Nat} {e e' : Env} {H H' : List Blk} {E : Nat → Env} {G : Nat → List Blk} {V : Nat → A} {D : Nat → Dl} {X : Nat → Bool}
variable (F : Facts ops is bf cs G D) (q : Seq P S is e H cs e' H' E G V D X)
include F q

theorem env_agree {p : Nat → Bool} (hcl : Closed bf is.length p) {j : Nat} {b : IOper} (hb : is[j]? = some b) (hpj : p j = false) (hbef : ∀ i, bit bf i j = true → p i = true) {t : Nat} (ht : t ∈ names b) :
    get (eAt (dstOf is) V e p is.length) t = get (E j) t := by
  have hj : j < is.length := by
    rcases Nat.lt_or_ge j is.length with h | h
    · exact h
    · rw [List.getElem?_eq_none h] at hb; cases hb
  have part1 : ∀ i, i ≤ j → get (eAt (dstOf is) V e p i) t = get (E i) t := by
    intro i
    induction i with
    | zero => intro _; simp only [eAt, q.e0]
    | succ i ih =>
      intro hi
      obtain ⟨a, ha⟩ : ∃ a, is[i]? = some a := ⟨_, List.getElem?_eq_getElem (by omega)⟩
      have hE := q.es i a ha
      have hd : dstOf is i = a.dst := by simp [dstOf, ha]
      simp only [eAt]
      split
      · rw [hE, hd, get_put, get_put, ih (by omega)]
      · rename_i hp
        rw [hE, get_put, if_neg (fun h => hp (hbef i (F.f2 i j t a b (by omega) ha hb (.inl ⟨h, ht⟩)))), ih (by omega)]
  have part2 : ∀ i, j ≤ i → i ≤ is.length → get (eAt (dstOf is) V e p i) t = get (eAt (dstOf is) V e p j) t := by
    intro i
    induction i with
    | zero => intro h _; have : j = 0 := by omega
              rw [this]
    | succ i ih =>
      intro hi hn
      rcases Nat.lt_or_ge i j with h | h
      · have : i + 1 = j := by omega
        rw [this]
      · rw [← ih h (by omega)]
        simp only [eAt]
        split
        · rename_i hp
          have hij : j ≠ i := fun h => by rw [h] at hpj; rw [hpj] at hp; cases hp
          obtain ⟨a, ha⟩ : ∃ a, is[i]? = some a := ⟨_, List.getElem?_eq_getElem (by omega)⟩
          have hd : dstOf is i = a.dst := by simp [dstOf, ha]
          rw [hd, get_put, if_neg]
          intro h'
          have := hcl i (by omega) hp j (F.f2 j i t b a (by omega) hb ha (.inr ⟨h', ht⟩))
          rw [hpj] at this; cases this
        · rfl
  rw [part2 is.length (by omega) (Nat.le_refl _), part1 j (Nat.le_refl _)]

omit q in
theorem env_insert {p : Nat → Bool} (hcl : Closed bf is.length p) {j : Nat} {b : IOper} (hb : is[j]? = some b) (hpj : p j = false) {p' : Nat → Bool} (hp'j : p' j = true) (hp' : ∀ i, i ≠ j → p' i = p i) (t : Nat) :
    get (eAt (dstOf is) V e p' is.length) t = if b.dst = some t then some (V j) else get (eAt (dstOf is) V e p is.length) t := by
  have hj : j < is.length := by
    rcases Nat.lt_or_ge j is.length with h | h
    · exact h
    · rw [List.getElem?_eq_none h] at hb; cases hb
  have hdj : dstOf is j = b.dst := by simp [dstOf, hb]
  have key : ∀ i, j < i → i ≤ is.length → get (eAt (dstOf is) V e p' i) t = if b.dst = some t then some (V j) else get (eAt (dstOf is) V e p i) t := by
    intro i
    induction i with
    | zero => intro h; omega
    | succ i ih =>
      intro hi hn
      rcases Nat.lt_or_ge j i with h | h
      · have hij : i ≠ j := by omega
        have ih' := ih h (by omega)
        simp only [eAt, hp' i hij]
        split
        · rename_i hp
          obtain ⟨a, ha⟩ : ∃ a, is[i]? = some a := ⟨_, List.getElem?_eq_getElem (by omega)⟩
          have hd : dstOf is i = a.dst := by simp [dstOf, ha]
          rw [hd, get_put, get_put, ih']
          by_cases h1 : a.dst = some t
          · rw [if_pos h1, if_pos h1, if_neg]
            intro h2
            have hn : t ∈ names a := by simp [names, h1]
            have := hcl i (by omega) hp j (F.f2 j i t b a h hb ha (.inl ⟨h2, hn⟩))
            rw [hpj] at this; cases this
          · rw [if_neg h1, if_neg h1]
        · exact ih'
      · have : i = j := by omega
        subst this
        simp only [eAt, hp'j, hpj, if_true, Bool.false_eq_true, if_false]
        rw [hdj, get_put, eAt_congr i fun k hk => hp' k (by omega)]
  exact key is.length hj (Nat.le_refl _)

omit q in
theorem heap_insert {p : Nat → Bool} (hcl : Closed bf is.length p) {j : Nat} (hj : j < is.length) (hpj : p j = false) {p' : Nat → Bool} (hp'j : p' j = true) (hp' : ∀ i, i ≠ j → p' i = p i) :
    hAt G D H p' is.length = (D j).on (G j).length (hAt G D H p is.length) := by
  have key : ∀ i, j < i → i ≤ is.length → hAt G D H p' i = (D j).on (G j).length (hAt G D H p i) := by
    intro i
    induction i with
    | zero => intro h; omega
    | succ i ih =>
      intro hi hn
      rcases Nat.lt_or_ge j i with h | h
      · have hij : i ≠ j := by omega
        have ih' := ih h (by omega)
        simp only [hAt, hp' i hij]
        split
        · rename_i hp
          rw [ih']
          by_cases c0 : D j = .no
          · rw [c0]; rfl
          · by_cases c1 : D i = .no
            · rw [c1]; rfl
            · have hno : ¬ bit bf j i = true := fun hb => by
                have := hcl i (by omega) hp j hb
                rw [hpj] at this; cases this
              have k0 : (cn cs j).n ≠ 0 := fun h => c0 (F.d0 j hj h)
              have k1 : (cn cs i).n ≠ 0 := fun h => c1 (F.d0 i (by omega) h)
              have hcf : ¬ ((cn cs j).n = 2 ∧ (cn cs i).n ≠ 0 ∨ (cn cs i).n = 2 ∧ (cn cs j).n ≠ 0) := fun hc => by
                rcases F.f3 j i h (by rw [F.cl]; omega) hc with h' | ⟨q, h', _⟩ | ⟨q, h', _⟩
                · exact hno h'
                · exact c0 (F.fr j q hj h').1
                · exact c1 (F.fr i q (by omega) h').1
              have n1 : (cn cs j).n ≠ 2 := fun h2 => hcf (.inl ⟨h2, k1⟩)
              have n2 : (cn cs i).n ≠ 2 := fun h2 => hcf (.inr ⟨h2, k0⟩)
              refine on_comm (F.d1 j hj n1) (F.d1 i (by omega) n2) ?_ _
              rw [← F.gs j hj]
              exact len_mono F (by omega) (by omega)
        · exact ih'
      · have : i = j := by omega
        subst this
        simp only [hAt, hp'j, hpj, if_true, Bool.false_eq_true, if_false]
        rw [hAt_congr i fun k hk => hp' k (by omega)]
  exact key is.length hj (Nat.le_refl _)

omit q in
/-- Behind what has been done of those at j or behind it, what was ahead of j is as it was. -/
theorem heap_later {p : Nat → Bool} {j : Nat} (hj : j ≤ is.length) (hadd : ∀ i, j ≤ i → i < is.length → p i = true → (D i).adds) {b : Nat} (hb : b < (G j).length) : hAt G D H p is.length b = hAt G D H p j b := by
  have key : ∀ i, j ≤ i → i ≤ is.length → hAt G D H p i b = hAt G D H p j b := by
    intro i
    induction i with
    | zero => intro h _; have : j = 0 := by omega
              rw [this]
    | succ i ih =>
      intro hi hn
      rcases Nat.lt_or_ge i j with h | h
      · have : i + 1 = j := by omega
        rw [this]
      · rw [← ih h (by omega)]
        simp only [hAt]
        split
        · rename_i hp
          exact on_lt (hadd i h (by omega) hp) (Nat.lt_of_lt_of_le hb (len_mono F h (by omega))) _
        · rfl
  exact key is.length hj (Nat.le_refl _)

/-- A row that what has not been done ahead of j, and what has been done behind it, leaves alone. -/
theorem heap_fp {p : Nat → Bool} (hcl : Closed bf is.length p) {j : Nat} (hj : j < is.length) (hpj : p j = false) (hbef : ∀ i, bit bf i j = true → p i = true) {r : Nat} (hfp : (cn cs j).fp = some r) {k : Blk} (hk : (G j)[r]? = some k) :
    hAt G D H p is.length r = none ∨ hAt G D H p is.length r = some k := by
  have hrl : r < (G j).length := by
    rcases Nat.lt_or_ge r (G j).length with h | h
    · exact h
    · rw [List.getElem?_eq_none h] at hk; cases hk
  have cj := (F.fr j r hj hfp).2
  have nofp : ∀ i q, i < is.length → (cn cs i).n = 2 → (cn cs i).fp = some q → False := fun i q hi h2 h => by
    have := (F.fr i q hi h).2
    omega
  have hnob : ∀ i, j < i → i < is.length → p i = true → ¬ bit bf j i = true := fun i h1 h2 h3 h4 => by
    have := hcl i h2 h3 j h4
    rw [hpj] at this; cases this
  have first : ∀ i, i ≤ j → ∀ k, (G i)[r]? = some k → hAt G D H p i r = none ∨ hAt G D H p i r = some k := by
    intro i
    induction i with
    | zero => intro _ k hb; simp only [hAt]; rw [q.g0] at hb; exact .inr hb
    | succ n ihn =>
      intro hn k hb
      have ih := ihn (by omega)
      have hgs := F.gs n (by omega)
      by_cases hlt : r < (G n).length
      · simp only [hAt]
        split
        · by_cases ha : (D n).adds
          · rw [on_lt ha hlt]
            have : (G n)[r]? = some k := by
              have h1 := congrFun (on_app (D n) (G n) (F.ds n (by omega))) r
              rw [on_lt ha hlt, ← hgs, hb] at h1
              exact h1
            exact ih k this
          · cases hd : D n with
            | no => rw [hd] at ha; exact absurd trivial ha
            | new _ => rw [hd] at ha; exact absurd trivial ha
            | news _ => rw [hd] at ha; exact absurd trivial ha
            | set c k2 =>
              rw [hgs, hd] at hb
              simp only [Dl.app, List.getElem?_set] at hb
              simp only [Dl.on, upd]
              by_cases h : r = c
              · subst h
                rw [if_pos rfl, if_pos hlt] at hb
                rw [if_pos rfl]; exact .inr hb
              · rw [if_neg (fun h' => h h'.symm)] at hb
                rw [if_neg h]; exact ih k hb
            | full T2 H2 => rw [hgs, hd] at hb; simp only [Dl.on]; exact .inr hb
        · rename_i hp
          have same : (G n)[r]? = some k := by
            by_cases hc2 : (cn cs n).n = 2
            · rcases F.f3 n j (by omega) (by rw [F.cl]; omega) (.inl ⟨hc2, by omega⟩) with h | ⟨q, h, _⟩ | ⟨q, h, _, h2⟩
              · exact absurd (hbef n h) hp
              · exact (nofp n q (by omega) hc2 h).elim
              · rw [hfp] at h
                cases h
                rw [← F.fw n (by omega) r h2 hlt]; exact hb
            · have ha := F.d1 n (by omega) hc2
              have h1 := congrFun (on_app (D n) (G n) (F.ds n (by omega))) r
              rw [on_lt ha hlt, ← hgs, hb] at h1
              exact h1
          exact ih k same
      · simp only [hAt]
        split
        · have hnone := hAt_dom F q.g0 (p := p) (n := n) (by omega) r (by omega)
          have h1 := congrFun (on_app (D n) (G n) (F.ds n (by omega))) r
          rw [← hgs, hb] at h1
          cases hd : D n with
          | no => rw [hd] at h1; simp only [Dl.on] at h1 ⊢; rw [List.getElem?_eq_none (by omega)] at h1; cases h1
          | new _ => rw [hd] at h1; rw [on_mid (d := .new _) trivial (by omega) (by rw [← hd, ← hgs]; rcases Nat.lt_or_ge r (G (n+1)).length with h | h; exact h; rw [List.getElem?_eq_none h] at hb; cases hb) _ (fun b => (G n)[b]?)]; exact .inr h1
          | news _ => rw [hd] at h1; rw [on_mid (d := .news _) trivial (by omega) (by rw [← hd, ← hgs]; rcases Nat.lt_or_ge r (G (n+1)).length with h | h; exact h; rw [List.getElem?_eq_none h] at hb; cases hb) _ (fun b => (G n)[b]?)]; exact .inr h1
          | set c k2 => rw [hgs, hd] at hb; simp [Dl.app] at hb; have := List.getElem?_eq_none (l := (G n)) (i := r) (by omega); simp [List.getElem?_set, this] at hb; omega
          | full T2 H2 => rw [hgs, hd] at hb; simp only [Dl.on]; exact .inr hb
        · exact .inl (hAt_dom F q.g0 (by omega) r (by omega))
  -- a write that has been done behind j leaves it alone, and so do all writes from j to it
  have safe : ∀ i, j ≤ i → i < is.length → p i = true → (cn cs i).n = 2 → r ∉ (cn cs i).tw := by
    intro i h1 h2 h3 hc2
    have hij : j < i := by
      rcases Nat.lt_or_ge j i with h | h
      · exact h
      · have : i = j := by omega
        rw [this, hpj] at h3; cases h3
    rcases F.f3 j i hij (by rw [F.cl]; omega) (.inr ⟨hc2, by omega⟩) with h | ⟨q, h, _, h4⟩ | ⟨q, h, _⟩
    · exact absurd h (hnob i hij h2 h3)
    · rw [hfp] at h; cases h; exact h4
    · exact (nofp i q h2 hc2 h).elim
  have chain : ∀ i, j ≤ i → i ≤ is.length → (∀ i', j ≤ i' → i' < i → (cn cs i').n = 2 → r ∉ (cn cs i').tw) → (G i)[r]? = some k := by
    intro i
    induction i with
    | zero => intro h _ _; have : j = 0 := by omega
              rw [this] at hk; exact hk
    | succ i ih =>
      intro h1 h2 h3
      rcases Nat.lt_or_ge i j with h | h
      · have : j = i + 1 := by omega
        rw [this] at hk; exact hk
      · have ihk := ih h (by omega) (fun i' a b => h3 i' a (by omega))
        have hl : r < (G i).length := Nat.lt_of_lt_of_le hrl (len_mono F h (by omega))
        by_cases hc2 : (cn cs i).n = 2
        · rw [F.fw i (by omega) r (h3 i h (by omega) hc2) hl]; exact ihk
        · have ha := F.d1 i (by omega) hc2
          have h4 := congrFun (on_app (D i) (G i) (F.ds i (by omega))) r
          rw [on_lt ha hl, ← F.gs i (by omega), ihk] at h4
          exact h4.symm
  have rest : ∀ i, j ≤ i → i ≤ is.length → hAt G D H p i r = none ∨ hAt G D H p i r = some k := by
    intro i
    induction i with
    | zero => intro h _; have : j = 0 := by omega
              subst this
              exact first 0 (Nat.le_refl _) k hk
    | succ i ih =>
      intro h1 h2
      rcases Nat.lt_or_ge i j with h | h
      · have e : j = i + 1 := by omega
        rw [← e]
        exact first j (Nat.le_refl _) k hk
      · have ihk := ih h (by omega)
        simp only [hAt]
        split
        · rename_i hp
          have hl : r < (G i).length := Nat.lt_of_lt_of_le hrl (len_mono F h (by omega))
          by_cases hc2 : (cn cs i).n = 2
          · have hG : (G (i + 1))[r]? = some k := by
              refine chain (i + 1) (by omega) h2 (fun i' a b hc => ?_)
              rcases Nat.lt_or_ge i' i with h' | h'
              · refine safe i' a (by omega) ?_ hc
                rcases F.f3 i' i h' (by rw [F.cl]; omega) (.inl ⟨hc, by omega⟩) with h | ⟨q, h, _⟩ | ⟨q, h, _⟩
                · exact hcl i (by omega) hp i' h
                · exact (nofp i' q (by omega) hc h).elim
                · exact (nofp i q (by omega) hc2 h).elim
              · have : i' = i := by omega
                subst this
                exact safe i' a (by omega) hp hc
            by_cases ha : (D i).adds
            · rw [on_lt ha hl]; exact ihk
            · cases hd : D i with
              | no => rw [hd] at ha; exact absurd trivial ha
              | new _ => rw [hd] at ha; exact absurd trivial ha
              | news _ => rw [hd] at ha; exact absurd trivial ha
              | set c k2 =>
                simp only [Dl.on, upd]
                by_cases hc : r = c
                · rw [if_pos hc]
                  rw [F.gs i (by omega), hd] at hG
                  simp only [Dl.app, hc, List.getElem?_set] at hG
                  rw [hc] at hl
                  rw [if_pos trivial, if_pos hl] at hG
                  exact .inr hG
                · rw [if_neg hc]; exact ihk
              | full T2 H2 =>
                rw [F.gs i (by omega), hd] at hG
                exact .inr hG
          · rw [on_lt (F.d1 i (by omega) hc2) hl]; exact ihk
        · exact ihk
  exact rest is.length (by omega) (Nat.le_refl _)

/-- One operation, in whatever order. -/
theorem one_op {p : Nat → Bool} (hcl : Closed bf is.length p) {c : Cx} (hgd : Gd P c) (hr : RelH c) {a : Act} (he : EnvRel c (eAt (dstOf is) V e p is.length) a) (hH : c.H = hAt G D H p is.length)
    {j : Nat} {b : IOper} (hb : is[j]? = some b) (hpj : p j = false) (hbef : ∀ i, bit bf i j = true → p i = true) {o : Oper} (hok : okOp P o.op b.op = true) (hX : X j = true) :
    Goes P c a o (V j) ((D j).on (G j).length c.H) := by
  have hj : j < is.length := by
    rcases Nat.lt_or_ge j is.length with h | h
    · exact h
    · rw [List.getElem?_eq_none h] at hb; cases hb
  obtain ⟨hst, hcs⟩ := q.yes j b hb hX
  have hag : ∀ t ∈ opTmps b.op, get (E j) t = get (eAt (dstOf is) V e p is.length) t := fun t ht => (env_agree F q hcl hb hpj hbef (by simp [names, ht])).symm
  have hst' := stepR_congr hag hst
  have hcc : clsOf S b.op (eAt (dstOf is) V e p is.length) = clsOf S b.op (E j) := by
    have hev : ∀ x, (∀ t ∈ opdT x, t ∈ opTmps b.op) → ev (eAt (dstOf is) V e p is.length) x = ev (E j) x := fun x hx => ev_congr fun t ht => (hag t (hx t ht)).symm
    cases hop : b.op with
    | ld ag x => simp only [clsOf]; rw [hev x (by rw [hop]; intro t ht; exact ht)]
    | iad esz x i => simp only [clsOf]; rw [hev x (by rw [hop]; intro t ht; simp [opTmps, ht])]
    | slc esz x lo hi mx => simp only [clsOf]; rw [hev x (by rw [hop]; intro t ht; simp [opTmps, ht])]
    | app esz bytes x y => simp only [clsOf]; rw [hev x (by rw [hop]; intro t ht; simp [opTmps, ht])]
    | b2s x => simp only [clsOf]; rw [hev x (by rw [hop]; intro t ht; exact ht)]
    | cv x ys => simp only [clsOf]; rw [hev x (by rw [hop]; intro t ht; simp [opTmps, ht])]
    | _ => rfl
  have hcd : cn cs j = clD S b.op (E j) (D j) := by rw [cn, List.getD_eq_getElem?_getD, hcs]; rfl
  have hcj : (cn cs j).n = clsOf S b.op (E j) := by rw [hcd]; rfl
  have hle := clsOf_le S b.op (E j)
  have hnob : ∀ i, j < i → i < is.length → p i = true → ¬ bit bf j i = true := fun i h1 h2 h3 h4 => by
    have := hcl i h2 h3 j h4
    rw [hpj] at this; cases this
  by_cases c0 : clsOf S b.op (E j) = 0
  · obtain ⟨g1, g2⟩ := cls0 (by rw [hcc]; exact c0) hst'
    rw [g1]
    exact step_goes (H := []) hgd hr he (fun b k h => by simp at h) hok g2 (fun h => by rw [hcc, c0] at h; cases h) (fun _ b h1 h2 => by simp [Dl.app] at h2)
  · cases hfp : (cn cs j).fp with
    | some r =>
      have hq : fpOf b.op (E j) = some r := by rw [hcd] at hfp; exact hfp
      have hk : stepK b.op (E j) (G j) (fun a b => a = V j ∧ b = D j) := by
        cases hop : b.op <;> rw [hop] at hq hst <;> first | exact hst | (simp only [fpOf] at hq; cases hq)
      obtain ⟨hd, ⟨k, hkr⟩, hfar⟩ := stepK_fp hq hk
      have hsee := heap_fp F q hcl hj hpj hbef hfp hkr
      rw [← hH] at hsee
      let Hq : List Blk := (List.range (r + 1)).map fun b' => if b' = r then k else (c.H b').getD ⟨0, true, 0, [], none⟩
      have hHq : Hq[r]? = some k := by simp [Hq]
      have hst2 := hfar Hq (by rw [hHq, hkr])
      have hst3 : stepR P S b.op (eAt (dstOf is) V e p is.length) Hq (V j) (D j) := by
        refine stepR_congr hag ?_
        cases hop : b.op <;> rw [hop] at hq hst2 <;> first | exact hst2 | (simp only [fpOf] at hq; cases hq)
      have := step_goes (H := Hq) hgd hr he (fun b' k' h => by
        simp only [Hq, List.getElem?_map] at h
        cases hb' : (List.range (r + 1))[b']? with
        | none => rw [hb'] at h; simp at h
        | some x =>
          have : x = b' := by
            have := List.getElem?_eq_some_iff.1 hb'
            simp at this
            exact this.2.symm
          rw [hb'] at h
          simp at h
          subst this
          by_cases e : x = r
          · subst e; simp at h; subst h; exact hsee
          · rw [if_neg e] at h
            cases hc : c.H x with
            | none => exact .inl rfl
            | some k2 => rw [hc] at h; simp at h; subst h; exact .inr rfl) hok hst3 (fun h => by rw [hcc, ← hcj, (F.fr j r hj hfp).2] at h; cases h) (fun _ b' h1 h2 => by rw [hd] at h2; simp only [Dl.app] at h2; omega)
      rw [hd] at this ⊢
      exact this
    | none =>
    have hwb : ∀ i, i < j → (cn cs i).n = 2 → p i = true := fun i hi h => by
      rcases F.f3 i j hi (by rw [F.cl]; omega) (.inl ⟨h, by rw [hcj]; exact c0⟩) with h' | ⟨q, h', _⟩ | ⟨q, h', _⟩
      · exact hbef i h'
      · have := (F.fr i q (by omega) h').2; omega
      · rw [hfp] at h'; cases h'
    by_cases c2 : clsOf S b.op (E j) = 2
    · have hall : ∀ i, i < j → (cn cs i).n ≠ 0 → p i = true ∨ D i = .no := fun i hi h => by
        rcases F.f3 i j hi (by rw [F.cl]; omega) (.inr ⟨by rw [hcj]; exact c2, h⟩) with h' | ⟨q, h', _⟩ | ⟨q, h', _⟩
        · exact .inl (hbef i h')
        · exact .inr (F.fr i q (by omega) h').1
        · rw [hfp] at h'; cases h'
      have hlat : ∀ i, j ≤ i → i < is.length → p i = true → D i = .no := fun i h1 h2 h3 => by
        have hij : j ≠ i := fun h => by rw [h] at hpj; rw [hpj] at h3; cases h3
        by_cases h : (cn cs i).n = 0
        · exact F.d0 i h2 h
        · rcases F.f3 j i (by omega) (by rw [F.cl]; omega) (.inl ⟨by rw [hcj]; exact c2, h⟩) with h' | ⟨q, h', _⟩ | ⟨q, h', _⟩
          · exact absurd h' (hnob i (by omega) h2 h3)
          · rw [hfp] at h'; cases h'
          · exact (F.fr i q h2 h').1
      have hGj : hAt G D H p is.length = fun b => (G j)[b]? := by
        rw [← hAt_eq F q.g0 (p := p) (n := j) (by omega) hall]
        have : ∀ i, j ≤ i → i ≤ is.length → hAt G D H p i = hAt G D H p j := by
          intro i
          induction i with
          | zero => intro h _; have : j = 0 := by omega
                    rw [this]
          | succ i ih =>
            intro hi hn
            rcases Nat.lt_or_ge i j with h | h
            · have : i + 1 = j := by omega
              rw [this]
            · rw [← ih h (by omega)]
              simp only [hAt]
              split
              · rename_i hp; rw [hlat i h (by omega) hp]; rfl
              · rfl
        exact this is.length (by omega) (Nat.le_refl _)
      have hcH : c.H = fun b => (G j)[b]? := hH.trans hGj
      refine step_goes hgd hr he (fun b k h => .inr (by rw [hcH]; exact h)) hok hst' (fun _ => hcH) (fun _ b h1 h2 => ?_)
      rw [hcH]
      exact List.getElem?_eq_none h1
    · have c1 : clsOf S b.op (E j) = 1 := by omega
      have hadd : ∀ i, j ≤ i → i < is.length → p i = true → (D i).adds := fun i h1 h2 h3 => by
        have hij : j ≠ i := fun h => by rw [h] at hpj; rw [hpj] at h3; cases h3
        refine F.d1 i h2 (fun h => ?_)
        rcases F.f3 j i (by omega) (by rw [F.cl]; omega) (.inr ⟨h, by rw [hcj]; omega⟩) with h' | ⟨q, h', _⟩ | ⟨q, h', _⟩
        · exact absurd h' (hnob i (by omega) h2 h3)
        · rw [hfp] at h'; cases h'
        · have := (F.fr i q h2 h').2; omega
      refine step_goes hgd hr he (fun b k h => ?_) hok hst' (fun h => by rw [hcc, c1] at h; cases h) (fun hd b h1 h2 => ?_)
      · rw [hH, heap_later F (by omega) hadd (by
          rcases Nat.lt_or_ge b (G j).length with h' | h'
          · exact h'
          · rw [List.getElem?_eq_none h'] at h; cases h)]
        exact hAt_sub F q.g0 (by omega) hwb b k h
      · rw [← F.gs j hj] at h2
        rw [hH, heap_later F (j := j + 1) (by omega) (fun i h1 h2 h3 => hadd i (by omega) h2 h3) h2]
        simp only [hAt, hpj, Bool.false_eq_true, if_false]
        exact hAt_dom F q.g0 (by omega) b h1
end
end Go.Sym
