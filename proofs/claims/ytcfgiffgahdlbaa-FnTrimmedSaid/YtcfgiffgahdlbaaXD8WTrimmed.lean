/- What drawing a proof answers. Conditions: those that each theorem names. -/
import Derived.Test.YtcfgiffgahdlbaaXB1E6
import Derived.Test.YtcfgiffgahdlbaaXE13Q2
import Derived.Test.YtcfgiffgahdlbaaXC1D4
import Derived.Test.YtcfgiffgahdlbaaXE7E12
set_option linter.unusedVariables false
set_option linter.unusedSimpArgs false
set_option maxRecDepth 40000
namespace Go.Proofs.Ytcfgiffgahdlbaa.C
open Go.Sym Go.Proofs.Ytcfgiffgahdlbaa.I
/-- The term that a proof is drawn for. -/
def d8t (bs : List Int) (all : List Int) (t : Int) (s : Cu) : Int × Cu :=
  if all = [] then (t, s) else if (onceF bs s 4).1 = true then (t, (onceF bs s 4).2)
  else (all.getD (all.length - 1 - (belowF bs (onceF bs s 4).2 (min (all.length : Int) 6)).1.toNat) 0, (belowF bs (onceF bs s 4).2 (min (all.length : Int) 6)).2)
def setR (ss : List Sp) (i : Nat) (v : Int) : List Sp := ss.set i ⟨v, (spAt ss i).t, (spAt ss i).a, (spAt ss i).b⟩
def setT (ss : List Sp) (i : Nat) (v : Int) : List Sp := ss.set i ⟨(spAt ss i).r, v, (spAt ss i).a, (spAt ss i).b⟩
def setA (ss : List Sp) (i : Nat) (v : Int) : List Sp := ss.set i ⟨(spAt ss i).r, (spAt ss i).t, v, (spAt ss i).b⟩
def setB (ss : List Sp) (i : Nat) (v : Int) : List Sp := ss.set i ⟨(spAt ss i).r, (spAt ss i).t, (spAt ss i).a, v⟩
def d8w (bs : List Int) (m : Nat) (ss : List Sp) (i : Nat) (w : Int × Cu) : List Sp :=
  if w.1 = 0 then setR ss i (belowF bs w.2 10).1 else if w.1 = 1 then setA ss i ((belowF bs w.2 5).1 - 1) else if w.1 = 2 then setB ss i ((belowF bs w.2 5).1 - 1)
  else if w.1 = 3 then setT ss i (termF bs w.2 m).1 else if w.1 = 4 then ss ++ [spAt ss i] else ss
def d8v (bs : List Int) (m : Nat) (ss : List Sp) (i : Int × Cu) : List Sp := d8w bs m ss i.1.toNat (belowF bs i.2 15)
/-- The list of steps, changed at one place. -/
def d8m (bs : List Int) (m : Nat) (ss : List Sp) (s : Cu) : List Sp := if ss = [] then [] else d8v bs m ss (belowF bs s ss.length)
def d8l (bs : List Int) (ns : List Nd) (ks : List Int) (t : Int × Cu) : List Sp × Int :=
  (d8m bs ns.length (if (onceF bs t.2 4).1 = true then allSt ns ks else (ofF ns ks t.1).1) (onceF bs t.2 4).2, t.1)
/-- What l9DrawProof answers, over what l6Draw answers. -/
def d8 (bs : List Int) (d : List Nd × List Int × Int) : List Sp × Int := d8l bs d.1 d.2.1 (d8t bs (derF d.1 d.2.1) d.2.2 ⟨0, newH bs⟩)
theorem encS_set {x : A} {s : Sp} {k : Nat} (hk : k < 4) : ∀ {ss : List Sp} {j : Nat} (h : j < ss.length), encT s = (encT ss[j]).set k x → (encS ss).set (j * 4 + k) x = encS (ss.set j s)
  | [], j, h, _ => absurd h (by simp)
  | a :: r, 0, h, e => by
    simp only [List.getElem_cons_zero] at e
    simp only [encS, List.flatMap_cons, List.set_cons_zero, Nat.zero_mul, Nat.zero_add]
    rw [List.set_append_left _ _ (by rw [encT_len]; exact hk), e]
  | a :: r, j + 1, h, e => by
    simp only [List.getElem_cons_succ] at e
    have ih := encS_set hk (ss := r) (j := j) (by simpa using h) e
    simp only [encS, List.flatMap_cons, List.set_cons_succ] at ih ⊢
    rw [List.set_append_right _ _ (by rw [encT_len]; omega), encT_len, show (j + 1) * 4 + k - 4 = j * 4 + k by omega, ih]
theorem encS_setR {ss : List Sp} {j : Nat} (h : j < ss.length) (v : Int) : (encS ss).set (j * 4) (i6 v) = encS (setR ss j v) := encS_set (k := 0) (by omega) h (by rw [spAt_lt h]; rfl)
theorem encS_setT {ss : List Sp} {j : Nat} (h : j < ss.length) (v : Int) : (encS ss).set (j * 4 + 1) (i6 v) = encS (setT ss j v) := encS_set (by omega) h (by rw [spAt_lt h]; rfl)
theorem encS_setA {ss : List Sp} {j : Nat} (h : j < ss.length) (v : Int) : (encS ss).set (j * 4 + 2) (i6 v) = encS (setA ss j v) := encS_set (by omega) h (by rw [spAt_lt h]; rfl)
theorem encS_setB {ss : List Sp} {j : Nat} (h : j < ss.length) (v : Int) : (encS ss).set (j * 4 + 3) (i6 v) = encS (setB ss j v) := encS_set (by omega) h (by rw [spAt_lt h]; rfl)
@[simp] theorem setR_len (ss : List Sp) (j : Nat) (v : Int) : (setR ss j v).length = ss.length := by simp [setR]
@[simp] theorem setT_len (ss : List Sp) (j : Nat) (v : Int) : (setT ss j v).length = ss.length := by simp [setT]
@[simp] theorem setA_len (ss : List Sp) (j : Nat) (v : Int) : (setA ss j v).length = ss.length := by simp [setA]
@[simp] theorem setB_len (ss : List Sp) (j : Nat) (v : Int) : (setB ss j v).length = ss.length := by simp [setB]
@[simp] theorem setR_take (ss : List Sp) (j : Nat) (v : Int) : (encS (setR ss j v)).take (ss.length * 4) = encS (setR ss j v) := List.take_of_length_le (by simp)
@[simp] theorem setT_take (ss : List Sp) (j : Nat) (v : Int) : (encS (setT ss j v)).take (ss.length * 4) = encS (setT ss j v) := List.take_of_length_le (by simp)
@[simp] theorem setA_take (ss : List Sp) (j : Nat) (v : Int) : (encS (setA ss j v)).take (ss.length * 4) = encS (setA ss j v) := List.take_of_length_le (by simp)
@[simp] theorem setB_take (ss : List Sp) (j : Nat) (v : Int) : (encS (setB ss j v)).take (ss.length * 4) = encS (setB ss j v) := List.take_of_length_le (by simp)
theorem trimGo_len (ns : List Nd) (ss : List Sp) (kb : List Bool) : ∀ (n j : Nat) (now : List Int) (out : List Sp), (trimGo ns ss kb n j now out).length ≤ out.length + n
  | 0, _, _, out => Nat.le_refl _
  | n + 1, j, now, out => by
    unfold trimGo
    split
    · have := trimGo_len ns ss kb n (j + 1) (now.set j out.length) (out ++ [moveF ns now (spAt ss j)])
      simp only [List.length_append, List.length_singleton] at this
      omega
    · have := trimGo_len ns ss kb n (j + 1) now out
      omega
theorem trimF_len (ns : List Nd) (ss : List Sp) : (trimF ns ss).length ≤ ss.length := by
  unfold trimF
  split
  · have := trimGo_len ns ss (keepV ns ss) ss.length 0 (List.replicate ss.length 0) []
    simpa [trimV] using this
  · simp
theorem ofF_le (ns : List Nd) (ks : List Int) (t : Int) : (ofF ns ks t).1.length ≤ 500 := by
  unfold ofF
  split
  · have h1 := trimF_len ns (upto (allSt ns ks) t)
    have h2 := allSt_le ns ks
    have h3 : (upto (allSt ns ks) t).length ≤ (allSt ns ks).length := by simp [upto]; omega
    simp only
    omega
  · simp
theorem derF_len (ns : List Nd) (ks : List Int) : (derF ns ks).length ≤ ns.length := by
  unfold derF
  split
  · unfold mlistF listF
    rw [listGo_len]
    refine Nat.le_trans List.countP_le_length ?_
    unfold makesF
    split
    · rw [mkUp_len]; exact Nat.le_refl _
    · simp
  · simp
theorem spec_l9DrawProof_c (bs : List Int) (hb : bs.length < 9223372036854775807) : T 60 [aB bs] [] (.tup [aP (d6 bs).1, aI (d6 bs).2.1, aSs (d8 bs (d6 bs)).1, i6 (d8 bs (d6 bs)).2]) ([]) := by
  refine semT' (S := (fun f => [107, 86, 85, 103, 104, 81].contains f)) hm spec_l9DrawProof_ok (Nat.le_of_ble_eq_true rfl) ?_
  unfold spec_l9DrawProof; dsimp only
  simp
  refine spec_l6Draw_k (bs := bs) hb rfl (by simp) (by simp [noslBlks]) ?_; simp [shiftB]
  have hl := d6_len bs
  generalize d6 bs = d at hl ⊢
  obtain ⟨ns, ks, t⟩ := d
  simp only at hl
  simp
  refine spec_l1New_k (bs := bs) hb rfl (by simp) (by simp [noslBlks]) ?_; simp [shiftB]
  refine spec_DerivesList_k (ns := ns) (ks := ks) (by omega) (by omega) rfl (by simp) (by simp [noslBlks]) ?_; simp [shiftB]
  rw [show d8 bs (ns, ks, t) = d8l bs ns ks (d8t bs (derF ns ks) t ⟨0, newH bs⟩) from rfl]
  have hal := derF_len ns ks
  generalize derF ns ks = all at hal ⊢
  refine br_intro' (fun g => ?_) (fun g => ?_) <;> (have g0 := g) <;> simp only [decide_eq_true_eq, decide_eq_false_iff_not] at g
  · have g1 : ¬ all = [] := by intro e; rw [e] at g; exact absurd g (by simp)
    simp [g0, g1]
    refine cur_callR rfl 2 bs ⟨0, newH bs⟩ _ rfl (spec_l1Once_m _ 2 bs _ 4 (by simp) hb) ?_; simp [cur]
    rw [show d8t bs all t ⟨0, newH bs⟩ = if (onceF bs ⟨0, newH bs⟩ 4).1 = true then (t, (onceF bs ⟨0, newH bs⟩ 4).2) else (all.getD (all.length - 1 - (belowF bs (onceF bs ⟨0, newH bs⟩ 4).2 (min (all.length : Int) 6)).1.toNat) 0, (belowF bs (onceF bs ⟨0, newH bs⟩ 4).2 (min (all.length : Int) 6)).2) from if_neg g1]
    generalize onceF bs ⟨0, newH bs⟩ 4 = o
    refine br_intro' (fun g2 => ?_) (fun g2 => ?_) <;> (have g20 := g2)
    · rw [if_pos g2]
      simp [g2, g20]
      refine spec_ProofOf_k (ns := ns) (ks := ks) (t := t) (by omega) (by omega) rfl (by simp) (by simp [noslBlks]) ?_; simp [shiftB]
      refine cur_callR rfl 2 bs o.2 _ rfl (spec_l1Once_m _ 2 bs _ 4 (by simp) hb) ?_; simp [cur]
      rw [show d8l bs ns ks (t, o.2) = (d8m bs ns.length (if (onceF bs o.2 4).1 = true then allSt ns ks else (ofF ns ks t).1) (onceF bs o.2 4).2, t) from rfl]
      have hol := ofF_le ns ks t
      generalize onceF bs o.2 4 = o2
      generalize (ofF ns ks t).1 = of at hol ⊢
      refine br_intro' (fun g3 => ?_) (fun g3 => ?_) <;> (have g30 := g3)
      · rw [if_pos g3]
        simp [g30]
        refine spec_ProofAll_k (ns := ns) (ks := ks) (by omega) (by omega) rfl (by simp) (by simp [noslBlks]) ?_; simp [shiftB]
        have hol2 := allSt_le ns ks
        generalize allSt ns ks = ss at hol2 ⊢
        rw [show d8m bs ns.length ss o2.2 = if ss = [] then [] else d8v bs ns.length ss (belowF bs o2.2 ss.length) from rfl]
        refine br_intro' (fun g4 => ?_) (fun g4 => ?_) <;> (have g40 := g4) <;> simp only [decide_eq_true_eq, decide_eq_false_iff_not] at g4
        · have g5 : ¬ ss = [] := by intro e; rw [e] at g4; exact absurd g4 (by simp)
          rw [if_neg g5]
          simp [g40, g5]
          repeat (refine ck_intro' (by first | omega | (simp; omega) | kernel_rfl) ?_; try simp [g5])
          refine cur_callR rfl 2 bs o2.2 _ rfl (spec_l1Below_m _ 2 bs _ ss.length (by simp) hb) ?_; simp [cur]
          have hi := belowF_in bs o2.2 ss.length
          generalize belowF bs o2.2 ss.length = i at hi ⊢
          obtain ⟨x, i2⟩ := i
          obtain ⟨j, hj⟩ : ∃ j : Nat, x = j := ⟨x.toNat, by simp only at hi; omega⟩
          subst hj
          have hjl : j < ss.length := by simp only at hi; omega
          refine cur_callR rfl 2 bs i2 _ rfl (spec_l1Below_m _ 2 bs _ 15 (by simp) hb) ?_; simp [cur]
          rw [show d8v bs ns.length ss ((j : Int), i2) = d8w bs ns.length ss j (belowF bs i2 15) from rfl]
          generalize belowF bs i2 15 = w
          obtain ⟨y, w2⟩ := w
          simp
          refine br_intro' (fun v0 => ?_) (fun v0 => ?_) <;> (have u0 := v0) <;> simp only [decide_eq_true_eq, decide_eq_false_iff_not] at u0 <;> simp [v0, u0]
          · subst u0
            refine cur_callR rfl 2 bs w2 _ rfl (spec_l1Below_m _ 2 bs _ 10 (by simp) hb) ?_; simp [cur]
            rw [show d8w bs ns.length ss j (0, w2) = setR ss j (belowF bs w2 10).1 from rfl]
            generalize belowF bs w2 10 = z
            repeat (refine ck_intro' (by first | omega | (simp; omega) | kernel_rfl) ?_; try simp [hjl])
            exact LeV.ro rfl rfl (by simp [encS_setR hjl])
          refine br_intro' (fun v1 => ?_) (fun v1 => ?_) <;> (have u1 := v1) <;> simp only [decide_eq_true_eq, decide_eq_false_iff_not] at u1 <;> simp [v1, u1]
          · subst u1
            refine cur_callR rfl 2 bs w2 _ rfl (spec_l1Below_m _ 2 bs _ 5 (by simp) hb) ?_; simp [cur]
            rw [show d8w bs ns.length ss j (1, w2) = setA ss j ((belowF bs w2 5).1 - 1) from rfl]
            have hz := belowF_in bs w2 5
            generalize belowF bs w2 5 = z at hz ⊢
            have hzw : IntKind.i64.wrap (z.1 - 1) = z.1 - 1 := wrap64 (by omega) (by have := hz.2.1 (by omega); omega)
            rw [hzw]
            repeat (refine ck_intro' (by first | omega | (simp; omega) | kernel_rfl) ?_; try simp [hjl])
            exact LeV.ro rfl rfl (by simp [encS_setA hjl])
          refine br_intro' (fun v2 => ?_) (fun v2 => ?_) <;> (have u2 := v2) <;> simp only [decide_eq_true_eq, decide_eq_false_iff_not] at u2 <;> simp [v2, u2]
          · subst u2
            refine cur_callR rfl 2 bs w2 _ rfl (spec_l1Below_m _ 2 bs _ 5 (by simp) hb) ?_; simp [cur]
            rw [show d8w bs ns.length ss j (2, w2) = setB ss j ((belowF bs w2 5).1 - 1) from rfl]
            have hz := belowF_in bs w2 5
            generalize belowF bs w2 5 = z at hz ⊢
            have hzw : IntKind.i64.wrap (z.1 - 1) = z.1 - 1 := wrap64 (by omega) (by have := hz.2.1 (by omega); omega)
            rw [hzw]
            repeat (refine ck_intro' (by first | omega | (simp; omega) | kernel_rfl) ?_; try simp [hjl])
            exact LeV.ro rfl rfl (by simp [encS_setB hjl])
          refine br_intro' (fun v3 => ?_) (fun v3 => ?_) <;> (have u3 := v3) <;> simp only [decide_eq_true_eq, decide_eq_false_iff_not] at u3 <;> simp [v3, u3]
          · subst u3
            refine cur_callR rfl 2 bs w2 _ rfl (spec_l1DrawTerm_m _ 2 bs _ ns (by simp) hb (by simp) (by omega)) ?_; simp [cur]
            rw [show d8w bs ns.length ss j (3, w2) = setT ss j (termF bs w2 ns.length).1 from rfl]
            generalize termF bs w2 ns.length = z
            repeat (refine ck_intro' (by first | omega | (simp; omega) | kernel_rfl) ?_; try simp [hjl])
            exact LeV.ro rfl rfl (by simp [encS_setT hjl])
          refine br_intro' (fun v4 => ?_) (fun v4 => ?_) <;> (have u4 := v4) <;> simp only [decide_eq_true_eq, decide_eq_false_iff_not] at u4 <;> simp [v4, u4]
          · subst u4
            rw [show d8w bs ns.length ss j (4, w2) = ss ++ [spAt ss j] from rfl]
            obtain ⟨r4, hr4⟩ := encS_at hjl
            have h4 : 4 ≤ ss.length * 4 - j * 4 := by omega
            repeat (refine ck_intro' (by first | omega | (simp; omega) | kernel_rfl) ?_; try simp [hjl])
            simp [h4, hr4]
            repeat (refine ck_intro' (by first | omega | (simp; omega) | kernel_rfl) ?_; try simp [hjl])
            have e5 := encS_snoc ss ss[j]
            have e6 : (encS (ss ++ [ss[j]])).take ((ss.length + 1) * 4) = encS (ss ++ [ss[j]]) := List.take_of_length_le (by simp)
            rw [← e5]
            exact LeV.ro rfl rfl (by simp [e6])
          · rw [show d8w bs ns.length ss j (y, w2) = ss by simp [d8w, u0, u1, u2, u3, u4]]
            repeat (refine ck_intro' (by first | omega | (simp; omega) | kernel_rfl) ?_; try simp [hjl])
            exact LeV.ro rfl rfl (by simp)
        · have g5 : ss = [] := List.eq_nil_of_length_eq_zero (by omega)
          rw [if_pos g5]
          subst g5
          simp
          repeat (refine ck_intro' (by first | omega | (simp; omega) | kernel_rfl) ?_; try simp)
          exact LeV.ro rfl rfl (by simp)
      · rw [if_neg (by simp [g3])]
        simp [g30]
        rw [show d8m bs ns.length of o2.2 = if of = [] then [] else d8v bs ns.length of (belowF bs o2.2 of.length) from rfl]
        refine br_intro' (fun g4 => ?_) (fun g4 => ?_) <;> (have g40 := g4) <;> simp only [decide_eq_true_eq, decide_eq_false_iff_not] at g4
        · have g5 : ¬ of = [] := by intro e; rw [e] at g4; exact absurd g4 (by simp)
          rw [if_neg g5]
          simp [g40, g5]
          repeat (refine ck_intro' (by first | omega | (simp; omega) | kernel_rfl) ?_; try simp [g5])
          refine cur_callR rfl 2 bs o2.2 _ rfl (spec_l1Below_m _ 2 bs _ of.length (by simp) hb) ?_; simp [cur]
          have hi := belowF_in bs o2.2 of.length
          generalize belowF bs o2.2 of.length = i at hi ⊢
          obtain ⟨x, i2⟩ := i
          obtain ⟨j, hj⟩ : ∃ j : Nat, x = j := ⟨x.toNat, by simp only at hi; omega⟩
          subst hj
          have hjl : j < of.length := by simp only at hi; omega
          refine cur_callR rfl 2 bs i2 _ rfl (spec_l1Below_m _ 2 bs _ 15 (by simp) hb) ?_; simp [cur]
          rw [show d8v bs ns.length of ((j : Int), i2) = d8w bs ns.length of j (belowF bs i2 15) from rfl]
          generalize belowF bs i2 15 = w
          obtain ⟨y, w2⟩ := w
          simp
          refine br_intro' (fun v0 => ?_) (fun v0 => ?_) <;> (have u0 := v0) <;> simp only [decide_eq_true_eq, decide_eq_false_iff_not] at u0 <;> simp [v0, u0]
          · subst u0
            refine cur_callR rfl 2 bs w2 _ rfl (spec_l1Below_m _ 2 bs _ 10 (by simp) hb) ?_; simp [cur]
            rw [show d8w bs ns.length of j (0, w2) = setR of j (belowF bs w2 10).1 from rfl]
            generalize belowF bs w2 10 = z
            repeat (refine ck_intro' (by first | omega | (simp; omega) | kernel_rfl) ?_; try simp [hjl])
            exact LeV.ro rfl rfl (by simp [encS_setR hjl])
          refine br_intro' (fun v1 => ?_) (fun v1 => ?_) <;> (have u1 := v1) <;> simp only [decide_eq_true_eq, decide_eq_false_iff_not] at u1 <;> simp [v1, u1]
          · subst u1
            refine cur_callR rfl 2 bs w2 _ rfl (spec_l1Below_m _ 2 bs _ 5 (by simp) hb) ?_; simp [cur]
            rw [show d8w bs ns.length of j (1, w2) = setA of j ((belowF bs w2 5).1 - 1) from rfl]
            have hz := belowF_in bs w2 5
            generalize belowF bs w2 5 = z at hz ⊢
            have hzw : IntKind.i64.wrap (z.1 - 1) = z.1 - 1 := wrap64 (by omega) (by have := hz.2.1 (by omega); omega)
            rw [hzw]
            repeat (refine ck_intro' (by first | omega | (simp; omega) | kernel_rfl) ?_; try simp [hjl])
            exact LeV.ro rfl rfl (by simp [encS_setA hjl])
          refine br_intro' (fun v2 => ?_) (fun v2 => ?_) <;> (have u2 := v2) <;> simp only [decide_eq_true_eq, decide_eq_false_iff_not] at u2 <;> simp [v2, u2]
          · subst u2
            refine cur_callR rfl 2 bs w2 _ rfl (spec_l1Below_m _ 2 bs _ 5 (by simp) hb) ?_; simp [cur]
            rw [show d8w bs ns.length of j (2, w2) = setB of j ((belowF bs w2 5).1 - 1) from rfl]
            have hz := belowF_in bs w2 5
            generalize belowF bs w2 5 = z at hz ⊢
            have hzw : IntKind.i64.wrap (z.1 - 1) = z.1 - 1 := wrap64 (by omega) (by have := hz.2.1 (by omega); omega)
            rw [hzw]
            repeat (refine ck_intro' (by first | omega | (simp; omega) | kernel_rfl) ?_; try simp [hjl])
            exact LeV.ro rfl rfl (by simp [encS_setB hjl])
          refine br_intro' (fun v3 => ?_) (fun v3 => ?_) <;> (have u3 := v3) <;> simp only [decide_eq_true_eq, decide_eq_false_iff_not] at u3 <;> simp [v3, u3]
          · subst u3
            refine cur_callR rfl 2 bs w2 _ rfl (spec_l1DrawTerm_m _ 2 bs _ ns (by simp) hb (by simp) (by omega)) ?_; simp [cur]
            rw [show d8w bs ns.length of j (3, w2) = setT of j (termF bs w2 ns.length).1 from rfl]
            generalize termF bs w2 ns.length = z
            repeat (refine ck_intro' (by first | omega | (simp; omega) | kernel_rfl) ?_; try simp [hjl])
            exact LeV.ro rfl rfl (by simp [encS_setT hjl])
          refine br_intro' (fun v4 => ?_) (fun v4 => ?_) <;> (have u4 := v4) <;> simp only [decide_eq_true_eq, decide_eq_false_iff_not] at u4 <;> simp [v4, u4]
          · subst u4
            rw [show d8w bs ns.length of j (4, w2) = of ++ [spAt of j] from rfl]
            obtain ⟨r4, hr4⟩ := encS_at hjl
            have h4 : 4 ≤ of.length * 4 - j * 4 := by omega
            repeat (refine ck_intro' (by first | omega | (simp; omega) | kernel_rfl) ?_; try simp [hjl])
            simp [h4, hr4]
            repeat (refine ck_intro' (by first | omega | (simp; omega) | kernel_rfl) ?_; try simp [hjl])
            have e5 := encS_snoc of of[j]
            have e6 : (encS (of ++ [of[j]])).take ((of.length + 1) * 4) = encS (of ++ [of[j]]) := List.take_of_length_le (by simp)
            rw [← e5]
            exact LeV.ro rfl rfl (by simp [e6])
          · rw [show d8w bs ns.length of j (y, w2) = of by simp [d8w, u0, u1, u2, u3, u4]]
            repeat (refine ck_intro' (by first | omega | (simp; omega) | kernel_rfl) ?_; try simp [hjl])
            exact LeV.ro rfl rfl (by simp)
        · have g5 : of = [] := List.eq_nil_of_length_eq_zero (by omega)
          rw [if_pos g5]
          subst g5
          simp
          repeat (refine ck_intro' (by first | omega | (simp; omega) | kernel_rfl) ?_; try simp)
          exact LeV.ro rfl rfl (by simp)
    · rw [if_neg (by simp [g2])]
      simp [g2, g20]
      refine spec_l1Min_k (a := all.length) (b := 6) rfl (by simp) (by simp [noslBlks]) ?_; simp [shiftB]
      have hm1 : min (all.length : Int) 6 ≤ 6 := Int.min_le_right _ _
      have hm2 : 1 ≤ min (all.length : Int) 6 := by omega
      have hm3 : min (all.length : Int) 6 ≤ all.length := Int.min_le_left _ _
      refine cur_callR rfl 2 bs o.2 _ rfl (spec_l1Below_m _ 2 bs _ (min (all.length : Int) 6) (by simp) hb) ?_; simp [cur]
      have hb2 := belowF_in bs o.2 (min (all.length : Int) 6)
      generalize belowF bs o.2 (min (all.length : Int) 6) = q at hb2 ⊢
      obtain ⟨y, q2⟩ := q
      obtain ⟨c, hc⟩ : ∃ c : Nat, y = c := ⟨y.toNat, by simp only at hb2; omega⟩
      subst hc
      have hcl : c < all.length := by simp only at hb2; omega
      have hw1 := wrap_len (n := all.length) (by omega)
      have hw2 : IntKind.i64.wrap ((all.length : Int) - 1 - c) = all.length - 1 - c := wrap64 (by omega) (by omega)
      obtain ⟨e, he⟩ : ∃ e : Nat, (all.length : Int) - 1 - c = e := ⟨all.length - 1 - c, by omega⟩
      have hel : e < all.length := by omega
      rw [hw1, hw2, he]
      rw [show (all.getD (all.length - 1 - ((((c : Nat) : Int), q2) : Int × Cu).1.toNat) 0, ((((c : Nat) : Int), q2) : Int × Cu).2) = (all[e], q2) by
        simp only
        rw [show all.length - 1 - ((c : Int)).toNat = e by omega]; simp [hel]]
      simp [hel]
      generalize all[e] = t2
      refine spec_ProofOf_k (ns := ns) (ks := ks) (t := t2) (by omega) (by omega) rfl (by simp) (by simp [noslBlks]) ?_; simp [shiftB]
      refine cur_callR rfl 2 bs q2 _ rfl (spec_l1Once_m _ 2 bs _ 4 (by simp) hb) ?_; simp [cur]
      rw [show d8l bs ns ks (t2, q2) = (d8m bs ns.length (if (onceF bs q2 4).1 = true then allSt ns ks else (ofF ns ks t2).1) (onceF bs q2 4).2, t2) from rfl]
      have hol := ofF_le ns ks t2
      generalize onceF bs q2 4 = o2
      generalize (ofF ns ks t2).1 = of at hol ⊢
      refine br_intro' (fun g3 => ?_) (fun g3 => ?_) <;> (have g30 := g3)
      · rw [if_pos g3]
        simp [g30]
        refine spec_ProofAll_k (ns := ns) (ks := ks) (by omega) (by omega) rfl (by simp) (by simp [noslBlks]) ?_; simp [shiftB]
        have hol2 := allSt_le ns ks
        generalize allSt ns ks = ss at hol2 ⊢
        rw [show d8m bs ns.length ss o2.2 = if ss = [] then [] else d8v bs ns.length ss (belowF bs o2.2 ss.length) from rfl]
        refine br_intro' (fun g4 => ?_) (fun g4 => ?_) <;> (have g40 := g4) <;> simp only [decide_eq_true_eq, decide_eq_false_iff_not] at g4
        · have g5 : ¬ ss = [] := by intro e; rw [e] at g4; exact absurd g4 (by simp)
          rw [if_neg g5]
          simp [g40, g5]
          repeat (refine ck_intro' (by first | omega | (simp; omega) | kernel_rfl) ?_; try simp [g5])
          refine cur_callR rfl 2 bs o2.2 _ rfl (spec_l1Below_m _ 2 bs _ ss.length (by simp) hb) ?_; simp [cur]
          have hi := belowF_in bs o2.2 ss.length
          generalize belowF bs o2.2 ss.length = i at hi ⊢
          obtain ⟨x, i2⟩ := i
          obtain ⟨j, hj⟩ : ∃ j : Nat, x = j := ⟨x.toNat, by simp only at hi; omega⟩
          subst hj
          have hjl : j < ss.length := by simp only at hi; omega
          refine cur_callR rfl 2 bs i2 _ rfl (spec_l1Below_m _ 2 bs _ 15 (by simp) hb) ?_; simp [cur]
          rw [show d8v bs ns.length ss ((j : Int), i2) = d8w bs ns.length ss j (belowF bs i2 15) from rfl]
          generalize belowF bs i2 15 = w
          obtain ⟨y, w2⟩ := w
          simp
          refine br_intro' (fun v0 => ?_) (fun v0 => ?_) <;> (have u0 := v0) <;> simp only [decide_eq_true_eq, decide_eq_false_iff_not] at u0 <;> simp [v0, u0]
          · subst u0
            refine cur_callR rfl 2 bs w2 _ rfl (spec_l1Below_m _ 2 bs _ 10 (by simp) hb) ?_; simp [cur]
            rw [show d8w bs ns.length ss j (0, w2) = setR ss j (belowF bs w2 10).1 from rfl]
            generalize belowF bs w2 10 = z
            repeat (refine ck_intro' (by first | omega | (simp; omega) | kernel_rfl) ?_; try simp [hjl])
            exact LeV.ro rfl rfl (by simp [encS_setR hjl])
          refine br_intro' (fun v1 => ?_) (fun v1 => ?_) <;> (have u1 := v1) <;> simp only [decide_eq_true_eq, decide_eq_false_iff_not] at u1 <;> simp [v1, u1]
          · subst u1
            refine cur_callR rfl 2 bs w2 _ rfl (spec_l1Below_m _ 2 bs _ 5 (by simp) hb) ?_; simp [cur]
            rw [show d8w bs ns.length ss j (1, w2) = setA ss j ((belowF bs w2 5).1 - 1) from rfl]
            have hz := belowF_in bs w2 5
            generalize belowF bs w2 5 = z at hz ⊢
            have hzw : IntKind.i64.wrap (z.1 - 1) = z.1 - 1 := wrap64 (by omega) (by have := hz.2.1 (by omega); omega)
            rw [hzw]
            repeat (refine ck_intro' (by first | omega | (simp; omega) | kernel_rfl) ?_; try simp [hjl])
            exact LeV.ro rfl rfl (by simp [encS_setA hjl])
          refine br_intro' (fun v2 => ?_) (fun v2 => ?_) <;> (have u2 := v2) <;> simp only [decide_eq_true_eq, decide_eq_false_iff_not] at u2 <;> simp [v2, u2]
          · subst u2
            refine cur_callR rfl 2 bs w2 _ rfl (spec_l1Below_m _ 2 bs _ 5 (by simp) hb) ?_; simp [cur]
            rw [show d8w bs ns.length ss j (2, w2) = setB ss j ((belowF bs w2 5).1 - 1) from rfl]
            have hz := belowF_in bs w2 5
            generalize belowF bs w2 5 = z at hz ⊢
            have hzw : IntKind.i64.wrap (z.1 - 1) = z.1 - 1 := wrap64 (by omega) (by have := hz.2.1 (by omega); omega)
            rw [hzw]
            repeat (refine ck_intro' (by first | omega | (simp; omega) | kernel_rfl) ?_; try simp [hjl])
            exact LeV.ro rfl rfl (by simp [encS_setB hjl])
          refine br_intro' (fun v3 => ?_) (fun v3 => ?_) <;> (have u3 := v3) <;> simp only [decide_eq_true_eq, decide_eq_false_iff_not] at u3 <;> simp [v3, u3]
          · subst u3
            refine cur_callR rfl 2 bs w2 _ rfl (spec_l1DrawTerm_m _ 2 bs _ ns (by simp) hb (by simp) (by omega)) ?_; simp [cur]
            rw [show d8w bs ns.length ss j (3, w2) = setT ss j (termF bs w2 ns.length).1 from rfl]
            generalize termF bs w2 ns.length = z
            repeat (refine ck_intro' (by first | omega | (simp; omega) | kernel_rfl) ?_; try simp [hjl])
            exact LeV.ro rfl rfl (by simp [encS_setT hjl])
          refine br_intro' (fun v4 => ?_) (fun v4 => ?_) <;> (have u4 := v4) <;> simp only [decide_eq_true_eq, decide_eq_false_iff_not] at u4 <;> simp [v4, u4]
          · subst u4
            rw [show d8w bs ns.length ss j (4, w2) = ss ++ [spAt ss j] from rfl]
            obtain ⟨r4, hr4⟩ := encS_at hjl
            have h4 : 4 ≤ ss.length * 4 - j * 4 := by omega
            repeat (refine ck_intro' (by first | omega | (simp; omega) | kernel_rfl) ?_; try simp [hjl])
            simp [h4, hr4]
            repeat (refine ck_intro' (by first | omega | (simp; omega) | kernel_rfl) ?_; try simp [hjl])
            have e5 := encS_snoc ss ss[j]
            have e6 : (encS (ss ++ [ss[j]])).take ((ss.length + 1) * 4) = encS (ss ++ [ss[j]]) := List.take_of_length_le (by simp)
            rw [← e5]
            exact LeV.ro rfl rfl (by simp [e6])
          · rw [show d8w bs ns.length ss j (y, w2) = ss by simp [d8w, u0, u1, u2, u3, u4]]
            repeat (refine ck_intro' (by first | omega | (simp; omega) | kernel_rfl) ?_; try simp [hjl])
            exact LeV.ro rfl rfl (by simp)
        · have g5 : ss = [] := List.eq_nil_of_length_eq_zero (by omega)
          rw [if_pos g5]
          subst g5
          simp
          repeat (refine ck_intro' (by first | omega | (simp; omega) | kernel_rfl) ?_; try simp)
          exact LeV.ro rfl rfl (by simp)
      · rw [if_neg (by simp [g3])]
        simp [g30]
        rw [show d8m bs ns.length of o2.2 = if of = [] then [] else d8v bs ns.length of (belowF bs o2.2 of.length) from rfl]
        refine br_intro' (fun g4 => ?_) (fun g4 => ?_) <;> (have g40 := g4) <;> simp only [decide_eq_true_eq, decide_eq_false_iff_not] at g4
        · have g5 : ¬ of = [] := by intro e; rw [e] at g4; exact absurd g4 (by simp)
          rw [if_neg g5]
          simp [g40, g5]
          repeat (refine ck_intro' (by first | omega | (simp; omega) | kernel_rfl) ?_; try simp [g5])
          refine cur_callR rfl 2 bs o2.2 _ rfl (spec_l1Below_m _ 2 bs _ of.length (by simp) hb) ?_; simp [cur]
          have hi := belowF_in bs o2.2 of.length
          generalize belowF bs o2.2 of.length = i at hi ⊢
          obtain ⟨x, i2⟩ := i
          obtain ⟨j, hj⟩ : ∃ j : Nat, x = j := ⟨x.toNat, by simp only at hi; omega⟩
          subst hj
          have hjl : j < of.length := by simp only at hi; omega
          refine cur_callR rfl 2 bs i2 _ rfl (spec_l1Below_m _ 2 bs _ 15 (by simp) hb) ?_; simp [cur]
          rw [show d8v bs ns.length of ((j : Int), i2) = d8w bs ns.length of j (belowF bs i2 15) from rfl]
          generalize belowF bs i2 15 = w
          obtain ⟨y, w2⟩ := w
          simp
          refine br_intro' (fun v0 => ?_) (fun v0 => ?_) <;> (have u0 := v0) <;> simp only [decide_eq_true_eq, decide_eq_false_iff_not] at u0 <;> simp [v0, u0]
          · subst u0
            refine cur_callR rfl 2 bs w2 _ rfl (spec_l1Below_m _ 2 bs _ 10 (by simp) hb) ?_; simp [cur]
            rw [show d8w bs ns.length of j (0, w2) = setR of j (belowF bs w2 10).1 from rfl]
            generalize belowF bs w2 10 = z
            repeat (refine ck_intro' (by first | omega | (simp; omega) | kernel_rfl) ?_; try simp [hjl])
            exact LeV.ro rfl rfl (by simp [encS_setR hjl])
          refine br_intro' (fun v1 => ?_) (fun v1 => ?_) <;> (have u1 := v1) <;> simp only [decide_eq_true_eq, decide_eq_false_iff_not] at u1 <;> simp [v1, u1]
          · subst u1
            refine cur_callR rfl 2 bs w2 _ rfl (spec_l1Below_m _ 2 bs _ 5 (by simp) hb) ?_; simp [cur]
            rw [show d8w bs ns.length of j (1, w2) = setA of j ((belowF bs w2 5).1 - 1) from rfl]
            have hz := belowF_in bs w2 5
            generalize belowF bs w2 5 = z at hz ⊢
            have hzw : IntKind.i64.wrap (z.1 - 1) = z.1 - 1 := wrap64 (by omega) (by have := hz.2.1 (by omega); omega)
            rw [hzw]
            repeat (refine ck_intro' (by first | omega | (simp; omega) | kernel_rfl) ?_; try simp [hjl])
            exact LeV.ro rfl rfl (by simp [encS_setA hjl])
          refine br_intro' (fun v2 => ?_) (fun v2 => ?_) <;> (have u2 := v2) <;> simp only [decide_eq_true_eq, decide_eq_false_iff_not] at u2 <;> simp [v2, u2]
          · subst u2
            refine cur_callR rfl 2 bs w2 _ rfl (spec_l1Below_m _ 2 bs _ 5 (by simp) hb) ?_; simp [cur]
            rw [show d8w bs ns.length of j (2, w2) = setB of j ((belowF bs w2 5).1 - 1) from rfl]
            have hz := belowF_in bs w2 5
            generalize belowF bs w2 5 = z at hz ⊢
            have hzw : IntKind.i64.wrap (z.1 - 1) = z.1 - 1 := wrap64 (by omega) (by have := hz.2.1 (by omega); omega)
            rw [hzw]
            repeat (refine ck_intro' (by first | omega | (simp; omega) | kernel_rfl) ?_; try simp [hjl])
            exact LeV.ro rfl rfl (by simp [encS_setB hjl])
          refine br_intro' (fun v3 => ?_) (fun v3 => ?_) <;> (have u3 := v3) <;> simp only [decide_eq_true_eq, decide_eq_false_iff_not] at u3 <;> simp [v3, u3]
          · subst u3
            refine cur_callR rfl 2 bs w2 _ rfl (spec_l1DrawTerm_m _ 2 bs _ ns (by simp) hb (by simp) (by omega)) ?_; simp [cur]
            rw [show d8w bs ns.length of j (3, w2) = setT of j (termF bs w2 ns.length).1 from rfl]
            generalize termF bs w2 ns.length = z
            repeat (refine ck_intro' (by first | omega | (simp; omega) | kernel_rfl) ?_; try simp [hjl])
            exact LeV.ro rfl rfl (by simp [encS_setT hjl])
          refine br_intro' (fun v4 => ?_) (fun v4 => ?_) <;> (have u4 := v4) <;> simp only [decide_eq_true_eq, decide_eq_false_iff_not] at u4 <;> simp [v4, u4]
          · subst u4
            rw [show d8w bs ns.length of j (4, w2) = of ++ [spAt of j] from rfl]
            obtain ⟨r4, hr4⟩ := encS_at hjl
            have h4 : 4 ≤ of.length * 4 - j * 4 := by omega
            repeat (refine ck_intro' (by first | omega | (simp; omega) | kernel_rfl) ?_; try simp [hjl])
            simp [h4, hr4]
            repeat (refine ck_intro' (by first | omega | (simp; omega) | kernel_rfl) ?_; try simp [hjl])
            have e5 := encS_snoc of of[j]
            have e6 : (encS (of ++ [of[j]])).take ((of.length + 1) * 4) = encS (of ++ [of[j]]) := List.take_of_length_le (by simp)
            rw [← e5]
            exact LeV.ro rfl rfl (by simp [e6])
          · rw [show d8w bs ns.length of j (y, w2) = of by simp [d8w, u0, u1, u2, u3, u4]]
            repeat (refine ck_intro' (by first | omega | (simp; omega) | kernel_rfl) ?_; try simp [hjl])
            exact LeV.ro rfl rfl (by simp)
        · have g5 : of = [] := List.eq_nil_of_length_eq_zero (by omega)
          rw [if_pos g5]
          subst g5
          simp
          repeat (refine ck_intro' (by first | omega | (simp; omega) | kernel_rfl) ?_; try simp)
          exact LeV.ro rfl rfl (by simp)
  · have g1 : all = [] := List.eq_nil_of_length_eq_zero (by omega)
    subst g1
    rw [show d8t bs [] t ⟨0, newH bs⟩ = (t, ⟨0, newH bs⟩) from rfl]
    simp
    refine spec_ProofOf_k (ns := ns) (ks := ks) (t := t) (by omega) (by omega) rfl (by simp) (by simp [noslBlks]) ?_; simp [shiftB]
    refine cur_callR rfl 2 bs (⟨0, newH bs⟩:Cu) _ rfl (spec_l1Once_m _ 2 bs _ 4 (by simp) hb) ?_; simp [cur]
    rw [show d8l bs ns ks (t, (⟨0, newH bs⟩:Cu)) = (d8m bs ns.length (if (onceF bs (⟨0, newH bs⟩:Cu) 4).1 = true then allSt ns ks else (ofF ns ks t).1) (onceF bs (⟨0, newH bs⟩:Cu) 4).2, t) from rfl]
    have hol := ofF_le ns ks t
    generalize onceF bs (⟨0, newH bs⟩:Cu) 4 = o2
    generalize (ofF ns ks t).1 = of at hol ⊢
    refine br_intro' (fun g3 => ?_) (fun g3 => ?_) <;> (have g30 := g3)
    · rw [if_pos g3]
      simp [g30]
      refine spec_ProofAll_k (ns := ns) (ks := ks) (by omega) (by omega) rfl (by simp) (by simp [noslBlks]) ?_; simp [shiftB]
      have hol2 := allSt_le ns ks
      generalize allSt ns ks = ss at hol2 ⊢
      rw [show d8m bs ns.length ss o2.2 = if ss = [] then [] else d8v bs ns.length ss (belowF bs o2.2 ss.length) from rfl]
      refine br_intro' (fun g4 => ?_) (fun g4 => ?_) <;> (have g40 := g4) <;> simp only [decide_eq_true_eq, decide_eq_false_iff_not] at g4
      · have g5 : ¬ ss = [] := by intro e; rw [e] at g4; exact absurd g4 (by simp)
        rw [if_neg g5]
        simp [g40, g5]
        repeat (refine ck_intro' (by first | omega | (simp; omega) | kernel_rfl) ?_; try simp [g5])
        refine cur_callR rfl 2 bs o2.2 _ rfl (spec_l1Below_m _ 2 bs _ ss.length (by simp) hb) ?_; simp [cur]
        have hi := belowF_in bs o2.2 ss.length
        generalize belowF bs o2.2 ss.length = i at hi ⊢
        obtain ⟨x, i2⟩ := i
        obtain ⟨j, hj⟩ : ∃ j : Nat, x = j := ⟨x.toNat, by simp only at hi; omega⟩
        subst hj
        have hjl : j < ss.length := by simp only at hi; omega
        refine cur_callR rfl 2 bs i2 _ rfl (spec_l1Below_m _ 2 bs _ 15 (by simp) hb) ?_; simp [cur]
        rw [show d8v bs ns.length ss ((j : Int), i2) = d8w bs ns.length ss j (belowF bs i2 15) from rfl]
        generalize belowF bs i2 15 = w
        obtain ⟨y, w2⟩ := w
        simp
        refine br_intro' (fun v0 => ?_) (fun v0 => ?_) <;> (have u0 := v0) <;> simp only [decide_eq_true_eq, decide_eq_false_iff_not] at u0 <;> simp [v0, u0]
        · subst u0
          refine cur_callR rfl 2 bs w2 _ rfl (spec_l1Below_m _ 2 bs _ 10 (by simp) hb) ?_; simp [cur]
          rw [show d8w bs ns.length ss j (0, w2) = setR ss j (belowF bs w2 10).1 from rfl]
          generalize belowF bs w2 10 = z
          repeat (refine ck_intro' (by first | omega | (simp; omega) | kernel_rfl) ?_; try simp [hjl])
          exact LeV.ro rfl rfl (by simp [encS_setR hjl])
        refine br_intro' (fun v1 => ?_) (fun v1 => ?_) <;> (have u1 := v1) <;> simp only [decide_eq_true_eq, decide_eq_false_iff_not] at u1 <;> simp [v1, u1]
        · subst u1
          refine cur_callR rfl 2 bs w2 _ rfl (spec_l1Below_m _ 2 bs _ 5 (by simp) hb) ?_; simp [cur]
          rw [show d8w bs ns.length ss j (1, w2) = setA ss j ((belowF bs w2 5).1 - 1) from rfl]
          have hz := belowF_in bs w2 5
          generalize belowF bs w2 5 = z at hz ⊢
          have hzw : IntKind.i64.wrap (z.1 - 1) = z.1 - 1 := wrap64 (by omega) (by have := hz.2.1 (by omega); omega)
          rw [hzw]
          repeat (refine ck_intro' (by first | omega | (simp; omega) | kernel_rfl) ?_; try simp [hjl])
          exact LeV.ro rfl rfl (by simp [encS_setA hjl])
        refine br_intro' (fun v2 => ?_) (fun v2 => ?_) <;> (have u2 := v2) <;> simp only [decide_eq_true_eq, decide_eq_false_iff_not] at u2 <;> simp [v2, u2]
        · subst u2
          refine cur_callR rfl 2 bs w2 _ rfl (spec_l1Below_m _ 2 bs _ 5 (by simp) hb) ?_; simp [cur]
          rw [show d8w bs ns.length ss j (2, w2) = setB ss j ((belowF bs w2 5).1 - 1) from rfl]
          have hz := belowF_in bs w2 5
          generalize belowF bs w2 5 = z at hz ⊢
          have hzw : IntKind.i64.wrap (z.1 - 1) = z.1 - 1 := wrap64 (by omega) (by have := hz.2.1 (by omega); omega)
          rw [hzw]
          repeat (refine ck_intro' (by first | omega | (simp; omega) | kernel_rfl) ?_; try simp [hjl])
          exact LeV.ro rfl rfl (by simp [encS_setB hjl])
        refine br_intro' (fun v3 => ?_) (fun v3 => ?_) <;> (have u3 := v3) <;> simp only [decide_eq_true_eq, decide_eq_false_iff_not] at u3 <;> simp [v3, u3]
        · subst u3
          refine cur_callR rfl 2 bs w2 _ rfl (spec_l1DrawTerm_m _ 2 bs _ ns (by simp) hb (by simp) (by omega)) ?_; simp [cur]
          rw [show d8w bs ns.length ss j (3, w2) = setT ss j (termF bs w2 ns.length).1 from rfl]
          generalize termF bs w2 ns.length = z
          repeat (refine ck_intro' (by first | omega | (simp; omega) | kernel_rfl) ?_; try simp [hjl])
          exact LeV.ro rfl rfl (by simp [encS_setT hjl])
        refine br_intro' (fun v4 => ?_) (fun v4 => ?_) <;> (have u4 := v4) <;> simp only [decide_eq_true_eq, decide_eq_false_iff_not] at u4 <;> simp [v4, u4]
        · subst u4
          rw [show d8w bs ns.length ss j (4, w2) = ss ++ [spAt ss j] from rfl]
          obtain ⟨r4, hr4⟩ := encS_at hjl
          have h4 : 4 ≤ ss.length * 4 - j * 4 := by omega
          repeat (refine ck_intro' (by first | omega | (simp; omega) | kernel_rfl) ?_; try simp [hjl])
          simp [h4, hr4]
          repeat (refine ck_intro' (by first | omega | (simp; omega) | kernel_rfl) ?_; try simp [hjl])
          have e5 := encS_snoc ss ss[j]
          have e6 : (encS (ss ++ [ss[j]])).take ((ss.length + 1) * 4) = encS (ss ++ [ss[j]]) := List.take_of_length_le (by simp)
          rw [← e5]
          exact LeV.ro rfl rfl (by simp [e6])
        · rw [show d8w bs ns.length ss j (y, w2) = ss by simp [d8w, u0, u1, u2, u3, u4]]
          repeat (refine ck_intro' (by first | omega | (simp; omega) | kernel_rfl) ?_; try simp [hjl])
          exact LeV.ro rfl rfl (by simp)
      · have g5 : ss = [] := List.eq_nil_of_length_eq_zero (by omega)
        rw [if_pos g5]
        subst g5
        simp
        repeat (refine ck_intro' (by first | omega | (simp; omega) | kernel_rfl) ?_; try simp)
        exact LeV.ro rfl rfl (by simp)
    · rw [if_neg (by simp [g3])]
      simp [g30]
      rw [show d8m bs ns.length of o2.2 = if of = [] then [] else d8v bs ns.length of (belowF bs o2.2 of.length) from rfl]
      refine br_intro' (fun g4 => ?_) (fun g4 => ?_) <;> (have g40 := g4) <;> simp only [decide_eq_true_eq, decide_eq_false_iff_not] at g4
      · have g5 : ¬ of = [] := by intro e; rw [e] at g4; exact absurd g4 (by simp)
        rw [if_neg g5]
        simp [g40, g5]
        repeat (refine ck_intro' (by first | omega | (simp; omega) | kernel_rfl) ?_; try simp [g5])
        refine cur_callR rfl 2 bs o2.2 _ rfl (spec_l1Below_m _ 2 bs _ of.length (by simp) hb) ?_; simp [cur]
        have hi := belowF_in bs o2.2 of.length
        generalize belowF bs o2.2 of.length = i at hi ⊢
        obtain ⟨x, i2⟩ := i
        obtain ⟨j, hj⟩ : ∃ j : Nat, x = j := ⟨x.toNat, by simp only at hi; omega⟩
        subst hj
        have hjl : j < of.length := by simp only at hi; omega
        refine cur_callR rfl 2 bs i2 _ rfl (spec_l1Below_m _ 2 bs _ 15 (by simp) hb) ?_; simp [cur]
        rw [show d8v bs ns.length of ((j : Int), i2) = d8w bs ns.length of j (belowF bs i2 15) from rfl]
        generalize belowF bs i2 15 = w
        obtain ⟨y, w2⟩ := w
        simp
        refine br_intro' (fun v0 => ?_) (fun v0 => ?_) <;> (have u0 := v0) <;> simp only [decide_eq_true_eq, decide_eq_false_iff_not] at u0 <;> simp [v0, u0]
        · subst u0
          refine cur_callR rfl 2 bs w2 _ rfl (spec_l1Below_m _ 2 bs _ 10 (by simp) hb) ?_; simp [cur]
          rw [show d8w bs ns.length of j (0, w2) = setR of j (belowF bs w2 10).1 from rfl]
          generalize belowF bs w2 10 = z
          repeat (refine ck_intro' (by first | omega | (simp; omega) | kernel_rfl) ?_; try simp [hjl])
          exact LeV.ro rfl rfl (by simp [encS_setR hjl])
        refine br_intro' (fun v1 => ?_) (fun v1 => ?_) <;> (have u1 := v1) <;> simp only [decide_eq_true_eq, decide_eq_false_iff_not] at u1 <;> simp [v1, u1]
        · subst u1
          refine cur_callR rfl 2 bs w2 _ rfl (spec_l1Below_m _ 2 bs _ 5 (by simp) hb) ?_; simp [cur]
          rw [show d8w bs ns.length of j (1, w2) = setA of j ((belowF bs w2 5).1 - 1) from rfl]
          have hz := belowF_in bs w2 5
          generalize belowF bs w2 5 = z at hz ⊢
          have hzw : IntKind.i64.wrap (z.1 - 1) = z.1 - 1 := wrap64 (by omega) (by have := hz.2.1 (by omega); omega)
          rw [hzw]
          repeat (refine ck_intro' (by first | omega | (simp; omega) | kernel_rfl) ?_; try simp [hjl])
          exact LeV.ro rfl rfl (by simp [encS_setA hjl])
        refine br_intro' (fun v2 => ?_) (fun v2 => ?_) <;> (have u2 := v2) <;> simp only [decide_eq_true_eq, decide_eq_false_iff_not] at u2 <;> simp [v2, u2]
        · subst u2
          refine cur_callR rfl 2 bs w2 _ rfl (spec_l1Below_m _ 2 bs _ 5 (by simp) hb) ?_; simp [cur]
          rw [show d8w bs ns.length of j (2, w2) = setB of j ((belowF bs w2 5).1 - 1) from rfl]
          have hz := belowF_in bs w2 5
          generalize belowF bs w2 5 = z at hz ⊢
          have hzw : IntKind.i64.wrap (z.1 - 1) = z.1 - 1 := wrap64 (by omega) (by have := hz.2.1 (by omega); omega)
          rw [hzw]
          repeat (refine ck_intro' (by first | omega | (simp; omega) | kernel_rfl) ?_; try simp [hjl])
          exact LeV.ro rfl rfl (by simp [encS_setB hjl])
        refine br_intro' (fun v3 => ?_) (fun v3 => ?_) <;> (have u3 := v3) <;> simp only [decide_eq_true_eq, decide_eq_false_iff_not] at u3 <;> simp [v3, u3]
        · subst u3
          refine cur_callR rfl 2 bs w2 _ rfl (spec_l1DrawTerm_m _ 2 bs _ ns (by simp) hb (by simp) (by omega)) ?_; simp [cur]
          rw [show d8w bs ns.length of j (3, w2) = setT of j (termF bs w2 ns.length).1 from rfl]
          generalize termF bs w2 ns.length = z
          repeat (refine ck_intro' (by first | omega | (simp; omega) | kernel_rfl) ?_; try simp [hjl])
          exact LeV.ro rfl rfl (by simp [encS_setT hjl])
        refine br_intro' (fun v4 => ?_) (fun v4 => ?_) <;> (have u4 := v4) <;> simp only [decide_eq_true_eq, decide_eq_false_iff_not] at u4 <;> simp [v4, u4]
        · subst u4
          rw [show d8w bs ns.length of j (4, w2) = of ++ [spAt of j] from rfl]
          obtain ⟨r4, hr4⟩ := encS_at hjl
          have h4 : 4 ≤ of.length * 4 - j * 4 := by omega
          repeat (refine ck_intro' (by first | omega | (simp; omega) | kernel_rfl) ?_; try simp [hjl])
          simp [h4, hr4]
          repeat (refine ck_intro' (by first | omega | (simp; omega) | kernel_rfl) ?_; try simp [hjl])
          have e5 := encS_snoc of of[j]
          have e6 : (encS (of ++ [of[j]])).take ((of.length + 1) * 4) = encS (of ++ [of[j]]) := List.take_of_length_le (by simp)
          rw [← e5]
          exact LeV.ro rfl rfl (by simp [e6])
        · rw [show d8w bs ns.length of j (y, w2) = of by simp [d8w, u0, u1, u2, u3, u4]]
          repeat (refine ck_intro' (by first | omega | (simp; omega) | kernel_rfl) ?_; try simp [hjl])
          exact LeV.ro rfl rfl (by simp)
      · have g5 : of = [] := List.eq_nil_of_length_eq_zero (by omega)
        rw [if_pos g5]
        subst g5
        simp
        repeat (refine ck_intro' (by first | omega | (simp; omega) | kernel_rfl) ?_; try simp)
        exact LeV.ro rfl rfl (by simp)
theorem spec_l9DrawProof_call {bs : List Int} (hb : bs.length < 9223372036854775807) {S : FuncId → Bool} {H : List Blk} {K : A → Dl → Prop} (hS : S 60 = false) (hK : K (.tup [aP (d6 bs).1, aI (d6 bs).2.1, aSs (d8 bs (d6 bs)).1, i6 (d8 bs (d6 bs)).2]) (.news [])) : @WCall' Go.Proofs.Try.prog S 60 [aB bs] H ⟨K⟩ :=
  WCall_pure hS (spec_l9DrawProof_c bs hb) (by simp) (by simp) (by simp) hK
theorem spec_l9DrawProof_k {bs : List Int} (hb : bs.length < 9223372036854775807) {S : FuncId → Bool} {H : List Blk} {K : A → Dl → Prop} {zs : List A} (hS : S 60 = false) (hv : viewL (viewA 8 H) zs = some [aB bs]) (ho : noOwns zs = true ∨ nosl (.tup [aP (d6 bs).1, aI (d6 bs).2.1, aSs (d8 bs (d6 bs)).1, i6 (d8 bs (d6 bs)).2]) = true) (hK : K (.tup [aP (d6 bs).1, aI (d6 bs).2.1, aSs (d8 bs (d6 bs)).1, i6 (d8 bs (d6 bs)).2]) (.news [])) : @WCall' Go.Proofs.Try.prog S 60 zs H ⟨K⟩ :=
  WCall_pure hS (spec_l9DrawProof_c bs hb) hv ho (by simp) hK
theorem spec_DrawProofCheck_c (bs : List Int) (hb : bs.length < 9223372036854775807) : T 33 [aB bs] [] (.tup [aP (d6 bs).1, aI (d6 bs).2.1, aSs (d8 bs (d6 bs)).1, i6 (d8 bs (d6 bs)).2]) ([]) := by
  refine semT' (S := S0) hm spec_DrawProofCheck_ok (Nat.le_of_ble_eq_true rfl) ?_
  unfold spec_DrawProofCheck; dsimp only
  simp
  refine spec_l9DrawProof_k (bs := bs) hb rfl (by simp) (by simp [noslBlks]) ?_; simp [shiftB]
  first | (refine ck_intro' (by kernel_rfl) ?_; try simp) | skip
  exact LeV.ro rfl rfl (by simp)
theorem spec_DrawProofCheck_call {bs : List Int} (hb : bs.length < 9223372036854775807) {S : FuncId → Bool} {H : List Blk} {K : A → Dl → Prop} (hS : S 33 = false) (hK : K (.tup [aP (d6 bs).1, aI (d6 bs).2.1, aSs (d8 bs (d6 bs)).1, i6 (d8 bs (d6 bs)).2]) (.news [])) : @WCall' Go.Proofs.Try.prog S 33 [aB bs] H ⟨K⟩ :=
  WCall_pure hS (spec_DrawProofCheck_c bs hb) (by simp) (by simp) (by simp) hK
theorem spec_DrawProofCheck_k {bs : List Int} (hb : bs.length < 9223372036854775807) {S : FuncId → Bool} {H : List Blk} {K : A → Dl → Prop} {zs : List A} (hS : S 33 = false) (hv : viewL (viewA 8 H) zs = some [aB bs]) (ho : noOwns zs = true ∨ nosl (.tup [aP (d6 bs).1, aI (d6 bs).2.1, aSs (d8 bs (d6 bs)).1, i6 (d8 bs (d6 bs)).2]) = true) (hK : K (.tup [aP (d6 bs).1, aI (d6 bs).2.1, aSs (d8 bs (d6 bs)).1, i6 (d8 bs (d6 bs)).2]) (.news [])) : @WCall' Go.Proofs.Try.prog S 33 zs H ⟨K⟩ :=
  WCall_pure hS (spec_DrawProofCheck_c bs hb) hv ho (by simp) hK
theorem d8m_len {bs : List Int} {m : Nat} {ss : List Sp} {s : Cu} (h : ss.length ≤ 500) : (d8m bs m ss s).length ≤ 501 := by
  unfold d8m
  split
  · exact Nat.zero_le _
  · unfold d8v d8w
    (repeat' split) <;> (try simp only [setR_len, setA_len, setB_len, setT_len, List.length_append, List.length_singleton]) <;> omega
theorem d8_len (bs : List Int) (d : List Nd × List Int × Int) : (d8 bs d).1.length ≤ 501 := by
  unfold d8 d8l
  refine d8m_len ?_
  split
  · exact allSt_le _ _
  · exact ofF_le _ _ _
end Go.Proofs.Ytcfgiffgahdlbaa.C

set_option linter.unusedVariables false
set_option linter.unusedSimpArgs false
namespace Go.Proofs.Ytcfgiffgahdlbaa.C
open Go.Sym Go.Proofs.Ytcfgiffgahdlbaa.I
/-- Step j asks for step i. -/
def Us (ns : List Nd) (ss : List Sp) (j i : Nat) : Prop := (0 < needsF ns (spAt ss j) ∧ (spAt ss j).a = i) ∨ (1 < needsF ns (spAt ss j) ∧ (spAt ss j).b = i)
theorem Us_lt {ns : List Nd} {ss : List Sp} {j i : Nat} (h : wellF ns ss j = true) (u : Us ns ss j i) : i < j := by
  simp only [wellF, Bool.and_eq_true, Bool.or_eq_true, decide_eq_true_eq] at h
  obtain ⟨⟨⟨h1, h2⟩, h3⟩, h4⟩ := h
  rcases u with ⟨u1, u2⟩ | ⟨u1, u2⟩
  · have := h3.resolve_left (by omega)
    simp only [inF, Bool.and_eq_true, decide_eq_true_eq] at this
    omega
  · have := h4.resolve_left (by omega)
    simp only [inF, Bool.and_eq_true, decide_eq_true_eq] at this
    omega
theorem well_a {ns : List Nd} {ss : List Sp} {j : Nat} (h : wellF ns ss j = true) (n : 0 < needsF ns (spAt ss j)) : (spAt ss j).a = ((spAt ss j).a.toNat : Int) ∧ (spAt ss j).a.toNat < j := by
  simp only [wellF, Bool.and_eq_true, Bool.or_eq_true, decide_eq_true_eq] at h
  have := h.1.2.resolve_left (by omega)
  simp only [inF, Bool.and_eq_true, decide_eq_true_eq] at this
  omega
theorem well_b {ns : List Nd} {ss : List Sp} {j : Nat} (h : wellF ns ss j = true) (n : 1 < needsF ns (spAt ss j)) : (spAt ss j).b = ((spAt ss j).b.toNat : Int) ∧ (spAt ss j).b.toNat < j := by
  simp only [wellF, Bool.and_eq_true, Bool.or_eq_true, decide_eq_true_eq] at h
  have := h.2.resolve_left (by omega)
  simp only [inF, Bool.and_eq_true, decide_eq_true_eq] at this
  omega
theorem getD_set' {kb : List Bool} {p i : Nat} (h : p < kb.length) : (kb.set p true).getD i false = true ↔ p = i ∨ kb.getD i false = true := by
  rcases Nat.decEq p i with e | e
  · simp [List.getElem?_set_ne e, e]
  · subst e; simp [List.getElem?_set_self h]
theorem keepStep_iff {ns : List Nd} {ss : List Sp} {kb : List Bool} {n : Nat} (h : wellF ns ss n = true) (hn : n < kb.length) (i : Nat) : (keepStep ns ss kb n).getD i false = true ↔ kb.getD i false = true ∨ (kb.getD n false = true ∧ Us ns ss n i) := by
  unfold keepStep
  split
  · rename_i k
    split
    · rename_i k0
      have ea := well_a h k0
      split
      · rename_i k1
        have eb := well_b h k1
        rw [getD_set' (by rw [List.length_set]; omega), getD_set' (by omega)]
        constructor
        · rintro (e | e | e)
          · exact .inr ⟨k, .inr ⟨k1, by omega⟩⟩
          · exact .inr ⟨k, .inl ⟨k0, by omega⟩⟩
          · exact .inl e
        · rintro (e | ⟨_, ⟨_, e⟩ | ⟨_, e⟩⟩)
          · exact .inr (.inr e)
          · exact .inr (.inl (by omega))
          · exact .inl (by omega)
      · rename_i k1
        rw [getD_set' (by omega)]
        constructor
        · rintro (e | e)
          · exact .inr ⟨k, .inl ⟨k0, by omega⟩⟩
          · exact .inl e
        · rintro (e | ⟨_, ⟨_, e⟩ | ⟨e, _⟩⟩)
          · exact .inr e
          · exact .inl (by omega)
          · exact absurd e k1
    · rename_i k0
      constructor
      · exact .inl
      · rintro (e | ⟨_, ⟨e, _⟩ | ⟨e, _⟩⟩)
        · exact e
        · exact absurd e k0
        · exact absurd e (by omega)
  · rename_i k
    exact ⟨.inl, fun e => e.elim id fun e => absurd e.1 k⟩
theorem keepGo_mono {ns : List Nd} {ss : List Sp} (hw : ∀ i : Nat, i < ss.length → wellF ns ss i = true) {i : Nat} : ∀ (n : Nat) (kb : List Bool), n ≤ ss.length → kb.length = ss.length → kb.getD i false = true → (keepGo ns ss n kb).getD i false = true
  | 0, kb, _, _, h => h
  | n + 1, kb, hn, hl, h => keepGo_mono hw n _ (by omega) (by rw [keepStep_len, hl]) ((keepStep_iff (hw n (by omega)) (by omega) i).2 (.inl h))
theorem keepGo_closed {ns : List Nd} {ss : List Sp} (hw : ∀ i : Nat, i < ss.length → wellF ns ss i = true) : ∀ (n : Nat) (kb : List Bool), n ≤ ss.length → kb.length = ss.length →
    (∀ j i : Nat, n ≤ j → j < ss.length → kb.getD j false = true → Us ns ss j i → kb.getD i false = true) →
    ∀ j i : Nat, j < ss.length → (keepGo ns ss n kb).getD j false = true → Us ns ss j i → (keepGo ns ss n kb).getD i false = true
  | 0, kb, _, _, h => fun j i hj => h j i (Nat.zero_le _) hj
  | n + 1, kb, hn, hl, h => by
    have key := fun i => keepStep_iff (kb := kb) (hw n (by omega)) (by omega) i
    refine keepGo_closed hw n (keepStep ns ss kb n) (by omega) (by rw [keepStep_len, hl]) ?_
    intro j i hj hjl hk hu
    rw [key] at hk ⊢
    have hij := Us_lt (hw j hjl) hu
    rcases hk with hk | ⟨hk, hu2⟩
    · rcases Nat.lt_or_ge n j with g | g
      · exact .inl (h j i (by omega) hjl hk hu)
      · have : j = n := by omega
        subst this
        exact .inr ⟨hk, hu⟩
    · have := Us_lt (hw n (by omega)) hu2
      omega
theorem keepGo_used {ns : List Nd} {ss : List Sp} (hw : ∀ i : Nat, i < ss.length → wellF ns ss i = true) {l : Nat} : ∀ (n : Nat) (kb : List Bool), n ≤ ss.length → kb.length = ss.length →
    (∀ i : Nat, kb.getD i false = true → i = l ∨ ∃ j : Nat, j < ss.length ∧ kb.getD j false = true ∧ Us ns ss j i) →
    ∀ i : Nat, (keepGo ns ss n kb).getD i false = true → i = l ∨ ∃ j : Nat, j < ss.length ∧ (keepGo ns ss n kb).getD j false = true ∧ Us ns ss j i
  | 0, kb, _, _, h => h
  | n + 1, kb, hn, hl, h => by
    have key := fun i => keepStep_iff (kb := kb) (hw n (by omega)) (by omega) i
    refine keepGo_used hw n (keepStep ns ss kb n) (by omega) (by rw [keepStep_len, hl]) ?_
    intro i hk
    rw [key] at hk
    rcases hk with hk | ⟨hk, hu⟩
    · rcases h i hk with e | ⟨j, h1, h2, h3⟩
      · exact .inl e
      · exact .inr ⟨j, h1, (key j).2 (.inl h2), h3⟩
    · exact .inr ⟨n, by omega, (key n).2 (.inl hk), hu⟩
theorem keepGo_len' (ns : List Nd) (ss : List Sp) : ∀ (n : Nat) (kb : List Bool), (keepGo ns ss n kb).length = kb.length
  | 0, kb => rfl
  | n + 1, kb => by rw [keepGo, keepGo_len' ns ss n, keepStep_len]
/-- What is kept: the last step, what kept steps ask for, and nothing else. -/
theorem keepV_spec {ns : List Nd} {ss : List Sp} (hw : ∀ i : Nat, i < ss.length → wellF ns ss i = true) (hne : ss ≠ []) :
    (keepV ns ss).length = ss.length ∧ (keepV ns ss).getD (ss.length - 1) false = true ∧
    (∀ j i : Nat, j < ss.length → (keepV ns ss).getD j false = true → Us ns ss j i → (keepV ns ss).getD i false = true) ∧
    (∀ i : Nat, (keepV ns ss).getD i false = true → i = ss.length - 1 ∨ ∃ j : Nat, j < ss.length ∧ (keepV ns ss).getD j false = true ∧ Us ns ss j i) := by
  have h0 : 0 < ss.length := List.length_pos_iff.2 hne
  have hl : ((List.replicate ss.length false).set (ss.length - 1) true).length = ss.length := by simp
  refine ⟨by rw [keepV, keepGo_len', hl], ?_, ?_, ?_⟩
  · exact keepGo_mono hw _ _ (Nat.le_refl _) hl ((getD_set' (by simp; omega)).2 (.inl rfl))
  · exact keepGo_closed hw _ _ (Nat.le_refl _) hl (fun j i h1 h2 => by omega)
  · refine keepGo_used hw _ _ (Nat.le_refl _) hl ?_
    intro i hi
    rw [getD_set' (by simp; omega)] at hi
    rcases hi with e | e
    · exact .inl e.symm
    · simp [List.getElem?_replicate] at e
      split at e <;> simp at e
/-- How many of the first are kept. -/
def rk (kb : List Bool) : Nat → Nat
  | 0 => 0
  | n + 1 => rk kb n + if kb.getD n false = true then 1 else 0
theorem rk_one {kb : List Bool} {n : Nat} (h : kb.getD n false = true) : rk kb (n + 1) = rk kb n + 1 := by rw [rk, if_pos h]
theorem rk_no {kb : List Bool} {n : Nat} (h : ¬ kb.getD n false = true) : rk kb (n + 1) = rk kb n := by rw [rk, if_neg h]; rfl
theorem rk_le (kb : List Bool) {i : Nat} : ∀ {j : Nat}, i ≤ j → rk kb i ≤ rk kb j
  | 0, h => by rw [Nat.le_zero.1 h]; exact Nat.le_refl _
  | j + 1, h => by
    rcases Nat.lt_or_ge i (j + 1) with g | g
    · have := rk_le kb (i := i) (j := j) (by omega)
      rw [show rk kb (j + 1) = rk kb j + if kb.getD j false = true then 1 else 0 from rfl]; omega
    · rw [show i = j + 1 by omega]; exact Nat.le_refl _
theorem rk_lt {kb : List Bool} {i j : Nat} (h : i < j) (k : kb.getD i false = true) : rk kb i < rk kb j := by
  have := rk_le kb (show i + 1 ≤ j from h)
  rw [rk_one k] at this
  omega
theorem rk_on {kb : List Bool} {p : Nat} : ∀ {j : Nat}, p < rk kb j → ∃ i : Nat, i < j ∧ kb.getD i false = true ∧ rk kb i = p
  | 0, h => absurd h (Nat.not_lt_zero _)
  | j + 1, h => by
    rcases Nat.lt_or_ge p (rk kb j) with g | g
    · obtain ⟨i, h1, h2⟩ := rk_on g
      exact ⟨i, by omega, h2⟩
    · by_cases k : kb.getD j false = true
      · rw [rk_one k] at h
        exact ⟨j, by omega, k, by omega⟩
      · rw [rk_no k] at h
        omega
/-- A kept step, its places told anew. -/
def mvS (ns : List Nd) (ss : List Sp) (kb : List Bool) (i : Nat) : Sp :=
  ⟨(spAt ss i).r, (spAt ss i).t, if 0 < needsF ns (spAt ss i) then rk kb (spAt ss i).a.toNat else (spAt ss i).a, if 1 < needsF ns (spAt ss i) then rk kb (spAt ss i).b.toNat else (spAt ss i).b⟩
theorem trimGo_spec {ns : List Nd} {ss : List Sp} {kb : List Bool} (hw : ∀ i : Nat, i < ss.length → wellF ns ss i = true)
    (hc : ∀ j i : Nat, j < ss.length → kb.getD j false = true → Us ns ss j i → kb.getD i false = true) : ∀ (n j : Nat) (now : List Int) (out : List Sp), j + n = ss.length → now.length = ss.length → out.length = rk kb j →
    (∀ i : Nat, i < j → kb.getD i false = true → now.getD i 0 = rk kb i) → (∀ i : Nat, i < j → kb.getD i false = true → out[rk kb i]? = some (mvS ns ss kb i)) →
    (trimGo ns ss kb n j now out).length = rk kb ss.length ∧ ∀ i : Nat, i < ss.length → kb.getD i false = true → (trimGo ns ss kb n j now out)[rk kb i]? = some (mvS ns ss kb i)
  | 0, j, now, out, hj, hnl, hol, _, ho => by
    have : j = ss.length := by omega
    subst this
    exact ⟨hol, ho⟩
  | n + 1, j, now, out, hj, hnl, hol, hn, ho => by
    have hjl : j < ss.length := by omega
    unfold trimGo
    split
    · rename_i k
      have hmv : moveF ns now (spAt ss j) = mvS ns ss kb j := by
        unfold moveF mvS
        congr 1
        · split
          · rename_i g
            have := well_a (hw j hjl) g
            exact hn _ this.2 (hc j _ hjl k (.inl ⟨g, this.1⟩))
          · rfl
        · split
          · rename_i g
            have := well_b (hw j hjl) g
            exact hn _ this.2 (hc j _ hjl k (.inr ⟨g, this.1⟩))
          · rfl
      refine trimGo_spec hw hc n (j + 1) _ _ (by omega) (by simpa using hnl) (by rw [rk_one k]; simp; omega) ?_ ?_
      · intro i hi ki
        rcases Nat.lt_or_ge i j with g | g
        · rw [← hn i g ki]
          simp [List.getElem?_set_ne (show j ≠ i by omega)]
        · have : i = j := by omega
          subst this
          simp [List.getElem?_set_self (show i < now.length by omega), hol]
      · intro i hi ki
        rcases Nat.lt_or_ge i j with g | g
        · rw [List.getElem?_append_left (by rw [hol]; exact rk_lt g ki)]
          exact ho i g ki
        · have : i = j := by omega
          subst this
          rw [← hol, List.getElem?_append_right (Nat.le_refl _), hmv]
          simp
    · rename_i k
      refine trimGo_spec hw hc n (j + 1) now out (by omega) hnl (by rw [rk_no k]; exact hol) ?_ ?_
      · intro i hi ki
        rcases Nat.lt_or_ge i j with g | g
        · exact hn i g ki
        · have : i = j := by omega
          subst this
          exact absurd ki k
      · intro i hi ki
        rcases Nat.lt_or_ge i j with g | g
        · exact ho i g ki
        · have : i = j := by omega
          subst this
          exact absurd ki k
theorem trimV_spec {ns : List Nd} {ss : List Sp} (hw : ∀ i : Nat, i < ss.length → wellF ns ss i = true) (hne : ss ≠ []) :
    (trimV ns ss).length = rk (keepV ns ss) ss.length ∧ ∀ i : Nat, i < ss.length → (keepV ns ss).getD i false = true → (trimV ns ss)[rk (keepV ns ss) i]? = some (mvS ns ss (keepV ns ss) i) :=
  trimGo_spec hw (keepV_spec hw hne).2.2.1 ss.length 0 _ [] (by omega) (by simp) rfl (fun i h => absurd h (Nat.not_lt_zero _)) (fun i h => absurd h (Nat.not_lt_zero _))
theorem holds_move {ns : List Nd} {ks : List Int} {s s' : Sp} {a b a' b' : Int} (h : holdsF ns ks s a b = true) (er : s'.r = s.r) (et : s'.t = s.t)
    (ha : 0 < needsF ns s → a' = a) (hb : 1 < needsF ns s → b' = b) (ga : needsF ns s < 1 → s'.a = s.a) (gb : needsF ns s < 2 → s'.b = s.b) : holdsF ns ks s' a' b' = true := by
  have en : needsF ns s' = needsF ns s := by simp [needsF, er, et]
  simp only [holdsF, Bool.and_eq_true, Bool.not_eq_true', lackF, decide_eq_false_iff_not, not_or, not_and] at h ⊢
  rw [en]
  obtain ⟨⟨g1, g2, g3, g4, g5⟩, h2⟩ := h
  refine ⟨⟨g1, fun n => by rw [ha n]; exact g2 n, fun n => by rw [hb n]; exact g3 n, fun n => by rw [ga n]; exact g4 n, fun n => by rw [gb n]; exact g5 n⟩, ?_⟩
  by_cases r1 : s.r = 1
  · simp [ruleF, er, et, r1] at h2 ⊢; exact h2
  by_cases r2 : s.r = 2
  · simp [ruleF, er, et, r2] at h2 ⊢; exact h2
  by_cases r3 : s.r = 3
  · have hn : needsF ns s = partsF (nodeAt ns s.t).k := by simp [needsF, r3]
    by_cases k : (nodeAt ns s.t).k = 1
    · simp [ruleF, er, et, r3, k] at h2
    · have h0 : 0 < needsF ns s := by
        rw [hn] at g1 ⊢
        unfold partsF at g1 ⊢
        rw [if_neg k] at g1 ⊢
        split
        · omega
        · rename_i k5
          rw [if_neg k5] at g1
          split
          · omega
          · rename_i k2
            rw [if_neg k2] at g1
            omega
      rw [ha h0]
      by_cases u : 1 < needsF ns s
      · rw [hb u]
        simp only [ruleF, er, et, r3, en] at h2 ⊢
        exact h2
      · have u' : needsF ns s < 2 := by omega
        simp [ruleF, er, et, r3, en, u'] at h2 ⊢
        exact h2
  by_cases r4 : s.r = 4
  · have hn : needsF ns s = 2 := by simp [needsF, r4]
    rw [ha (by omega), hb (by omega)]
    simp only [ruleF, er, et, r4] at h2 ⊢
    exact h2
  by_cases r7 : s.r = 7
  · have hn : needsF ns s = 2 := by simp [needsF, r7]
    rw [ha (by omega), hb (by omega)]
    simp only [ruleF, er, et, r7] at h2 ⊢
    exact h2
  have h0 : 0 < needsF ns s := by
    unfold needsF at g1 ⊢
    rw [if_neg (by omega), if_neg r3, if_neg (by omega)] at g1 ⊢
    split
    · omega
    · rename_i k
      rw [if_neg k] at g1
      omega
  rw [ha h0]
  simp only [ruleF, er, et, r1, r2, r3, r4, r7, if_false] at h2 ⊢
  exact h2
theorem spAt_get {ss : List Sp} {i : Nat} {s : Sp} (h : ss[i]? = some s) : spAt ss i = s := by simp [spAt, h]
theorem get_spAt {ss : List Sp} {i : Nat} (h : i < ss.length) : ss[i]? = some (spAt ss i) := by rw [spAt_lt h]; exact List.getElem?_eq_getElem h
theorem termAt_nat {ss : List Sp} {i k : Nat} (h : k < i) : termAt ss i (k : Int) = (spAt ss k).t := by
  have e : inF (k : Int) 0 ((i : Int) - 1) = true := by simp only [inF, decide_eq_true_eq]; omega
  unfold termAt
  rw [if_pos e]
  rfl
theorem trim_at {ns : List Nd} {ss : List Sp} (hw : ∀ i : Nat, i < ss.length → wellF ns ss i = true) (hne : ss ≠ []) {i : Nat} (hi : i < ss.length) (k : (keepV ns ss).getD i false = true) : spAt (trimV ns ss) (rk (keepV ns ss) i) = mvS ns ss (keepV ns ss) i := spAt_get ((trimV_spec hw hne).2 i hi k)
theorem trim_on {ns : List Nd} {ss : List Sp} (hw : ∀ i : Nat, i < ss.length → wellF ns ss i = true) (hne : ss ≠ []) {p : Nat} (hp : p < (trimV ns ss).length) : ∃ i : Nat, i < ss.length ∧ (keepV ns ss).getD i false = true ∧ rk (keepV ns ss) i = p ∧ spAt (trimV ns ss) p = mvS ns ss (keepV ns ss) i := by
  rw [(trimV_spec hw hne).1] at hp
  obtain ⟨i, h1, h2, h3⟩ := rk_on hp
  exact ⟨i, h1, h2, h3, h3 ▸ trim_at hw hne h1 h2⟩
/-- What is trimmed of a proof is a proof. -/
theorem trim_pr {ns : List Nd} {ks : List Int} {ss : List Sp} (hpr : ∀ i : Nat, i < ss.length → prF ns ks ss i = true) (hne : ss ≠ []) : ∀ p : Nat, p < (trimV ns ss).length → prF ns ks (trimV ns ss) p = true := by
  have hw : ∀ i : Nat, i < ss.length → wellF ns ss i = true := fun i hi => prF_well hi (hpr i hi)
  have hc := (keepV_spec hw hne).2.2.1
  intro p hp
  obtain ⟨i, hi, ki, ri, ei⟩ := trim_on hw hne hp
  have h := hpr i hi
  simp only [prF, stepOkF, Bool.and_eq_true, termAt_take (Nat.le_of_lt hi)] at h
  obtain ⟨⟨h1, h2⟩, h3⟩ := h
  simp only [prF, stepOkF, Bool.and_eq_true, termAt_take (Nat.le_of_lt hp)]
  have et : (spAt (trimV ns ss) p).t = (spAt ss i).t := by rw [ei]; rfl
  have key : ∀ a : Nat, a < i → (keepV ns ss).getD a false = true → termAt (trimV ns ss) p (rk (keepV ns ss) a : Nat) = termAt ss i (a : Int) := fun a ha ka => by
    rw [termAt_nat (by rw [← ri]; exact rk_lt ha ka), termAt_nat ha, trim_at hw hne (by omega) ka]
    rfl
  refine ⟨⟨by rw [et]; exact h1, ?_⟩, ?_⟩
  · refine holds_move h2 (by rw [ei]; rfl) et ?_ ?_ ?_ ?_
    · intro n
      have ea := well_a (hw i hi) n
      rw [ei, show (mvS ns ss (keepV ns ss) i).a = (rk (keepV ns ss) (spAt ss i).a.toNat : Int) from if_pos n, key _ ea.2 (hc i _ hi ki (.inl ⟨n, ea.1⟩)), ← ea.1]
    · intro n
      have eb := well_b (hw i hi) n
      rw [ei, show (mvS ns ss (keepV ns ss) i).b = (rk (keepV ns ss) (spAt ss i).b.toNat : Int) from if_pos n, key _ eb.2 (hc i _ hi ki (.inr ⟨n, eb.1⟩)), ← eb.1]
    · intro n
      rw [ei]
      exact if_neg (by omega)
    · intro n
      rw [ei]
      exact if_neg (by omega)
  · simp only [freshF, decide_eq_true_eq] at h3 ⊢
    intro x hx
    obtain ⟨q, hq, rfl⟩ := List.getElem_of_mem hx
    simp only [List.length_take] at hq
    rw [List.getElem_take, ← spAt_lt (by omega), et]
    obtain ⟨i', hi', ki', ri', ei'⟩ := trim_on hw hne (p := q) (by omega)
    rw [ei']
    have hlt : i' < i := by
      rcases Nat.lt_or_ge i' i with g | g
      · exact g
      · have := rk_le (keepV ns ss) g
        omega
    refine h3 (spAt ss i') ?_
    rw [spAt_lt hi']
    exact List.mem_take_iff_getElem.2 ⟨i', by omega, rfl⟩
theorem trim_ne {ns : List Nd} {ss : List Sp} (hw : ∀ i : Nat, i < ss.length → wellF ns ss i = true) (hne : ss ≠ []) : (trimV ns ss).length = rk (keepV ns ss) (ss.length - 1) + 1 := by
  have h0 : 0 < ss.length := List.length_pos_iff.2 hne
  have h := rk_one (keepV_spec hw hne).2.1
  rw [show ss.length - 1 + 1 = ss.length by omega] at h
  rw [(trimV_spec hw hne).1, h]
/-- Trimmed twice it is trimmed once. -/
theorem trim_twice {ns : List Nd} {ks : List Int} {ss : List Sp} (hpr : ∀ i : Nat, i < ss.length → prF ns ks ss i = true) (hne : ss ≠ []) : trimV ns (trimV ns ss) = trimV ns ss := by
  have hw : ∀ i : Nat, i < ss.length → wellF ns ss i = true := fun i hi => prF_well hi (hpr i hi)
  have hpr2 := trim_pr hpr hne
  have hln := trim_ne hw hne
  have hne2 : trimV ns ss ≠ [] := by intro e; rw [e] at hln; simp at hln
  have hw2 : ∀ i : Nat, i < (trimV ns ss).length → wellF ns (trimV ns ss) i = true := fun i hi => prF_well hi (hpr2 i hi)
  have hs := keepV_spec hw hne
  have hs2 := keepV_spec hw2 hne2
  have hlen := (trimV_spec hw hne).1
  have all : ∀ n p : Nat, p < (trimV ns ss).length → (trimV ns ss).length - p ≤ n → (keepV ns (trimV ns ss)).getD p false = true := by
    intro n
    induction n with
    | zero => intro p h1 h2; omega
    | succ n ihn =>
      intro p h1 h2
      obtain ⟨i, hi, ki, ri, ei⟩ := trim_on hw hne h1
      rcases hs.2.2.2 i ki with e | ⟨j, hj, kj, uj⟩
      · have : p = (trimV ns ss).length - 1 := by rw [hln, ← ri, e]; rfl
        rw [this]
        exact hs2.2.1
      · have hij := Us_lt (hw j hj) uj
        have hr := rk_lt hij ki
        have hrl : rk (keepV ns ss) j < (trimV ns ss).length := by rw [hlen]; exact rk_lt hj kj
        refine hs2.2.2.1 (rk (keepV ns ss) j) p hrl (ihn _ hrl (by omega)) ?_
        have ej := trim_at hw hne hj kj
        have en : needsF ns (mvS ns ss (keepV ns ss) j) = needsF ns (spAt ss j) := rfl
        unfold Us
        rw [ej, en]
        rcases uj with ⟨u1, u2⟩ | ⟨u1, u2⟩
        · left
          refine ⟨u1, ?_⟩
          rw [show (mvS ns ss (keepV ns ss) j).a = (rk (keepV ns ss) (spAt ss j).a.toNat : Int) from if_pos u1, u2, ← ri]
          rfl
        · right
          refine ⟨u1, ?_⟩
          rw [show (mvS ns ss (keepV ns ss) j).b = (rk (keepV ns ss) (spAt ss j).b.toNat : Int) from if_pos u1, u2, ← ri]
          rfl
  have rkp : ∀ p : Nat, p ≤ (trimV ns ss).length → rk (keepV ns (trimV ns ss)) p = p := by
    intro p
    induction p with
    | zero => intro _; rfl
    | succ p ihp => intro h; rw [rk_one (all _ p (by omega) (Nat.le_refl _)), ihp (by omega)]
  have h2 := trimV_spec hw2 hne2
  refine List.ext_getElem? fun p => ?_
  rcases Nat.lt_or_ge p (trimV ns ss).length with g | g
  · have h3 := h2.2 p g (all _ p g (Nat.le_refl _))
    rw [rkp p (by omega)] at h3
    rw [h3, get_spAt g]
    congr 1
    have a1 : (mvS ns (trimV ns ss) (keepV ns (trimV ns ss)) p).a = (spAt (trimV ns ss) p).a := by
      unfold mvS
      simp only
      split
      · rename_i n
        have ea := well_a (hw2 p g) n
        rw [rkp _ (by omega), ← ea.1]
      · rfl
    have b1 : (mvS ns (trimV ns ss) (keepV ns (trimV ns ss)) p).b = (spAt (trimV ns ss) p).b := by
      unfold mvS
      simp only
      split
      · rename_i n
        have eb := well_b (hw2 p g) n
        rw [rkp _ (by omega), ← eb.1]
      · rfl
    exact Sp_eq.2 ⟨rfl, rfl, a1, b1⟩
  · rw [List.getElem?_eq_none (by rw [h2.1, rkp _ (Nat.le_refl _)]; exact g), List.getElem?_eq_none g]
theorem checkF_iff {ns : List Nd} {ks : List Int} {ss : List Sp} {t : Int} : checkF ns ks ss t = true ↔ ss ≠ [] ∧ kpF ns ks = true ∧ ss.length ≤ 500 ∧ (∀ i : Nat, i < ss.length → prF ns ks ss i = true) ∧ (spAt ss (ss.length - 1)).t = t := by
  simp only [checkF, proofF, Bool.and_eq_true, decide_eq_true_eq]
  constructor
  · rintro ⟨⟨h1, ⟨h2, h3⟩, h4⟩, h5⟩
    exact ⟨h1, h2, h3, fun i hi => allF_all h4 hi, h5⟩
  · rintro ⟨h1, h2, h3, h4, h5⟩
    exact ⟨⟨h1, ⟨h2, h3⟩, allF_of h4⟩, h5⟩
/-- A proof that is trimmed. -/
theorem trimF_spec {ns : List Nd} {ks : List Int} {ss : List Sp} {t : Int} (h : checkF ns ks ss t = true) : checkF ns ks (trimF ns ss) t = true ∧ trimF ns (trimF ns ss) = trimF ns ss := by
  obtain ⟨h1, h2, h3, h4, h5⟩ := checkF_iff.1 h
  have hw : ∀ i : Nat, i < ss.length → wellF ns ss i = true := fun i hi => prF_well hi (h4 i hi)
  have hp := kpF_pool h2
  have e : trimF ns ss = trimV ns ss := if_pos ⟨h1, h3, hp, allF_of hw⟩
  have hln := trim_ne hw h1
  have hne2 : trimV ns ss ≠ [] := by intro e; rw [e] at hln; simp at hln
  have h0 : 0 < ss.length := List.length_pos_iff.2 h1
  have hpr2 := trim_pr h4 h1
  have hs := keepV_spec hw h1
  have hrl : ∀ j, rk (keepV ns ss) j ≤ j := fun j => by
    induction j with
    | zero => exact Nat.le_refl _
    | succ j ih => unfold rk; split <;> omega
  have hle : (trimV ns ss).length ≤ 500 := by have := hrl (ss.length - 1); omega
  have hc : checkF ns ks (trimV ns ss) t = true := checkF_iff.2 ⟨hne2, h2, hle, hpr2, by
    rw [hln, show rk (keepV ns ss) (ss.length - 1) + 1 - 1 = rk (keepV ns ss) (ss.length - 1) from rfl, trim_at hw h1 (by omega) hs.2.1]
    exact h5⟩
  rw [e]
  refine ⟨hc, ?_⟩
  rw [show trimF ns (trimV ns ss) = trimV ns (trimV ns ss) from if_pos ⟨hne2, hle, hp, allF_of fun i hi => prF_well hi (hpr2 i hi)⟩]
  exact trim_twice h4 h1
theorem checkF_needs {ns : List Nd} {ks : List Int} {ss : List Sp} {t : Int} (h : checkF ns ks ss t = true) {i : Nat} (hi : i < ss.length) : 0 ≤ stepNeedsF ns (spAt ss i) := by
  obtain ⟨h1, h2, h3, h4, h5⟩ := checkF_iff.1 h
  have hw := prF_well hi (h4 i hi)
  simp only [wellF, Bool.and_eq_true, decide_eq_true_eq] at hw
  rw [stepNeedsF, if_pos ⟨kpF_pool h2, hw.1.1.1⟩]
  exact hw.1.1.2
end Go.Proofs.Ytcfgiffgahdlbaa.C

set_option linter.unusedVariables false
set_option linter.unusedSimpArgs false
namespace Go.Proofs.Ytcfgiffgahdlbaa.C
open Go.Sym Go.Proofs.Ytcfgiffgahdlbaa.I
def In64 (n : Int) : Prop := -9223372036854775808 ≤ n ∧ n < 9223372036854775808
abbrev shI : Sh := .i .i64
abbrev shN : Sh := .st (.p shI (.p shI (.p shI .u)))
abbrev shP : Sh := .st (.p (.sl shN) .u)
abbrev shL : Sh := .st (.p shI (.p shI (.p shI (.p .b .u))))
abbrev shIs : Sh := .sl shI
abbrev shS : Sh := .st (.p shP (.p shIs (.p shL (.p shL (.p shIs (.p shIs .u))))))
theorem fit_i {cs : List A} (h : Fit shI cs) : ∃ n, cs = [i6 n] ∧ In64 n := by
  obtain ⟨n, rfl, hn⟩ := h
  exact ⟨n, rfl, fit_i64 hn⟩
theorem fit_n {cs : List A} (h : Fit shN cs) : ∃ n : Nd, cs = encN n ∧ In64 n.k ∧ In64 n.a ∧ In64 n.b := by
  obtain ⟨x, y, rfl, hx, z, t, rfl, hz, u, w, rfl, hu, rfl⟩ := h
  obtain ⟨a, rfl, ha⟩ := fit_i hx
  obtain ⟨b, rfl, hb⟩ := fit_i hz
  obtain ⟨c, rfl, hc⟩ := fit_i hu
  exact ⟨⟨a, b, c⟩, rfl, ha, hb, hc⟩
theorem fit_p {cs : List A} (h : Fit shP cs) : ∃ ns : List Nd, cs = [.sl ns.length (enc ns)] ∧ ns.length < 9223372036854775808 := by
  obtain ⟨x, y, rfl, hx, rfl⟩ := h
  obtain ⟨ns, rfl, h1, _⟩ := fit_sl (f := encN) (fun r hr => fit_n hr) hx
  exact ⟨ns, by simp [enc], h1⟩
theorem fit_is {cs : List A} (h : Fit shIs cs) : ∃ xs : List Int, cs = [aI xs] ∧ xs.length < 9223372036854775808 := by
  obtain ⟨xs, rfl, h1, _⟩ := fit_sl (f := fun n => [i6 n]) (fun r hr => fit_i hr) h
  exact ⟨xs, by simp only [aI, ints]; rw [List.map_eq_flatMap], h1⟩
structure Lk.fit (l : Lk) : Prop where
  k : In64 l.key
  e : In64 l.epoch
  s : In64 l.seq
theorem fit_l {cs : List A} (h : Fit shL cs) : ∃ l : Lk, cs = [i6 l.key, i6 l.epoch, i6 l.seq, .bool l.over] ∧ l.fit := by
  obtain ⟨x, y, rfl, hx, z, t, rfl, hz, u, w, rfl, hu, b, w, rfl, ⟨o, rfl⟩, rfl⟩ := h
  obtain ⟨a, rfl, ha⟩ := fit_i hx
  obtain ⟨b, rfl, hb⟩ := fit_i hz
  obtain ⟨c, rfl, hc⟩ := fit_i hu
  exact ⟨⟨a, b, c, o⟩, rfl, ha, hb, hc⟩
structure St.fitA (s : St) : Prop where
  p : s.pool.length < 9223372036854775808
  k : s.know.length < 9223372036854775808
  t : s.sent.length < 9223372036854775808
  g : s.got.length < 9223372036854775808
  o : s.out.fit
  i : s.inn.fit
theorem fit_s {cs : List A} (h : Fit shS cs) : ∃ s : St, cs = cS s ∧ s.fitA := by
  obtain ⟨x, y, rfl, hx, z, t, rfl, hz, u, w, rfl, hu, b, w, rfl, hb, e, f, rfl, he, g, i, rfl, hg, rfl⟩ := h
  obtain ⟨ns, rfl, h1⟩ := fit_p hx
  obtain ⟨ks, rfl, h2⟩ := fit_is hz
  obtain ⟨l, rfl, h3⟩ := fit_l hu
  obtain ⟨m, rfl, h4⟩ := fit_l hb
  obtain ⟨ts, rfl, h5⟩ := fit_is he
  obtain ⟨gs, rfl, h6⟩ := fit_is hg
  exact ⟨⟨ns, ks, l, m, ts, gs⟩, rfl, h1, h2, h5, h6, h3, h4⟩
theorem arg_p {x : A} (h : FitA shP x) : ∃ ns : List Nd, x = aP ns ∧ ns.length < 9223372036854775808 := by
  obtain ⟨cs, rfl, h⟩ := h
  obtain ⟨ns, rfl, g⟩ := fit_p h
  exact ⟨ns, rfl, g⟩
theorem arg_l {x : A} (h : FitA shL x) : ∃ l : Lk, x = aL l ∧ l.fit := by
  obtain ⟨cs, rfl, h⟩ := h
  obtain ⟨ns, rfl, g⟩ := fit_l h
  exact ⟨ns, rfl, g⟩
theorem arg_s {x : A} (h : FitA shS x) : ∃ s : St, x = aS s ∧ s.fitA := by
  obtain ⟨cs, rfl, h⟩ := h
  obtain ⟨ns, rfl, g⟩ := fit_s h
  exact ⟨ns, rfl, g⟩
theorem arg_is {x : A} (h : FitA shIs x) : ∃ xs : List Int, x = aI xs ∧ xs.length < 9223372036854775808 := by
  obtain ⟨xs, e, h⟩ := fit_is (show Fit shIs [x] from h)
  exact ⟨xs, by simpa using e, h⟩
theorem arg_i {x : A} (h : FitA shI x) : ∃ n : Int, x = i6 n ∧ In64 n := by
  obtain ⟨n, e, h⟩ := fit_i (show Fit shI [x] from h)
  exact ⟨n, by simpa using e, h⟩
end Go.Proofs.Ytcfgiffgahdlbaa.C

set_option linter.unusedVariables false
set_option linter.unusedSimpArgs false
namespace Go.Proofs.Ytcfgiffgahdlbaa.C
open Go.Sym Go.Proofs.Ytcfgiffgahdlbaa.I
abbrev qblk (ns : List Nd) : Blk := ⟨ns.length, false, 3, enc ns, none⟩
abbrev iblk (xs : List Int) : Blk := ⟨xs.length, false, 1, ints xs, none⟩
abbrev iref (b : Nat) (xs : List Int) : A := .ref b xs.length 0 xs.length
def szF (x : Int) (n : Nat) : Int := if x - n < 0 then -1 else x - n
theorem laws_szNodeS_c (ns : List Nd) (x : Int) (hl : ns.length < 9223372036854775808) (h0 : 0 ≤ x) (h1 : x < 9223372036854775808) : T 35 [.sl ns.length (enc ns), i6 x] [] (i6 (szF x ns.length)) ([]) := by
  refine semT' (S := S0) hm laws_szNodeS_ok (Nat.le_of_ble_eq_true rfl) ?_
  unfold laws_szNodeS; dsimp only
  have hw : IntKind.i64.wrap (x - ns.length) = x - ns.length := wrap64 (by omega) (by omega)
  simp [hw]
  refine br_intro' (fun h => ?_) (fun h => ?_) <;> (have h0 := h) <;> (try simp at h) <;> try simp [h0, h]
  · exact LeV.ro rfl rfl (by simp [szF, h])
  · exact LeV.ro rfl rfl (by simp [szF]; omega)
theorem laws_szNodeS_call {ns : List Nd} {x : Int} (hl : ns.length < 9223372036854775808) (h0 : 0 ≤ x) (h1 : x < 9223372036854775808) {S : FuncId → Bool} {H : List Blk} {K : A → Dl → Prop} (hS : S 35 = false) (hK : K (i6 (szF x ns.length)) (.news [])) : @WCall' Go.Proofs.Try.prog S 35 [.sl ns.length (enc ns), i6 x] H ⟨K⟩ :=
  WCall_pure hS (laws_szNodeS_c ns x hl h0 h1) (by simp) (by simp) (by simp) hK
theorem laws_szNodeS_k {ns : List Nd} {x : Int} (hl : ns.length < 9223372036854775808) (h0 : 0 ≤ x) (h1 : x < 9223372036854775808) {S : FuncId → Bool} {H : List Blk} {K : A → Dl → Prop} {zs : List A} (hS : S 35 = false) (hv : viewL (viewA 8 H) zs = some [.sl ns.length (enc ns), i6 x]) (ho : noOwns zs = true ∨ nosl (i6 (szF x ns.length)) = true) (hK : K (i6 (szF x ns.length)) (.news [])) : @WCall' Go.Proofs.Try.prog S 35 zs H ⟨K⟩ :=
  WCall_pure hS (laws_szNodeS_c ns x hl h0 h1) hv ho (by simp) hK
theorem laws_szPool_c (ns : List Nd) (x : Int) (hl : ns.length < 9223372036854775808) (h0 : 0 ≤ x) (h1 : x < 9223372036854775808) : T 9 [aP ns, i6 x] [] (i6 (szF x ns.length)) ([]) := by
  refine semT' (S := S0) hm laws_szPool_ok (Nat.le_of_ble_eq_true rfl) ?_
  unfold laws_szPool; dsimp only
  simp
  refine laws_szNodeS_call (ns := ns) (x := x) hl h0 h1 rfl ?_; simp
  refine br_intro' (fun h => ?_) (fun h => ?_) <;> (have h0 := h) <;> (try simp at h) <;> try simp [h0, h]
  · exact LeV.ro rfl rfl (by simp [szF] at h ⊢; omega)
  · exact LeV.ro rfl rfl (by simp)
theorem laws_szPool_call {ns : List Nd} {x : Int} (hl : ns.length < 9223372036854775808) (h0 : 0 ≤ x) (h1 : x < 9223372036854775808) {S : FuncId → Bool} {H : List Blk} {K : A → Dl → Prop} (hS : S 9 = false) (hK : K (i6 (szF x ns.length)) (.news [])) : @WCall' Go.Proofs.Try.prog S 9 [aP ns, i6 x] H ⟨K⟩ :=
  WCall_pure hS (laws_szPool_c ns x hl h0 h1) (by simp) (by simp) (by simp) hK
theorem laws_szPool_k {ns : List Nd} {x : Int} (hl : ns.length < 9223372036854775808) (h0 : 0 ≤ x) (h1 : x < 9223372036854775808) {S : FuncId → Bool} {H : List Blk} {K : A → Dl → Prop} {zs : List A} (hS : S 9 = false) (hv : viewL (viewA 8 H) zs = some [aP ns, i6 x]) (ho : noOwns zs = true ∨ nosl (i6 (szF x ns.length)) = true) (hK : K (i6 (szF x ns.length)) (.news [])) : @WCall' Go.Proofs.Try.prog S 9 zs H ⟨K⟩ :=
  WCall_pure hS (laws_szPool_c ns x hl h0 h1) hv ho (by simp) hK
theorem laws_toNode_c (n : Nd)  : T 64 [aN n] [] (aN n) ([]) := by
  refine semT' (S := S0) hm laws_toNode_ok (Nat.le_of_ble_eq_true rfl) ?_
  unfold laws_toNode; dsimp only
  simp
  exact LeV.ro rfl rfl (by simp)
theorem laws_toNode_call {n : Nd}  {S : FuncId → Bool} {H : List Blk} {K : A → Dl → Prop} (hS : S 64 = false) (hK : K (aN n) (.news [])) : @WCall' Go.Proofs.Try.prog S 64 [aN n] H ⟨K⟩ :=
  WCall_pure hS (laws_toNode_c n) (by simp) (by simp) (by simp) hK
theorem laws_toNode_k {n : Nd}  {S : FuncId → Bool} {H : List Blk} {K : A → Dl → Prop} {zs : List A} (hS : S 64 = false) (hv : viewL (viewA 8 H) zs = some [aN n]) (ho : noOwns zs = true ∨ nosl (aN n) = true) (hK : K (aN n) (.news [])) : @WCall' Go.Proofs.Try.prog S 64 zs H ⟨K⟩ :=
  WCall_pure hS (laws_toNode_c n) hv ho (by simp) hK
theorem laws_eqNode_c (n m : Nd)  : T 67 [aN n, aN m] [] (.bool (decide (n = m))) ([]) := by
  refine semT' (S := S0) hm laws_eqNode_ok (Nat.le_of_ble_eq_true rfl) ?_
  unfold laws_eqNode; dsimp only
  simp
  repeat (any_goals (first | (refine br_intro' (fun h => ?_) (fun h => ?_) <;> (have h0 := h) <;> (try simp at h) <;> try simp [h0, h])))
  all_goals exact LeV.ro rfl rfl (by simp [Nd_eq, *])
theorem laws_eqNode_call {n m : Nd}  {S : FuncId → Bool} {H : List Blk} {K : A → Dl → Prop} (hS : S 67 = false) (hK : K (.bool (decide (n = m))) (.news [])) : @WCall' Go.Proofs.Try.prog S 67 [aN n, aN m] H ⟨K⟩ :=
  WCall_pure hS (laws_eqNode_c n m) (by simp) (by simp) (by simp) hK
theorem laws_eqNode_k {n m : Nd}  {S : FuncId → Bool} {H : List Blk} {K : A → Dl → Prop} {zs : List A} (hS : S 67 = false) (hv : viewL (viewA 8 H) zs = some [aN n, aN m]) (ho : noOwns zs = true ∨ nosl (.bool (decide (n = m))) = true) (hK : K (.bool (decide (n = m))) (.news [])) : @WCall' Go.Proofs.Try.prog S 67 zs H ⟨K⟩ :=
  WCall_pure hS (laws_eqNode_c n m) hv ho (by simp) hK
theorem Lk_eq {x y : Lk} : x = y ↔ x.key = y.key ∧ x.epoch = y.epoch ∧ x.seq = y.seq ∧ x.over = y.over := by cases x; cases y; simp
def zN (j : Nat) : List Nd := List.replicate j ⟨0, 0, 0⟩
/-- A copy that is made up to a place. -/
def upN (ns : List Nd) (j : Nat) : List Nd := ns.take j ++ zN (ns.length - j)
theorem upN_len (ns : List Nd) (j : Nat) (h : j ≤ ns.length) : (upN ns j).length = ns.length := by simp [upN, zN]; omega
theorem upN_zero (ns : List Nd) : upN ns 0 = zN ns.length := by simp [upN]
theorem upN_end (ns : List Nd) : upN ns ns.length = ns := by simp [upN, zN]
theorem enc_zN (j : Nat) : enc (zN j) = (List.replicate j [i6 0, i6 0, i6 0]).flatten := by
  induction j with
  | zero => rfl
  | succ j ih => simp only [zN, List.replicate_succ, enc, List.flatMap_cons, List.flatten_cons] at ih ⊢; rw [ih]; rfl
theorem upN_set (ns : List Nd) (j : Nat) (h : j < ns.length) : (upN ns j).set j ns[j] = upN ns (j + 1) := by
  have hl : (ns.take j).length = j := by simp; omega
  have e : ns.length - j = (ns.length - (j + 1)) + 1 := by omega
  simp only [upN, zN]
  rw [List.set_append_right _ _ (by omega), hl, Nat.sub_self, e, List.replicate_succ, List.set_cons_zero, List.take_succ_eq_append_getElem h, List.append_assoc]
  rfl
theorem set3 {x y z : A} : ∀ (cs : List A) (a b c : A) (r : List A), (((a :: b :: c :: r).set 0 x).set 1 y).set 2 z = x :: y :: z :: r := fun _ _ _ _ _ => rfl
theorem enc_set : ∀ (xs : List Nd) (j : Nat) (n : Nd), (((enc xs).set (j * 3) (i6 n.k)).set (j * 3 + 1) (i6 n.a)).set (j * 3 + 2) (i6 n.b) = enc (xs.set j n)
  | [], j, n => by simp
  | x :: xs, 0, n => rfl
  | x :: xs, j + 1, n => by
    have := enc_set xs j n
    have e : (j + 1) * 3 = j * 3 + 1 + 1 + 1 := by omega
    show ((([i6 x.k, i6 x.a, i6 x.b] ++ enc xs).set ((j + 1) * 3) _).set ((j + 1) * 3 + 1) _).set ((j + 1) * 3 + 2) _ = [i6 x.k, i6 x.a, i6 x.b] ++ enc (xs.set j n)
    rw [e, ← this]
    rfl
theorem laws_toNodeS_c (ns : List Nd) (hl : ns.length ≤ 4294967296) : T 39 [.sl ns.length (enc ns)] [] (pref 0 ns) ([qblk ns]) := by
  refine semT' (S := S0) hm laws_toNodeS_ok (Nat.le_of_ble_eq_true rfl) ?_
  unfold laws_toNodeS; dsimp only
  have h1 : ((ns.length : Int)) * 24 ≤ 17592186044416 := by omega
  have h2 : (ns.length : Int) ≤ 4294967296 := by omega
  simp
  refine ck_intro' (by omega) ?_; simp
  rw [← enc_zN, ← upN_zero]
  refine WLoop_fam (fun j : Nat => [(0, A.sl ns.length (enc ns)), (3, A.ref 0 0 0 ns.length), (4, i6 j)]) (fun j => [⟨0, false, 3, enc (upN ns j), none⟩]) (fun j => ns.length - j)
    (fun j => j ≤ ns.length) ?_ 0 (Nat.zero_le _)
  intro j hj ih
  simp [upN_len ns j hj]
  refine br_intro' (fun h => ?_) (fun h => ?_) <;> (have h0 := h) <;> (try simp at h) <;> try simp [h0, h]
  · obtain ⟨r, hr⟩ := enc_at h
    have h3 : 3 ≤ ns.length * 3 - j * 3 := by omega
    have hw : IntKind.i64.wrap ((j : Int) + 1) = j + 1 := wrap64 (by omega) (by omega)
    have h' := h
    simp [h3, hr, h']
    refine laws_toNode_call (n := ns[j]) rfl ?_; simp [upN_len ns j hj, h']
    refine ck_intro' (by omega) ?_; simp
    rw [hw, enc_set, upN_set ns j h']
    exact ih (j + 1) h' (by omega)
  · have h0 : j = ns.length := by omega
    subst h0
    rw [upN_end]
    first | (refine LeV.tell [none] ?_ ?_ ?_ <;> (simp; done)) | (refine LeV.tell [some 0] ?_ ?_ ?_ <;> (simp; done)) | (refine LeV.tell [some 1] ?_ ?_ ?_ <;> (simp; done)) | (refine LeV.tell [some 2] ?_ ?_ ?_ <;> (simp; done)) | (refine LeV.tell [some 3] ?_ ?_ ?_ <;> (simp; done)) | (refine LeV.tell [some 4] ?_ ?_ ?_ <;> (simp; done)) | (refine LeV.tell [some 5] ?_ ?_ ?_ <;> (simp; done)) | (refine LeV.tell [some 6] ?_ ?_ ?_ <;> (simp; done)) | (refine LeV.tell [some 7] ?_ ?_ ?_ <;> (simp; done)) | (refine LeV.tell [some 8] ?_ ?_ ?_ <;> (simp; done)) | (refine LeV.tell [some 9] ?_ ?_ ?_ <;> (simp; done)) | (refine LeV.tell [some 10] ?_ ?_ ?_ <;> (simp; done)) | (refine LeV.tell [some 11] ?_ ?_ ?_ <;> (simp; done)) | (refine LeV.tell [some 12] ?_ ?_ ?_ <;> (simp; done)) | (refine LeV.tell [some 13] ?_ ?_ ?_ <;> (simp; done)) | (refine LeV.tell [some 14] ?_ ?_ ?_ <;> (simp; done)) | (refine LeV.tell [some 15] ?_ ?_ ?_ <;> (simp; done))
theorem laws_toNodeS_k {ns : List Nd} (hl : ns.length ≤ 4294967296) {S : FuncId → Bool} {H : List Blk} {K : A → Dl → Prop} {zs : List A} (hS : S 39 = false) (hv : viewL (viewA 8 H) zs = some [.sl ns.length (enc ns)]) (ho : noOwns zs = true ∨ nosl (pref 0 ns) = true ∧ noslBlks ([qblk ns]) = true) (hK : K (shiftA H.length (pref 0 ns)) (.news (([qblk ns]).map (shiftB H.length)))) : @WCall' Go.Proofs.Try.prog S 39 zs H ⟨K⟩ :=
  WCall_ro' hS hv (laws_toNodeS_c ns hl) rfl ho hK
theorem laws_toPool_c (ns : List Nd) (hl : ns.length ≤ 4294967296) : T 12 [aP ns] [] (.agg [pref 0 ns]) ([qblk ns]) := by
  refine semT' (S := S0) hm laws_toPool_ok (Nat.le_of_ble_eq_true rfl) ?_
  unfold laws_toPool; dsimp only
  simp
  refine laws_toNodeS_k (ns := ns) hl rfl (by simp) (by simp [noslBlks]) ?_; simp [shiftB]
  first | (refine LeV.tell [none] ?_ ?_ ?_ <;> (simp; done)) | (refine LeV.tell [some 0] ?_ ?_ ?_ <;> (simp; done)) | (refine LeV.tell [some 1] ?_ ?_ ?_ <;> (simp; done)) | (refine LeV.tell [some 2] ?_ ?_ ?_ <;> (simp; done)) | (refine LeV.tell [some 3] ?_ ?_ ?_ <;> (simp; done)) | (refine LeV.tell [some 4] ?_ ?_ ?_ <;> (simp; done)) | (refine LeV.tell [some 5] ?_ ?_ ?_ <;> (simp; done)) | (refine LeV.tell [some 6] ?_ ?_ ?_ <;> (simp; done)) | (refine LeV.tell [some 7] ?_ ?_ ?_ <;> (simp; done)) | (refine LeV.tell [some 8] ?_ ?_ ?_ <;> (simp; done)) | (refine LeV.tell [some 9] ?_ ?_ ?_ <;> (simp; done)) | (refine LeV.tell [some 10] ?_ ?_ ?_ <;> (simp; done)) | (refine LeV.tell [some 11] ?_ ?_ ?_ <;> (simp; done)) | (refine LeV.tell [some 12] ?_ ?_ ?_ <;> (simp; done)) | (refine LeV.tell [some 13] ?_ ?_ ?_ <;> (simp; done)) | (refine LeV.tell [some 14] ?_ ?_ ?_ <;> (simp; done)) | (refine LeV.tell [some 15] ?_ ?_ ?_ <;> (simp; done))
theorem laws_toPool_k {ns : List Nd} (hl : ns.length ≤ 4294967296) {S : FuncId → Bool} {H : List Blk} {K : A → Dl → Prop} {zs : List A} (hS : S 12 = false) (hv : viewL (viewA 8 H) zs = some [aP ns]) (ho : noOwns zs = true ∨ nosl (.agg [pref 0 ns]) = true ∧ noslBlks ([qblk ns]) = true) (hK : K (shiftA H.length (.agg [pref 0 ns])) (.news (([qblk ns]).map (shiftB H.length)))) : @WCall' Go.Proofs.Try.prog S 12 zs H ⟨K⟩ :=
  WCall_ro' hS hv (laws_toPool_c ns hl) rfl ho hK
/-- A copy of numbers that is made up to a place. -/
def upI (xs : List Int) (j : Nat) : List Int := xs.take j ++ List.replicate (xs.length - j) 0
theorem upI_len (xs : List Int) (j : Nat) (h : j ≤ xs.length) : (upI xs j).length = xs.length := by simp [upI]; omega
theorem upI_zero (xs : List Int) : upI xs 0 = List.replicate xs.length 0 := by simp [upI]
theorem upI_end (xs : List Int) : upI xs xs.length = xs := by simp [upI]
theorem upI_set (ns : List Int) (j : Nat) (h : j < ns.length) : (upI ns j).set j ns[j] = upI ns (j + 1) := by
  have hl : (ns.take j).length = j := by simp; omega
  have e : ns.length - j = (ns.length - (j + 1)) + 1 := by omega
  simp only [upI]
  rw [List.set_append_right _ _ (by omega), hl, Nat.sub_self, e, List.replicate_succ, List.set_cons_zero, List.take_succ_eq_append_getElem h, List.append_assoc]
  rfl
theorem ints_set (xs : List Int) (j : Nat) (n : Int) : (ints xs).set j (i6 n) = ints (xs.set j n) := by simp [ints, List.map_set]
@[simp] theorem ints_tells (H H' : List Blk) (g : List (Option Nat)) (xs : List Int) : Tells H H' g (ints xs) (ints xs) := Tells_scals _ (ints_scals xs)
@[simp] theorem ints_take (xs : List Int) : (ints xs).take xs.length = ints xs := List.take_of_length_le (by simp)
theorem ints_rep (n : Nat) : ints (List.replicate n 0) = List.replicate n (i6 0) := by simp [ints]
theorem laws_toIntS_c (xs : List Int) (hl : xs.length ≤ 4294967296) : T 21 [aI xs] [] (iref 0 xs) ([iblk xs]) := by
  refine semT' (S := S0) hm laws_toIntS_ok (Nat.le_of_ble_eq_true rfl) ?_
  unfold laws_toIntS; dsimp only
  have h1 : ((xs.length : Int)) * 8 ≤ 17592186044416 := by omega
  have h2 : (xs.length : Int) ≤ 4294967296 := by omega
  simp
  refine ck_intro' (by omega) ?_; simp
  rw [← ints_rep, ← upI_zero]
  refine WLoop_fam (fun j : Nat => [(0, aI xs), (3, A.ref 0 0 0 xs.length), (4, i6 j)]) (fun j => [⟨0, false, 1, ints (upI xs j), none⟩]) (fun j => xs.length - j)
    (fun j => j ≤ xs.length) ?_ 0 (Nat.zero_le _)
  intro j hj ih
  simp [upI_len xs j hj]
  refine br_intro' (fun h => ?_) (fun h => ?_) <;> (have h0 := h) <;> (try simp at h) <;> try simp [h0, h]
  · have hw : IntKind.i64.wrap ((j : Int) + 1) = j + 1 := wrap64 (by omega) (by omega)
    have h' := h
    simp [h', upI_len xs j hj]
    refine ck_intro' (by omega) ?_; simp
    rw [hw, ints_set, upI_set xs j h']
    exact ih (j + 1) h' (by omega)
  · have h0 : j = xs.length := by omega
    subst h0
    rw [upI_end]
    first | (refine LeV.tell [none] ?_ ?_ ?_ <;> (simp; done)) | (refine LeV.tell [some 0] ?_ ?_ ?_ <;> (simp; done)) | (refine LeV.tell [some 1] ?_ ?_ ?_ <;> (simp; done)) | (refine LeV.tell [some 2] ?_ ?_ ?_ <;> (simp; done)) | (refine LeV.tell [some 3] ?_ ?_ ?_ <;> (simp; done)) | (refine LeV.tell [some 4] ?_ ?_ ?_ <;> (simp; done)) | (refine LeV.tell [some 5] ?_ ?_ ?_ <;> (simp; done)) | (refine LeV.tell [some 6] ?_ ?_ ?_ <;> (simp; done)) | (refine LeV.tell [some 7] ?_ ?_ ?_ <;> (simp; done)) | (refine LeV.tell [some 8] ?_ ?_ ?_ <;> (simp; done)) | (refine LeV.tell [some 9] ?_ ?_ ?_ <;> (simp; done)) | (refine LeV.tell [some 10] ?_ ?_ ?_ <;> (simp; done)) | (refine LeV.tell [some 11] ?_ ?_ ?_ <;> (simp; done)) | (refine LeV.tell [some 12] ?_ ?_ ?_ <;> (simp; done)) | (refine LeV.tell [some 13] ?_ ?_ ?_ <;> (simp; done)) | (refine LeV.tell [some 14] ?_ ?_ ?_ <;> (simp; done)) | (refine LeV.tell [some 15] ?_ ?_ ?_ <;> (simp; done))
theorem laws_toIntS_k {xs : List Int} (hl : xs.length ≤ 4294967296) {S : FuncId → Bool} {H : List Blk} {K : A → Dl → Prop} {zs : List A} (hS : S 21 = false) (hv : viewL (viewA 8 H) zs = some [aI xs]) (ho : noOwns zs = true ∨ nosl (iref 0 xs) = true ∧ noslBlks ([iblk xs]) = true) (hK : K (shiftA H.length (iref 0 xs)) (.news (([iblk xs]).map (shiftB H.length)))) : @WCall' Go.Proofs.Try.prog S 21 zs H ⟨K⟩ :=
  WCall_ro' hS hv (laws_toIntS_c xs hl) rfl ho hK
theorem laws_eqNodeS_c (ns ms : List Nd) (hl : ns.length < 9223372036854775807) (hl2 : ms.length < 9223372036854775807) : T 47 [.sl ns.length (enc ns), .sl ms.length (enc ms)] [] (.bool (decide (ns = ms))) ([]) := by
  refine semT' (S := S0) hm laws_eqNodeS_ok (Nat.le_of_ble_eq_true rfl) ?_
  unfold laws_eqNodeS; dsimp only
  simp
  refine br_intro' (fun h => ?_) (fun h => ?_) <;> (try simp at h) <;> (try simp [h])
  · refine WLoop_fam (fun j : Nat => [(0, A.sl ns.length (enc ns)), (1, A.sl ms.length (enc ms)), (5, i6 j)]) (fun _ => []) (fun j => ns.length - j)
      (fun j => j ≤ ns.length ∧ ns.take j = ms.take j) ?_ 0 ⟨Nat.zero_le _, by simp⟩
    intro j ⟨hj, hf⟩ ih
    simp
    have hq : ns.length = ms.length := by omega
    refine br_intro' (fun h => ?_) (fun h => ?_) <;> (have h0 := h) <;> (try simp at h) <;> try simp [h0, h]
    · obtain ⟨r, hr⟩ := enc_at h
      have hm : j < ms.length := by omega
      obtain ⟨r2, hr2⟩ := enc_at hm
      have h3 : 3 ≤ ms.length * 3 - j * 3 := by omega
      have h4 : 3 ≤ ns.length * 3 - j * 3 := by omega
      have hw : IntKind.i64.wrap ((j : Int) + 1) = j + 1 := wrap64 (by omega) (by omega)
      have h' := h
      simp [h3, h4, hr, h', hr2, hm]
      refine laws_eqNode_call (n := ns[j]) (m := ms[j]) rfl ?_; simp
      first | (refine ck_intro' (by kernel_rfl) ?_; try simp) | skip
      refine br_intro' (fun g => ?_) (fun g => ?_) <;> simp at g <;> simp [g]
      · rw [hw]
        exact ih (j + 1) ⟨h', by rw [List.take_succ_eq_append_getElem h', List.take_succ_eq_append_getElem hm, hf, g]⟩ (by omega)
      · exact LeV.ro rfl rfl (by simp; intro e; subst e; exact g rfl)
    · have h0 : j = ns.length := by omega
      exact LeV.ro rfl rfl (by rw [h0, List.take_length, hq, List.take_length] at hf; simp [hf])
  · exact LeV.ro rfl rfl (by simp; intro e; rw [e] at h; exact h rfl)
theorem laws_eqNodeS_call {ns ms : List Nd} (hl : ns.length < 9223372036854775807) (hl2 : ms.length < 9223372036854775807) {S : FuncId → Bool} {H : List Blk} {K : A → Dl → Prop} (hS : S 47 = false) (hK : K (.bool (decide (ns = ms))) (.news [])) : @WCall' Go.Proofs.Try.prog S 47 [.sl ns.length (enc ns), .sl ms.length (enc ms)] H ⟨K⟩ :=
  WCall_pure hS (laws_eqNodeS_c ns ms hl hl2) (by simp) (by simp) (by simp) hK
theorem laws_eqNodeS_k {ns ms : List Nd} (hl : ns.length < 9223372036854775807) (hl2 : ms.length < 9223372036854775807) {S : FuncId → Bool} {H : List Blk} {K : A → Dl → Prop} {zs : List A} (hS : S 47 = false) (hv : viewL (viewA 8 H) zs = some [.sl ns.length (enc ns), .sl ms.length (enc ms)]) (ho : noOwns zs = true ∨ nosl (.bool (decide (ns = ms))) = true) (hK : K (.bool (decide (ns = ms))) (.news [])) : @WCall' Go.Proofs.Try.prog S 47 zs H ⟨K⟩ :=
  WCall_pure hS (laws_eqNodeS_c ns ms hl hl2) hv ho (by simp) hK
theorem laws_eqPool_c (ns ms : List Nd) (hl : ns.length < 9223372036854775807) (hl2 : ms.length < 9223372036854775807) : T 16 [aP ns, aP ms] [] (.bool (decide (ns = ms))) ([]) := by
  refine semT' (S := S0) hm laws_eqPool_ok (Nat.le_of_ble_eq_true rfl) ?_
  unfold laws_eqPool; dsimp only
  simp
  refine laws_eqNodeS_call (ns := ns) (ms := ms) hl hl2 rfl ?_; simp
  refine br_intro' (fun g => ?_) (fun g => ?_) <;> simp at g <;> simp [g]
  · exact LeV.ro rfl rfl (by simp)
  · exact LeV.ro rfl rfl (by simp [g])
theorem laws_eqPool_call {ns ms : List Nd} (hl : ns.length < 9223372036854775807) (hl2 : ms.length < 9223372036854775807) {S : FuncId → Bool} {H : List Blk} {K : A → Dl → Prop} (hS : S 16 = false) (hK : K (.bool (decide (ns = ms))) (.news [])) : @WCall' Go.Proofs.Try.prog S 16 [aP ns, aP ms] H ⟨K⟩ :=
  WCall_pure hS (laws_eqPool_c ns ms hl hl2) (by simp) (by simp) (by simp) hK
theorem laws_eqPool_k {ns ms : List Nd} (hl : ns.length < 9223372036854775807) (hl2 : ms.length < 9223372036854775807) {S : FuncId → Bool} {H : List Blk} {K : A → Dl → Prop} {zs : List A} (hS : S 16 = false) (hv : viewL (viewA 8 H) zs = some [aP ns, aP ms]) (ho : noOwns zs = true ∨ nosl (.bool (decide (ns = ms))) = true) (hK : K (.bool (decide (ns = ms))) (.news [])) : @WCall' Go.Proofs.Try.prog S 16 zs H ⟨K⟩ :=
  WCall_pure hS (laws_eqPool_c ns ms hl hl2) hv ho (by simp) hK
theorem laws_eqIntS_c (ns ms : List Int) (hl : ns.length < 9223372036854775807) (hl2 : ms.length < 9223372036854775807) : T 23 [aI ns, aI ms] [] (.bool (decide (ns = ms))) ([]) := by
  refine semT' (S := S0) hm laws_eqIntS_ok (Nat.le_of_ble_eq_true rfl) ?_
  unfold laws_eqIntS; dsimp only
  simp
  refine br_intro' (fun h => ?_) (fun h => ?_) <;> (try simp at h) <;> (try simp [h])
  · refine WLoop_fam (fun j : Nat => [(0, aI ns), (1, aI ms), (5, i6 j)]) (fun _ => []) (fun j => ns.length - j)
      (fun j => j ≤ ns.length ∧ ns.take j = ms.take j) ?_ 0 ⟨Nat.zero_le _, by simp⟩
    intro j ⟨hj, hf⟩ ih
    simp
    have hq : ns.length = ms.length := by omega
    refine br_intro' (fun h => ?_) (fun h => ?_) <;> (have h0 := h) <;> (try simp at h) <;> try simp [h0, h]
    · have hm : j < ms.length := by omega
      have hw : IntKind.i64.wrap ((j : Int) + 1) = j + 1 := wrap64 (by omega) (by omega)
      have h' := h
      simp [h', hm]
      first | (refine ck_intro' (by kernel_rfl) ?_; try simp) | skip
      refine br_intro' (fun g => ?_) (fun g => ?_) <;> simp at g <;> simp [g]
      · rw [hw]
        exact ih (j + 1) ⟨h', by rw [List.take_succ_eq_append_getElem h', List.take_succ_eq_append_getElem hm, hf, g]⟩ (by omega)
      · exact LeV.ro rfl rfl (by simp; intro e; subst e; exact g rfl)
    · have h0 : j = ns.length := by omega
      exact LeV.ro rfl rfl (by rw [h0, List.take_length, hq, List.take_length] at hf; simp [hf])
  · exact LeV.ro rfl rfl (by simp; intro e; rw [e] at h; exact h rfl)
theorem laws_eqIntS_call {ns ms : List Int} (hl : ns.length < 9223372036854775807) (hl2 : ms.length < 9223372036854775807) {S : FuncId → Bool} {H : List Blk} {K : A → Dl → Prop} (hS : S 23 = false) (hK : K (.bool (decide (ns = ms))) (.news [])) : @WCall' Go.Proofs.Try.prog S 23 [aI ns, aI ms] H ⟨K⟩ :=
  WCall_pure hS (laws_eqIntS_c ns ms hl hl2) (by simp) (by simp) (by simp) hK
theorem laws_eqIntS_k {ns ms : List Int} (hl : ns.length < 9223372036854775807) (hl2 : ms.length < 9223372036854775807) {S : FuncId → Bool} {H : List Blk} {K : A → Dl → Prop} {zs : List A} (hS : S 23 = false) (hv : viewL (viewA 8 H) zs = some [aI ns, aI ms]) (ho : noOwns zs = true ∨ nosl (.bool (decide (ns = ms))) = true) (hK : K (.bool (decide (ns = ms))) (.news [])) : @WCall' Go.Proofs.Try.prog S 23 zs H ⟨K⟩ :=
  WCall_pure hS (laws_eqIntS_c ns ms hl hl2) hv ho (by simp) hK
theorem szF_neg {x : Int} {n : Nat} : szF x n < 0 ↔ x < n := by unfold szF; split <;> omega
theorem szF_pos {x : Int} {n : Nat} (h : ¬ x < n) : szF x n = x - n := by unfold szF; rw [if_neg (by omega)]
/-- The size of a stream. -/
def szStr (s : St) (x : Int) : Int := if x < s.pool.length + s.know.length + s.sent.length + s.got.length then -1 else x - (s.pool.length + s.know.length + s.sent.length + s.got.length)
theorem St_eq {x y : St} : x = y ↔ x.pool = y.pool ∧ x.know = y.know ∧ x.out = y.out ∧ x.inn = y.inn ∧ x.sent = y.sent ∧ x.got = y.got := by cases x; cases y; simp
end Go.Proofs.Ytcfgiffgahdlbaa.C

set_option linter.unusedVariables false
set_option linter.unusedSimpArgs false
set_option maxRecDepth 4000
namespace Go.Proofs.Ytcfgiffgahdlbaa.C
open Go.Sym Go.Proofs.Ytcfgiffgahdlbaa.I
theorem laws_big_c (bs : List Int)  : T 29 [aB bs] [] (.bool (decide (1048576 < bs.length))) ([]) := by
  refine semT' (S := S0) hm laws_big_ok (Nat.le_of_ble_eq_true rfl) ?_
  unfold laws_big; dsimp only
  simp
  exact LeV.ro rfl rfl (by simp; omega)
theorem laws_big_call {bs : List Int}  {S : FuncId → Bool} {H : List Blk} {K : A → Dl → Prop} (hS : S 29 = false) (hK : K (.bool (decide (1048576 < bs.length))) (.news [])) : @WCall' Go.Proofs.Try.prog S 29 [aB bs] H ⟨K⟩ :=
  WCall_pure hS (laws_big_c bs) (by simp) (by simp) (by simp) hK
theorem laws_big_k {bs : List Int}  {S : FuncId → Bool} {H : List Blk} {K : A → Dl → Prop} {zs : List A} (hS : S 29 = false) (hv : viewL (viewA 8 H) zs = some [aB bs]) (ho : noOwns zs = true ∨ nosl (.bool (decide (1048576 < bs.length))) = true) (hK : K (.bool (decide (1048576 < bs.length))) (.news [])) : @WCall' Go.Proofs.Try.prog S 29 zs H ⟨K⟩ :=
  WCall_pure hS (laws_big_c bs) hv ho (by simp) hK
theorem laws_FnTrimmed_c (bs : List Int) (ha : bs.length < 9223372036854775808) : T 8 [aB bs] [] (.bool true) ([]) := by
  refine semT' (S := S0) hm laws_FnTrimmed_ok (Nat.le_of_ble_eq_true rfl) ?_
  unfold laws_FnTrimmed; dsimp only
  simp
  refine laws_big_k (bs := bs) rfl (by simp) (by simp) ?_; simp
  refine br_intro' (fun g => ?_) (fun g => ?_) <;> simp only [decide_eq_true_eq, decide_eq_false_iff_not] at g <;> simp [g]
  · exact LeV.ro rfl rfl rfl
  have hb : bs.length < 9223372036854775807 := by omega
  have hl := d6_len bs
  have hl8 := d8_len bs (d6 bs)
  refine spec_DrawProofCheck_k (bs := bs) hb rfl (by simp) (by simp [noslBlks]) ?_; simp [shiftB]
  generalize d8 bs (d6 bs) = e at hl8 ⊢
  generalize d6 bs = d at hl ⊢
  obtain ⟨ns, ks, t0⟩ := d
  obtain ⟨ss, t⟩ := e
  simp only at hl hl8
  simp
  refine impl_ProofTrim_k (ns := ns) (ss := ss) (by omega) (by omega) rfl (by simp) (by simp [noslBlks]) ?_; simp [shiftB]
  refine spec_ProofTrim_k (ns := ns) (ss := ss) (by omega) (by omega) rfl (by simp) (by simp [noslBlks]) ?_; simp [shiftB]
  have htl := trimF_len ns ss
  refine br_intro' (fun g1 => ?_) (fun g1 => ?_) <;> (have g10 := g1) <;> simp only [decide_eq_true_eq, decide_eq_false_iff_not] at g1
  · omega
  simp [g10]
  refine spec_ProofCheck_k (ns := ns) (ks := ks) (ss := ss) (t := t) (by omega) (by omega) (by omega) rfl (by simp) (by simp [noslBlks]) ?_; simp [shiftB]
  refine br_intro' (fun c => ?_) (fun c => ?_) <;> simp [c]
  rotate_left
  · exact LeV.ro rfl rfl rfl
  obtain ⟨hc, ht⟩ := trimF_spec c
  have hnd := fun (i : Nat) (hi : i < (trimF ns ss).length) => checkF_needs hc hi
  refine impl_ProofTrim_k (ns := ns) (ss := trimF ns ss) (by omega) (by omega) rfl (by simp) (by simp [noslBlks]) ?_; simp [shiftB]
  rw [ht]
  generalize trimF ns ss = out at htl hc ht hnd ⊢
  simp
  have hol : out.length ≤ 501 := by omega
  refine WLoop_fam (fun j : Nat => [(3, A.ptr 0 0 0), (4, aI ks), (6, i6 t), (7, A.ref 1 out.length 0 out.length), (8, A.ref 3 out.length 0 out.length), (9, i6 j)])
    (fun _ => [⟨0, false, 1, [A.sl ns.length (enc ns)], none⟩, ⟨out.length, decide (out = []), 4, encS out, none⟩, ⟨out.length, decide (out = []), 4, encS out, none⟩, ⟨out.length, decide (out = []), 4, encS out, none⟩]) (fun j => out.length - j) (fun j => j ≤ out.length) ?_ 0 (Nat.zero_le _)
  intro j hj ih
  simp
  refine br_intro' (fun u => ?_) (fun u => ?_) <;> (have u0 := u) <;> simp only [decide_eq_true_eq, decide_eq_false_iff_not] at u <;> simp [u0, u]
  · obtain ⟨r4, hr4⟩ := encS_at u
    have h4 : 4 ≤ out.length * 4 - j * 4 := by omega
    have hw := wrap_succ (n := j) (by omega)
    repeat (refine ck_intro' (by first | omega | (simp; omega) | kernel_rfl) ?_; try simp [u])
    simp [h4, hr4]
    repeat (refine ck_intro' (by first | omega | (simp; omega) | kernel_rfl) ?_; try simp [u])
    simp [h4, hr4]
    refine impl_StepNeeds_k (ns := ns) (s := out[j]) (by omega) rfl (by simp) (by simp) ?_; simp
    repeat (refine ck_intro' (by first | omega | (simp; omega) | kernel_rfl) ?_; try simp [u])
    have hn := hnd j u
    rw [spAt_lt u] at hn
    refine br_intro' (fun v => ?_) (fun v => ?_) <;> (have v0 := v) <;> simp only [decide_eq_true_eq, decide_eq_false_iff_not] at v
    · omega
    · simp [v0]
      rw [hw]
      exact ih (j + 1) (by omega) (by omega)
  · refine impl_ProofCheck_k (ns := ns) (ks := ks) (ss := out) (t := t) (by omega) (by omega) (by omega) rfl (by simp) (by simp) ?_; simp
    exact LeV.ro rfl rfl (by simp [hc])
end Go.Proofs.Ytcfgiffgahdlbaa.C
