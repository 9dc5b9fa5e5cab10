/- What drawing a proof answers. Conditions: those that each theorem names. -/
import Derived.Test.YtcfgiffgahdlbaaGreatXB1E6
import Derived.Test.YtcfgiffgahdlbaaGreatXQ1Q2
import Derived.Test.YtcfgiffgahdlbaaGreatXSymY
import Derived.Shelf.Sort.Plain
import Derived.Shelf.Slices.In.SortNone
import Derived.Shelf.Slices.CompactI
import Derived.Lib.RowBridge
set_option linter.unusedVariables false
set_option linter.unusedSimpArgs false
set_option maxRecDepth 40000
namespace Go.Proofs.YtcfgiffgahdlbaaGreat.C
open Go.Sym Go.Proofs.YtcfgiffgahdlbaaGreat.I
/-- The term that a proof is drawn for. -/
def d8t (bs : List Int) (all : List Int) (t : Int) (s : Cu) : Int × Cu :=
  if all = [] then (t, s) else if (onceF bs s 4).1 = true then (t, (onceF bs s 4).2)
  else (all.getD (all.length - 1 - (belowF bs (onceF bs s 4).2 (min (all.length : Int) 6)).1.toNat) 0, (belowF bs (onceF bs s 4).2 (min (all.length : Int) 6)).2)
def setR (ss : List Sp) (i : Nat) (v : Int) : List Sp := ss.set i ⟨v, (spAt ss i).t, (spAt ss i).a, (spAt ss i).b⟩
def setT (ss : List Sp) (i : Nat) (v : Int) : List Sp := ss.set i ⟨(spAt ss i).r, v, (spAt ss i).a, (spAt ss i).b⟩
def setA (ss : List Sp) (i : Nat) (v : Int) : List Sp := ss.set i ⟨(spAt ss i).r, (spAt ss i).t, v, (spAt ss i).b⟩
def setB (ss : List Sp) (i : Nat) (v : Int) : List Sp := ss.set i ⟨(spAt ss i).r, (spAt ss i).t, (spAt ss i).a, v⟩
def d8w (bs : List Int) (m : Nat) (ss : List Sp) (i : Nat) (w : Int × Cu) : List Sp :=
  if w.1 = 0 then setR ss i (belowF bs w.2 10).1 else if w.1 = 1 then setA ss i ((belowF bs w.2 5).1 - 1) else if w.1 = 2 then setB ss i ((belowF bs w.2 5).1 - 1)
  else if w.1 = 3 then setT ss i (termF bs w.2 m).1 else if w.1 = 4 then ss ++ [spAt ss i] else ss
def d8v (bs : List Int) (m : Nat) (ss : List Sp) (i : Int × Cu) : List Sp := d8w bs m ss i.1.toNat (belowF bs i.2 15)
/-- The list of steps, changed at one place. -/
def d8m (bs : List Int) (m : Nat) (ss : List Sp) (s : Cu) : List Sp := if ss = [] then [] else d8v bs m ss (belowF bs s ss.length)
def d8l (bs : List Int) (ns : List Nd) (ks : List Int) (t : Int × Cu) : List Sp × Int :=
  (d8m bs ns.length (if (onceF bs t.2 4).1 = true then allSt ns ks else (ofF ns ks t.1).1) (onceF bs t.2 4).2, t.1)
/-- What l9DrawProof answers, over what l6Draw answers. -/
def d8 (bs : List Int) (d : List Nd × List Int × Int) : List Sp × Int := d8l bs d.1 d.2.1 (d8t bs (derF d.1 d.2.1) d.2.2 ⟨0, newH bs⟩)
theorem encS_set {x : A} {s : Sp} {k : Nat} (hk : k < 4) : ∀ {ss : List Sp} {j : Nat} (h : j < ss.length), encT s = (encT ss[j]).set k x → (encS ss).set (j * 4 + k) x = encS (ss.set j s)
  | [], j, h, _ => absurd h (by simp)
  | a :: r, 0, h, e => by
    simp only [List.getElem_cons_zero] at e
    simp only [encS, List.flatMap_cons, List.set_cons_zero, Nat.zero_mul, Nat.zero_add]
    rw [List.set_append_left _ _ (by rw [encT_len]; exact hk), e]
  | a :: r, j + 1, h, e => by
    simp only [List.getElem_cons_succ] at e
    have ih := encS_set hk (ss := r) (j := j) (by simpa using h) e
    simp only [encS, List.flatMap_cons, List.set_cons_succ] at ih ⊢
    rw [List.set_append_right _ _ (by rw [encT_len]; omega), encT_len, show (j + 1) * 4 + k - 4 = j * 4 + k by omega, ih]
theorem encS_setR {ss : List Sp} {j : Nat} (h : j < ss.length) (v : Int) : (encS ss).set (j * 4) (i6 v) = encS (setR ss j v) := encS_set (k := 0) (by omega) h (by rw [spAt_lt h]; rfl)
theorem encS_setT {ss : List Sp} {j : Nat} (h : j < ss.length) (v : Int) : (encS ss).set (j * 4 + 1) (i6 v) = encS (setT ss j v) := encS_set (by omega) h (by rw [spAt_lt h]; rfl)
theorem encS_setA {ss : List Sp} {j : Nat} (h : j < ss.length) (v : Int) : (encS ss).set (j * 4 + 2) (i6 v) = encS (setA ss j v) := encS_set (by omega) h (by rw [spAt_lt h]; rfl)
theorem encS_setB {ss : List Sp} {j : Nat} (h : j < ss.length) (v : Int) : (encS ss).set (j * 4 + 3) (i6 v) = encS (setB ss j v) := encS_set (by omega) h (by rw [spAt_lt h]; rfl)
@[simp] theorem setR_len (ss : List Sp) (j : Nat) (v : Int) : (setR ss j v).length = ss.length := by simp [setR]
@[simp] theorem setT_len (ss : List Sp) (j : Nat) (v : Int) : (setT ss j v).length = ss.length := by simp [setT]
@[simp] theorem setA_len (ss : List Sp) (j : Nat) (v : Int) : (setA ss j v).length = ss.length := by simp [setA]
@[simp] theorem setB_len (ss : List Sp) (j : Nat) (v : Int) : (setB ss j v).length = ss.length := by simp [setB]
@[simp] theorem setR_take (ss : List Sp) (j : Nat) (v : Int) : (encS (setR ss j v)).take (ss.length * 4) = encS (setR ss j v) := List.take_of_length_le (by simp)
@[simp] theorem setT_take (ss : List Sp) (j : Nat) (v : Int) : (encS (setT ss j v)).take (ss.length * 4) = encS (setT ss j v) := List.take_of_length_le (by simp)
@[simp] theorem setA_take (ss : List Sp) (j : Nat) (v : Int) : (encS (setA ss j v)).take (ss.length * 4) = encS (setA ss j v) := List.take_of_length_le (by simp)
@[simp] theorem setB_take (ss : List Sp) (j : Nat) (v : Int) : (encS (setB ss j v)).take (ss.length * 4) = encS (setB ss j v) := List.take_of_length_le (by simp)
theorem trimGo_len (ns : List Nd) (ss : List Sp) (kb : List Bool) : ∀ (n j : Nat) (now : List Int) (out : List Sp), (trimGo ns ss kb n j now out).length ≤ out.length + n
  | 0, _, _, out => Nat.le_refl _
  | n + 1, j, now, out => by
    unfold trimGo
    split
    · have := trimGo_len ns ss kb n (j + 1) (now.set j out.length) (out ++ [moveF ns now (spAt ss j)])
      simp only [List.length_append, List.length_singleton] at this
      omega
    · have := trimGo_len ns ss kb n (j + 1) now out
      omega
theorem trimF_len (ns : List Nd) (ss : List Sp) : (trimF ns ss).length ≤ ss.length := by
  unfold trimF
  split
  · have := trimGo_len ns ss (keepV ns ss) ss.length 0 (List.replicate ss.length 0) []
    simpa [trimV] using this
  · simp
theorem ofF_le (ns : List Nd) (ks : List Int) (t : Int) : (ofF ns ks t).1.length ≤ 500 := by
  unfold ofF
  split
  · have h1 := trimF_len ns (upto (allSt ns ks) t)
    have h2 := allSt_le ns ks
    have h3 : (upto (allSt ns ks) t).length ≤ (allSt ns ks).length := by simp [upto]; omega
    simp only
    omega
  · simp
theorem derF_len (ns : List Nd) (ks : List Int) : (derF ns ks).length ≤ ns.length := by
  unfold derF
  split
  · unfold mlistF listF
    rw [listGo_len]
    refine Nat.le_trans List.countP_le_length ?_
    unfold makesF
    split
    · rw [mkUp_len]; exact Nat.le_refl _
    · simp
  · simp
theorem spec_l9DrawProof_c (bs : List Int) (hb : bs.length < 9223372036854775807) : T 13 [aB bs] [] (.tup [aP (d6 bs).1, aI (d6 bs).2.1, aSs (d8 bs (d6 bs)).1, i6 (d8 bs (d6 bs)).2]) ([]) := by
  refine semT' (S := (fun f => [51, 29, 28, 52, 53, 31].contains f)) hm spec_l9DrawProof_ok (Nat.le_of_ble_eq_true rfl) ?_
  unfold spec_l9DrawProof; dsimp only
  simp
  refine spec_l6Draw_k (bs := bs) hb rfl (by simp) (by simp [noslBlks]) ?_; simp [shiftB]
  have hl := d6_len bs
  generalize d6 bs = d at hl ⊢
  obtain ⟨ns, ks, t⟩ := d
  simp only at hl
  simp
  refine spec_l1New_k (bs := bs) hb rfl (by simp) (by simp [noslBlks]) ?_; simp [shiftB]
  refine spec_DerivesList_k (ns := ns) (ks := ks) (by omega) (by omega) rfl (by simp) (by simp [noslBlks]) ?_; simp [shiftB]
  rw [show d8 bs (ns, ks, t) = d8l bs ns ks (d8t bs (derF ns ks) t ⟨0, newH bs⟩) from rfl]
  have hal := derF_len ns ks
  generalize derF ns ks = all at hal ⊢
  refine br_intro' (fun g => ?_) (fun g => ?_) <;> (have g0 := g) <;> simp only [decide_eq_true_eq, decide_eq_false_iff_not] at g
  · have g1 : ¬ all = [] := by intro e; rw [e] at g; exact absurd g (by simp)
    simp [g0, g1]
    refine cur_callR rfl 2 bs ⟨0, newH bs⟩ _ rfl (spec_l1Once_m _ 2 bs _ 4 (by simp) hb) ?_; simp [cur]
    rw [show d8t bs all t ⟨0, newH bs⟩ = if (onceF bs ⟨0, newH bs⟩ 4).1 = true then (t, (onceF bs ⟨0, newH bs⟩ 4).2) else (all.getD (all.length - 1 - (belowF bs (onceF bs ⟨0, newH bs⟩ 4).2 (min (all.length : Int) 6)).1.toNat) 0, (belowF bs (onceF bs ⟨0, newH bs⟩ 4).2 (min (all.length : Int) 6)).2) from if_neg g1]
    generalize onceF bs ⟨0, newH bs⟩ 4 = o
    refine br_intro' (fun g2 => ?_) (fun g2 => ?_) <;> (have g20 := g2)
    · rw [if_pos g2]
      simp [g2, g20]
      refine spec_ProofOf_k (ns := ns) (ks := ks) (t := t) (by omega) (by omega) rfl (by simp) (by simp [noslBlks]) ?_; simp [shiftB]
      refine cur_callR rfl 2 bs o.2 _ rfl (spec_l1Once_m _ 2 bs _ 4 (by simp) hb) ?_; simp [cur]
      rw [show d8l bs ns ks (t, o.2) = (d8m bs ns.length (if (onceF bs o.2 4).1 = true then allSt ns ks else (ofF ns ks t).1) (onceF bs o.2 4).2, t) from rfl]
      have hol := ofF_le ns ks t
      generalize onceF bs o.2 4 = o2
      generalize (ofF ns ks t).1 = of at hol ⊢
      refine br_intro' (fun g3 => ?_) (fun g3 => ?_) <;> (have g30 := g3)
      · rw [if_pos g3]
        simp [g30]
        refine spec_ProofAll_k (ns := ns) (ks := ks) (by omega) (by omega) rfl (by simp) (by simp [noslBlks]) ?_; simp [shiftB]
        have hol2 := allSt_le ns ks
        generalize allSt ns ks = ss at hol2 ⊢
        rw [show d8m bs ns.length ss o2.2 = if ss = [] then [] else d8v bs ns.length ss (belowF bs o2.2 ss.length) from rfl]
        refine br_intro' (fun g4 => ?_) (fun g4 => ?_) <;> (have g40 := g4) <;> simp only [decide_eq_true_eq, decide_eq_false_iff_not] at g4
        · have g5 : ¬ ss = [] := by intro e; rw [e] at g4; exact absurd g4 (by simp)
          rw [if_neg g5]
          simp [g40, g5]
          repeat (refine ck_intro' (by first | omega | (simp; omega) | kernel_rfl) ?_; try simp [g5])
          refine cur_callR rfl 2 bs o2.2 _ rfl (spec_l1Below_m _ 2 bs _ ss.length (by simp) hb) ?_; simp [cur]
          have hi := belowF_in bs o2.2 ss.length
          generalize belowF bs o2.2 ss.length = i at hi ⊢
          obtain ⟨x, i2⟩ := i
          obtain ⟨j, hj⟩ : ∃ j : Nat, x = j := ⟨x.toNat, by simp only at hi; omega⟩
          subst hj
          have hjl : j < ss.length := by simp only at hi; omega
          refine cur_callR rfl 2 bs i2 _ rfl (spec_l1Below_m _ 2 bs _ 15 (by simp) hb) ?_; simp [cur]
          rw [show d8v bs ns.length ss ((j : Int), i2) = d8w bs ns.length ss j (belowF bs i2 15) from rfl]
          generalize belowF bs i2 15 = w
          obtain ⟨y, w2⟩ := w
          simp
          refine br_intro' (fun v0 => ?_) (fun v0 => ?_) <;> (have u0 := v0) <;> simp only [decide_eq_true_eq, decide_eq_false_iff_not] at u0 <;> simp [v0, u0]
          · subst u0
            refine cur_callR rfl 2 bs w2 _ rfl (spec_l1Below_m _ 2 bs _ 10 (by simp) hb) ?_; simp [cur]
            rw [show d8w bs ns.length ss j (0, w2) = setR ss j (belowF bs w2 10).1 from rfl]
            generalize belowF bs w2 10 = z
            repeat (refine ck_intro' (by first | omega | (simp; omega) | kernel_rfl) ?_; try simp [hjl])
            exact LeV.ro rfl rfl (by simp [encS_setR hjl])
          refine br_intro' (fun v1 => ?_) (fun v1 => ?_) <;> (have u1 := v1) <;> simp only [decide_eq_true_eq, decide_eq_false_iff_not] at u1 <;> simp [v1, u1]
          · subst u1
            refine cur_callR rfl 2 bs w2 _ rfl (spec_l1Below_m _ 2 bs _ 5 (by simp) hb) ?_; simp [cur]
            rw [show d8w bs ns.length ss j (1, w2) = setA ss j ((belowF bs w2 5).1 - 1) from rfl]
            have hz := belowF_in bs w2 5
            generalize belowF bs w2 5 = z at hz ⊢
            have hzw : IntKind.i64.wrap (z.1 - 1) = z.1 - 1 := wrap64 (by omega) (by have := hz.2.1 (by omega); omega)
            rw [hzw]
            repeat (refine ck_intro' (by first | omega | (simp; omega) | kernel_rfl) ?_; try simp [hjl])
            exact LeV.ro rfl rfl (by simp [encS_setA hjl])
          refine br_intro' (fun v2 => ?_) (fun v2 => ?_) <;> (have u2 := v2) <;> simp only [decide_eq_true_eq, decide_eq_false_iff_not] at u2 <;> simp [v2, u2]
          · subst u2
            refine cur_callR rfl 2 bs w2 _ rfl (spec_l1Below_m _ 2 bs _ 5 (by simp) hb) ?_; simp [cur]
            rw [show d8w bs ns.length ss j (2, w2) = setB ss j ((belowF bs w2 5).1 - 1) from rfl]
            have hz := belowF_in bs w2 5
            generalize belowF bs w2 5 = z at hz ⊢
            have hzw : IntKind.i64.wrap (z.1 - 1) = z.1 - 1 := wrap64 (by omega) (by have := hz.2.1 (by omega); omega)
            rw [hzw]
            repeat (refine ck_intro' (by first | omega | (simp; omega) | kernel_rfl) ?_; try simp [hjl])
            exact LeV.ro rfl rfl (by simp [encS_setB hjl])
          refine br_intro' (fun v3 => ?_) (fun v3 => ?_) <;> (have u3 := v3) <;> simp only [decide_eq_true_eq, decide_eq_false_iff_not] at u3 <;> simp [v3, u3]
          · subst u3
            refine cur_callR rfl 2 bs w2 _ rfl (spec_l1DrawTerm_m _ 2 bs _ ns (by simp) hb (by simp) (by omega)) ?_; simp [cur]
            rw [show d8w bs ns.length ss j (3, w2) = setT ss j (termF bs w2 ns.length).1 from rfl]
            generalize termF bs w2 ns.length = z
            repeat (refine ck_intro' (by first | omega | (simp; omega) | kernel_rfl) ?_; try simp [hjl])
            exact LeV.ro rfl rfl (by simp [encS_setT hjl])
          refine br_intro' (fun v4 => ?_) (fun v4 => ?_) <;> (have u4 := v4) <;> simp only [decide_eq_true_eq, decide_eq_false_iff_not] at u4 <;> simp [v4, u4]
          · subst u4
            rw [show d8w bs ns.length ss j (4, w2) = ss ++ [spAt ss j] from rfl]
            obtain ⟨r4, hr4⟩ := encS_at hjl
            have h4 : 4 ≤ ss.length * 4 - j * 4 := by omega
            repeat (refine ck_intro' (by first | omega | (simp; omega) | kernel_rfl) ?_; try simp [hjl])
            simp [h4, hr4]
            repeat (refine ck_intro' (by first | omega | (simp; omega) | kernel_rfl) ?_; try simp [hjl])
            have e5 := encS_snoc ss ss[j]
            have e6 : (encS (ss ++ [ss[j]])).take ((ss.length + 1) * 4) = encS (ss ++ [ss[j]]) := List.take_of_length_le (by simp)
            rw [← e5]
            exact LeV.ro rfl rfl (by simp [e6])
          · rw [show d8w bs ns.length ss j (y, w2) = ss by simp [d8w, u0, u1, u2, u3, u4]]
            repeat (refine ck_intro' (by first | omega | (simp; omega) | kernel_rfl) ?_; try simp [hjl])
            exact LeV.ro rfl rfl (by simp)
        · have g5 : ss = [] := List.eq_nil_of_length_eq_zero (by omega)
          rw [if_pos g5]
          subst g5
          simp
          repeat (refine ck_intro' (by first | omega | (simp; omega) | kernel_rfl) ?_; try simp)
          exact LeV.ro rfl rfl (by simp)
      · rw [if_neg (by simp [g3])]
        simp [g30]
        rw [show d8m bs ns.length of o2.2 = if of = [] then [] else d8v bs ns.length of (belowF bs o2.2 of.length) from rfl]
        refine br_intro' (fun g4 => ?_) (fun g4 => ?_) <;> (have g40 := g4) <;> simp only [decide_eq_true_eq, decide_eq_false_iff_not] at g4
        · have g5 : ¬ of = [] := by intro e; rw [e] at g4; exact absurd g4 (by simp)
          rw [if_neg g5]
          simp [g40, g5]
          repeat (refine ck_intro' (by first | omega | (simp; omega) | kernel_rfl) ?_; try simp [g5])
          refine cur_callR rfl 2 bs o2.2 _ rfl (spec_l1Below_m _ 2 bs _ of.length (by simp) hb) ?_; simp [cur]
          have hi := belowF_in bs o2.2 of.length
          generalize belowF bs o2.2 of.length = i at hi ⊢
          obtain ⟨x, i2⟩ := i
          obtain ⟨j, hj⟩ : ∃ j : Nat, x = j := ⟨x.toNat, by simp only at hi; omega⟩
          subst hj
          have hjl : j < of.length := by simp only at hi; omega
          refine cur_callR rfl 2 bs i2 _ rfl (spec_l1Below_m _ 2 bs _ 15 (by simp) hb) ?_; simp [cur]
          rw [show d8v bs ns.length of ((j : Int), i2) = d8w bs ns.length of j (belowF bs i2 15) from rfl]
          generalize belowF bs i2 15 = w
          obtain ⟨y, w2⟩ := w
          simp
          refine br_intro' (fun v0 => ?_) (fun v0 => ?_) <;> (have u0 := v0) <;> simp only [decide_eq_true_eq, decide_eq_false_iff_not] at u0 <;> simp [v0, u0]
          · subst u0
            refine cur_callR rfl 2 bs w2 _ rfl (spec_l1Below_m _ 2 bs _ 10 (by simp) hb) ?_; simp [cur]
            rw [show d8w bs ns.length of j (0, w2) = setR of j (belowF bs w2 10).1 from rfl]
            generalize belowF bs w2 10 = z
            repeat (refine ck_intro' (by first | omega | (simp; omega) | kernel_rfl) ?_; try simp [hjl])
            exact LeV.ro rfl rfl (by simp [encS_setR hjl])
          refine br_intro' (fun v1 => ?_) (fun v1 => ?_) <;> (have u1 := v1) <;> simp only [decide_eq_true_eq, decide_eq_false_iff_not] at u1 <;> simp [v1, u1]
          · subst u1
            refine cur_callR rfl 2 bs w2 _ rfl (spec_l1Below_m _ 2 bs _ 5 (by simp) hb) ?_; simp [cur]
            rw [show d8w bs ns.length of j (1, w2) = setA of j ((belowF bs w2 5).1 - 1) from rfl]
            have hz := belowF_in bs w2 5
            generalize belowF bs w2 5 = z at hz ⊢
            have hzw : IntKind.i64.wrap (z.1 - 1) = z.1 - 1 := wrap64 (by omega) (by have := hz.2.1 (by omega); omega)
            rw [hzw]
            repeat (refine ck_intro' (by first | omega | (simp; omega) | kernel_rfl) ?_; try simp [hjl])
            exact LeV.ro rfl rfl (by simp [encS_setA hjl])
          refine br_intro' (fun v2 => ?_) (fun v2 => ?_) <;> (have u2 := v2) <;> simp only [decide_eq_true_eq, decide_eq_false_iff_not] at u2 <;> simp [v2, u2]
          · subst u2
            refine cur_callR rfl 2 bs w2 _ rfl (spec_l1Below_m _ 2 bs _ 5 (by simp) hb) ?_; simp [cur]
            rw [show d8w bs ns.length of j (2, w2) = setB of j ((belowF bs w2 5).1 - 1) from rfl]
            have hz := belowF_in bs w2 5
            generalize belowF bs w2 5 = z at hz ⊢
            have hzw : IntKind.i64.wrap (z.1 - 1) = z.1 - 1 := wrap64 (by omega) (by have := hz.2.1 (by omega); omega)
            rw [hzw]
            repeat (refine ck_intro' (by first | omega | (simp; omega) | kernel_rfl) ?_; try simp [hjl])
            exact LeV.ro rfl rfl (by simp [encS_setB hjl])
          refine br_intro' (fun v3 => ?_) (fun v3 => ?_) <;> (have u3 := v3) <;> simp only [decide_eq_true_eq, decide_eq_false_iff_not] at u3 <;> simp [v3, u3]
          · subst u3
            refine cur_callR rfl 2 bs w2 _ rfl (spec_l1DrawTerm_m _ 2 bs _ ns (by simp) hb (by simp) (by omega)) ?_; simp [cur]
            rw [show d8w bs ns.length of j (3, w2) = setT of j (termF bs w2 ns.length).1 from rfl]
            generalize termF bs w2 ns.length = z
            repeat (refine ck_intro' (by first | omega | (simp; omega) | kernel_rfl) ?_; try simp [hjl])
            exact LeV.ro rfl rfl (by simp [encS_setT hjl])
          refine br_intro' (fun v4 => ?_) (fun v4 => ?_) <;> (have u4 := v4) <;> simp only [decide_eq_true_eq, decide_eq_false_iff_not] at u4 <;> simp [v4, u4]
          · subst u4
            rw [show d8w bs ns.length of j (4, w2) = of ++ [spAt of j] from rfl]
            obtain ⟨r4, hr4⟩ := encS_at hjl
            have h4 : 4 ≤ of.length * 4 - j * 4 := by omega
            repeat (refine ck_intro' (by first | omega | (simp; omega) | kernel_rfl) ?_; try simp [hjl])
            simp [h4, hr4]
            repeat (refine ck_intro' (by first | omega | (simp; omega) | kernel_rfl) ?_; try simp [hjl])
            have e5 := encS_snoc of of[j]
            have e6 : (encS (of ++ [of[j]])).take ((of.length + 1) * 4) = encS (of ++ [of[j]]) := List.take_of_length_le (by simp)
            rw [← e5]
            exact LeV.ro rfl rfl (by simp [e6])
          · rw [show d8w bs ns.length of j (y, w2) = of by simp [d8w, u0, u1, u2, u3, u4]]
            repeat (refine ck_intro' (by first | omega | (simp; omega) | kernel_rfl) ?_; try simp [hjl])
            exact LeV.ro rfl rfl (by simp)
        · have g5 : of = [] := List.eq_nil_of_length_eq_zero (by omega)
          rw [if_pos g5]
          subst g5
          simp
          repeat (refine ck_intro' (by first | omega | (simp; omega) | kernel_rfl) ?_; try simp)
          exact LeV.ro rfl rfl (by simp)
    · rw [if_neg (by simp [g2])]
      simp [g2, g20]
      refine spec_l1Min_k (a := all.length) (b := 6) rfl (by simp) (by simp [noslBlks]) ?_; simp [shiftB]
      have hm1 : min (all.length : Int) 6 ≤ 6 := Int.min_le_right _ _
      have hm2 : 1 ≤ min (all.length : Int) 6 := by omega
      have hm3 : min (all.length : Int) 6 ≤ all.length := Int.min_le_left _ _
      refine cur_callR rfl 2 bs o.2 _ rfl (spec_l1Below_m _ 2 bs _ (min (all.length : Int) 6) (by simp) hb) ?_; simp [cur]
      have hb2 := belowF_in bs o.2 (min (all.length : Int) 6)
      generalize belowF bs o.2 (min (all.length : Int) 6) = q at hb2 ⊢
      obtain ⟨y, q2⟩ := q
      obtain ⟨c, hc⟩ : ∃ c : Nat, y = c := ⟨y.toNat, by simp only at hb2; omega⟩
      subst hc
      have hcl : c < all.length := by simp only at hb2; omega
      have hw1 := wrap_len (n := all.length) (by omega)
      have hw2 : IntKind.i64.wrap ((all.length : Int) - 1 - c) = all.length - 1 - c := wrap64 (by omega) (by omega)
      obtain ⟨e, he⟩ : ∃ e : Nat, (all.length : Int) - 1 - c = e := ⟨all.length - 1 - c, by omega⟩
      have hel : e < all.length := by omega
      rw [hw1, hw2, he]
      rw [show (all.getD (all.length - 1 - ((((c : Nat) : Int), q2) : Int × Cu).1.toNat) 0, ((((c : Nat) : Int), q2) : Int × Cu).2) = (all[e], q2) by
        simp only
        rw [show all.length - 1 - ((c : Int)).toNat = e by omega]; simp [hel]]
      simp [hel]
      generalize all[e] = t2
      refine spec_ProofOf_k (ns := ns) (ks := ks) (t := t2) (by omega) (by omega) rfl (by simp) (by simp [noslBlks]) ?_; simp [shiftB]
      refine cur_callR rfl 2 bs q2 _ rfl (spec_l1Once_m _ 2 bs _ 4 (by simp) hb) ?_; simp [cur]
      rw [show d8l bs ns ks (t2, q2) = (d8m bs ns.length (if (onceF bs q2 4).1 = true then allSt ns ks else (ofF ns ks t2).1) (onceF bs q2 4).2, t2) from rfl]
      have hol := ofF_le ns ks t2
      generalize onceF bs q2 4 = o2
      generalize (ofF ns ks t2).1 = of at hol ⊢
      refine br_intro' (fun g3 => ?_) (fun g3 => ?_) <;> (have g30 := g3)
      · rw [if_pos g3]
        simp [g30]
        refine spec_ProofAll_k (ns := ns) (ks := ks) (by omega) (by omega) rfl (by simp) (by simp [noslBlks]) ?_; simp [shiftB]
        have hol2 := allSt_le ns ks
        generalize allSt ns ks = ss at hol2 ⊢
        rw [show d8m bs ns.length ss o2.2 = if ss = [] then [] else d8v bs ns.length ss (belowF bs o2.2 ss.length) from rfl]
        refine br_intro' (fun g4 => ?_) (fun g4 => ?_) <;> (have g40 := g4) <;> simp only [decide_eq_true_eq, decide_eq_false_iff_not] at g4
        · have g5 : ¬ ss = [] := by intro e; rw [e] at g4; exact absurd g4 (by simp)
          rw [if_neg g5]
          simp [g40, g5]
          repeat (refine ck_intro' (by first | omega | (simp; omega) | kernel_rfl) ?_; try simp [g5])
          refine cur_callR rfl 2 bs o2.2 _ rfl (spec_l1Below_m _ 2 bs _ ss.length (by simp) hb) ?_; simp [cur]
          have hi := belowF_in bs o2.2 ss.length
          generalize belowF bs o2.2 ss.length = i at hi ⊢
          obtain ⟨x, i2⟩ := i
          obtain ⟨j, hj⟩ : ∃ j : Nat, x = j := ⟨x.toNat, by simp only at hi; omega⟩
          subst hj
          have hjl : j < ss.length := by simp only at hi; omega
          refine cur_callR rfl 2 bs i2 _ rfl (spec_l1Below_m _ 2 bs _ 15 (by simp) hb) ?_; simp [cur]
          rw [show d8v bs ns.length ss ((j : Int), i2) = d8w bs ns.length ss j (belowF bs i2 15) from rfl]
          generalize belowF bs i2 15 = w
          obtain ⟨y, w2⟩ := w
          simp
          refine br_intro' (fun v0 => ?_) (fun v0 => ?_) <;> (have u0 := v0) <;> simp only [decide_eq_true_eq, decide_eq_false_iff_not] at u0 <;> simp [v0, u0]
          · subst u0
            refine cur_callR rfl 2 bs w2 _ rfl (spec_l1Below_m _ 2 bs _ 10 (by simp) hb) ?_; simp [cur]
            rw [show d8w bs ns.length ss j (0, w2) = setR ss j (belowF bs w2 10).1 from rfl]
            generalize belowF bs w2 10 = z
            repeat (refine ck_intro' (by first | omega | (simp; omega) | kernel_rfl) ?_; try simp [hjl])
            exact LeV.ro rfl rfl (by simp [encS_setR hjl])
          refine br_intro' (fun v1 => ?_) (fun v1 => ?_) <;> (have u1 := v1) <;> simp only [decide_eq_true_eq, decide_eq_false_iff_not] at u1 <;> simp [v1, u1]
          · subst u1
            refine cur_callR rfl 2 bs w2 _ rfl (spec_l1Below_m _ 2 bs _ 5 (by simp) hb) ?_; simp [cur]
            rw [show d8w bs ns.length ss j (1, w2) = setA ss j ((belowF bs w2 5).1 - 1) from rfl]
            have hz := belowF_in bs w2 5
            generalize belowF bs w2 5 = z at hz ⊢
            have hzw : IntKind.i64.wrap (z.1 - 1) = z.1 - 1 := wrap64 (by omega) (by have := hz.2.1 (by omega); omega)
            rw [hzw]
            repeat (refine ck_intro' (by first | omega | (simp; omega) | kernel_rfl) ?_; try simp [hjl])
            exact LeV.ro rfl rfl (by simp [encS_setA hjl])
          refine br_intro' (fun v2 => ?_) (fun v2 => ?_) <;> (have u2 := v2) <;> simp only [decide_eq_true_eq, decide_eq_false_iff_not] at u2 <;> simp [v2, u2]
          · subst u2
            refine cur_callR rfl 2 bs w2 _ rfl (spec_l1Below_m _ 2 bs _ 5 (by simp) hb) ?_; simp [cur]
            rw [show d8w bs ns.length ss j (2, w2) = setB ss j ((belowF bs w2 5).1 - 1) from rfl]
            have hz := belowF_in bs w2 5
            generalize belowF bs w2 5 = z at hz ⊢
            have hzw : IntKind.i64.wrap (z.1 - 1) = z.1 - 1 := wrap64 (by omega) (by have := hz.2.1 (by omega); omega)
            rw [hzw]
            repeat (refine ck_intro' (by first | omega | (simp; omega) | kernel_rfl) ?_; try simp [hjl])
            exact LeV.ro rfl rfl (by simp [encS_setB hjl])
          refine br_intro' (fun v3 => ?_) (fun v3 => ?_) <;> (have u3 := v3) <;> simp only [decide_eq_true_eq, decide_eq_false_iff_not] at u3 <;> simp [v3, u3]
          · subst u3
            refine cur_callR rfl 2 bs w2 _ rfl (spec_l1DrawTerm_m _ 2 bs _ ns (by simp) hb (by simp) (by omega)) ?_; simp [cur]
            rw [show d8w bs ns.length ss j (3, w2) = setT ss j (termF bs w2 ns.length).1 from rfl]
            generalize termF bs w2 ns.length = z
            repeat (refine ck_intro' (by first | omega | (simp; omega) | kernel_rfl) ?_; try simp [hjl])
            exact LeV.ro rfl rfl (by simp [encS_setT hjl])
          refine br_intro' (fun v4 => ?_) (fun v4 => ?_) <;> (have u4 := v4) <;> simp only [decide_eq_true_eq, decide_eq_false_iff_not] at u4 <;> simp [v4, u4]
          · subst u4
            rw [show d8w bs ns.length ss j (4, w2) = ss ++ [spAt ss j] from rfl]
            obtain ⟨r4, hr4⟩ := encS_at hjl
            have h4 : 4 ≤ ss.length * 4 - j * 4 := by omega
            repeat (refine ck_intro' (by first | omega | (simp; omega) | kernel_rfl) ?_; try simp [hjl])
            simp [h4, hr4]
            repeat (refine ck_intro' (by first | omega | (simp; omega) | kernel_rfl) ?_; try simp [hjl])
            have e5 := encS_snoc ss ss[j]
            have e6 : (encS (ss ++ [ss[j]])).take ((ss.length + 1) * 4) = encS (ss ++ [ss[j]]) := List.take_of_length_le (by simp)
            rw [← e5]
            exact LeV.ro rfl rfl (by simp [e6])
          · rw [show d8w bs ns.length ss j (y, w2) = ss by simp [d8w, u0, u1, u2, u3, u4]]
            repeat (refine ck_intro' (by first | omega | (simp; omega) | kernel_rfl) ?_; try simp [hjl])
            exact LeV.ro rfl rfl (by simp)
        · have g5 : ss = [] := List.eq_nil_of_length_eq_zero (by omega)
          rw [if_pos g5]
          subst g5
          simp
          repeat (refine ck_intro' (by first | omega | (simp; omega) | kernel_rfl) ?_; try simp)
          exact LeV.ro rfl rfl (by simp)
      · rw [if_neg (by simp [g3])]
        simp [g30]
        rw [show d8m bs ns.length of o2.2 = if of = [] then [] else d8v bs ns.length of (belowF bs o2.2 of.length) from rfl]
        refine br_intro' (fun g4 => ?_) (fun g4 => ?_) <;> (have g40 := g4) <;> simp only [decide_eq_true_eq, decide_eq_false_iff_not] at g4
        · have g5 : ¬ of = [] := by intro e; rw [e] at g4; exact absurd g4 (by simp)
          rw [if_neg g5]
          simp [g40, g5]
          repeat (refine ck_intro' (by first | omega | (simp; omega) | kernel_rfl) ?_; try simp [g5])
          refine cur_callR rfl 2 bs o2.2 _ rfl (spec_l1Below_m _ 2 bs _ of.length (by simp) hb) ?_; simp [cur]
          have hi := belowF_in bs o2.2 of.length
          generalize belowF bs o2.2 of.length = i at hi ⊢
          obtain ⟨x, i2⟩ := i
          obtain ⟨j, hj⟩ : ∃ j : Nat, x = j := ⟨x.toNat, by simp only at hi; omega⟩
          subst hj
          have hjl : j < of.length := by simp only at hi; omega
          refine cur_callR rfl 2 bs i2 _ rfl (spec_l1Below_m _ 2 bs _ 15 (by simp) hb) ?_; simp [cur]
          rw [show d8v bs ns.length of ((j : Int), i2) = d8w bs ns.length of j (belowF bs i2 15) from rfl]
          generalize belowF bs i2 15 = w
          obtain ⟨y, w2⟩ := w
          simp
          refine br_intro' (fun v0 => ?_) (fun v0 => ?_) <;> (have u0 := v0) <;> simp only [decide_eq_true_eq, decide_eq_false_iff_not] at u0 <;> simp [v0, u0]
          · subst u0
            refine cur_callR rfl 2 bs w2 _ rfl (spec_l1Below_m _ 2 bs _ 10 (by simp) hb) ?_; simp [cur]
            rw [show d8w bs ns.length of j (0, w2) = setR of j (belowF bs w2 10).1 from rfl]
            generalize belowF bs w2 10 = z
            repeat (refine ck_intro' (by first | omega | (simp; omega) | kernel_rfl) ?_; try simp [hjl])
            exact LeV.ro rfl rfl (by simp [encS_setR hjl])
          refine br_intro' (fun v1 => ?_) (fun v1 => ?_) <;> (have u1 := v1) <;> simp only [decide_eq_true_eq, decide_eq_false_iff_not] at u1 <;> simp [v1, u1]
          · subst u1
            refine cur_callR rfl 2 bs w2 _ rfl (spec_l1Below_m _ 2 bs _ 5 (by simp) hb) ?_; simp [cur]
            rw [show d8w bs ns.length of j (1, w2) = setA of j ((belowF bs w2 5).1 - 1) from rfl]
            have hz := belowF_in bs w2 5
            generalize belowF bs w2 5 = z at hz ⊢
            have hzw : IntKind.i64.wrap (z.1 - 1) = z.1 - 1 := wrap64 (by omega) (by have := hz.2.1 (by omega); omega)
            rw [hzw]
            repeat (refine ck_intro' (by first | omega | (simp; omega) | kernel_rfl) ?_; try simp [hjl])
            exact LeV.ro rfl rfl (by simp [encS_setA hjl])
          refine br_intro' (fun v2 => ?_) (fun v2 => ?_) <;> (have u2 := v2) <;> simp only [decide_eq_true_eq, decide_eq_false_iff_not] at u2 <;> simp [v2, u2]
          · subst u2
            refine cur_callR rfl 2 bs w2 _ rfl (spec_l1Below_m _ 2 bs _ 5 (by simp) hb) ?_; simp [cur]
            rw [show d8w bs ns.length of j (2, w2) = setB of j ((belowF bs w2 5).1 - 1) from rfl]
            have hz := belowF_in bs w2 5
            generalize belowF bs w2 5 = z at hz ⊢
            have hzw : IntKind.i64.wrap (z.1 - 1) = z.1 - 1 := wrap64 (by omega) (by have := hz.2.1 (by omega); omega)
            rw [hzw]
            repeat (refine ck_intro' (by first | omega | (simp; omega) | kernel_rfl) ?_; try simp [hjl])
            exact LeV.ro rfl rfl (by simp [encS_setB hjl])
          refine br_intro' (fun v3 => ?_) (fun v3 => ?_) <;> (have u3 := v3) <;> simp only [decide_eq_true_eq, decide_eq_false_iff_not] at u3 <;> simp [v3, u3]
          · subst u3
            refine cur_callR rfl 2 bs w2 _ rfl (spec_l1DrawTerm_m _ 2 bs _ ns (by simp) hb (by simp) (by omega)) ?_; simp [cur]
            rw [show d8w bs ns.length of j (3, w2) = setT of j (termF bs w2 ns.length).1 from rfl]
            generalize termF bs w2 ns.length = z
            repeat (refine ck_intro' (by first | omega | (simp; omega) | kernel_rfl) ?_; try simp [hjl])
            exact LeV.ro rfl rfl (by simp [encS_setT hjl])
          refine br_intro' (fun v4 => ?_) (fun v4 => ?_) <;> (have u4 := v4) <;> simp only [decide_eq_true_eq, decide_eq_false_iff_not] at u4 <;> simp [v4, u4]
          · subst u4
            rw [show d8w bs ns.length of j (4, w2) = of ++ [spAt of j] from rfl]
            obtain ⟨r4, hr4⟩ := encS_at hjl
            have h4 : 4 ≤ of.length * 4 - j * 4 := by omega
            repeat (refine ck_intro' (by first | omega | (simp; omega) | kernel_rfl) ?_; try simp [hjl])
            simp [h4, hr4]
            repeat (refine ck_intro' (by first | omega | (simp; omega) | kernel_rfl) ?_; try simp [hjl])
            have e5 := encS_snoc of of[j]
            have e6 : (encS (of ++ [of[j]])).take ((of.length + 1) * 4) = encS (of ++ [of[j]]) := List.take_of_length_le (by simp)
            rw [← e5]
            exact LeV.ro rfl rfl (by simp [e6])
          · rw [show d8w bs ns.length of j (y, w2) = of by simp [d8w, u0, u1, u2, u3, u4]]
            repeat (refine ck_intro' (by first | omega | (simp; omega) | kernel_rfl) ?_; try simp [hjl])
            exact LeV.ro rfl rfl (by simp)
        · have g5 : of = [] := List.eq_nil_of_length_eq_zero (by omega)
          rw [if_pos g5]
          subst g5
          simp
          repeat (refine ck_intro' (by first | omega | (simp; omega) | kernel_rfl) ?_; try simp)
          exact LeV.ro rfl rfl (by simp)
  · have g1 : all = [] := List.eq_nil_of_length_eq_zero (by omega)
    subst g1
    rw [show d8t bs [] t ⟨0, newH bs⟩ = (t, ⟨0, newH bs⟩) from rfl]
    simp
    refine spec_ProofOf_k (ns := ns) (ks := ks) (t := t) (by omega) (by omega) rfl (by simp) (by simp [noslBlks]) ?_; simp [shiftB]
    refine cur_callR rfl 2 bs (⟨0, newH bs⟩:Cu) _ rfl (spec_l1Once_m _ 2 bs _ 4 (by simp) hb) ?_; simp [cur]
    rw [show d8l bs ns ks (t, (⟨0, newH bs⟩:Cu)) = (d8m bs ns.length (if (onceF bs (⟨0, newH bs⟩:Cu) 4).1 = true then allSt ns ks else (ofF ns ks t).1) (onceF bs (⟨0, newH bs⟩:Cu) 4).2, t) from rfl]
    have hol := ofF_le ns ks t
    generalize onceF bs (⟨0, newH bs⟩:Cu) 4 = o2
    generalize (ofF ns ks t).1 = of at hol ⊢
    refine br_intro' (fun g3 => ?_) (fun g3 => ?_) <;> (have g30 := g3)
    · rw [if_pos g3]
      simp [g30]
      refine spec_ProofAll_k (ns := ns) (ks := ks) (by omega) (by omega) rfl (by simp) (by simp [noslBlks]) ?_; simp [shiftB]
      have hol2 := allSt_le ns ks
      generalize allSt ns ks = ss at hol2 ⊢
      rw [show d8m bs ns.length ss o2.2 = if ss = [] then [] else d8v bs ns.length ss (belowF bs o2.2 ss.length) from rfl]
      refine br_intro' (fun g4 => ?_) (fun g4 => ?_) <;> (have g40 := g4) <;> simp only [decide_eq_true_eq, decide_eq_false_iff_not] at g4
      · have g5 : ¬ ss = [] := by intro e; rw [e] at g4; exact absurd g4 (by simp)
        rw [if_neg g5]
        simp [g40, g5]
        repeat (refine ck_intro' (by first | omega | (simp; omega) | kernel_rfl) ?_; try simp [g5])
        refine cur_callR rfl 2 bs o2.2 _ rfl (spec_l1Below_m _ 2 bs _ ss.length (by simp) hb) ?_; simp [cur]
        have hi := belowF_in bs o2.2 ss.length
        generalize belowF bs o2.2 ss.length = i at hi ⊢
        obtain ⟨x, i2⟩ := i
        obtain ⟨j, hj⟩ : ∃ j : Nat, x = j := ⟨x.toNat, by simp only at hi; omega⟩
        subst hj
        have hjl : j < ss.length := by simp only at hi; omega
        refine cur_callR rfl 2 bs i2 _ rfl (spec_l1Below_m _ 2 bs _ 15 (by simp) hb) ?_; simp [cur]
        rw [show d8v bs ns.length ss ((j : Int), i2) = d8w bs ns.length ss j (belowF bs i2 15) from rfl]
        generalize belowF bs i2 15 = w
        obtain ⟨y, w2⟩ := w
        simp
        refine br_intro' (fun v0 => ?_) (fun v0 => ?_) <;> (have u0 := v0) <;> simp only [decide_eq_true_eq, decide_eq_false_iff_not] at u0 <;> simp [v0, u0]
        · subst u0
          refine cur_callR rfl 2 bs w2 _ rfl (spec_l1Below_m _ 2 bs _ 10 (by simp) hb) ?_; simp [cur]
          rw [show d8w bs ns.length ss j (0, w2) = setR ss j (belowF bs w2 10).1 from rfl]
          generalize belowF bs w2 10 = z
          repeat (refine ck_intro' (by first | omega | (simp; omega) | kernel_rfl) ?_; try simp [hjl])
          exact LeV.ro rfl rfl (by simp [encS_setR hjl])
        refine br_intro' (fun v1 => ?_) (fun v1 => ?_) <;> (have u1 := v1) <;> simp only [decide_eq_true_eq, decide_eq_false_iff_not] at u1 <;> simp [v1, u1]
        · subst u1
          refine cur_callR rfl 2 bs w2 _ rfl (spec_l1Below_m _ 2 bs _ 5 (by simp) hb) ?_; simp [cur]
          rw [show d8w bs ns.length ss j (1, w2) = setA ss j ((belowF bs w2 5).1 - 1) from rfl]
          have hz := belowF_in bs w2 5
          generalize belowF bs w2 5 = z at hz ⊢
          have hzw : IntKind.i64.wrap (z.1 - 1) = z.1 - 1 := wrap64 (by omega) (by have := hz.2.1 (by omega); omega)
          rw [hzw]
          repeat (refine ck_intro' (by first | omega | (simp; omega) | kernel_rfl) ?_; try simp [hjl])
          exact LeV.ro rfl rfl (by simp [encS_setA hjl])
        refine br_intro' (fun v2 => ?_) (fun v2 => ?_) <;> (have u2 := v2) <;> simp only [decide_eq_true_eq, decide_eq_false_iff_not] at u2 <;> simp [v2, u2]
        · subst u2
          refine cur_callR rfl 2 bs w2 _ rfl (spec_l1Below_m _ 2 bs _ 5 (by simp) hb) ?_; simp [cur]
          rw [show d8w bs ns.length ss j (2, w2) = setB ss j ((belowF bs w2 5).1 - 1) from rfl]
          have hz := belowF_in bs w2 5
          generalize belowF bs w2 5 = z at hz ⊢
          have hzw : IntKind.i64.wrap (z.1 - 1) = z.1 - 1 := wrap64 (by omega) (by have := hz.2.1 (by omega); omega)
          rw [hzw]
          repeat (refine ck_intro' (by first | omega | (simp; omega) | kernel_rfl) ?_; try simp [hjl])
          exact LeV.ro rfl rfl (by simp [encS_setB hjl])
        refine br_intro' (fun v3 => ?_) (fun v3 => ?_) <;> (have u3 := v3) <;> simp only [decide_eq_true_eq, decide_eq_false_iff_not] at u3 <;> simp [v3, u3]
        · subst u3
          refine cur_callR rfl 2 bs w2 _ rfl (spec_l1DrawTerm_m _ 2 bs _ ns (by simp) hb (by simp) (by omega)) ?_; simp [cur]
          rw [show d8w bs ns.length ss j (3, w2) = setT ss j (termF bs w2 ns.length).1 from rfl]
          generalize termF bs w2 ns.length = z
          repeat (refine ck_intro' (by first | omega | (simp; omega) | kernel_rfl) ?_; try simp [hjl])
          exact LeV.ro rfl rfl (by simp [encS_setT hjl])
        refine br_intro' (fun v4 => ?_) (fun v4 => ?_) <;> (have u4 := v4) <;> simp only [decide_eq_true_eq, decide_eq_false_iff_not] at u4 <;> simp [v4, u4]
        · subst u4
          rw [show d8w bs ns.length ss j (4, w2) = ss ++ [spAt ss j] from rfl]
          obtain ⟨r4, hr4⟩ := encS_at hjl
          have h4 : 4 ≤ ss.length * 4 - j * 4 := by omega
          repeat (refine ck_intro' (by first | omega | (simp; omega) | kernel_rfl) ?_; try simp [hjl])
          simp [h4, hr4]
          repeat (refine ck_intro' (by first | omega | (simp; omega) | kernel_rfl) ?_; try simp [hjl])
          have e5 := encS_snoc ss ss[j]
          have e6 : (encS (ss ++ [ss[j]])).take ((ss.length + 1) * 4) = encS (ss ++ [ss[j]]) := List.take_of_length_le (by simp)
          rw [← e5]
          exact LeV.ro rfl rfl (by simp [e6])
        · rw [show d8w bs ns.length ss j (y, w2) = ss by simp [d8w, u0, u1, u2, u3, u4]]
          repeat (refine ck_intro' (by first | omega | (simp; omega) | kernel_rfl) ?_; try simp [hjl])
          exact LeV.ro rfl rfl (by simp)
      · have g5 : ss = [] := List.eq_nil_of_length_eq_zero (by omega)
        rw [if_pos g5]
        subst g5
        simp
        repeat (refine ck_intro' (by first | omega | (simp; omega) | kernel_rfl) ?_; try simp)
        exact LeV.ro rfl rfl (by simp)
    · rw [if_neg (by simp [g3])]
      simp [g30]
      rw [show d8m bs ns.length of o2.2 = if of = [] then [] else d8v bs ns.length of (belowF bs o2.2 of.length) from rfl]
      refine br_intro' (fun g4 => ?_) (fun g4 => ?_) <;> (have g40 := g4) <;> simp only [decide_eq_true_eq, decide_eq_false_iff_not] at g4
      · have g5 : ¬ of = [] := by intro e; rw [e] at g4; exact absurd g4 (by simp)
        rw [if_neg g5]
        simp [g40, g5]
        repeat (refine ck_intro' (by first | omega | (simp; omega) | kernel_rfl) ?_; try simp [g5])
        refine cur_callR rfl 2 bs o2.2 _ rfl (spec_l1Below_m _ 2 bs _ of.length (by simp) hb) ?_; simp [cur]
        have hi := belowF_in bs o2.2 of.length
        generalize belowF bs o2.2 of.length = i at hi ⊢
        obtain ⟨x, i2⟩ := i
        obtain ⟨j, hj⟩ : ∃ j : Nat, x = j := ⟨x.toNat, by simp only at hi; omega⟩
        subst hj
        have hjl : j < of.length := by simp only at hi; omega
        refine cur_callR rfl 2 bs i2 _ rfl (spec_l1Below_m _ 2 bs _ 15 (by simp) hb) ?_; simp [cur]
        rw [show d8v bs ns.length of ((j : Int), i2) = d8w bs ns.length of j (belowF bs i2 15) from rfl]
        generalize belowF bs i2 15 = w
        obtain ⟨y, w2⟩ := w
        simp
        refine br_intro' (fun v0 => ?_) (fun v0 => ?_) <;> (have u0 := v0) <;> simp only [decide_eq_true_eq, decide_eq_false_iff_not] at u0 <;> simp [v0, u0]
        · subst u0
          refine cur_callR rfl 2 bs w2 _ rfl (spec_l1Below_m _ 2 bs _ 10 (by simp) hb) ?_; simp [cur]
          rw [show d8w bs ns.length of j (0, w2) = setR of j (belowF bs w2 10).1 from rfl]
          generalize belowF bs w2 10 = z
          repeat (refine ck_intro' (by first | omega | (simp; omega) | kernel_rfl) ?_; try simp [hjl])
          exact LeV.ro rfl rfl (by simp [encS_setR hjl])
        refine br_intro' (fun v1 => ?_) (fun v1 => ?_) <;> (have u1 := v1) <;> simp only [decide_eq_true_eq, decide_eq_false_iff_not] at u1 <;> simp [v1, u1]
        · subst u1
          refine cur_callR rfl 2 bs w2 _ rfl (spec_l1Below_m _ 2 bs _ 5 (by simp) hb) ?_; simp [cur]
          rw [show d8w bs ns.length of j (1, w2) = setA of j ((belowF bs w2 5).1 - 1) from rfl]
          have hz := belowF_in bs w2 5
          generalize belowF bs w2 5 = z at hz ⊢
          have hzw : IntKind.i64.wrap (z.1 - 1) = z.1 - 1 := wrap64 (by omega) (by have := hz.2.1 (by omega); omega)
          rw [hzw]
          repeat (refine ck_intro' (by first | omega | (simp; omega) | kernel_rfl) ?_; try simp [hjl])
          exact LeV.ro rfl rfl (by simp [encS_setA hjl])
        refine br_intro' (fun v2 => ?_) (fun v2 => ?_) <;> (have u2 := v2) <;> simp only [decide_eq_true_eq, decide_eq_false_iff_not] at u2 <;> simp [v2, u2]
        · subst u2
          refine cur_callR rfl 2 bs w2 _ rfl (spec_l1Below_m _ 2 bs _ 5 (by simp) hb) ?_; simp [cur]
          rw [show d8w bs ns.length of j (2, w2) = setB of j ((belowF bs w2 5).1 - 1) from rfl]
          have hz := belowF_in bs w2 5
          generalize belowF bs w2 5 = z at hz ⊢
          have hzw : IntKind.i64.wrap (z.1 - 1) = z.1 - 1 := wrap64 (by omega) (by have := hz.2.1 (by omega); omega)
          rw [hzw]
          repeat (refine ck_intro' (by first | omega | (simp; omega) | kernel_rfl) ?_; try simp [hjl])
          exact LeV.ro rfl rfl (by simp [encS_setB hjl])
        refine br_intro' (fun v3 => ?_) (fun v3 => ?_) <;> (have u3 := v3) <;> simp only [decide_eq_true_eq, decide_eq_false_iff_not] at u3 <;> simp [v3, u3]
        · subst u3
          refine cur_callR rfl 2 bs w2 _ rfl (spec_l1DrawTerm_m _ 2 bs _ ns (by simp) hb (by simp) (by omega)) ?_; simp [cur]
          rw [show d8w bs ns.length of j (3, w2) = setT of j (termF bs w2 ns.length).1 from rfl]
          generalize termF bs w2 ns.length = z
          repeat (refine ck_intro' (by first | omega | (simp; omega) | kernel_rfl) ?_; try simp [hjl])
          exact LeV.ro rfl rfl (by simp [encS_setT hjl])
        refine br_intro' (fun v4 => ?_) (fun v4 => ?_) <;> (have u4 := v4) <;> simp only [decide_eq_true_eq, decide_eq_false_iff_not] at u4 <;> simp [v4, u4]
        · subst u4
          rw [show d8w bs ns.length of j (4, w2) = of ++ [spAt of j] from rfl]
          obtain ⟨r4, hr4⟩ := encS_at hjl
          have h4 : 4 ≤ of.length * 4 - j * 4 := by omega
          repeat (refine ck_intro' (by first | omega | (simp; omega) | kernel_rfl) ?_; try simp [hjl])
          simp [h4, hr4]
          repeat (refine ck_intro' (by first | omega | (simp; omega) | kernel_rfl) ?_; try simp [hjl])
          have e5 := encS_snoc of of[j]
          have e6 : (encS (of ++ [of[j]])).take ((of.length + 1) * 4) = encS (of ++ [of[j]]) := List.take_of_length_le (by simp)
          rw [← e5]
          exact LeV.ro rfl rfl (by simp [e6])
        · rw [show d8w bs ns.length of j (y, w2) = of by simp [d8w, u0, u1, u2, u3, u4]]
          repeat (refine ck_intro' (by first | omega | (simp; omega) | kernel_rfl) ?_; try simp [hjl])
          exact LeV.ro rfl rfl (by simp)
      · have g5 : of = [] := List.eq_nil_of_length_eq_zero (by omega)
        rw [if_pos g5]
        subst g5
        simp
        repeat (refine ck_intro' (by first | omega | (simp; omega) | kernel_rfl) ?_; try simp)
        exact LeV.ro rfl rfl (by simp)
theorem spec_l9DrawProof_call {bs : List Int} (hb : bs.length < 9223372036854775807) {S : FuncId → Bool} {H : List Blk} {K : A → Dl → Prop} (hS : S 13 = false) (hK : K (.tup [aP (d6 bs).1, aI (d6 bs).2.1, aSs (d8 bs (d6 bs)).1, i6 (d8 bs (d6 bs)).2]) (.news [])) : @WCall' Go.Proofs.Tryz.prog S 13 [aB bs] H ⟨K⟩ :=
  WCall_pure hS (spec_l9DrawProof_c bs hb) (by simp) (by simp) (by simp) hK
theorem spec_l9DrawProof_k {bs : List Int} (hb : bs.length < 9223372036854775807) {S : FuncId → Bool} {H : List Blk} {K : A → Dl → Prop} {zs : List A} (hS : S 13 = false) (hv : viewL (viewA 8 H) zs = some [aB bs]) (ho : noOwns zs = true ∨ nosl (.tup [aP (d6 bs).1, aI (d6 bs).2.1, aSs (d8 bs (d6 bs)).1, i6 (d8 bs (d6 bs)).2]) = true) (hK : K (.tup [aP (d6 bs).1, aI (d6 bs).2.1, aSs (d8 bs (d6 bs)).1, i6 (d8 bs (d6 bs)).2]) (.news [])) : @WCall' Go.Proofs.Tryz.prog S 13 zs H ⟨K⟩ :=
  WCall_pure hS (spec_l9DrawProof_c bs hb) hv ho (by simp) hK
theorem spec_DrawProofCheck_c (bs : List Int) (hb : bs.length < 9223372036854775807) : T 11 [aB bs] [] (.tup [aP (d6 bs).1, aI (d6 bs).2.1, aSs (d8 bs (d6 bs)).1, i6 (d8 bs (d6 bs)).2]) ([]) := by
  refine semT' (S := S0) hm spec_DrawProofCheck_ok (Nat.le_of_ble_eq_true rfl) ?_
  unfold spec_DrawProofCheck; dsimp only
  simp
  refine spec_l9DrawProof_k (bs := bs) hb rfl (by simp) (by simp [noslBlks]) ?_; simp [shiftB]
  first | (refine ck_intro' (by kernel_rfl) ?_; try simp) | skip
  exact LeV.ro rfl rfl (by simp)
theorem spec_DrawProofCheck_call {bs : List Int} (hb : bs.length < 9223372036854775807) {S : FuncId → Bool} {H : List Blk} {K : A → Dl → Prop} (hS : S 11 = false) (hK : K (.tup [aP (d6 bs).1, aI (d6 bs).2.1, aSs (d8 bs (d6 bs)).1, i6 (d8 bs (d6 bs)).2]) (.news [])) : @WCall' Go.Proofs.Tryz.prog S 11 [aB bs] H ⟨K⟩ :=
  WCall_pure hS (spec_DrawProofCheck_c bs hb) (by simp) (by simp) (by simp) hK
theorem spec_DrawProofCheck_k {bs : List Int} (hb : bs.length < 9223372036854775807) {S : FuncId → Bool} {H : List Blk} {K : A → Dl → Prop} {zs : List A} (hS : S 11 = false) (hv : viewL (viewA 8 H) zs = some [aB bs]) (ho : noOwns zs = true ∨ nosl (.tup [aP (d6 bs).1, aI (d6 bs).2.1, aSs (d8 bs (d6 bs)).1, i6 (d8 bs (d6 bs)).2]) = true) (hK : K (.tup [aP (d6 bs).1, aI (d6 bs).2.1, aSs (d8 bs (d6 bs)).1, i6 (d8 bs (d6 bs)).2]) (.news [])) : @WCall' Go.Proofs.Tryz.prog S 11 zs H ⟨K⟩ :=
  WCall_pure hS (spec_DrawProofCheck_c bs hb) hv ho (by simp) hK
theorem spec_DrawProofOf_c (bs : List Int) (hb : bs.length < 9223372036854775807) : T 6 [aB bs] [] (.tup [aP (d6 bs).1, aI (d6 bs).2.1, i6 (d8 bs (d6 bs)).2]) ([]) := by
  refine semT' (S := S0) hm spec_DrawProofOf_ok (Nat.le_of_ble_eq_true rfl) ?_
  unfold spec_DrawProofOf; dsimp only
  simp
  refine spec_l9DrawProof_k (bs := bs) hb rfl (by simp) (by simp [noslBlks]) ?_; simp [shiftB]
  first | (refine ck_intro' (by kernel_rfl) ?_; try simp) | skip
  exact LeV.ro rfl rfl (by simp)
theorem spec_DrawProofOf_call {bs : List Int} (hb : bs.length < 9223372036854775807) {S : FuncId → Bool} {H : List Blk} {K : A → Dl → Prop} (hS : S 6 = false) (hK : K (.tup [aP (d6 bs).1, aI (d6 bs).2.1, i6 (d8 bs (d6 bs)).2]) (.news [])) : @WCall' Go.Proofs.Tryz.prog S 6 [aB bs] H ⟨K⟩ :=
  WCall_pure hS (spec_DrawProofOf_c bs hb) (by simp) (by simp) (by simp) hK
theorem spec_DrawProofOf_k {bs : List Int} (hb : bs.length < 9223372036854775807) {S : FuncId → Bool} {H : List Blk} {K : A → Dl → Prop} {zs : List A} (hS : S 6 = false) (hv : viewL (viewA 8 H) zs = some [aB bs]) (ho : noOwns zs = true ∨ nosl (.tup [aP (d6 bs).1, aI (d6 bs).2.1, i6 (d8 bs (d6 bs)).2]) = true) (hK : K (.tup [aP (d6 bs).1, aI (d6 bs).2.1, i6 (d8 bs (d6 bs)).2]) (.news [])) : @WCall' Go.Proofs.Tryz.prog S 6 zs H ⟨K⟩ :=
  WCall_pure hS (spec_DrawProofOf_c bs hb) hv ho (by simp) hK
theorem d8m_len {bs : List Int} {m : Nat} {ss : List Sp} {s : Cu} (h : ss.length ≤ 500) : (d8m bs m ss s).length ≤ 501 := by
  unfold d8m
  split
  · exact Nat.zero_le _
  · unfold d8v d8w
    (repeat' split) <;> (try simp only [setR_len, setA_len, setB_len, setT_len, List.length_append, List.length_singleton]) <;> omega
theorem d8_len (bs : List Int) (d : List Nd × List Int × Int) : (d8 bs d).1.length ≤ 501 := by
  unfold d8 d8l
  refine d8m_len ?_
  split
  · exact allSt_le _ _
  · exact ofF_le _ _ _
end Go.Proofs.YtcfgiffgahdlbaaGreat.C

set_option linter.unusedVariables false
set_option linter.unusedSimpArgs false
namespace Go.Proofs.YtcfgiffgahdlbaaGreat.C
open Go.Sym Go.Proofs.YtcfgiffgahdlbaaGreat.I
/-- Step j asks for step i. -/
def Us (ns : List Nd) (ss : List Sp) (j i : Nat) : Prop := (0 < needsF ns (spAt ss j) ∧ (spAt ss j).a = i) ∨ (1 < needsF ns (spAt ss j) ∧ (spAt ss j).b = i)
theorem Us_lt {ns : List Nd} {ss : List Sp} {j i : Nat} (h : wellF ns ss j = true) (u : Us ns ss j i) : i < j := by
  simp only [wellF, Bool.and_eq_true, Bool.or_eq_true, decide_eq_true_eq] at h
  obtain ⟨⟨⟨h1, h2⟩, h3⟩, h4⟩ := h
  rcases u with ⟨u1, u2⟩ | ⟨u1, u2⟩
  · have := h3.resolve_left (by omega)
    simp only [inF, Bool.and_eq_true, decide_eq_true_eq] at this
    omega
  · have := h4.resolve_left (by omega)
    simp only [inF, Bool.and_eq_true, decide_eq_true_eq] at this
    omega
theorem well_a {ns : List Nd} {ss : List Sp} {j : Nat} (h : wellF ns ss j = true) (n : 0 < needsF ns (spAt ss j)) : (spAt ss j).a = ((spAt ss j).a.toNat : Int) ∧ (spAt ss j).a.toNat < j := by
  simp only [wellF, Bool.and_eq_true, Bool.or_eq_true, decide_eq_true_eq] at h
  have := h.1.2.resolve_left (by omega)
  simp only [inF, Bool.and_eq_true, decide_eq_true_eq] at this
  omega
theorem well_b {ns : List Nd} {ss : List Sp} {j : Nat} (h : wellF ns ss j = true) (n : 1 < needsF ns (spAt ss j)) : (spAt ss j).b = ((spAt ss j).b.toNat : Int) ∧ (spAt ss j).b.toNat < j := by
  simp only [wellF, Bool.and_eq_true, Bool.or_eq_true, decide_eq_true_eq] at h
  have := h.2.resolve_left (by omega)
  simp only [inF, Bool.and_eq_true, decide_eq_true_eq] at this
  omega
theorem getD_set' {kb : List Bool} {p i : Nat} (h : p < kb.length) : (kb.set p true).getD i false = true ↔ p = i ∨ kb.getD i false = true := by
  rcases Nat.decEq p i with e | e
  · simp [List.getElem?_set_ne e, e]
  · subst e; simp [List.getElem?_set_self h]
theorem keepStep_iff {ns : List Nd} {ss : List Sp} {kb : List Bool} {n : Nat} (h : wellF ns ss n = true) (hn : n < kb.length) (i : Nat) : (keepStep ns ss kb n).getD i false = true ↔ kb.getD i false = true ∨ (kb.getD n false = true ∧ Us ns ss n i) := by
  unfold keepStep
  split
  · rename_i k
    split
    · rename_i k0
      have ea := well_a h k0
      split
      · rename_i k1
        have eb := well_b h k1
        rw [getD_set' (by rw [List.length_set]; omega), getD_set' (by omega)]
        constructor
        · rintro (e | e | e)
          · exact .inr ⟨k, .inr ⟨k1, by omega⟩⟩
          · exact .inr ⟨k, .inl ⟨k0, by omega⟩⟩
          · exact .inl e
        · rintro (e | ⟨_, ⟨_, e⟩ | ⟨_, e⟩⟩)
          · exact .inr (.inr e)
          · exact .inr (.inl (by omega))
          · exact .inl (by omega)
      · rename_i k1
        rw [getD_set' (by omega)]
        constructor
        · rintro (e | e)
          · exact .inr ⟨k, .inl ⟨k0, by omega⟩⟩
          · exact .inl e
        · rintro (e | ⟨_, ⟨_, e⟩ | ⟨e, _⟩⟩)
          · exact .inr e
          · exact .inl (by omega)
          · exact absurd e k1
    · rename_i k0
      constructor
      · exact .inl
      · rintro (e | ⟨_, ⟨e, _⟩ | ⟨e, _⟩⟩)
        · exact e
        · exact absurd e k0
        · exact absurd e (by omega)
  · rename_i k
    exact ⟨.inl, fun e => e.elim id fun e => absurd e.1 k⟩
theorem keepGo_mono {ns : List Nd} {ss : List Sp} (hw : ∀ i : Nat, i < ss.length → wellF ns ss i = true) {i : Nat} : ∀ (n : Nat) (kb : List Bool), n ≤ ss.length → kb.length = ss.length → kb.getD i false = true → (keepGo ns ss n kb).getD i false = true
  | 0, kb, _, _, h => h
  | n + 1, kb, hn, hl, h => keepGo_mono hw n _ (by omega) (by rw [keepStep_len, hl]) ((keepStep_iff (hw n (by omega)) (by omega) i).2 (.inl h))
theorem keepGo_closed {ns : List Nd} {ss : List Sp} (hw : ∀ i : Nat, i < ss.length → wellF ns ss i = true) : ∀ (n : Nat) (kb : List Bool), n ≤ ss.length → kb.length = ss.length →
    (∀ j i : Nat, n ≤ j → j < ss.length → kb.getD j false = true → Us ns ss j i → kb.getD i false = true) →
    ∀ j i : Nat, j < ss.length → (keepGo ns ss n kb).getD j false = true → Us ns ss j i → (keepGo ns ss n kb).getD i false = true
  | 0, kb, _, _, h => fun j i hj => h j i (Nat.zero_le _) hj
  | n + 1, kb, hn, hl, h => by
    have key := fun i => keepStep_iff (kb := kb) (hw n (by omega)) (by omega) i
    refine keepGo_closed hw n (keepStep ns ss kb n) (by omega) (by rw [keepStep_len, hl]) ?_
    intro j i hj hjl hk hu
    rw [key] at hk ⊢
    have hij := Us_lt (hw j hjl) hu
    rcases hk with hk | ⟨hk, hu2⟩
    · rcases Nat.lt_or_ge n j with g | g
      · exact .inl (h j i (by omega) hjl hk hu)
      · have : j = n := by omega
        subst this
        exact .inr ⟨hk, hu⟩
    · have := Us_lt (hw n (by omega)) hu2
      omega
theorem keepGo_used {ns : List Nd} {ss : List Sp} (hw : ∀ i : Nat, i < ss.length → wellF ns ss i = true) {l : Nat} : ∀ (n : Nat) (kb : List Bool), n ≤ ss.length → kb.length = ss.length →
    (∀ i : Nat, kb.getD i false = true → i = l ∨ ∃ j : Nat, j < ss.length ∧ kb.getD j false = true ∧ Us ns ss j i) →
    ∀ i : Nat, (keepGo ns ss n kb).getD i false = true → i = l ∨ ∃ j : Nat, j < ss.length ∧ (keepGo ns ss n kb).getD j false = true ∧ Us ns ss j i
  | 0, kb, _, _, h => h
  | n + 1, kb, hn, hl, h => by
    have key := fun i => keepStep_iff (kb := kb) (hw n (by omega)) (by omega) i
    refine keepGo_used hw n (keepStep ns ss kb n) (by omega) (by rw [keepStep_len, hl]) ?_
    intro i hk
    rw [key] at hk
    rcases hk with hk | ⟨hk, hu⟩
    · rcases h i hk with e | ⟨j, h1, h2, h3⟩
      · exact .inl e
      · exact .inr ⟨j, h1, (key j).2 (.inl h2), h3⟩
    · exact .inr ⟨n, by omega, (key n).2 (.inl hk), hu⟩
theorem keepGo_len' (ns : List Nd) (ss : List Sp) : ∀ (n : Nat) (kb : List Bool), (keepGo ns ss n kb).length = kb.length
  | 0, kb => rfl
  | n + 1, kb => by rw [keepGo, keepGo_len' ns ss n, keepStep_len]
/-- What is kept: the last step, what kept steps ask for, and nothing else. -/
theorem keepV_spec {ns : List Nd} {ss : List Sp} (hw : ∀ i : Nat, i < ss.length → wellF ns ss i = true) (hne : ss ≠ []) :
    (keepV ns ss).length = ss.length ∧ (keepV ns ss).getD (ss.length - 1) false = true ∧
    (∀ j i : Nat, j < ss.length → (keepV ns ss).getD j false = true → Us ns ss j i → (keepV ns ss).getD i false = true) ∧
    (∀ i : Nat, (keepV ns ss).getD i false = true → i = ss.length - 1 ∨ ∃ j : Nat, j < ss.length ∧ (keepV ns ss).getD j false = true ∧ Us ns ss j i) := by
  have h0 : 0 < ss.length := List.length_pos_iff.2 hne
  have hl : ((List.replicate ss.length false).set (ss.length - 1) true).length = ss.length := by simp
  refine ⟨by rw [keepV, keepGo_len', hl], ?_, ?_, ?_⟩
  · exact keepGo_mono hw _ _ (Nat.le_refl _) hl ((getD_set' (by simp; omega)).2 (.inl rfl))
  · exact keepGo_closed hw _ _ (Nat.le_refl _) hl (fun j i h1 h2 => by omega)
  · refine keepGo_used hw _ _ (Nat.le_refl _) hl ?_
    intro i hi
    rw [getD_set' (by simp; omega)] at hi
    rcases hi with e | e
    · exact .inl e.symm
    · simp [List.getElem?_replicate] at e
      split at e <;> simp at e
/-- How many of the first are kept. -/
def rk (kb : List Bool) : Nat → Nat
  | 0 => 0
  | n + 1 => rk kb n + if kb.getD n false = true then 1 else 0
theorem rk_one {kb : List Bool} {n : Nat} (h : kb.getD n false = true) : rk kb (n + 1) = rk kb n + 1 := by rw [rk, if_pos h]
theorem rk_no {kb : List Bool} {n : Nat} (h : ¬ kb.getD n false = true) : rk kb (n + 1) = rk kb n := by rw [rk, if_neg h]; rfl
theorem rk_le (kb : List Bool) {i : Nat} : ∀ {j : Nat}, i ≤ j → rk kb i ≤ rk kb j
  | 0, h => by rw [Nat.le_zero.1 h]; exact Nat.le_refl _
  | j + 1, h => by
    rcases Nat.lt_or_ge i (j + 1) with g | g
    · have := rk_le kb (i := i) (j := j) (by omega)
      rw [show rk kb (j + 1) = rk kb j + if kb.getD j false = true then 1 else 0 from rfl]; omega
    · rw [show i = j + 1 by omega]; exact Nat.le_refl _
theorem rk_lt {kb : List Bool} {i j : Nat} (h : i < j) (k : kb.getD i false = true) : rk kb i < rk kb j := by
  have := rk_le kb (show i + 1 ≤ j from h)
  rw [rk_one k] at this
  omega
theorem rk_on {kb : List Bool} {p : Nat} : ∀ {j : Nat}, p < rk kb j → ∃ i : Nat, i < j ∧ kb.getD i false = true ∧ rk kb i = p
  | 0, h => absurd h (Nat.not_lt_zero _)
  | j + 1, h => by
    rcases Nat.lt_or_ge p (rk kb j) with g | g
    · obtain ⟨i, h1, h2⟩ := rk_on g
      exact ⟨i, by omega, h2⟩
    · by_cases k : kb.getD j false = true
      · rw [rk_one k] at h
        exact ⟨j, by omega, k, by omega⟩
      · rw [rk_no k] at h
        omega
/-- A kept step, its places told anew. -/
def mvS (ns : List Nd) (ss : List Sp) (kb : List Bool) (i : Nat) : Sp :=
  ⟨(spAt ss i).r, (spAt ss i).t, if 0 < needsF ns (spAt ss i) then rk kb (spAt ss i).a.toNat else (spAt ss i).a, if 1 < needsF ns (spAt ss i) then rk kb (spAt ss i).b.toNat else (spAt ss i).b⟩
theorem trimGo_spec {ns : List Nd} {ss : List Sp} {kb : List Bool} (hw : ∀ i : Nat, i < ss.length → wellF ns ss i = true)
    (hc : ∀ j i : Nat, j < ss.length → kb.getD j false = true → Us ns ss j i → kb.getD i false = true) : ∀ (n j : Nat) (now : List Int) (out : List Sp), j + n = ss.length → now.length = ss.length → out.length = rk kb j →
    (∀ i : Nat, i < j → kb.getD i false = true → now.getD i 0 = rk kb i) → (∀ i : Nat, i < j → kb.getD i false = true → out[rk kb i]? = some (mvS ns ss kb i)) →
    (trimGo ns ss kb n j now out).length = rk kb ss.length ∧ ∀ i : Nat, i < ss.length → kb.getD i false = true → (trimGo ns ss kb n j now out)[rk kb i]? = some (mvS ns ss kb i)
  | 0, j, now, out, hj, hnl, hol, _, ho => by
    have : j = ss.length := by omega
    subst this
    exact ⟨hol, ho⟩
  | n + 1, j, now, out, hj, hnl, hol, hn, ho => by
    have hjl : j < ss.length := by omega
    unfold trimGo
    split
    · rename_i k
      have hmv : moveF ns now (spAt ss j) = mvS ns ss kb j := by
        unfold moveF mvS
        congr 1
        · split
          · rename_i g
            have := well_a (hw j hjl) g
            exact hn _ this.2 (hc j _ hjl k (.inl ⟨g, this.1⟩))
          · rfl
        · split
          · rename_i g
            have := well_b (hw j hjl) g
            exact hn _ this.2 (hc j _ hjl k (.inr ⟨g, this.1⟩))
          · rfl
      refine trimGo_spec hw hc n (j + 1) _ _ (by omega) (by simpa using hnl) (by rw [rk_one k]; simp; omega) ?_ ?_
      · intro i hi ki
        rcases Nat.lt_or_ge i j with g | g
        · rw [← hn i g ki]
          simp [List.getElem?_set_ne (show j ≠ i by omega)]
        · have : i = j := by omega
          subst this
          simp [List.getElem?_set_self (show i < now.length by omega), hol]
      · intro i hi ki
        rcases Nat.lt_or_ge i j with g | g
        · rw [List.getElem?_append_left (by rw [hol]; exact rk_lt g ki)]
          exact ho i g ki
        · have : i = j := by omega
          subst this
          rw [← hol, List.getElem?_append_right (Nat.le_refl _), hmv]
          simp
    · rename_i k
      refine trimGo_spec hw hc n (j + 1) now out (by omega) hnl (by rw [rk_no k]; exact hol) ?_ ?_
      · intro i hi ki
        rcases Nat.lt_or_ge i j with g | g
        · exact hn i g ki
        · have : i = j := by omega
          subst this
          exact absurd ki k
      · intro i hi ki
        rcases Nat.lt_or_ge i j with g | g
        · exact ho i g ki
        · have : i = j := by omega
          subst this
          exact absurd ki k
theorem trimV_spec {ns : List Nd} {ss : List Sp} (hw : ∀ i : Nat, i < ss.length → wellF ns ss i = true) (hne : ss ≠ []) :
    (trimV ns ss).length = rk (keepV ns ss) ss.length ∧ ∀ i : Nat, i < ss.length → (keepV ns ss).getD i false = true → (trimV ns ss)[rk (keepV ns ss) i]? = some (mvS ns ss (keepV ns ss) i) :=
  trimGo_spec hw (keepV_spec hw hne).2.2.1 ss.length 0 _ [] (by omega) (by simp) rfl (fun i h => absurd h (Nat.not_lt_zero _)) (fun i h => absurd h (Nat.not_lt_zero _))
theorem holds_move {ns : List Nd} {ks : List Int} {s s' : Sp} {a b a' b' : Int} (h : holdsF ns ks s a b = true) (er : s'.r = s.r) (et : s'.t = s.t)
    (ha : 0 < needsF ns s → a' = a) (hb : 1 < needsF ns s → b' = b) (ga : needsF ns s < 1 → s'.a = s.a) (gb : needsF ns s < 2 → s'.b = s.b) : holdsF ns ks s' a' b' = true := by
  have en : needsF ns s' = needsF ns s := by simp [needsF, er, et]
  simp only [holdsF, Bool.and_eq_true, Bool.not_eq_true', lackF, decide_eq_false_iff_not, not_or, not_and] at h ⊢
  rw [en]
  obtain ⟨⟨g1, g2, g3, g4, g5⟩, h2⟩ := h
  refine ⟨⟨g1, fun n => by rw [ha n]; exact g2 n, fun n => by rw [hb n]; exact g3 n, fun n => by rw [ga n]; exact g4 n, fun n => by rw [gb n]; exact g5 n⟩, ?_⟩
  by_cases r1 : s.r = 1
  · simp [ruleF, er, et, r1] at h2 ⊢; exact h2
  by_cases r2 : s.r = 2
  · simp [ruleF, er, et, r2] at h2 ⊢; exact h2
  by_cases r3 : s.r = 3
  · have hn : needsF ns s = partsF (nodeAt ns s.t).k := by simp [needsF, r3]
    by_cases k : (nodeAt ns s.t).k = 1
    · simp [ruleF, er, et, r3, k] at h2
    · have h0 : 0 < needsF ns s := by
        rw [hn] at g1 ⊢
        unfold partsF at g1 ⊢
        rw [if_neg k] at g1 ⊢
        split
        · omega
        · rename_i k5
          rw [if_neg k5] at g1
          split
          · omega
          · rename_i k2
            rw [if_neg k2] at g1
            omega
      rw [ha h0]
      by_cases u : 1 < needsF ns s
      · rw [hb u]
        simp only [ruleF, er, et, r3, en] at h2 ⊢
        exact h2
      · have u' : needsF ns s < 2 := by omega
        simp [ruleF, er, et, r3, en, u'] at h2 ⊢
        exact h2
  by_cases r4 : s.r = 4
  · have hn : needsF ns s = 2 := by simp [needsF, r4]
    rw [ha (by omega), hb (by omega)]
    simp only [ruleF, er, et, r4] at h2 ⊢
    exact h2
  by_cases r7 : s.r = 7
  · have hn : needsF ns s = 2 := by simp [needsF, r7]
    rw [ha (by omega), hb (by omega)]
    simp only [ruleF, er, et, r7] at h2 ⊢
    exact h2
  have h0 : 0 < needsF ns s := by
    unfold needsF at g1 ⊢
    rw [if_neg (by omega), if_neg r3, if_neg (by omega)] at g1 ⊢
    split
    · omega
    · rename_i k
      rw [if_neg k] at g1
      omega
  rw [ha h0]
  simp only [ruleF, er, et, r1, r2, r3, r4, r7, if_false] at h2 ⊢
  exact h2
theorem spAt_get {ss : List Sp} {i : Nat} {s : Sp} (h : ss[i]? = some s) : spAt ss i = s := by simp [spAt, h]
theorem get_spAt {ss : List Sp} {i : Nat} (h : i < ss.length) : ss[i]? = some (spAt ss i) := by rw [spAt_lt h]; exact List.getElem?_eq_getElem h
theorem termAt_nat {ss : List Sp} {i k : Nat} (h : k < i) : termAt ss i (k : Int) = (spAt ss k).t := by
  have e : inF (k : Int) 0 ((i : Int) - 1) = true := by simp only [inF, decide_eq_true_eq]; omega
  unfold termAt
  rw [if_pos e]
  rfl
theorem trim_at {ns : List Nd} {ss : List Sp} (hw : ∀ i : Nat, i < ss.length → wellF ns ss i = true) (hne : ss ≠ []) {i : Nat} (hi : i < ss.length) (k : (keepV ns ss).getD i false = true) : spAt (trimV ns ss) (rk (keepV ns ss) i) = mvS ns ss (keepV ns ss) i := spAt_get ((trimV_spec hw hne).2 i hi k)
theorem trim_on {ns : List Nd} {ss : List Sp} (hw : ∀ i : Nat, i < ss.length → wellF ns ss i = true) (hne : ss ≠ []) {p : Nat} (hp : p < (trimV ns ss).length) : ∃ i : Nat, i < ss.length ∧ (keepV ns ss).getD i false = true ∧ rk (keepV ns ss) i = p ∧ spAt (trimV ns ss) p = mvS ns ss (keepV ns ss) i := by
  rw [(trimV_spec hw hne).1] at hp
  obtain ⟨i, h1, h2, h3⟩ := rk_on hp
  exact ⟨i, h1, h2, h3, h3 ▸ trim_at hw hne h1 h2⟩
/-- What is trimmed of a proof is a proof. -/
theorem trim_pr {ns : List Nd} {ks : List Int} {ss : List Sp} (hpr : ∀ i : Nat, i < ss.length → prF ns ks ss i = true) (hne : ss ≠ []) : ∀ p : Nat, p < (trimV ns ss).length → prF ns ks (trimV ns ss) p = true := by
  have hw : ∀ i : Nat, i < ss.length → wellF ns ss i = true := fun i hi => prF_well hi (hpr i hi)
  have hc := (keepV_spec hw hne).2.2.1
  intro p hp
  obtain ⟨i, hi, ki, ri, ei⟩ := trim_on hw hne hp
  have h := hpr i hi
  simp only [prF, stepOkF, Bool.and_eq_true, termAt_take (Nat.le_of_lt hi)] at h
  obtain ⟨⟨h1, h2⟩, h3⟩ := h
  simp only [prF, stepOkF, Bool.and_eq_true, termAt_take (Nat.le_of_lt hp)]
  have et : (spAt (trimV ns ss) p).t = (spAt ss i).t := by rw [ei]; rfl
  have key : ∀ a : Nat, a < i → (keepV ns ss).getD a false = true → termAt (trimV ns ss) p (rk (keepV ns ss) a : Nat) = termAt ss i (a : Int) := fun a ha ka => by
    rw [termAt_nat (by rw [← ri]; exact rk_lt ha ka), termAt_nat ha, trim_at hw hne (by omega) ka]
    rfl
  refine ⟨⟨by rw [et]; exact h1, ?_⟩, ?_⟩
  · refine holds_move h2 (by rw [ei]; rfl) et ?_ ?_ ?_ ?_
    · intro n
      have ea := well_a (hw i hi) n
      rw [ei, show (mvS ns ss (keepV ns ss) i).a = (rk (keepV ns ss) (spAt ss i).a.toNat : Int) from if_pos n, key _ ea.2 (hc i _ hi ki (.inl ⟨n, ea.1⟩)), ← ea.1]
    · intro n
      have eb := well_b (hw i hi) n
      rw [ei, show (mvS ns ss (keepV ns ss) i).b = (rk (keepV ns ss) (spAt ss i).b.toNat : Int) from if_pos n, key _ eb.2 (hc i _ hi ki (.inr ⟨n, eb.1⟩)), ← eb.1]
    · intro n
      rw [ei]
      exact if_neg (by omega)
    · intro n
      rw [ei]
      exact if_neg (by omega)
  · simp only [freshF, decide_eq_true_eq] at h3 ⊢
    intro x hx
    obtain ⟨q, hq, rfl⟩ := List.getElem_of_mem hx
    simp only [List.length_take] at hq
    rw [List.getElem_take, ← spAt_lt (by omega), et]
    obtain ⟨i', hi', ki', ri', ei'⟩ := trim_on hw hne (p := q) (by omega)
    rw [ei']
    have hlt : i' < i := by
      rcases Nat.lt_or_ge i' i with g | g
      · exact g
      · have := rk_le (keepV ns ss) g
        omega
    refine h3 (spAt ss i') ?_
    rw [spAt_lt hi']
    exact List.mem_take_iff_getElem.2 ⟨i', by omega, rfl⟩
theorem trim_ne {ns : List Nd} {ss : List Sp} (hw : ∀ i : Nat, i < ss.length → wellF ns ss i = true) (hne : ss ≠ []) : (trimV ns ss).length = rk (keepV ns ss) (ss.length - 1) + 1 := by
  have h0 : 0 < ss.length := List.length_pos_iff.2 hne
  have h := rk_one (keepV_spec hw hne).2.1
  rw [show ss.length - 1 + 1 = ss.length by omega] at h
  rw [(trimV_spec hw hne).1, h]
/-- Trimmed twice it is trimmed once. -/
theorem trim_twice {ns : List Nd} {ks : List Int} {ss : List Sp} (hpr : ∀ i : Nat, i < ss.length → prF ns ks ss i = true) (hne : ss ≠ []) : trimV ns (trimV ns ss) = trimV ns ss := by
  have hw : ∀ i : Nat, i < ss.length → wellF ns ss i = true := fun i hi => prF_well hi (hpr i hi)
  have hpr2 := trim_pr hpr hne
  have hln := trim_ne hw hne
  have hne2 : trimV ns ss ≠ [] := by intro e; rw [e] at hln; simp at hln
  have hw2 : ∀ i : Nat, i < (trimV ns ss).length → wellF ns (trimV ns ss) i = true := fun i hi => prF_well hi (hpr2 i hi)
  have hs := keepV_spec hw hne
  have hs2 := keepV_spec hw2 hne2
  have hlen := (trimV_spec hw hne).1
  have all : ∀ n p : Nat, p < (trimV ns ss).length → (trimV ns ss).length - p ≤ n → (keepV ns (trimV ns ss)).getD p false = true := by
    intro n
    induction n with
    | zero => intro p h1 h2; omega
    | succ n ihn =>
      intro p h1 h2
      obtain ⟨i, hi, ki, ri, ei⟩ := trim_on hw hne h1
      rcases hs.2.2.2 i ki with e | ⟨j, hj, kj, uj⟩
      · have : p = (trimV ns ss).length - 1 := by rw [hln, ← ri, e]; rfl
        rw [this]
        exact hs2.2.1
      · have hij := Us_lt (hw j hj) uj
        have hr := rk_lt hij ki
        have hrl : rk (keepV ns ss) j < (trimV ns ss).length := by rw [hlen]; exact rk_lt hj kj
        refine hs2.2.2.1 (rk (keepV ns ss) j) p hrl (ihn _ hrl (by omega)) ?_
        have ej := trim_at hw hne hj kj
        have en : needsF ns (mvS ns ss (keepV ns ss) j) = needsF ns (spAt ss j) := rfl
        unfold Us
        rw [ej, en]
        rcases uj with ⟨u1, u2⟩ | ⟨u1, u2⟩
        · left
          refine ⟨u1, ?_⟩
          rw [show (mvS ns ss (keepV ns ss) j).a = (rk (keepV ns ss) (spAt ss j).a.toNat : Int) from if_pos u1, u2, ← ri]
          rfl
        · right
          refine ⟨u1, ?_⟩
          rw [show (mvS ns ss (keepV ns ss) j).b = (rk (keepV ns ss) (spAt ss j).b.toNat : Int) from if_pos u1, u2, ← ri]
          rfl
  have rkp : ∀ p : Nat, p ≤ (trimV ns ss).length → rk (keepV ns (trimV ns ss)) p = p := by
    intro p
    induction p with
    | zero => intro _; rfl
    | succ p ihp => intro h; rw [rk_one (all _ p (by omega) (Nat.le_refl _)), ihp (by omega)]
  have h2 := trimV_spec hw2 hne2
  refine List.ext_getElem? fun p => ?_
  rcases Nat.lt_or_ge p (trimV ns ss).length with g | g
  · have h3 := h2.2 p g (all _ p g (Nat.le_refl _))
    rw [rkp p (by omega)] at h3
    rw [h3, get_spAt g]
    congr 1
    have a1 : (mvS ns (trimV ns ss) (keepV ns (trimV ns ss)) p).a = (spAt (trimV ns ss) p).a := by
      unfold mvS
      simp only
      split
      · rename_i n
        have ea := well_a (hw2 p g) n
        rw [rkp _ (by omega), ← ea.1]
      · rfl
    have b1 : (mvS ns (trimV ns ss) (keepV ns (trimV ns ss)) p).b = (spAt (trimV ns ss) p).b := by
      unfold mvS
      simp only
      split
      · rename_i n
        have eb := well_b (hw2 p g) n
        rw [rkp _ (by omega), ← eb.1]
      · rfl
    exact Sp_eq.2 ⟨rfl, rfl, a1, b1⟩
  · rw [List.getElem?_eq_none (by rw [h2.1, rkp _ (Nat.le_refl _)]; exact g), List.getElem?_eq_none g]
theorem checkF_iff {ns : List Nd} {ks : List Int} {ss : List Sp} {t : Int} : checkF ns ks ss t = true ↔ ss ≠ [] ∧ kpF ns ks = true ∧ ss.length ≤ 500 ∧ (∀ i : Nat, i < ss.length → prF ns ks ss i = true) ∧ (spAt ss (ss.length - 1)).t = t := by
  simp only [checkF, proofF, Bool.and_eq_true, decide_eq_true_eq]
  constructor
  · rintro ⟨⟨h1, ⟨h2, h3⟩, h4⟩, h5⟩
    exact ⟨h1, h2, h3, fun i hi => allF_all h4 hi, h5⟩
  · rintro ⟨h1, h2, h3, h4, h5⟩
    exact ⟨⟨h1, ⟨h2, h3⟩, allF_of h4⟩, h5⟩
/-- A proof that is trimmed. -/
theorem trimF_spec {ns : List Nd} {ks : List Int} {ss : List Sp} {t : Int} (h : checkF ns ks ss t = true) : checkF ns ks (trimF ns ss) t = true ∧ trimF ns (trimF ns ss) = trimF ns ss := by
  obtain ⟨h1, h2, h3, h4, h5⟩ := checkF_iff.1 h
  have hw : ∀ i : Nat, i < ss.length → wellF ns ss i = true := fun i hi => prF_well hi (h4 i hi)
  have hp := kpF_pool h2
  have e : trimF ns ss = trimV ns ss := if_pos ⟨h1, h3, hp, allF_of hw⟩
  have hln := trim_ne hw h1
  have hne2 : trimV ns ss ≠ [] := by intro e; rw [e] at hln; simp at hln
  have h0 : 0 < ss.length := List.length_pos_iff.2 h1
  have hpr2 := trim_pr h4 h1
  have hs := keepV_spec hw h1
  have hrl : ∀ j, rk (keepV ns ss) j ≤ j := fun j => by
    induction j with
    | zero => exact Nat.le_refl _
    | succ j ih => unfold rk; split <;> omega
  have hle : (trimV ns ss).length ≤ 500 := by have := hrl (ss.length - 1); omega
  have hc : checkF ns ks (trimV ns ss) t = true := checkF_iff.2 ⟨hne2, h2, hle, hpr2, by
    rw [hln, show rk (keepV ns ss) (ss.length - 1) + 1 - 1 = rk (keepV ns ss) (ss.length - 1) from rfl, trim_at hw h1 (by omega) hs.2.1]
    exact h5⟩
  rw [e]
  refine ⟨hc, ?_⟩
  rw [show trimF ns (trimV ns ss) = trimV ns (trimV ns ss) from if_pos ⟨hne2, hle, hp, allF_of fun i hi => prF_well hi (hpr2 i hi)⟩]
  exact trim_twice h4 h1
theorem checkF_needs {ns : List Nd} {ks : List Int} {ss : List Sp} {t : Int} (h : checkF ns ks ss t = true) {i : Nat} (hi : i < ss.length) : 0 ≤ stepNeedsF ns (spAt ss i) := by
  obtain ⟨h1, h2, h3, h4, h5⟩ := checkF_iff.1 h
  have hw := prF_well hi (h4 i hi)
  simp only [wellF, Bool.and_eq_true, decide_eq_true_eq] at hw
  rw [stepNeedsF, if_pos ⟨kpF_pool h2, hw.1.1.1⟩]
  exact hw.1.1.2
end Go.Proofs.YtcfgiffgahdlbaaGreat.C

set_option linter.unusedVariables false
set_option linter.unusedSimpArgs false
namespace Go.Proofs.YtcfgiffgahdlbaaGreat.C
/-- What can be derived of what is known. -/
inductive Der (ns : List Nd) (ks : List Int) : Nat → Prop
  | know {t : Nat} (h : (t : Int) ∈ ks) : Der ns ks t
  | pub {t : Nat} (ht : t < ns.length) (hk : (nodeAt ns t).k = 1) (h : pubF (nodeAt ns t).a = true) : Der ns ks t
  | make1 {t a : Nat} (ht : t < ns.length) (hk : partsF (nodeAt ns t).k = 1) (ea : (nodeAt ns t).a = a) (h : Der ns ks a) : Der ns ks t
  | make2 {t a b : Nat} (ht : t < ns.length) (hk : partsF (nodeAt ns t).k = 2) (ea : (nodeAt ns t).a = a) (eb : (nodeAt ns t).b = b) (h : Der ns ks a) (g : Der ns ks b) : Der ns ks t
  | shareA {t a x : Nat} (ht : t < ns.length) (hx : x < ns.length) (hk : (nodeAt ns t).k = 8) (ea : (nodeAt ns t).a = a) (ex : nodeAt ns x = ⟨7, (nodeAt ns t).b, 0⟩) (h : Der ns ks a) (g : Der ns ks x) : Der ns ks t
  | shareB {t b x : Nat} (ht : t < ns.length) (hx : x < ns.length) (hk : (nodeAt ns t).k = 8) (eb : (nodeAt ns t).b = b) (ex : nodeAt ns x = ⟨7, (nodeAt ns t).a, 0⟩) (h : Der ns ks b) (g : Der ns ks x) : Der ns ks t
  | left {t i : Nat} (hi : i < ns.length) (hk : (nodeAt ns i).k = 2) (ea : (nodeAt ns i).a = t) (h : Der ns ks i) : Der ns ks t
  | right {t i : Nat} (hi : i < ns.length) (hk : (nodeAt ns i).k = 2) (eb : (nodeAt ns i).b = t) (h : Der ns ks i) : Der ns ks t
  | opens {t i y : Nat} (hi : i < ns.length) (hk : (nodeAt ns i).k = 3) (ea : (nodeAt ns i).a = t) (eb : (nodeAt ns i).b = y) (h : Der ns ks i) (g : Der ns ks y) : Der ns ks t
  | read {t i : Nat} (hi : i < ns.length) (hk : (nodeAt ns i).k = 4) (ea : (nodeAt ns i).a = t) (h : Der ns ks i) : Der ns ks t
theorem nodeA_lt {ns : List Nd} (hp : poolF ns = true) {i t : Nat} (hi : i < ns.length) (hk : partsF (nodeAt ns i).k = 1 ∨ partsF (nodeAt ns i).k = 2) (ea : (nodeAt ns i).a = t) : t < i := by
  rw [nodeAt_nat hi] at hk ea
  rcases hk with hk | hk
  · obtain ⟨a, e, h⟩ := part_in hp hi hk
    omega
  · obtain ⟨⟨a, e, h⟩, _⟩ := parts_in hp hi hk
    omega
theorem nodeB_lt {ns : List Nd} (hp : poolF ns = true) {i t : Nat} (hi : i < ns.length) (hk : partsF (nodeAt ns i).k = 2) (eb : (nodeAt ns i).b = t) : t < i := by
  rw [nodeAt_nat hi] at hk eb
  obtain ⟨_, b, e, h⟩ := parts_in hp hi hk
  omega
theorem nodeA_nat {ns : List Nd} (hp : poolF ns = true) {i : Nat} (hi : i < ns.length) (hk : partsF (nodeAt ns i).k = 1 ∨ partsF (nodeAt ns i).k = 2) : ∃ a : Nat, (nodeAt ns i).a = a ∧ a < i := by
  rw [nodeAt_nat hi] at hk ⊢
  rcases hk with hk | hk
  · exact part_in hp hi hk
  · exact (parts_in hp hi hk).1
theorem nodeB_nat {ns : List Nd} (hp : poolF ns = true) {i : Nat} (hi : i < ns.length) (hk : partsF (nodeAt ns i).k = 2) : ∃ b : Nat, (nodeAt ns i).b = b ∧ b < i := by
  rw [nodeAt_nat hi] at hk ⊢
  exact (parts_in hp hi hk).2
/-- What is derived is a term. -/
theorem Der.lt {ns : List Nd} {ks : List Int} (hp : poolF ns = true) (hks : ∀ x ∈ ks, hasF ns.length x = true) {t : Nat} (h : Der ns ks t) : t < ns.length := by
  induction h with
  | know h => obtain ⟨j, e, hj⟩ := hasN (hks _ h); omega
  | pub ht _ _ => exact ht
  | make1 ht _ _ _ _ => exact ht
  | make2 ht _ _ _ _ _ _ _ => exact ht
  | shareA ht _ _ _ _ _ _ _ _ => exact ht
  | shareB ht _ _ _ _ _ _ _ _ => exact ht
  | left hi hk ea _ _ => have := nodeA_lt hp hi (by rw [hk]; exact .inr rfl) ea; omega
  | right hi hk eb _ _ => have := nodeB_lt hp hi (by rw [hk]; rfl) eb; omega
  | opens hi hk ea _ _ _ _ _ => have := nodeA_lt hp hi (by rw [hk]; exact .inr rfl) ea; omega
  | read hi hk ea _ _ => have := nodeA_lt hp hi (by rw [hk]; exact .inr rfl) ea; omega
theorem termAt_on {ss : List Sp} {i : Nat} {k : Int} (h : 0 ≤ termAt ss i k ∨ ¬ termAt ss i k < 0) : ∃ j : Nat, k = j ∧ j < i ∧ termAt ss i k = (spAt ss j).t := by
  have e : inF k 0 ((i : Int) - 1) = true := by
    cases hc : inF k 0 ((i : Int) - 1) with
    | true => rfl
    | false =>
      have e2 : termAt ss i k = -1 := by unfold termAt; rw [if_neg (by simp [hc])]
      omega
  have e2 := e
  simp only [inF, decide_eq_true_eq] at e2
  refine ⟨k.toNat, by omega, by omega, ?_⟩
  unfold termAt
  rw [if_pos e]
/-- What the steps of a proof prove can be derived. -/
theorem proof_Der {ns : List Nd} {ks : List Int} {ss : List Sp} (hp : poolF ns = true) (hpr : ∀ i : Nat, i < ss.length → prF ns ks ss i = true) : ∀ i : Nat, i < ss.length → ∃ t : Nat, (spAt ss i).t = t ∧ t < ns.length ∧ Der ns ks t := by
  intro i
  induction i using Nat.strongRecOn with
  | ind i ih =>
    intro hi
    have h := hpr i hi
    simp only [prF, stepOkF, Bool.and_eq_true, termAt_take (Nat.le_of_lt hi)] at h
    obtain ⟨⟨h1, h2⟩, _⟩ := h
    obtain ⟨t, et, htl⟩ := hasN h1
    refine ⟨t, et, htl, ?_⟩
    simp only [holdsF, Bool.and_eq_true, Bool.not_eq_true', lackF, decide_eq_false_iff_not, not_or, not_and] at h2
    obtain ⟨⟨g1, g2, g3, _, _⟩, h2⟩ := h2
    have key : ∀ k : Int, ¬ termAt ss i k < 0 → ∃ a : Nat, termAt ss i k = a ∧ a < ns.length ∧ Der ns ks a := fun k hk => by
      obtain ⟨j, _, hj, e⟩ := termAt_on (.inr hk)
      obtain ⟨a, ea, hal, hd⟩ := ih j hj (by omega)
      exact ⟨a, by rw [e, ea], hal, hd⟩
    generalize spAt ss i = s at *
    by_cases r1 : s.r = 1
    · simp [ruleF, r1, et, hasK] at h2
      exact .know h2
    by_cases r2 : s.r = 2
    · simp [ruleF, r2, et] at h2
      exact .pub htl h2.1 h2.2
    by_cases r3 : s.r = 3
    · have hn : needsF ns s = partsF (nodeAt ns t).k := by simp [needsF, r3, et]
      simp only [ruleF, r3, et, if_neg (show ¬ (3 : Int) = 1 by omega), if_neg (show ¬ (3 : Int) = 2 by omega), if_true, Bool.and_eq_true, decide_eq_true_eq, Bool.or_eq_true] at h2
      obtain ⟨⟨k1, ea⟩, eb⟩ := h2
      have hpk := parts_kind hp htl
      rw [← nodeAt_nat htl] at hpk
      rcases hpk with k | k | k
      · unfold partsF at k
        rw [if_neg k1] at k
        split at k
        · omega
        · split at k <;> omega
      · obtain ⟨a, e, _, hd⟩ := key _ (g2 (by omega))
        exact .make1 htl k (by rw [← ea, e]) hd
      · obtain ⟨a, e, _, hd⟩ := key _ (g2 (by omega))
        obtain ⟨b, e', _, hd'⟩ := key _ (g3 (by omega))
        exact .make2 htl k (by rw [← ea, e]) (by rw [← eb.resolve_left (by omega), e']) hd hd'
    by_cases r4 : s.r = 4
    · have hn : needsF ns s = 2 := by simp [needsF, r4]
      obtain ⟨a, e, _, hd⟩ := key _ (g2 (by omega))
      obtain ⟨b, e', hbl, hd'⟩ := key _ (g3 (by omega))
      simp only [ruleF, r4, et, e, e', if_neg (show ¬ (4 : Int) = 1 by omega), if_neg (show ¬ (4 : Int) = 2 by omega), if_neg (show ¬ (4 : Int) = 3 by omega), if_true, Bool.and_eq_true, decide_eq_true_eq, Bool.or_eq_true] at h2
      obtain ⟨⟨k8, k7⟩, h⟩ := h2
      have hb0 : (nodeAt ns b).b = 0 := by
        have := (okFrom_all hp hbl).1
        rw [nodeAt_nat hbl] at k7 ⊢
        simp [rightF, k7, partsF] at this
        exact this.2
      have hnb : ∀ c, (nodeAt ns b).a = c → nodeAt ns b = ⟨7, c, 0⟩ := fun c hc => by
        generalize nodeAt ns b = n at k7 hb0 hc
        obtain ⟨nk, na, nb⟩ := n
        simp only at k7 hb0 hc
        rw [k7, hb0, hc]
      rcases h with ⟨h, h'⟩ | ⟨h, h'⟩
      · exact .shareA htl hbl k8 h.symm (hnb _ h') hd hd'
      · exact .shareB htl hbl k8 h.symm (hnb _ h') hd hd'
    by_cases r5 : s.r = 5
    · obtain ⟨a, e, hal, hd⟩ := key _ (g2 (by simp [needsF, r5]))
      simp [ruleF, r5, et, e] at h2
      exact .left hal h2.1 h2.2 hd
    by_cases r6 : s.r = 6
    · obtain ⟨a, e, hal, hd⟩ := key _ (g2 (by simp [needsF, r6]))
      simp [ruleF, r6, et, e] at h2
      exact .right hal h2.1 h2.2 hd
    by_cases r7 : s.r = 7
    · obtain ⟨a, e, hal, hd⟩ := key _ (g2 (by simp [needsF, r7]))
      obtain ⟨b, e', hbl, hd'⟩ := key _ (g3 (by simp [needsF, r7]))
      simp [ruleF, r7, et, e, e'] at h2
      exact .opens hal h2.1.1 h2.1.2 h2.2 hd hd'
    · have r8 : s.r = 8 := by
        unfold needsF at g1
        rw [if_neg (by omega), if_neg r3, if_neg (by omega)] at g1
        split at g1 <;> omega
      obtain ⟨a, e, hal, hd⟩ := key _ (g2 (by simp [needsF, r8]))
      simp [ruleF, r8, et, e] at h2
      exact .read hal h2.1 h2.2 hd
/-! ### All steps -/
theorem passGo_st {ns : List Nd} {ks : List Int} : ∀ (n t : Nat) (st : List Int) (out : List Sp) (m : Bool), out.length ≤ (passGo ns ks n t st out m).2.1.length ∧ ((passGo ns ks n t st out m).2.2 = true → m = true ∨ out.length < (passGo ns ks n t st out m).2.1.length) ∧
    ((passGo ns ks n t st out m).2.2 = false → m = false ∧ (passGo ns ks n t st out m).1 = st ∧ (passGo ns ks n t st out m).2.1 = out ∧ ∀ j : Nat, t ≤ j → j < t + n → ¬ 0 ≤ sv st j → stepF ns ks st j = none)
  | 0, t, st, out, m => ⟨Nat.le_refl _, fun h => .inl h, fun h => ⟨h, rfl, rfl, fun j h1 h2 => by omega⟩⟩
  | n + 1, t, st, out, m => by
    unfold passGo
    split
    · rename_i g
      obtain ⟨h1, h2, h3⟩ := @passGo_st ns ks n (t + 1) st out m
      refine ⟨h1, h2, fun h => ?_⟩
      obtain ⟨a, b, c, d⟩ := h3 h
      refine ⟨a, b, c, fun j h4 h5 h6 => ?_⟩
      rcases Nat.lt_or_ge t j with u | u
      · exact d j u (by omega) h6
      · have : j = t := by omega
        subst this
        exact absurd g h6
    · split
      · rename_i s e
        obtain ⟨h1, h2, h3⟩ := @passGo_st ns ks n (t + 1) (st.set t out.length) (out ++ [s]) true
        simp only [List.length_append, List.length_singleton] at h1
        refine ⟨by omega, fun _ => .inr (by omega), fun h => ?_⟩
        exact absurd (h3 h).1 (by simp)
      · rename_i e
        obtain ⟨h1, h2, h3⟩ := @passGo_st ns ks n (t + 1) st out m
        refine ⟨h1, h2, fun h => ?_⟩
        obtain ⟨a, b, c, d⟩ := h3 h
        refine ⟨a, b, c, fun j h4 h5 h6 => ?_⟩
        rcases Nat.lt_or_ge t j with u | u
        · exact d j u (by omega) h6
        · have : j = t := by omega
          subst this
          exact e
/-- At the end no term has a step more. -/
theorem allGo_stuck {ns : List Nd} {ks : List Int} : ∀ (n : Nat) (st : List Int) (out : List Sp), st.length = ns.length → out.length + negs st = ns.length → negs st < n →
    (allGo ns ks n st out).1.length = ns.length ∧ (allGo ns ks n st out).2.length + negs (allGo ns ks n st out).1 = ns.length ∧ ∀ j : Nat, j < ns.length → ¬ 0 ≤ sv (allGo ns ks n st out).1 j → stepF ns ks (allGo ns ks n st out).1 j = none
  | 0, st, out, _, _, h => absurd h (Nat.not_lt_zero _)
  | n + 1, st, out, h1, h2, h3 => by
    have hl := passGo_len ns ks ns.length 0 st out false (by omega) h1 h2
    obtain ⟨g1, g2, g3⟩ := @passGo_st ns ks ns.length 0 st out false
    unfold allGo
    split
    · rename_i e
      have := (g2 e).resolve_left (by simp)
      exact allGo_stuck n _ _ hl.1 hl.2 (by omega)
    · rename_i e
      obtain ⟨_, e1, e2, e3⟩ := g3 (by simpa using e)
      refine ⟨hl.1, hl.2, ?_⟩
      simp only
      rw [e1]
      exact fun j hj => e3 j (Nat.zero_le _) (by omega)
theorem upGo_none {ns : List Nd} {st : List Int} {r t : Int} : ∀ {n i : Nat}, upGo ns st r t n i = none → ∀ j : Nat, i ≤ j → j < i + n → upOk ns st r t j = false
  | 0, i, _, j, h1, h2 => by omega
  | n + 1, i, h, j, h1, h2 => by
    unfold upGo at h
    split at h
    · exact absurd h (by simp)
    · rename_i e
      rcases Nat.lt_or_ge i j with u | u
      · exact upGo_none h j u (by omega)
      · have : j = i := by omega
        subst this
        simpa using e
theorem or_none {α : Type} {a b : Option α} (h : a.or b = none) : a = none ∧ b = none := by cases a <;> simp_all
/-- Where no term has a step more, what can be derived has one. -/
theorem stuck_Der {ns : List Nd} {ks st : List Int} (hp : poolF ns = true) (hks : ∀ x ∈ ks, hasF ns.length x = true) (hst : ∀ j : Nat, j < ns.length → ¬ 0 ≤ sv st j → stepF ns ks st j = none) {t : Nat} (h : Der ns ks t) : 0 ≤ sv st t := by
  have key : ∀ t : Nat, t < ns.length → (¬ 0 ≤ sv st t → ¬ ((t : Int) ∈ ks) ∧ ¬ ((nodeAt ns t).k = 1 ∧ pubF (nodeAt ns t).a = true) ∧ madeF ns st t = none ∧ shareF ns st t = none ∧ ∀ r : Int, r = 5 ∨ r = 6 ∨ r = 7 ∨ r = 8 → upF ns st r t = none) := fun t ht hn => by
    have e := hst t ht hn
    unfold stepF at e
    split at e
    · simp at e
    · rename_i e1
      split at e
      · simp at e
      · rename_i e2
        obtain ⟨e3, e4⟩ := or_none e
        unfold restF at e4
        obtain ⟨e5, e6⟩ := or_none e4
        obtain ⟨e7, e8⟩ := or_none e6
        obtain ⟨e9, e10⟩ := or_none e8
        obtain ⟨e11, e12⟩ := or_none e10
        refine ⟨fun q => e1 (by simpa [hasK] using q), e2, e3, e5, ?_⟩
        rintro r (rfl | rfl | rfl | rfl) <;> assumption
  have up : ∀ (r : Int) (t i : Nat), t < i → i < ns.length → upF ns st r t = none → upOk ns st r t i = false := fun r t i h1 h2 h3 => by
    unfold upF at h3
    have e : ((t : Nat) : Int).toNat = t := rfl
    rw [e] at h3
    exact upGo_none h3 i h1 (by omega)
  induction h with
  | @know t h =>
    obtain ⟨j, e, hj⟩ := hasN (hks _ h)
    exact Classical.byContradiction fun hn => (key t (by omega) hn).1 h
  | @pub t ht hk h => exact Classical.byContradiction fun hn => (key t ht hn).2.1 ⟨hk, h⟩
  | @make1 t a ht hk ea h ih =>
    refine Classical.byContradiction fun hn => ?_
    have := (key t ht hn).2.2.1
    unfold madeF at this
    rw [if_pos hk, ea, if_pos ih] at this
    simp at this
  | @make2 t a b ht hk ea eb h g ih ih2 =>
    refine Classical.byContradiction fun hn => ?_
    have := (key t ht hn).2.2.1
    unfold madeF at this
    rw [if_neg (by omega), if_pos hk, ea, eb, if_pos ⟨ih, ih2⟩] at this
    simp at this
  | @shareA t a x ht hx hk ea ex h g ih ih2 =>
    refine Classical.byContradiction fun hn => ?_
    have := (key t ht hn).2.2.2.1
    have hf := findF_of hp hx
    rw [ex] at hf
    unfold shareF at this
    rw [if_neg (by omega), if_pos (by rw [ea, hf]; exact ⟨ih, by omega, ih2⟩)] at this
    simp at this
  | @shareB t b x ht hx hk eb ex h g ih ih2 =>
    refine Classical.byContradiction fun hn => ?_
    have := (key t ht hn).2.2.2.1
    have hf := findF_of hp hx
    rw [ex] at hf
    unfold shareF at this
    rw [if_neg (by omega)] at this
    split at this
    · simp at this
    · rw [if_pos (by rw [eb, hf]; exact ⟨ih, by omega, ih2⟩)] at this
      simp at this
  | @left t i hi hk ea h ih =>
    refine Classical.byContradiction fun hn => ?_
    have hlt := nodeA_lt hp hi (by rw [hk]; exact .inr rfl) ea
    have := up 5 t i hlt hi ((key t (by omega) hn).2.2.2.2 5 (by omega))
    simp [upOk, ih, hk, ea] at this
  | @right t i hi hk eb h ih =>
    refine Classical.byContradiction fun hn => ?_
    have hlt := nodeB_lt hp hi (by rw [hk]; rfl) eb
    have := up 6 t i hlt hi ((key t (by omega) hn).2.2.2.2 6 (by omega))
    simp [upOk, ih, hk, eb] at this
  | @opens t i y hi hk ea eb h g ih ih2 =>
    refine Classical.byContradiction fun hn => ?_
    have hlt := nodeA_lt hp hi (by rw [hk]; exact .inr rfl) ea
    have := up 7 t i hlt hi ((key t (by omega) hn).2.2.2.2 7 (by omega))
    simp [upOk, ih, hk, ea, eb, ih2] at this
  | @read t i hi hk ea h ih =>
    refine Classical.byContradiction fun hn => ?_
    have hlt := nodeA_lt hp hi (by rw [hk]; exact .inr rfl) ea
    have := up 8 t i hlt hi ((key t (by omega) hn).2.2.2.2 8 (by omega))
    simp [upOk, ih, hk, ea] at this
/-- All steps: those of the terms that can be derived, and their number. -/
theorem allV_spec {ns : List Nd} {ks : List Int} (hp : poolF ns = true) (hks : ∀ x ∈ ks, hasF ns.length x = true) : ∃ st : List Int, st.length = ns.length ∧ (allV ns ks).length + negs st = ns.length ∧ (∀ t : Nat, t < ns.length → (0 ≤ sv st t ↔ Der ns ks t)) ∧
    (∀ t : Nat, t < ns.length → (0 ≤ sv st t ↔ ∃ i : Nat, i < (allV ns ks).length ∧ (spAt (allV ns ks) i).t = t)) := by
  have I := allV_inv ks hp
  obtain ⟨h1, h2, h3⟩ := @allGo_stuck ns ks (ns.length + 1) (List.replicate ns.length (-1)) [] (by simp) (by simp [negs_rep]) (by rw [negs_rep]; omega)
  refine ⟨(allGo ns ks (ns.length + 1) (List.replicate ns.length (-1)) []).1, h1, h2, ?_, ?_⟩
  · intro t ht
    refine ⟨fun h => ?_, fun h => stuck_Der hp hks h3 h⟩
    have hts : t < (allGo ns ks (ns.length + 1) (List.replicate ns.length (-1)) []).1.length := by rw [h1]; exact ht
    rw [sv_nat hts] at h
    obtain ⟨i, hi, _, e⟩ := I.idx t hts h
    obtain ⟨t', e2, _, hd⟩ := proof_Der hp I.ok i hi
    rw [spAt_lt hi, e] at e2
    have : t = t' := by omega
    rw [this]
    exact hd
  · intro t ht
    have hts : t < (allGo ns ks (ns.length + 1) (List.replicate ns.length (-1)) []).1.length := by rw [h1]; exact ht
    rw [sv_nat hts]
    constructor
    · intro h
      obtain ⟨i, hi, _, e⟩ := I.idx t hts h
      exact ⟨i, hi, by rw [spAt_lt hi, e]⟩
    · rintro ⟨i, hi, e⟩
      refine Classical.byContradiction fun hn => ?_
      refine I.neg t hts (by omega) (spAt (allV ns ks) i) ?_ e
      rw [spAt_lt hi]
      exact List.getElem_mem hi
end Go.Proofs.YtcfgiffgahdlbaaGreat.C

set_option linter.unusedVariables false
set_option linter.unusedSimpArgs false
namespace Go.Proofs.YtcfgiffgahdlbaaGreat.C
/-! ### Sorted lists of numbers -/
abbrev Srt (xs : List Int) : Prop := xs.Pairwise (· < ·)
theorem putGo_true (t : Int) : ∀ xs : List Int, putGo t xs true = xs
  | [] => rfl
  | x :: xs => by
    unfold putGo
    rw [if_neg (by simp), putGo_true t xs]
theorem putF_in {ks : List Int} {t : Int} (h : t ∈ ks) : putF ks t = ks := by
  unfold putF
  rw [show hasK ks t = true by simpa [hasK] using h, putGo_true]
theorem putGo_mem {t x : Int} : ∀ {xs : List Int}, x ∈ putGo t xs false → x = t ∨ x ∈ xs
  | [], h => by simp [putGo] at h; exact .inl h
  | y :: ys, h => by
    unfold putGo at h
    split at h
    · rw [putGo_true] at h
      rcases List.mem_cons.1 h with h | h
      · exact .inl h
      · exact .inr h
    · rcases List.mem_cons.1 h with h | h
      · exact .inr (by simp [h])
      · exact (putGo_mem h).imp id (fun h => by simp [h])
theorem putGo_srt {t : Int} : ∀ {xs : List Int}, Srt xs → t ∉ xs → Srt (putGo t xs false)
  | [], _, _ => by simp [putGo]
  | y :: ys, h, hn => by
    obtain ⟨h1, h2⟩ := List.pairwise_cons.1 h
    unfold putGo
    split
    · rename_i g
      rw [putGo_true]
      refine List.pairwise_cons.2 ⟨fun z hz => ?_, h⟩
      rcases List.mem_cons.1 hz with e | e
      · omega
      · have := h1 z e; omega
    · rename_i g
      have hne : t ≠ y := fun e => hn (by simp [e])
      refine List.pairwise_cons.2 ⟨fun z hz => ?_, putGo_srt h2 (fun e => hn (by simp [e]))⟩
      rcases putGo_mem hz with e | e
      · simp at g; omega
      · exact h1 z e
theorem putF_srt {ks : List Int} {t : Int} (h : Srt ks) : Srt (putF ks t) := by
  by_cases g : t ∈ ks
  · rw [putF_in g]; exact h
  · unfold putF
    rw [show hasK ks t = false by simpa [hasK] using g]
    exact putGo_srt h g
theorem putGo_one (t : Int) : ∀ xs : List Int, (putGo t xs false).length = xs.length + 1
  | [] => rfl
  | y :: ys => by
    unfold putGo
    split
    · rw [putGo_true]; simp
    · simp [putGo_one t ys]
theorem putF_len_in {ks : List Int} {t : Int} (h : (putF ks t).length ≤ ks.length) : t ∈ ks := by
  refine Classical.byContradiction fun g => ?_
  unfold putF at h
  rw [show hasK ks t = false by simpa [hasK] using g, putGo_one] at h
  omega
theorem srt_get {xs : List Int} (h : Srt xs) {i j : Nat} (hij : i < j) (hj : j < xs.length) : xs[i] < xs[j] := List.pairwise_iff_getElem.1 h i j (by omega) hj hij
theorem srt_of {xs : List Int} (h : ∀ i : Nat, ∀ hi : i + 1 < xs.length, xs[i] < xs[i + 1]) : Srt xs := by
  refine List.pairwise_iff_getElem.2 fun i j hi hj hij => ?_
  induction j with
  | zero => omega
  | succ j ih =>
    rcases Nat.lt_or_ge i j with g | g
    · exact Int.lt_trans (ih (by omega) g) (h j hj)
    · have : i = j := by omega
      subst this
      exact h i hj
theorem srt_ge {xs : List Int} (h : Srt xs) (h0 : ∀ x ∈ xs, 0 ≤ x) : ∀ (i : Nat) (hi : i < xs.length), (i : Int) ≤ xs[i]
  | 0, hi => h0 _ (List.getElem_mem hi)
  | i + 1, hi => by
    have := srt_ge h h0 i (by omega)
    have := srt_get h (show i < i + 1 by omega) hi
    omega
theorem srt_len {xs : List Int} {m : Nat} (h : Srt xs) (hm : ∀ x ∈ xs, hasF m x = true) : xs.length ≤ m := by
  refine Classical.byContradiction fun g => ?_
  have hl : xs.length - 1 < xs.length := by omega
  have h1 := srt_ge h (fun x hx => by obtain ⟨j, e, _⟩ := hasN (hm x hx); omega) (xs.length - 1) hl
  obtain ⟨j, e, hj⟩ := hasN (hm _ (List.getElem_mem hl))
  omega
theorem kpF_iff {ns : List Nd} {ks : List Int} : kpF ns ks = true ↔ poolF ns = true ∧ (∀ x ∈ ks, hasF ns.length x = true) ∧ Srt ks ∧ ks.length ≤ 200 := by
  constructor
  · intro h
    refine ⟨kpF_pool h, kpF_mem h, srt_of fun i hi => ?_, kpF_len h⟩
    simp only [kpF, knowF, Bool.and_eq_true] at h
    have := allF_all' h.2.1 hi
    simp only [kn, Bool.and_eq_true, Bool.or_eq_true, decide_eq_true_eq] at this
    have h2 := this.2.resolve_left (by omega)
    have hi' : i < ks.length := by omega
    simpa [hi, hi'] using h2
  · rintro ⟨h1, h2, h3, h4⟩
    simp only [kpF, knowF, Bool.and_eq_true, decide_eq_true_eq]
    refine ⟨h1, allF_of fun i hi => ?_, h4⟩
    simp only [kn, Bool.and_eq_true, Bool.or_eq_true, decide_eq_true_eq]
    refine ⟨by simpa [hi] using h2 _ (List.getElem_mem hi), ?_⟩
    rcases Nat.eq_zero_or_pos i with e | e
    · exact .inl e
    · right
      have hi' : i - 1 < ks.length := by omega
      have := srt_get h3 (show i - 1 < i by omega) hi
      simpa [hi, hi'] using this
/-! ### Opening -/
theorem stepO_srt {ns : List Nd} {mk : List Bool} {out : List Int} {t : Int} (h : Srt out) : Srt (stepO ns mk out t) := by
  unfold stepO
  split
  · exact putF_srt (putF_srt h)
  · split
    · exact putF_srt h
    · exact h
theorem foldO_srt {ns : List Nd} {mk : List Bool} : ∀ {xs out : List Int}, Srt out → Srt (xs.foldl (stepO ns mk) out)
  | [], out, h => h
  | x :: xs, out, h => foldO_srt (xs := xs) (stepO_srt h)
theorem onceV_srt {ns : List Nd} {ks : List Int} (h : Srt ks) : Srt (onceV ns ks) := foldO_srt h
theorem onceV_kp {ns : List Nd} {ks : List Int} (h : kpF ns ks = true) (hl : (onceV ns ks).length ≤ 200) : kpF ns (onceV ns ks) = true := by
  obtain ⟨h1, h2, h3, h4⟩ := kpF_iff.1 h
  exact kpF_iff.2 ⟨h1, onceV_mem h1 h2, onceV_srt h3, hl⟩
/-- Nothing more is opened. -/
def Shut (ns : List Nd) (ks os : List Int) : Prop := ∀ x ∈ ks, ((nodeAt ns x).k = 2 → (nodeAt ns x).a ∈ os ∧ (nodeAt ns x).b ∈ os) ∧ ((nodeAt ns x).k = 4 → (nodeAt ns x).a ∈ os) ∧ ((nodeAt ns x).k = 3 → bv (mkUp ns ks ns.length) (nodeAt ns x).b = true → (nodeAt ns x).a ∈ os)
theorem stepO_len' (ns : List Nd) (mk : List Bool) (out : List Int) (t : Int) : out.length ≤ (stepO ns mk out t).length := by
  unfold stepO
  split
  · have h1 := putF_len out (nodeAt ns t).a
    have h2 := putF_len (putF out (nodeAt ns t).a) (nodeAt ns t).b
    omega
  · split
    · exact (putF_len out _).1
    · exact Nat.le_refl _
theorem stepO_same {ns : List Nd} {mk : List Bool} {out : List Int} {t : Int} (h : (stepO ns mk out t).length ≤ out.length) : stepO ns mk out t = out := by
  unfold stepO at h ⊢
  split at h
  · rename_i g
    rw [if_pos g]
    have h1 := putF_len out (nodeAt ns t).a
    have h2 := putF_len (putF out (nodeAt ns t).a) (nodeAt ns t).b
    have e1 := putF_in (putF_len_in (show (putF out (nodeAt ns t).a).length ≤ out.length by omega))
    rw [e1] at h ⊢
    exact putF_in (putF_len_in h)
  · rename_i g
    rw [if_neg g]
    split at h
    · rename_i g2
      rw [if_pos g2]
      exact putF_in (putF_len_in h)
    · rename_i g2
      rw [if_neg g2]
theorem foldO_same {ns : List Nd} {mk : List Bool} : ∀ {xs out : List Int}, (xs.foldl (stepO ns mk) out).length ≤ out.length → ∀ x ∈ xs, stepO ns mk out x = out
  | [], out, _, x, hx => by simp at hx
  | y :: ys, out, h, x, hx => by
    simp only [List.foldl_cons] at h
    have h1 := foldO_len ns mk ys (stepO ns mk out y)
    have h2 := stepO_len' ns mk out y
    have e := stepO_same (show (stepO ns mk out y).length ≤ out.length by omega)
    rw [e] at h
    rcases List.mem_cons.1 hx with g | g
    · rw [g]; exact e
    · exact foldO_same h x g
theorem stepO_shut {ns : List Nd} {mk : List Bool} {out : List Int} {x : Int} : ((nodeAt ns x).k = 2 → (nodeAt ns x).a ∈ stepO ns mk out x ∧ (nodeAt ns x).b ∈ stepO ns mk out x) ∧ ((nodeAt ns x).k = 4 → (nodeAt ns x).a ∈ stepO ns mk out x) ∧ ((nodeAt ns x).k = 3 → bv mk (nodeAt ns x).b = true → (nodeAt ns x).a ∈ stepO ns mk out x) := by
  refine ⟨fun h => ?_, fun h => ?_, fun h g => ?_⟩
  · unfold stepO
    rw [if_pos h]
    exact ⟨putF_mem.2 (.inr (putF_mem.2 (.inl rfl))), putF_mem.2 (.inl rfl)⟩
  · unfold stepO
    rw [if_neg (by omega), if_pos (.inl h)]
    exact putF_mem.2 (.inl rfl)
  · unfold stepO
    rw [if_neg (by omega), if_pos (.inr ⟨h, g⟩)]
    exact putF_mem.2 (.inl rfl)
theorem onceV_shut {ns : List Nd} {ks : List Int} (h : (onceV ns ks).length ≤ ks.length) : Shut ns ks ks := by
  intro x hx
  have e := foldO_same h x hx
  have := @stepO_shut ns (mkUp ns ks ns.length) ks x
  rw [e] at this
  exact this
theorem Mk_Der {ns : List Nd} {ks os : List Int} (ho : ∀ t : Nat, (t : Int) ∈ os → Der ns ks t) {t : Nat} (h : Mk ns os t) : Der ns ks t := by
  induction h with
  | know h => exact ho _ h
  | pub ht hk h => exact .pub ht hk h
  | make1 ht hk ea _ ih => exact .make1 ht hk ea ih
  | make2 ht hk ea eb _ _ ih ih2 => exact .make2 ht hk ea eb ih ih2
  | shareA ht hx hk ea ex _ _ ih ih2 => exact .shareA ht hx hk ea ex ih ih2
  | shareB ht hx hk eb ex _ _ ih ih2 => exact .shareB ht hx hk eb ex ih ih2
theorem bv_Mk {ns : List Nd} (hp : poolF ns = true) {ks : List Int} {b : Nat} (hb : b < ns.length) : bv (mkUp ns ks ns.length) b = true ↔ Mk ns ks b := by rw [bv_mkUp hb]; exact mkv_Mk hp hb
theorem stepO_Der {ns : List Nd} (hp : poolF ns = true) {k0 ks out : List Int} (hd : ∀ t : Nat, (t : Int) ∈ ks → Der ns k0 t) (ho : ∀ t : Nat, (t : Int) ∈ out → Der ns k0 t) {x : Nat} (hx : x < ns.length) (hxk : (x : Int) ∈ ks) : ∀ t : Nat, (t : Int) ∈ stepO ns (mkUp ns ks ns.length) out x → Der ns k0 t := by
  intro t ht
  have dx := hd x hxk
  unfold stepO at ht
  split at ht
  · rename_i k
    rcases putF_mem.1 ht with e | ht
    · exact .right hx k e.symm dx
    · rcases putF_mem.1 ht with e | ht
      · exact .left hx k e.symm dx
      · exact ho t ht
  · split at ht
    · rename_i g
      rcases putF_mem.1 ht with e | ht
      · rcases g with g | ⟨g, g2⟩
        · exact .read hx g e.symm dx
        · obtain ⟨b, eb, hb⟩ := nodeB_nat hp hx (by rw [g]; rfl)
          rw [eb] at g2
          exact .opens hx g e.symm eb dx (Mk_Der hd ((bv_Mk hp (by omega)).1 g2))
      · exact ho t ht
    · exact ho t ht
theorem foldO_Der {ns : List Nd} (hp : poolF ns = true) {k0 ks : List Int} (hm : ∀ x ∈ ks, hasF ns.length x = true) (hd : ∀ t : Nat, (t : Int) ∈ ks → Der ns k0 t) : ∀ {xs out : List Int}, (∀ x ∈ xs, x ∈ ks) → (∀ t : Nat, (t : Int) ∈ out → Der ns k0 t) → ∀ t : Nat, (t : Int) ∈ xs.foldl (stepO ns (mkUp ns ks ns.length)) out → Der ns k0 t
  | [], out, _, ho => ho
  | x :: xs, out, hx, ho => by
    obtain ⟨j, rfl, hj⟩ := hasN (hm x (hx x (by simp)))
    exact foldO_Der hp hm hd (xs := xs) (fun y hy => hx y (by simp [hy])) (stepO_Der hp hd ho hj (hx _ (by simp)))
theorem onceV_Der {ns : List Nd} (hp : poolF ns = true) {k0 ks : List Int} (hm : ∀ x ∈ ks, hasF ns.length x = true) (hd : ∀ t : Nat, (t : Int) ∈ ks → Der ns k0 t) : ∀ t : Nat, (t : Int) ∈ onceV ns ks → Der ns k0 t := foldO_Der hp hm hd (fun x hx => hx) hd
theorem foldO_sub {ns : List Nd} {mk : List Bool} : ∀ {xs out : List Int} {x : Int}, x ∈ out → x ∈ xs.foldl (stepO ns mk) out
  | [], out, x, h => h
  | y :: ys, out, x, h => foldO_sub (xs := ys) (by
      unfold stepO
      split
      · exact putF_mem.2 (.inr (putF_mem.2 (.inr h)))
      · split
        · exact putF_mem.2 (.inr h)
        · exact h)
theorem onceV_sub {ns : List Nd} {ks : List Int} {x : Int} (h : x ∈ ks) : x ∈ onceV ns ks := foldO_sub h
/-- A pool in which opening stays within what may be known. -/
def Meek (ns : List Nd) : Prop := ns.length ≤ 200 ∨ ∀ n ∈ ns, n.k = 1 ∨ n.k = 5
theorem onceV_meek {ns : List Nd} (hm : Meek ns) {ks : List Int} (h : kpF ns ks = true) : (onceV ns ks).length ≤ 200 := by
  obtain ⟨h1, h2, h3, h4⟩ := kpF_iff.1 h
  rcases hm with g | g
  · exact Nat.le_trans (srt_len (onceV_srt h3) (onceV_mem h1 h2)) g
  · have e : ∀ x ∈ ks, ∀ out mk, stepO ns mk out x = out := fun x hx out mk => by
      obtain ⟨j, rfl, hj⟩ := hasN (h2 x hx)
      have := g _ (List.getElem_mem hj)
      rw [← nodeAt_nat hj] at this
      unfold stepO
      rw [if_neg (by omega), if_neg (by omega)]
    have e2 : ∀ (xs out : List Int) (mk : List Bool), (∀ x ∈ xs, x ∈ ks) → xs.foldl (stepO ns mk) out = out := fun xs => by
      induction xs with
      | nil => intro out mk _; rfl
      | cons y ys ih =>
        intro out mk hx
        rw [List.foldl_cons, e y (hx y (by simp))]
        exact ih out mk fun z hz => hx z (by simp [hz])
    unfold onceV
    rw [e2 ks ks _ fun x hx => hx]
    exact h4
/-- What is opened as a whole. -/
structure Opn (ns : List Nd) (k0 os : List Int) : Prop where
  kp : kpF ns os = true
  sub : ∀ x ∈ k0, x ∈ os
  der : ∀ t : Nat, (t : Int) ∈ os → Der ns k0 t
theorem allO_spec {ns : List Nd} (hm : Meek ns) {k0 : List Int} : ∀ (n : Nat) (out : List Int) (t : Nat), Opn ns k0 out → 201 ≤ out.length + n → Opn ns k0 (allO ns n out t).1 ∧ Shut ns (allO ns n out t).1 (allO ns n out t).1
  | 0, out, t, h, hn => by have := kpF_len h.kp; omega
  | n + 1, out, t, h, hn => by
    have hl := onceV_meek hm h.kp
    obtain ⟨h1, h2, h3, h4⟩ := kpF_iff.1 h.kp
    have hge := onceV_len ns out
    unfold allO
    split
    · rename_i g
      exact allO_spec hm n _ _ ⟨onceV_kp h.kp hl, fun x hx => onceV_sub (h.sub x hx), onceV_Der h1 h2 h.der⟩ (by omega)
    · rename_i g
      have e : (onceV ns out).length = out.length := Classical.byContradiction fun e => g ⟨hl, e⟩
      exact ⟨h, onceV_shut (Nat.le_of_eq e)⟩
theorem openV_spec {ns : List Nd} (hm : Meek ns) {ks : List Int} (h : kpF ns ks = true) : Opn ns ks (openV ns ks).1 ∧ Shut ns (openV ns ks).1 (openV ns ks).1 := allO_spec hm 201 ks 0 ⟨h, fun x hx => hx, fun t ht => .know ht⟩ (by omega)
/-- Where nothing more is opened, what can be derived can be made. -/
theorem Der_Mk {ns : List Nd} {k0 os : List Int} (O : Opn ns k0 os) (S : Shut ns os os) {t : Nat} (h : Der ns k0 t) : Mk ns os t := by
  obtain ⟨hp, hm, _, _⟩ := kpF_iff.1 O.kp
  induction h with
  | know h => exact .know (O.sub _ h)
  | pub ht hk h => exact .pub ht hk h
  | make1 ht hk ea _ ih => exact .make1 ht hk ea ih
  | make2 ht hk ea eb _ _ ih ih2 => exact .make2 ht hk ea eb ih ih2
  | shareA ht hx hk ea ex _ _ ih ih2 => exact .shareA ht hx hk ea ex ih ih2
  | shareB ht hx hk eb ex _ _ ih ih2 => exact .shareB ht hx hk eb ex ih ih2
  | @left t i hi hk ea h ih =>
    cases ih with
    | know h => exact .know (by rw [← ea]; exact ((S _ h).1 hk).1)
    | pub _ k _ => omega
    | make1 _ k _ _ => rw [hk] at k; simp [partsF] at k
    | make2 _ _ ea' _ h _ => rw [Int.ofNat_inj.1 (ea.symm.trans ea')]; exact h
    | shareA _ _ k _ _ _ _ => omega
    | shareB _ _ k _ _ _ _ => omega
  | @right t i hi hk eb h ih =>
    cases ih with
    | know h => exact .know (by rw [← eb]; exact ((S _ h).1 hk).2)
    | pub _ k _ => omega
    | make1 _ k _ _ => rw [hk] at k; simp [partsF] at k
    | make2 _ _ _ eb' _ h => rw [Int.ofNat_inj.1 (eb.symm.trans eb')]; exact h
    | shareA _ _ k _ _ _ _ => omega
    | shareB _ _ k _ _ _ _ => omega
  | @opens t i y hi hk ea eb h g ih ih2 =>
    cases ih with
    | know h =>
      have hy := nodeB_lt hp hi (by rw [hk]; rfl) eb
      exact .know (by rw [← ea]; exact (S _ h).2.2 hk (by rw [eb]; exact (bv_Mk hp (by omega)).2 ih2))
    | pub _ k _ => omega
    | make1 _ k _ _ => rw [hk] at k; simp [partsF] at k
    | make2 _ _ ea' _ h _ => rw [Int.ofNat_inj.1 (ea.symm.trans ea')]; exact h
    | shareA _ _ k _ _ _ _ => omega
    | shareB _ _ k _ _ _ _ => omega
  | @read t i hi hk ea h ih =>
    cases ih with
    | know h => exact .know (by rw [← ea]; exact (S _ h).2.1 hk)
    | pub _ k _ => omega
    | make1 _ k _ _ => rw [hk] at k; simp [partsF] at k
    | make2 _ _ ea' _ h _ => rw [Int.ofNat_inj.1 (ea.symm.trans ea')]; exact h
    | shareA _ _ k _ _ _ _ => omega
    | shareB _ _ k _ _ _ _ => omega
/-- What is listed as derived. -/
theorem derF_mem {ns : List Nd} (hm : Meek ns) {ks : List Int} (h : kpF ns ks = true) {x : Int} : x ∈ derF ns ks ↔ ∃ t : Nat, x = t ∧ t < ns.length ∧ Der ns ks t := by
  obtain ⟨O, S⟩ := openV_spec hm h
  unfold derF
  rw [if_pos h, mlistF_mem O.kp]
  constructor
  · rintro ⟨t, e, h1, h2⟩
    exact ⟨t, e, h1, Mk_Der O.der h2⟩
  · rintro ⟨t, e, h1, h2⟩
    exact ⟨t, e, h1, Der_Mk O S h2⟩
/-- There are as many steps as terms that can be derived. -/
theorem derF_steps {ns : List Nd} (hm : Meek ns) (ks : List Int) : (allSt ns ks).length = (derF ns ks).length ∧ ∀ i : Nat, i < (allSt ns ks).length → (spAt (allSt ns ks) i).t ∈ derF ns ks := by
  by_cases h : kpF ns ks = true
  · obtain ⟨h1, h2, h3, h4⟩ := kpF_iff.1 h
    obtain ⟨O, S⟩ := openV_spec hm h
    obtain ⟨st, e1, e2, e3, e4⟩ := allV_spec h1 h2
    rw [show allSt ns ks = allV ns ks from if_pos h]
    constructor
    · have hmk : mkUp ns (openV ns ks).1 ns.length = st.map fun x => decide (0 ≤ x) := by
        refine List.ext_getElem (by simp [mkUp_len, e1]) fun i hi hi' => ?_
        have hil : i < ns.length := by simpa [mkUp_len] using hi
        rw [mkUp_get, List.getElem_map]
        have k1 := mkv_Mk h1 (ks := (openV ns ks).1) hil
        have k2 := e3 i hil
        rw [sv_nat (by omega)] at k2
        rw [Bool.eq_iff_iff, k1, decide_eq_true_eq, k2]
        exact ⟨fun q => Mk_Der O.der q, fun q => Der_Mk O S q⟩
      have hd : (derF ns ks).length = st.countP fun x => decide (0 ≤ x) := by
        unfold derF
        rw [if_pos h]
        unfold mlistF makesF listF
        rw [if_pos O.kp, listGo_len, hmk, List.countP_map]
        rfl
      have hc : (st.countP fun x => decide (0 ≤ x)) + negs st = st.length := by
        rw [List.length_eq_countP_add_countP (p := fun x => decide (0 ≤ x)) (l := st)]
        congr 1
        unfold negs
        refine List.countP_congr fun x _ => ?_
        simp
      omega
    · intro i hi
      obtain ⟨t, et, htl, hd⟩ := proof_Der h1 (allV_inv ks h1).ok i hi
      rw [et]
      exact (derF_mem hm h).2 ⟨t, rfl, htl, hd⟩
  · simp [allSt, derF, h]
end Go.Proofs.YtcfgiffgahdlbaaGreat.C

set_option linter.unusedVariables false
set_option linter.unusedSimpArgs false
namespace Go.Proofs.YtcfgiffgahdlbaaGreat.C
theorem addF_one (ns : List Nd) (n : Nd) : (addF ns n).1.length ≤ ns.length + 1 := by
  rcases addF_cases ns n with h | h
  · rw [h]; omega
  · omega
theorem poolGo_len (bs : List Int) : ∀ (n : Nat) (ns : List Nd) (s : Cu), (poolGo bs n ns s).1.length ≤ ns.length + n
  | 0, ns, s => Nat.le_refl _
  | n + 1, ns, s => by
    have h1 := poolGo_len bs n (addF ns (nodeF bs s ns.length).1).1 (nodeF bs s ns.length).2
    have h2 := addF_one ns (nodeF bs s ns.length).1
    unfold poolGo
    omega
theorem poolD_len (bs : List Int) (s : Cu) : (poolD bs s 24).1.length ≤ 24 := by
  have h := poolGo_len bs (belowF bs s (24 + 1)).1.toNat [] (belowF bs s (24 + 1)).2
  have hi := belowF_in bs s (24 + 1)
  have := hi.2.1 (by omega)
  unfold poolD
  simp only [List.length_nil] at h
  omega
def K15 (ns : List Nd) : Prop := ∀ n ∈ ns, n.k = 1 ∨ n.k = 5
theorem K15_add {ns : List Nd} {n : Nd} (h : K15 ns) (hn : n.k = 1 ∨ n.k = 5) : K15 (addF ns n).1 := by
  unfold addF
  split
  · exact h
  · split
    · exact h
    · split
      · exact h
      · intro x hx
        rcases List.mem_append.1 hx with g | g
        · exact h x g
        · have : x = normN n := by simpa using g
          subst this
          have : (normN n).k = n.k := by unfold normN; split <;> simp_all
          rw [this]; exact hn
theorem K15_fill : ∀ (n : Nat) (ns : List Nd), K15 ns → K15 (fillF n ns)
  | 0, ns, h => h
  | n + 1, ns, h => by
    unfold fillF
    split
    · exact K15_fill n _ (K15_add (K15_add h (.inl rfl)) (.inr rfl))
    · exact h
theorem anyF_meek (bs : List Int) (s : Cu) : Meek (anyF bs s).1 := by
  have hp := poolD_len bs s
  unfold anyF anyEnd
  split
  · have h := fun n => K15_fill n [] (fun n hn => by simp at hn)
    dsimp only
    exact .inr (h 500)
  · left
    unfold anyMid
    split
    · simp; omega
    · split
      · simp; omega
      · simp only; omega
theorem d6_meek (bs : List Int) : Meek (d6 bs).1 := anyF_meek bs ⟨0, newH bs⟩
end Go.Proofs.YtcfgiffgahdlbaaGreat.C

set_option linter.unusedVariables false
set_option linter.unusedSimpArgs false
namespace Go.Proofs
open Go.Shelf
def Tryz.laysSort_ren : Go.Shelf.Ren := ⟨fun | 189 => 87 | 125 => 96 | 257 => 95 | 128 => 108 | 129 => 109 | 294 => 99 | 295 => 100 | 296 => 101 | 297 => 102 | 298 => 103 | 299 => 104 | 216 => 105 | 300 => 106 | 301 => 107 | 328 => 111 | 329 => 112 | 330 => 113 | 331 => 114 | 332 => 115 | 215 => 116 | 343 => 117 | n => n, fun | 28 => 27 | 3 => 3 | 46 => 106 | 0 => 0 | 51 => 130 | 53 => 132 | 4 => 4 | 183 => 122 | 182 => 121 | 131 => 127 | 5 => 5 | 9 => 9 | 218 => 134 | 222 => 138 | 228 => 140 | 229 => 141 | n => n, fun | n => n⟩
theorem Tryz.laysSort : Go.Proofs.Lays.n189 Tryz.prog Tryz.laysSort_ren := {
  mixed := by kernel_rfl
  f125 := Tryz.func96.trans (congrArg some (by kernel_rfl))
  f128 := Tryz.func108.trans (congrArg some (by kernel_rfl))
  f129 := Tryz.func109.trans (congrArg some (by kernel_rfl))
  f189 := Tryz.func87.trans (congrArg some (by kernel_rfl))
  f215 := Tryz.func116.trans (congrArg some (by kernel_rfl))
  f216 := Tryz.func105.trans (congrArg some (by kernel_rfl))
  f257 := Tryz.func95.trans (congrArg some (by kernel_rfl))
  f294 := Tryz.func99.trans (congrArg some (by kernel_rfl))
  f295 := Tryz.func100.trans (congrArg some (by kernel_rfl))
  f296 := Tryz.func101.trans (congrArg some (by kernel_rfl))
  f297 := Tryz.func102.trans (congrArg some (by kernel_rfl))
  f298 := Tryz.func103.trans (congrArg some (by kernel_rfl))
  f299 := Tryz.func104.trans (congrArg some (by kernel_rfl))
  f300 := Tryz.func106.trans (congrArg some (by kernel_rfl))
  f301 := Tryz.func107.trans (congrArg some (by kernel_rfl))
  f328 := Tryz.func111.trans (congrArg some (by kernel_rfl))
  f329 := Tryz.func112.trans (congrArg some (by kernel_rfl))
  f330 := Tryz.func113.trans (congrArg some (by kernel_rfl))
  f331 := Tryz.func114.trans (congrArg some (by kernel_rfl))
  f332 := Tryz.func115.trans (congrArg some (by kernel_rfl))
  f343 := Tryz.func117.trans (congrArg some (by kernel_rfl))
  t0 := Tryz.underlying0
  a0 := Tryz.isAgg0
  z0 := Tryz.sizeOf0
  v0 := Tryz.zeroValue0
  t3 := Tryz.underlying3
  a3 := Tryz.isAgg3
  z3 := Tryz.sizeOf3
  v3 := Tryz.zeroValue3
  t4 := Tryz.underlying4
  a4 := Tryz.isAgg4
  z4 := Tryz.sizeOf4
  v4 := Tryz.zeroValue4
  t5 := Tryz.underlying5
  a5 := Tryz.isAgg5
  z5 := Tryz.sizeOf5
  v5 := Tryz.zeroValue5
  t9 := Tryz.underlying9
  a9 := Tryz.isAgg9
  z9 := Tryz.sizeOf9
  v9 := Tryz.zeroValue9
  t28 := Tryz.underlying27
  a28 := Tryz.isAgg27
  z28 := Tryz.sizeOf27
  v28 := Tryz.zeroValue27
  t46 := Tryz.underlying106
  a46 := Tryz.isAgg106
  z46 := Tryz.sizeOf106
  v46 := Tryz.zeroValue106
  t51 := Tryz.underlying130
  a51 := Tryz.isAgg130
  z51 := Tryz.sizeOf130
  v51 := Tryz.zeroValue130
  t53 := Tryz.underlying132
  a53 := Tryz.isAgg132
  z53 := Tryz.sizeOf132
  v53 := Tryz.zeroValue132
  t131 := Tryz.underlying127
  a131 := Tryz.isAgg127
  z131 := Tryz.sizeOf127
  v131 := Tryz.zeroValue127
  t182 := Tryz.underlying121
  a182 := Tryz.isAgg121
  z182 := Tryz.sizeOf121
  v182 := Tryz.zeroValue121
  t183 := Tryz.underlying122
  a183 := Tryz.isAgg122
  z183 := Tryz.sizeOf122
  v183 := Tryz.zeroValue122
  t218 := Tryz.underlying134
  a218 := Tryz.isAgg134
  z218 := Tryz.sizeOf134
  v218 := Tryz.zeroValue134
  t222 := Tryz.underlying138
  a222 := Tryz.isAgg138
  z222 := Tryz.sizeOf138
  v222 := Tryz.zeroValue138
  t228 := Tryz.underlying140
  a228 := Tryz.isAgg140
  z228 := Tryz.sizeOf140
  v228 := Tryz.zeroValue140
  t229 := Tryz.underlying141
  a229 := Tryz.isAgg141
  z229 := Tryz.sizeOf141
  v229 := Tryz.zeroValue141 }
def Tryz.laysCompact_ren : Go.Shelf.Ren := ⟨fun | 20 => 89 | n => n, fun | 22 => 27 | 3 => 3 | 4 => 4 | 0 => 0 | n => n, fun | n => n⟩
theorem Tryz.laysCompact : Go.Proofs.Lays2.n20 Tryz.prog Tryz.laysCompact_ren := {
  mixed := by kernel_rfl
  f20 := Tryz.func89.trans (congrArg some (by kernel_rfl))
  t0 := Tryz.underlying0
  a0 := Tryz.isAgg0
  z0 := Tryz.sizeOf0
  v0 := Tryz.zeroValue0
  t3 := Tryz.underlying3
  a3 := Tryz.isAgg3
  z3 := Tryz.sizeOf3
  v3 := Tryz.zeroValue3
  t4 := Tryz.underlying4
  a4 := Tryz.isAgg4
  z4 := Tryz.sizeOf4
  v4 := Tryz.zeroValue4
  t22 := Tryz.underlying27
  a22 := Tryz.isAgg27
  z22 := Tryz.sizeOf27
  v22 := Tryz.zeroValue27
  i3 := by kernel_rfl }
end Go.Proofs
namespace Go.Proofs.YtcfgiffgahdlbaaGreat.C
open Go.Sym Go.Proofs.YtcfgiffgahdlbaaGreat.I
def sortI (xs : List Int) : List Int := xs.mergeSort fun x y => decide (x ≤ y)
theorem sortI_len (xs : List Int) : (sortI xs).length = xs.length := List.length_mergeSort xs
theorem sortI_mem {xs : List Int} {x : Int} : x ∈ sortI xs ↔ x ∈ xs := (List.mergeSort_perm xs _).mem_iff
theorem sortI_le (xs : List Int) : (sortI xs).Pairwise (· ≤ ·) := by
  have := List.pairwise_mergeSort (le := fun x y : Int => decide (x ≤ y)) (fun a b c h g => by simp only [decide_eq_true_eq] at *; omega) (fun a b => by simp only [Bool.or_eq_true, decide_eq_true_eq]; omega) xs
  exact this.imp fun h => by simpa using h
theorem set_same {H : List Blk} {b : Nat} {k : Blk} (h : H[b]? = some k) : H.set b k = H := by
  refine List.ext_getElem? fun q => ?_
  rcases Nat.decEq b q with e | e
  · rw [List.getElem?_set_ne e]
  · subst e
    have hl : b < H.length := by
      rcases Nat.lt_or_ge b H.length with g | g
      · exact g
      · rw [List.getElem?_eq_none g] at h; cases h
    rw [List.getElem?_set_self hl, h]
theorem sort_t {H : List Blk} {b v : Nat} {ro : Bool} {xs : List Int} (hk : H[b]? = some ⟨v, ro, 1, ints xs, none⟩) (hro : ro = true → xs = []) (hsz : xs.length < 4611686018427387904) :
    T 87 [.ref b v 0 xs.length] H (.tup []) (H.set b ⟨v, ro, 1, ints (sortI xs), none⟩) := by
  by_cases hne : xs = []
  · subst hne
    have e : H.set b ⟨v, ro, 1, ints (sortI []), none⟩ = H := by
      rw [show sortI [] = [] by simp [sortI]]
      exact set_same hk
    rw [e]
    exact semT_row0 fun a cap w => Any.slices_Sort_int_none Tryz.laysSort a cap w
  · have hro' : ro = false := by cases ro with | false => rfl | true => exact absurd (hro rfl) hne
    subst hro'
    exact semT_row (ys := sortI xs) hk rfl rfl rfl rfl (sortI_len xs) hne fun B off cap w hH hB => Any.slices_Sort_int Tryz.laysSort B off cap xs w hH hB hsz
def cmp (xs : List Int) : List Int := Lib.compact xs
theorem cmp_le (xs : List Int) : (cmp xs).length ≤ xs.length := Lib.compact_length_le xs
theorem compact_t {H : List Blk} {b v : Nat} {ro : Bool} {xs : List Int} (hk : H[b]? = some ⟨v, ro, 1, ints xs, none⟩) (hro : ro = true → xs = []) (hsz : xs.length ≤ 9223372036854775807) :
    T 89 [.ref b v 0 xs.length] H (.ref b v 0 (cmp xs).length) (H.set b ⟨v, ro, 1, ints (cmp xs ++ List.replicate (xs.length - (cmp xs).length) 0), none⟩) := by
  have hle := cmp_le xs
  by_cases hne : xs = []
  · subst hne
    have e : H.set b ⟨v, ro, 1, ints (cmp [] ++ List.replicate (([] : List Int).length - (cmp []).length) 0), none⟩ = H := set_same hk
    rw [e]
    exact semT_cut0 fun a cap w => Any.slices_Compact_int_empty Tryz.laysCompact a cap w
  · have hro' : ro = false := by cases ro with | false => rfl | true => exact absurd (hro rfl) hne
    subst hro'
    exact semT_cut (ys := cmp xs ++ List.replicate (xs.length - (cmp xs).length) 0) hk rfl rfl rfl rfl (by simp; omega) hne hle fun B off cap w hH hB hcap => Any.slices_Compact_int Tryz.laysCompact B off cap xs w hH hsz hcap
/-! ### What sorting and compacting come to -/
theorem cmp_spec {d : Array Int} (hd : d.toList.Pairwise (· ≤ ·)) : ∀ m : Nat, m ≤ d.size → Srt (Lib.compactUpTo d m) ∧ (∀ x : Int, x ∈ Lib.compactUpTo d m ↔ ∃ j : Nat, j < m ∧ d[j]! = x)
  | 0, _ => by simp [Lib.compactUpTo]
  | m + 1, hm' => by
    obtain ⟨h1, h2⟩ := cmp_spec hd m (by omega)
    have hle : ∀ i j : Nat, i < j → j < d.size → d[i]! ≤ d[j]! := fun i j hij hj => by
      have := List.pairwise_iff_getElem.1 hd i j (by simp; omega) (by simpa using hj) hij
      simpa [getElem!_pos, hj, show i < d.size by omega] using this
    rw [Lib.compactUpTo_succ]
    cases hk : Lib.keeps d m with
    | true =>
      simp only [if_true]
      constructor
      · refine List.pairwise_append.2 ⟨h1, by simp, fun x hx y hy => ?_⟩
        obtain ⟨j, hj, rfl⟩ := (h2 x).1 hx
        obtain rfl : y = d[m]! := by simpa using hy
        have a1 := hle j m hj (by omega)
        simp only [Lib.keeps, decide_eq_true_eq] at hk
        have a2 := hk.resolve_left (by omega)
        rcases Nat.lt_or_ge j (m - 1) with g | g
        · have a3 := hle j (m - 1) g (by omega)
          have a4 := hle (m - 1) m (by omega) (by omega)
          omega
        · have : j = m - 1 := by omega
          subst this
          omega
      · intro x
        rw [List.mem_append, h2]
        constructor
        · rintro (⟨j, hj, e⟩ | h)
          · exact ⟨j, by omega, e⟩
          · exact ⟨m, by omega, by simpa using (List.mem_singleton.1 h).symm⟩
        · rintro ⟨j, hj, e⟩
          rcases Nat.lt_or_ge j m with g | g
          · exact .inl ⟨j, g, e⟩
          · have : j = m := by omega
            subst this
            exact .inr (by simp [e])
    | false =>
      simp only [Bool.false_eq_true, if_false, List.append_nil]
      refine ⟨h1, fun x => ?_⟩
      rw [h2]
      constructor
      · rintro ⟨j, hj, e⟩
        exact ⟨j, by omega, e⟩
      · rintro ⟨j, hj, e⟩
        rcases Nat.lt_or_ge j m with g | g
        · exact ⟨j, g, e⟩
        · have : j = m := by omega
          subst this
          simp only [Lib.keeps, decide_eq_false_iff_not, not_or, Classical.not_not] at hk
          exact ⟨j - 1, by omega, by rw [← hk.2]; exact e⟩
/-- Sorted and compacted: the same numbers, each once, in order. -/
theorem sqz_spec (xs : List Int) : Srt (cmp (sortI xs)) ∧ ∀ x : Int, x ∈ cmp (sortI xs) ↔ x ∈ xs := by
  have h := cmp_spec (d := (sortI xs).toArray) (by simpa using sortI_le xs) (sortI xs).length (by simp)
  refine ⟨h.1, fun x => ?_⟩
  rw [← sortI_mem (xs := xs)]
  refine (h.2 x).trans ?_
  constructor
  · rintro ⟨j, hj, e⟩
    rw [← e]
    simp [hj]
  · intro hx
    obtain ⟨j, hj, e⟩ := List.getElem_of_mem hx
    exact ⟨j, hj, by simp [hj, e]⟩
theorem srt_ext : ∀ {xs ys : List Int}, Srt xs → Srt ys → (∀ x, x ∈ xs ↔ x ∈ ys) → xs = ys
  | [], [], _, _, _ => rfl
  | [], y :: ys, _, _, h => absurd ((h y).2 (by simp)) (by simp)
  | x :: xs, [], _, _, h => absurd ((h x).1 (by simp)) (by simp)
  | x :: xs, y :: ys, hx, hy, h => by
    obtain ⟨x1, x2⟩ := List.pairwise_cons.1 hx
    obtain ⟨y1, y2⟩ := List.pairwise_cons.1 hy
    have e : x = y := by
      rcases List.mem_cons.1 ((h x).1 (by simp)) with e | e
      · exact e
      · rcases List.mem_cons.1 ((h y).2 (by simp)) with g | g
        · exact g.symm
        · have := y1 x e; have := x1 y g; omega
    subst e
    congr 1
    refine srt_ext x2 y2 fun z => ⟨fun hz => ?_, fun hz => ?_⟩
    · rcases List.mem_cons.1 ((h z).1 (by simp [hz])) with e | e
      · have := x1 z hz; omega
      · exact e
    · rcases List.mem_cons.1 ((h z).2 (by simp [hz])) with e | e
      · have := y1 z hz; omega
      · exact e
end Go.Proofs.YtcfgiffgahdlbaaGreat.C
