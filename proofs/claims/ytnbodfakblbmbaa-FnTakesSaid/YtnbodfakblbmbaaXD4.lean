/- What drawing links answers. Conditions: those that each theorem names. -/
import Derived.Test.YtnbodfakblbmbaaXD3
set_option linter.unusedVariables false
set_option linter.unusedSimpArgs false
set_option maxRecDepth 40000
namespace Go.Proofs.Ytnbodfakblbmbaa.C
open Go.Sym Go.Proofs.Ytnbodfakblbmbaa.I
def hashS (h x : Int) : Int := IntKind.i64.wrap ((IntKind.i64.wrap (IntKind.i64.wrap (IntKind.i64.wrap (h * 131) + IntKind.i64.wrap x) + 7) % 2 ^ IntKind.i64.bits).toNat &&& 1073741823 % 2 ^ IntKind.i64.bits : Nat)
def hashGo (bs : List Int) : Nat → Nat → Int → Int
  | 0, _, h => h
  | n + 1, j, h => if j < bs.length ∧ j < 4000 then hashGo bs n (j + 1) (hashS h (bs.getD j 0)) else h
def newH (bs : List Int) : Int := hashGo bs (bs.length + 1) 0 (IntKind.i64.wrap (12241 + (bs.length : Int)))
abbrev curB (bs : List Int) (s : Cu) : Blk := ⟨0, false, 1, [aB bs, i6 s.i, i6 s.h], none⟩
theorem spec_l1New_c (bs : List Int) (hb : bs.length < 9223372036854775807) : T 90 [aB bs] [] (.ptr 0 0 0) ([curB bs ⟨0, newH bs⟩]) := by
  refine semT' (S := S0) hm spec_l1New_ok (Nat.le_of_ble_eq_true rfl) ?_
  unfold spec_l1New; dsimp only
  simp
  refine WLoop_fam (fun p : Nat × Int => [(0, aB bs), (3, i6 p.2), (4, i6 p.1)]) (fun _ => []) (fun p => bs.length - p.1)
    (fun p => p.1 ≤ bs.length ∧ newH bs = hashGo bs (bs.length + 1 - p.1) p.1 p.2) ?_ (0, IntKind.i64.wrap (12241 + (bs.length : Int))) ⟨Nat.zero_le _, rfl⟩
  rintro ⟨j, h'⟩ ⟨hj, hf⟩ ih
  simp only at hj hf
  obtain ⟨k, hk⟩ : ∃ k, bs.length + 1 - j = k + 1 := ⟨bs.length - j, by omega⟩
  rw [hk] at hf
  simp
  refine br_intro' (fun h => ?_) (fun h => ?_) <;> (have h0 := h) <;> (try simp at h) <;> try simp [h0, h]
  · have h9 := h
    have hw : IntKind.i64.wrap ((j : Int) + 1) = j + 1 := wrap64 (by omega) (by omega)
    refine br_intro' (fun g => ?_) (fun g => ?_) <;> simp at g <;> simp [g]
    · simp [h9]
      rw [hw]
      refine ih (j + 1, hashS h' bs[j]) ⟨h9, ?_⟩ (by simp; omega)
      have hk2 : bs.length + 1 - (j + 1) = k := by omega
      simp only [hk2]
      rw [hf, hashGo, if_pos ⟨h9, by omega⟩]
      simp [h9]
    · have e : newH bs = h' := by rw [hf, hashGo, if_neg (by omega)]
      rw [e]
      exact LeV.refl _ _ _
  · have e : newH bs = h' := by rw [hf, hashGo, if_neg (by omega)]
    rw [e]
    exact LeV.refl _ _ _
theorem spec_l1New_k {bs : List Int} (hb : bs.length < 9223372036854775807) {S : FuncId → Bool} {H : List Blk} {K : A → Dl → Prop} {zs : List A} (hS : S 90 = false) (hv : viewL (viewA 8 H) zs = some [aB bs]) (ho : noOwns zs = true ∨ nosl (.ptr 0 0 0) = true ∧ noslBlks ([curB bs ⟨0, newH bs⟩]) = true) (hK : K (shiftA H.length (.ptr 0 0 0)) (.news (([curB bs ⟨0, newH bs⟩]).map (shiftB H.length)))) : @WCall' Go.Proofs.Try.prog S 90 zs H ⟨K⟩ :=
  WCall_ro' hS hv (spec_l1New_c bs hb) rfl ho hK
/-- What is drawn for a link: a pool, a link and a term. -/
def seqF (bs : List Int) (s : Cu) (x : Int) : Int × Cu := if (onceF bs s 12).1 then pickF bs (onceF bs s 12).2 [-1, 19, 20, 21] else (x, (onceF bs s 12).2)
structure Dr where
  pool : List Nd
  link : Lk
  term : Int
def drF5 (bs : List Int) (p : List Nd) (l : Lk) (t : Int) (s : Cu) : Dr :=
  if (onceF bs s 12).1 = true ∧ poolF p = true then ⟨(addF p ⟨1, 8, 0⟩).1, l, (addF p ⟨1, 8, 0⟩).2⟩ else ⟨p, l, t⟩
def drF4 (bs : List Int) (p : List Nd) (l : Lk) (t : Int × Cu) : Dr := drF5 bs p l t.1 t.2
def drF3b (bs : List Int) (p : List Nd) (k : Int) (o : Bool) (q : Int) (e : Int × Cu) : Dr := drF4 bs p ⟨k, e.1, q, o⟩ (termF bs e.2 p.length)
def drF3 (bs : List Int) (p : List Nd) (k e : Int) (o : Bool) (q : Int × Cu) : Dr := drF3b bs p k o q.1 (seqF bs q.2 e)
def drF2c (bs : List Int) (p : List Nd) (k e q : Int) (o : Bool × Cu) : Dr := drF3 bs p k e o.1 (seqF bs o.2 q)
def drF2b (bs : List Int) (p : List Nd) (k e : Int) (q : Int × Cu) : Dr := drF2c bs p k e q.1 (onceF bs q.2 9)
def drF2a (bs : List Int) (p : List Nd) (k : Int) (e : Int × Cu) : Dr := drF2b bs p k e.1 (belowF bs e.2 4)
def drF2 (bs : List Int) (p : List Nd) (k : Int × Cu) : Dr := drF2a bs p k.1 (belowF bs k.2 3)
def drF1 (bs : List Int) (a : List Nd × Cu) : Dr := drF2 bs a.1 (termF bs a.2 a.1.length)
def drF (bs : List Int) : Dr := drF1 bs (anyF bs ⟨0, newH bs⟩)
theorem cur_callR {f : FuncId} {S : FuncId → Bool} {G : List Blk} {K : A → Dl → Prop} (hS : S f = true) (cb : Nat) (bs : List Int) (s s' : Cu) {zs : List A} {r : A} (hG : G[cb]? = some (curB bs s))
    (hf : T f zs (cur G cb bs s) r (cur G cb bs s')) (hK : K r (.full [cb] (cur G cb bs s'))) : @WCall' Go.Proofs.Try.prog S f zs G ⟨K⟩ := cur_call hS cb bs s s' (by
      apply List.ext_getElem?
      intro i
      by_cases e : cb = i
      · subst e
        rw [hG]
        simp only [cur]
        rw [List.getElem?_set_self (List.getElem?_eq_some_iff.1 hG).1]
      · simp only [cur]
        rw [List.getElem?_set_ne e]) hf hK
theorem spec_l18Draw_c (bs : List Int) (hb : bs.length < 9223372036854775807) : T 82 [aB bs] [] (.tup [aP (drF bs).pool, aL (drF bs).link, i6 (drF bs).term]) ([]) := by
  refine semT' (S := (fun f => [123, 94, 91, 120, 134, 133, 132, 118, 119].contains f)) hm spec_l18Draw_ok (Nat.le_of_ble_eq_true rfl) ?_
  unfold spec_l18Draw; dsimp only
  simp
  refine spec_l1New_k (bs := bs) hb rfl (by simp) (by simp [noslBlks]) ?_; simp [shiftB]
  refine cur_callR rfl 2 bs ⟨0, newH bs⟩ _ rfl (spec_l1DrawAny_m _ 2 bs _ (by simp) hb (by simp)) ?_; simp [cur]
  rw [show drF bs = drF1 bs (anyF bs ⟨0, newH bs⟩) from rfl]
  have hal := anyF_len bs ⟨0, newH bs⟩
  generalize anyF bs ⟨0, newH bs⟩ = a at hal ⊢
  refine cur_callR rfl 2 bs _ _ rfl (spec_l1DrawTerm_m _ 2 bs _ a.1 (by simp) hb (by simp) (by omega)) ?_; simp [cur]
  rw [show drF1 bs a = drF2 bs a.1 (termF bs a.2 a.1.length) from rfl]
  generalize termF bs a.2 a.1.length = k
  refine cur_callR rfl 2 bs _ _ rfl (spec_l1Below_m _ 2 bs _ 3 (by simp) hb) ?_; simp [cur]
  rw [show drF2 bs a.1 k = drF2a bs a.1 k.1 (belowF bs k.2 3) from rfl]
  generalize belowF bs k.2 3 = e
  refine cur_callR rfl 2 bs _ _ rfl (spec_l1Below_m _ 2 bs _ 4 (by simp) hb) ?_; simp [cur]
  rw [show drF2a bs a.1 k.1 e = drF2b bs a.1 k.1 e.1 (belowF bs e.2 4) from rfl]
  generalize belowF bs e.2 4 = q
  refine cur_callR rfl 2 bs _ _ rfl (spec_l1Once_m _ 2 bs _ 9 (by simp) hb) ?_; simp [cur]
  rw [show drF2b bs a.1 k.1 e.1 q = drF2c bs a.1 k.1 e.1 q.1 (onceF bs q.2 9) from rfl]
  generalize onceF bs q.2 9 = o
  rw [show drF2c bs a.1 k.1 e.1 q.1 o = drF3 bs a.1 k.1 e.1 o.1 (seqF bs o.2 q.1) from rfl]
  rw [show ∀ x, drF3 bs a.1 k.1 e.1 o.1 x = drF3b bs a.1 k.1 o.1 x.1 (seqF bs x.2 e.1) from fun _ => rfl]
  refine cur_callR rfl 2 bs _ _ rfl (spec_l1Once_m _ 2 bs _ 12 (by simp) hb) ?_; simp [cur]
  refine br_intro' (fun g => ?_) (fun g => ?_) <;> simp [g]
  · refine cur_callR rfl 2 bs _ _ rfl (spec_l1PickInt_m _ 2 bs _ 5 0 [-1, 19, 20, 21] (by simp) hb (by simp) (by simp) (by simp [ints]) (by simp)) ?_; simp [cur]
    rw [show seqF bs o.2 q.1 = pickF bs (onceF bs o.2 12).2 [-1, 19, 20, 21] from if_pos g]
    generalize pickF bs (onceF bs o.2 12).2 [-1, 19, 20, 21] = u
    refine cur_callR rfl 2 bs _ _ rfl (spec_l1Once_m _ 2 bs _ 12 (by simp) hb) ?_; simp [cur]
    refine br_intro' (fun g1 => ?_) (fun g1 => ?_) <;> simp [g1]
    · refine cur_callR rfl 2 bs _ _ rfl (spec_l1PickInt_m _ 2 bs _ 6 0 [-1, 19, 20, 21] (by simp) hb (by simp) (by simp) (by simp [ints]) (by simp)) ?_; simp [cur]
      rw [show seqF bs u.2 e.1 = pickF bs (onceF bs u.2 12).2 [-1, 19, 20, 21] from if_pos g1]
      generalize pickF bs (onceF bs u.2 12).2 [-1, 19, 20, 21] = v
      rw [show ∀ q e, drF3b bs a.1 k.1 o.1 q e = drF4 bs a.1 ⟨k.1, e.1, q, o.1⟩ (termF bs e.2 a.1.length) from fun _ _ => rfl]
      refine cur_callR rfl 2 bs _ _ rfl (spec_l1DrawTerm_m _ 2 bs _ a.1 (by simp) hb (by simp) (by omega)) ?_; simp [cur]
      generalize termF bs _ a.1.length = t
      rw [show ∀ l, drF4 bs a.1 l t = drF5 bs a.1 l t.1 t.2 from fun _ => rfl]
      refine cur_callR rfl 2 bs _ _ rfl (spec_l1Once_m _ 2 bs _ 12 (by simp) hb) ?_; simp [cur]
      have e5 : ∀ l, drF5 bs a.1 l t.1 t.2 = if (onceF bs t.2 12).1 = true ∧ poolF a.1 = true then ⟨(addF a.1 ⟨1, 8, 0⟩).1, l, (addF a.1 ⟨1, 8, 0⟩).2⟩ else ⟨a.1, l, t.1⟩ := fun _ => rfl
      rw [e5]
      generalize onceF bs t.2 12 = w
      refine br_intro' (fun f => ?_) (fun f => ?_) <;> simp [f]
      · refine spec_PoolOk_k (ns := a.1) rfl (by simp) (by simp [noslBlks]) ?_; simp [shiftB]
        refine br_intro' (fun f1 => ?_) (fun f1 => ?_) <;> simp [f1]
        · refine spec_l2Name_k (ns := a.1) (x := 8) f1 rfl (by simp) (by simp) ?_; simp
          first | (refine ck_intro' (by kernel_rfl) ?_; try simp) | skip
          exact LeV.ro rfl rfl (by simp [f, f1])
        · first | (refine ck_intro' (by kernel_rfl) ?_; try simp) | skip
          exact LeV.ro rfl rfl (by simp [f, f1])
      · first | (refine ck_intro' (by kernel_rfl) ?_; try simp) | skip
        exact LeV.ro rfl rfl (by simp [f])
    · rw [show seqF bs u.2 e.1 = (e.1, (onceF bs u.2 12).2) from if_neg (by simp [g1])]
      generalize onceF bs u.2 12 = v at g1 ⊢
      rw [show ∀ q e, drF3b bs a.1 k.1 o.1 q e = drF4 bs a.1 ⟨k.1, e.1, q, o.1⟩ (termF bs e.2 a.1.length) from fun _ _ => rfl]
      refine cur_callR rfl 2 bs _ _ rfl (spec_l1DrawTerm_m _ 2 bs _ a.1 (by simp) hb (by simp) (by omega)) ?_; simp [cur]
      generalize termF bs _ a.1.length = t
      rw [show ∀ l, drF4 bs a.1 l t = drF5 bs a.1 l t.1 t.2 from fun _ => rfl]
      refine cur_callR rfl 2 bs _ _ rfl (spec_l1Once_m _ 2 bs _ 12 (by simp) hb) ?_; simp [cur]
      have e5 : ∀ l, drF5 bs a.1 l t.1 t.2 = if (onceF bs t.2 12).1 = true ∧ poolF a.1 = true then ⟨(addF a.1 ⟨1, 8, 0⟩).1, l, (addF a.1 ⟨1, 8, 0⟩).2⟩ else ⟨a.1, l, t.1⟩ := fun _ => rfl
      rw [e5]
      generalize onceF bs t.2 12 = w
      refine br_intro' (fun f => ?_) (fun f => ?_) <;> simp [f]
      · refine spec_PoolOk_k (ns := a.1) rfl (by simp) (by simp [noslBlks]) ?_; simp [shiftB]
        refine br_intro' (fun f1 => ?_) (fun f1 => ?_) <;> simp [f1]
        · refine spec_l2Name_k (ns := a.1) (x := 8) f1 rfl (by simp) (by simp) ?_; simp
          first | (refine ck_intro' (by kernel_rfl) ?_; try simp) | skip
          exact LeV.ro rfl rfl (by simp [f, f1])
        · first | (refine ck_intro' (by kernel_rfl) ?_; try simp) | skip
          exact LeV.ro rfl rfl (by simp [f, f1])
      · first | (refine ck_intro' (by kernel_rfl) ?_; try simp) | skip
        exact LeV.ro rfl rfl (by simp [f])
  · rw [show seqF bs o.2 q.1 = (q.1, (onceF bs o.2 12).2) from if_neg (by simp [g])]
    generalize onceF bs o.2 12 = u at g ⊢
    refine cur_callR rfl 2 bs _ _ rfl (spec_l1Once_m _ 2 bs _ 12 (by simp) hb) ?_; simp [cur]
    refine br_intro' (fun g1 => ?_) (fun g1 => ?_) <;> simp [g1]
    · refine cur_callR rfl 2 bs _ _ rfl (spec_l1PickInt_m _ 2 bs _ 5 0 [-1, 19, 20, 21] (by simp) hb (by simp) (by simp) (by simp [ints]) (by simp)) ?_; simp [cur]
      rw [show seqF bs u.2 e.1 = pickF bs (onceF bs u.2 12).2 [-1, 19, 20, 21] from if_pos g1]
      generalize pickF bs (onceF bs u.2 12).2 [-1, 19, 20, 21] = v
      rw [show ∀ q e, drF3b bs a.1 k.1 o.1 q e = drF4 bs a.1 ⟨k.1, e.1, q, o.1⟩ (termF bs e.2 a.1.length) from fun _ _ => rfl]
      refine cur_callR rfl 2 bs _ _ rfl (spec_l1DrawTerm_m _ 2 bs _ a.1 (by simp) hb (by simp) (by omega)) ?_; simp [cur]
      generalize termF bs _ a.1.length = t
      rw [show ∀ l, drF4 bs a.1 l t = drF5 bs a.1 l t.1 t.2 from fun _ => rfl]
      refine cur_callR rfl 2 bs _ _ rfl (spec_l1Once_m _ 2 bs _ 12 (by simp) hb) ?_; simp [cur]
      have e5 : ∀ l, drF5 bs a.1 l t.1 t.2 = if (onceF bs t.2 12).1 = true ∧ poolF a.1 = true then ⟨(addF a.1 ⟨1, 8, 0⟩).1, l, (addF a.1 ⟨1, 8, 0⟩).2⟩ else ⟨a.1, l, t.1⟩ := fun _ => rfl
      rw [e5]
      generalize onceF bs t.2 12 = w
      refine br_intro' (fun f => ?_) (fun f => ?_) <;> simp [f]
      · refine spec_PoolOk_k (ns := a.1) rfl (by simp) (by simp [noslBlks]) ?_; simp [shiftB]
        refine br_intro' (fun f1 => ?_) (fun f1 => ?_) <;> simp [f1]
        · refine spec_l2Name_k (ns := a.1) (x := 8) f1 rfl (by simp) (by simp) ?_; simp
          first | (refine ck_intro' (by kernel_rfl) ?_; try simp) | skip
          exact LeV.ro rfl rfl (by simp [f, f1])
        · first | (refine ck_intro' (by kernel_rfl) ?_; try simp) | skip
          exact LeV.ro rfl rfl (by simp [f, f1])
      · first | (refine ck_intro' (by kernel_rfl) ?_; try simp) | skip
        exact LeV.ro rfl rfl (by simp [f])
    · rw [show seqF bs u.2 e.1 = (e.1, (onceF bs u.2 12).2) from if_neg (by simp [g1])]
      generalize onceF bs u.2 12 = v at g1 ⊢
      rw [show ∀ q e, drF3b bs a.1 k.1 o.1 q e = drF4 bs a.1 ⟨k.1, e.1, q, o.1⟩ (termF bs e.2 a.1.length) from fun _ _ => rfl]
      refine cur_callR rfl 2 bs _ _ rfl (spec_l1DrawTerm_m _ 2 bs _ a.1 (by simp) hb (by simp) (by omega)) ?_; simp [cur]
      generalize termF bs _ a.1.length = t
      rw [show ∀ l, drF4 bs a.1 l t = drF5 bs a.1 l t.1 t.2 from fun _ => rfl]
      refine cur_callR rfl 2 bs _ _ rfl (spec_l1Once_m _ 2 bs _ 12 (by simp) hb) ?_; simp [cur]
      have e5 : ∀ l, drF5 bs a.1 l t.1 t.2 = if (onceF bs t.2 12).1 = true ∧ poolF a.1 = true then ⟨(addF a.1 ⟨1, 8, 0⟩).1, l, (addF a.1 ⟨1, 8, 0⟩).2⟩ else ⟨a.1, l, t.1⟩ := fun _ => rfl
      rw [e5]
      generalize onceF bs t.2 12 = w
      refine br_intro' (fun f => ?_) (fun f => ?_) <;> simp [f]
      · refine spec_PoolOk_k (ns := a.1) rfl (by simp) (by simp [noslBlks]) ?_; simp [shiftB]
        refine br_intro' (fun f1 => ?_) (fun f1 => ?_) <;> simp [f1]
        · refine spec_l2Name_k (ns := a.1) (x := 8) f1 rfl (by simp) (by simp) ?_; simp
          first | (refine ck_intro' (by kernel_rfl) ?_; try simp) | skip
          exact LeV.ro rfl rfl (by simp [f, f1])
        · first | (refine ck_intro' (by kernel_rfl) ?_; try simp) | skip
          exact LeV.ro rfl rfl (by simp [f, f1])
      · first | (refine ck_intro' (by kernel_rfl) ?_; try simp) | skip
        exact LeV.ro rfl rfl (by simp [f])
theorem spec_l18Draw_call {bs : List Int} (hb : bs.length < 9223372036854775807) {S : FuncId → Bool} {H : List Blk} {K : A → Dl → Prop} (hS : S 82 = false) (hK : K (.tup [aP (drF bs).pool, aL (drF bs).link, i6 (drF bs).term]) (.news [])) : @WCall' Go.Proofs.Try.prog S 82 [aB bs] H ⟨K⟩ :=
  WCall_pure hS (spec_l18Draw_c bs hb) (by simp) (by simp) (by simp) hK
theorem spec_l18Draw_k {bs : List Int} (hb : bs.length < 9223372036854775807) {S : FuncId → Bool} {H : List Blk} {K : A → Dl → Prop} {zs : List A} (hS : S 82 = false) (hv : viewL (viewA 8 H) zs = some [aB bs]) (ho : noOwns zs = true ∨ nosl (.tup [aP (drF bs).pool, aL (drF bs).link, i6 (drF bs).term]) = true) (hK : K (.tup [aP (drF bs).pool, aL (drF bs).link, i6 (drF bs).term]) (.news [])) : @WCall' Go.Proofs.Try.prog S 82 zs H ⟨K⟩ :=
  WCall_pure hS (spec_l18Draw_c bs hb) hv ho (by simp) hK
theorem drF5_len (bs : List Int) (p : List Nd) (l : Lk) (t : Int) (s : Cu) (h : p.length ≤ 501) : (drF5 bs p l t s).pool.length ≤ 501 := by
  unfold drF5
  split
  · rename_i g
    have := poolF_len (addF_pool ⟨1, 8, 0⟩ g.2)
    simp only
    omega
  · exact h
theorem drF_len (bs : List Int) : (drF bs).pool.length ≤ 501 := drF5_len _ _ _ _ _ (anyF_len _ _)
theorem spec_DrawLinkSend_c (bs : List Int) (hb : bs.length < 9223372036854775807) : T 34 [aB bs] [] (.tup [aP (drF bs).pool, aL (drF bs).link, i6 (drF bs).term]) ([]) := by
  refine semT' (S := S0) hm spec_DrawLinkSend_ok (Nat.le_of_ble_eq_true rfl) ?_
  unfold spec_DrawLinkSend; dsimp only
  simp
  refine spec_l18Draw_k (bs := bs) hb rfl (by simp) (by simp [noslBlks]) ?_; simp [shiftB]
  first | (refine ck_intro' (by kernel_rfl) ?_; try simp) | skip
  exact LeV.ro rfl rfl (by simp)
theorem spec_DrawLinkSend_call {bs : List Int} (hb : bs.length < 9223372036854775807) {S : FuncId → Bool} {H : List Blk} {K : A → Dl → Prop} (hS : S 34 = false) (hK : K (.tup [aP (drF bs).pool, aL (drF bs).link, i6 (drF bs).term]) (.news [])) : @WCall' Go.Proofs.Try.prog S 34 [aB bs] H ⟨K⟩ :=
  WCall_pure hS (spec_DrawLinkSend_c bs hb) (by simp) (by simp) (by simp) hK
theorem spec_DrawLinkSend_k {bs : List Int} (hb : bs.length < 9223372036854775807) {S : FuncId → Bool} {H : List Blk} {K : A → Dl → Prop} {zs : List A} (hS : S 34 = false) (hv : viewL (viewA 8 H) zs = some [aB bs]) (ho : noOwns zs = true ∨ nosl (.tup [aP (drF bs).pool, aL (drF bs).link, i6 (drF bs).term]) = true) (hK : K (.tup [aP (drF bs).pool, aL (drF bs).link, i6 (drF bs).term]) (.news [])) : @WCall' Go.Proofs.Try.prog S 34 zs H ⟨K⟩ :=
  WCall_pure hS (spec_DrawLinkSend_c bs hb) hv ho (by simp) hK
theorem spec_DrawLinkTurn_c (bs : List Int) (hb : bs.length < 9223372036854775807) : T 45 [aB bs] [] (.tup [aP (drF bs).pool, aL (drF bs).link]) ([]) := by
  refine semT' (S := S0) hm spec_DrawLinkTurn_ok (Nat.le_of_ble_eq_true rfl) ?_
  unfold spec_DrawLinkTurn; dsimp only
  simp
  refine spec_l18Draw_k (bs := bs) hb rfl (by simp) (by simp [noslBlks]) ?_; simp [shiftB]
  first | (refine ck_intro' (by kernel_rfl) ?_; try simp) | skip
  exact LeV.ro rfl rfl (by simp)
theorem spec_DrawLinkTurn_call {bs : List Int} (hb : bs.length < 9223372036854775807) {S : FuncId → Bool} {H : List Blk} {K : A → Dl → Prop} (hS : S 45 = false) (hK : K (.tup [aP (drF bs).pool, aL (drF bs).link]) (.news [])) : @WCall' Go.Proofs.Try.prog S 45 [aB bs] H ⟨K⟩ :=
  WCall_pure hS (spec_DrawLinkTurn_c bs hb) (by simp) (by simp) (by simp) hK
theorem spec_DrawLinkTurn_k {bs : List Int} (hb : bs.length < 9223372036854775807) {S : FuncId → Bool} {H : List Blk} {K : A → Dl → Prop} {zs : List A} (hS : S 45 = false) (hv : viewL (viewA 8 H) zs = some [aB bs]) (ho : noOwns zs = true ∨ nosl (.tup [aP (drF bs).pool, aL (drF bs).link]) = true) (hK : K (.tup [aP (drF bs).pool, aL (drF bs).link]) (.news [])) : @WCall' Go.Proofs.Try.prog S 45 zs H ⟨K⟩ :=
  WCall_pure hS (spec_DrawLinkTurn_c bs hb) hv ho (by simp) hK
theorem spec_DrawLinkEnd_c (bs : List Int) (hb : bs.length < 9223372036854775807) : T 51 [aB bs] [] (.tup [aP (drF bs).pool, aL (drF bs).link]) ([]) := by
  refine semT' (S := S0) hm spec_DrawLinkEnd_ok (Nat.le_of_ble_eq_true rfl) ?_
  unfold spec_DrawLinkEnd; dsimp only
  simp
  refine spec_l18Draw_k (bs := bs) hb rfl (by simp) (by simp [noslBlks]) ?_; simp [shiftB]
  first | (refine ck_intro' (by kernel_rfl) ?_; try simp) | skip
  exact LeV.ro rfl rfl (by simp)
theorem spec_DrawLinkEnd_call {bs : List Int} (hb : bs.length < 9223372036854775807) {S : FuncId → Bool} {H : List Blk} {K : A → Dl → Prop} (hS : S 51 = false) (hK : K (.tup [aP (drF bs).pool, aL (drF bs).link]) (.news [])) : @WCall' Go.Proofs.Try.prog S 51 [aB bs] H ⟨K⟩ :=
  WCall_pure hS (spec_DrawLinkEnd_c bs hb) (by simp) (by simp) (by simp) hK
theorem spec_DrawLinkEnd_k {bs : List Int} (hb : bs.length < 9223372036854775807) {S : FuncId → Bool} {H : List Blk} {K : A → Dl → Prop} {zs : List A} (hS : S 51 = false) (hv : viewL (viewA 8 H) zs = some [aB bs]) (ho : noOwns zs = true ∨ nosl (.tup [aP (drF bs).pool, aL (drF bs).link]) = true) (hK : K (.tup [aP (drF bs).pool, aL (drF bs).link]) (.news [])) : @WCall' Go.Proofs.Try.prog S 51 zs H ⟨K⟩ :=
  WCall_pure hS (spec_DrawLinkEnd_c bs hb) hv ho (by simp) hK
theorem fit_u {cs : List A} (h : Fit (.i .u8) cs) : ∃ n : Int, cs = [.int .u8 n] ∧ True := by
  obtain ⟨n, rfl, hn⟩ := h
  exact ⟨n, rfl, trivial⟩
theorem arg_by {x : A} (h : FitA (.sl (.i .u8)) x) : ∃ bs : List Int, x = aB bs ∧ bs.length < 9223372036854775808 := by
  obtain ⟨xs, e, h1, _⟩ := fit_sl (f := fun n => [A.int .u8 n]) (fun r hr => fit_u hr) (show Fit (.sl (.i .u8)) [x] from h)
  refine ⟨xs, ?_, h1⟩
  simp only [List.cons.injEq, and_true] at e
  rw [e]
  simp only [aB, bytes]
  rw [List.map_eq_flatMap]
end Go.Proofs.Ytnbodfakblbmbaa.C
