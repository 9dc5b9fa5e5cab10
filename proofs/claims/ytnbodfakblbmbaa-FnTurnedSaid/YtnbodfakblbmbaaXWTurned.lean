/- The law FnTurned: every call of it answers true. Conditions: those that each theorem names. -/
import Derived.Test.YtnbodfakblbmbaaXP2
import Derived.Test.YtnbodfakblbmbaaXD4
import Derived.Test.YtnbodfakblbmbaaXL1
set_option linter.unusedVariables false
set_option linter.unusedSimpArgs false
set_option maxRecDepth 4000
namespace Go.Proofs.Ytnbodfakblbmbaa.C
open Go.Sym Go.Proofs.Ytnbodfakblbmbaa.I
theorem laws_big_c (bs : List Int)  : T 33 [aB bs] [] (.bool (decide (1048576 < bs.length))) ([]) := by
  refine semT' (S := S0) hm laws_big_ok (Nat.le_of_ble_eq_true rfl) ?_
  unfold laws_big; dsimp only
  simp
  exact LeV.ro rfl rfl (by simp; omega)
theorem laws_big_call {bs : List Int}  {S : FuncId → Bool} {H : List Blk} {K : A → Dl → Prop} (hS : S 33 = false) (hK : K (.bool (decide (1048576 < bs.length))) (.news [])) : @WCall' Go.Proofs.Try.prog S 33 [aB bs] H ⟨K⟩ :=
  WCall_pure hS (laws_big_c bs) (by simp) (by simp) (by simp) hK
theorem laws_big_k {bs : List Int}  {S : FuncId → Bool} {H : List Blk} {K : A → Dl → Prop} {zs : List A} (hS : S 33 = false) (hv : viewL (viewA 8 H) zs = some [aB bs]) (ho : noOwns zs = true ∨ nosl (.bool (decide (1048576 < bs.length))) = true) (hK : K (.bool (decide (1048576 < bs.length))) (.news [])) : @WCall' Go.Proofs.Try.prog S 33 zs H ⟨K⟩ :=
  WCall_pure hS (laws_big_c bs) hv ho (by simp) hK
theorem findF_app {n : Nd} : ∀ (ns r : List Nd) (i : Int), 0 ≤ i → 0 ≤ findF ns n i → findF (ns ++ r) n i = findF ns n i
  | [], r, i, _, h => by simp [findF] at h
  | x :: xs, r, i, hi, h => by
    simp only [List.cons_append, findF] at h ⊢
    split
    · rfl
    · rename_i e
      rw [if_neg e] at h
      exact findF_app xs r (i + 1) (by omega) h
theorem findF_snoc {n : Nd} : ∀ (ns r : List Nd) (i : Int), 0 ≤ i → findF ns n i < 0 → findF (ns ++ n :: r) n i = i + ns.length
  | [], r, i, _, _ => by simp [findF]
  | x :: xs, r, i, hi, h => by
    simp only [List.cons_append, findF] at h ⊢
    split
    · rename_i e; rw [if_pos e] at h; omega
    · rename_i e
      rw [if_neg e] at h
      rw [findF_snoc xs r (i + 1) (by omega) h]
      simp only [List.length_cons]
      omega
/-- A node that stands in a pool is added again at its own place. -/
theorem addF_again {ns r : List Nd} {n : Nd} (h : 0 ≤ (addF ns n).2) : addF ((addF ns n).1 ++ r) n = ((addF ns n).1 ++ r, (addF ns n).2) := by
  have key : ∀ (q : List Nd) (j : Int), rightF (normN n) ns.length = true → ns.length ≤ q.length → findF q (normN n) 0 = j → 0 ≤ j → addF q n = (q, j) := fun q j hr hq hf hj => by
    have hr' := rightF_mono (b := q.length) hr (by omega)
    unfold addF
    rw [if_neg (by rw [hr']; simp), hf, if_pos hj]
  unfold addF at h
  split at h
  · simp at h
  · rename_i e
    have e' : rightF (normN n) ns.length = true := by simpa using e
    split at h
    · rename_i e1
      have ee : addF ns n = (ns, findF ns (normN n) 0) := by unfold addF; rw [if_neg e, if_pos e1]
      rw [ee]
      exact key _ _ e' (by simp) (findF_app ns r 0 (Int.le_refl 0) e1) e1
    · rename_i e1
      split at h
      · simp at h
      · rename_i e2
        have ee : addF ns n = (ns ++ [normN n], (ns.length : Int)) := by unfold addF; rw [if_neg e, if_neg e1, if_neg e2]
        rw [ee]
        refine key _ _ e' (by simp) ?_ (by omega)
        have := findF_snoc ns r 0 (Int.le_refl 0) (by omega : findF ns (normN n) 0 < 0)
        simpa using this
theorem addF_ext (ns : List Nd) (n : Nd) : ∃ r, (addF ns n).1 = ns ++ r := by
  unfold addF
  split
  · exact ⟨[], by simp⟩
  · split
    · exact ⟨[], by simp⟩
    · split
      · exact ⟨[], by simp⟩
      · exact ⟨_, rfl⟩
/-- What turning comes to: nothing, or a new key that is derived from the elder one, and the same again. -/
theorem linkTurnF_spec (ns : List Nd) (l : Lk) :
    ((linkTurnF ns l).2.2 = false ∧ (linkTurnF ns l).2.1 = l) ∨
    ((linkTurnF ns l).2.2 = true ∧ lkF ns l = true ∧ l.over = false ∧ ¬ l.epoch = 20 ∧ poolF (linkTurnF ns l).1 = true ∧ ns.length ≤ (linkTurnF ns l).1.length ∧ (∃ k s : Int, (linkTurnF ns l).2.1 = ⟨k, l.epoch + 1, 0, false⟩ ∧ hasF (linkTurnF ns l).1.length k = true ∧ nodeAt (linkTurnF ns l).1 k = ⟨6, l.key, s⟩ ∧ l.key ≠ k) ∧ linkTurnF (linkTurnF ns l).1 l = linkTurnF ns l) := by
  by_cases hk : lkF ns l = true
  · have e0 : linkTurnF ns l = turnF ns l := by simp [linkTurnF, hk]
    have hp : poolF ns = true := by simp [lkF] at hk; exact hk.1
    rw [e0]
    by_cases ho : l.over = true ∨ l.epoch = 20
    · left
      rw [show turnF ns l = (ns, l, false) by simp [turnF, ho]]
      exact ⟨rfl, rfl⟩
    · have hp1 := addF_pool ⟨1, 7, 0⟩ hp
      have hg1 := addF_ge ns ⟨1, 7, 0⟩
      have ag1 := @addF_again ns
      have hT : ∀ q, turnF q l = (if (addF q ⟨1, 7, 0⟩).2 < 0 then (q, l, false) else if (addF (addF q ⟨1, 7, 0⟩).1 ⟨6, l.key, (addF q ⟨1, 7, 0⟩).2⟩).2 < 0 then (q, l, false) else ((addF (addF q ⟨1, 7, 0⟩).1 ⟨6, l.key, (addF q ⟨1, 7, 0⟩).2⟩).1, ⟨(addF (addF q ⟨1, 7, 0⟩).1 ⟨6, l.key, (addF q ⟨1, 7, 0⟩).2⟩).2, l.epoch + 1, 0, false⟩, true)) := fun q => by simp [turnF, ho]
      by_cases g1 : (addF ns ⟨1, 7, 0⟩).2 < 0
      · left
        rw [hT, if_pos g1]
        exact ⟨rfl, rfl⟩
      by_cases g2 : (addF (addF ns ⟨1, 7, 0⟩).1 ⟨6, l.key, (addF ns ⟨1, 7, 0⟩).2⟩).2 < 0
      · left
        rw [hT, if_neg g1, if_pos g2]
        exact ⟨rfl, rfl⟩
      right
      have hT1 := hT ns
      rw [if_neg g1, if_neg g2] at hT1
      have a2 := addF_at (ns := (addF ns ⟨1, 7, 0⟩).1) (n := ⟨6, l.key, (addF ns ⟨1, 7, 0⟩).2⟩) (by omega)
      have hp2 := addF_pool ⟨6, l.key, (addF ns ⟨1, 7, 0⟩).2⟩ hp1
      have hg2 := addF_ge (addF ns ⟨1, 7, 0⟩).1 ⟨6, l.key, (addF ns ⟨1, 7, 0⟩).2⟩
      obtain ⟨r, hr⟩ := addF_ext (addF ns ⟨1, 7, 0⟩).1 ⟨6, l.key, (addF ns ⟨1, 7, 0⟩).2⟩
      have r1 := addF_again (r := r) (ns := ns) (n := ⟨1, 7, 0⟩) (by omega)
      have r2 := addF_again (r := []) (ns := (addF ns ⟨1, 7, 0⟩).1) (n := ⟨6, l.key, (addF ns ⟨1, 7, 0⟩).2⟩) (by omega)
      rw [← hr] at r1
      rw [List.append_nil] at r2
      have hT2 := hT (addF (addF ns ⟨1, 7, 0⟩).1 ⟨6, l.key, (addF ns ⟨1, 7, 0⟩).2⟩).1
      rw [r1] at hT2
      simp only at hT2
      rw [r2] at hT2
      simp only at hT2
      rw [if_neg g1, if_neg g2] at hT2
      rw [hT1]
      generalize addF ns ⟨1, 7, 0⟩ = x at *
      generalize addF x.1 ⟨6, l.key, x.2⟩ = y at *
      obtain ⟨j, c1, c2, c3⟩ := a2
      have nk : nodeAt y.1 j = ⟨6, l.key, x.2⟩ := by rw [c3]; simp [normN]
      have hk2 : lkF y.1 l = true := lkF_grow hk hp2 (by omega)
      have ho' : l.over = false ∧ ¬ l.epoch = 20 := by simpa using ho
      refine ⟨rfl, hk, ho'.1, ho'.2, hp2, by simp only; omega, ⟨y.2, x.2, rfl, ?_, ?_, ?_⟩, ?_⟩
      · rw [c1]; exact hasF_of c2
      · rw [c1]; exact nk
      · have hn := nk
        rw [nodeAt_nat c2] at hn
        obtain ⟨⟨a, ha, hal⟩, _⟩ := parts_in hp2 c2 (by rw [hn]; rfl)
        rw [hn] at ha
        simp only at ha
        omega
      · simp only
        rw [show linkTurnF y.1 l = turnF y.1 l by simp [linkTurnF, hk2], hT2]
  · left
    rw [show linkTurnF ns l = (orE ns, l, false) by simp [linkTurnF, hk]]
    exact ⟨rfl, rfl⟩
theorem laws_FnTurned_c (bs : List Int) (ha : bs.length < 9223372036854775808) : T 11 [aB bs] [] (.bool true) ([]) := by
  refine semT' (S := S0) hm laws_FnTurned_ok (Nat.le_of_ble_eq_true rfl) ?_
  unfold laws_FnTurned; dsimp only
  simp
  refine laws_big_k (bs := bs) rfl (by simp) (by simp) ?_; simp
  refine br_intro' (fun g => ?_) (fun g => ?_) <;> simp only [decide_eq_true_eq, decide_eq_false_iff_not] at g <;> simp [g]
  · exact LeV.ro rfl rfl rfl
  have hb : bs.length < 9223372036854775807 := by omega
  have hl := drF_len bs
  have hl' : (drF bs).pool.length ≤ 4294967296 := by omega
  refine spec_DrawLinkTurn_k (bs := bs) hb rfl (by simp) (by simp [noslBlks]) ?_; simp [shiftB]
  refine impl_LinkTurn_k (ns := (drF bs).pool) (l := (drF bs).link) hl' rfl (by simp) (by simp [noslBlks]) ?_; simp [shiftB]
  first | (refine ck_intro' (by kernel_rfl) ?_; try simp) | skip
  refine spec_LinkTurn_k (ns := (drF bs).pool) (l := (drF bs).link) hl' rfl (by simp) (by simp [noslBlks]) ?_; simp [shiftB]
  have hS := linkTurnF_spec (drF bs).pool (drF bs).link
  generalize (drF bs).pool = ns at hl hl' hS ⊢
  generalize (drF bs).link = l at hS ⊢
  generalize linkTurnF ns l = r at hS ⊢
  rcases hS with ⟨s1, s2⟩ | ⟨s1, s2, s3, s4, s5, s6, ⟨k, s, s7, s8, s9, s10⟩, s11⟩
  · simp [s1, s2]
    first | (refine ck_intro' (by kernel_rfl) ?_; try simp) | skip
    exact LeV.ro rfl rfl rfl
  · simp [s1]
    have hq := len_ok s5
    have hq5 : r.1.length ≤ 4294967296 := by have := poolF_len s5; omega
    refine impl_LinkTurn_k (ns := r.1) (l := l) hq5 rfl (by simp) (by simp [noslBlks]) ?_; simp [shiftB]
    rw [s11]
    have hS2 := linkSendF_spec r.1 l l.key
    refine impl_LinkSend_k (ns := r.1) (l := l) (t := l.key) hq5 rfl (by simp) (by simp [noslBlks]) ?_; simp [shiftB]
    generalize linkSendF r.1 l l.key = u at hS2 ⊢
    have hw : IntKind.i64.wrap (l.epoch + 1) = l.epoch + 1 := by
      simp [lkF, linkF, inF] at s2
      exact wrap64 (by omega) (by omega)
    have f1 : r.2.1.key = k := by rw [s7]
    have f2 : r.2.1.epoch = l.epoch + 1 := by rw [s7]
    have f3 : r.2.1.seq = 0 := by rw [s7]
    have f4 : r.2.1.over = false := by rw [s7]
    have f5 : ¬ r.2.1.key = l.key := by rw [f1]; exact fun e => s10 e.symm
    have fp : partsOfF r.1 r.2.1.key = [l.key, s] := by
      rw [f1, partsOfF, if_pos ⟨s8, s5⟩, s9]
      simp [partsL, partsF]
    have s10' : ¬ k = l.key := fun e => s10 e.symm
    rcases hS2 with ⟨u1, u2, u3, u4⟩ | ⟨u1, u2, u3, u4, u5, u6, u7, u8, u9⟩
    · have u1' : ¬ 0 ≤ u.2.2 := by omega
      simp [u1']
      simp [s1, f2, f3, f5, hw]
      refine impl_PartsOf_k (ns := r.1) (t := r.2.1.key) hq rfl (by simp) (by simp [noslBlks]) ?_; simp [shiftB]
      rw [fp]
      simp
      refine laws_sameInts_k (ns := [l.key]) (ms := [l.key]) (by simp) (by simp) rfl (by simp [ints]) (by simp) ?_; simp
      first | (refine ck_intro' (by kernel_rfl) ?_; simp) | skip
      exact LeV.ro rfl rfl (by simp)
    · simp [u1]
      have hm : lkF u.1 r.2.1 = true := by
        simp [lkF, linkF, hasF, inF] at s2 s8 ⊢
        exact ⟨u7, by omega⟩
      have tk := takeF_other (m := r.2.1) u6 (by rw [f1]; exact s10') hm f4
      refine impl_LinkTake_k (ns := u.1) (l := r.2.1) (w := u.2.2) (len_ok u7) rfl (by simp) (by simp) ?_; simp
      rw [tk]
      simp
      simp [s1, f2, f3, f5, hw]
      refine impl_PartsOf_k (ns := r.1) (t := r.2.1.key) hq rfl (by simp) (by simp [noslBlks]) ?_; simp [shiftB]
      rw [fp]
      simp
      refine laws_sameInts_k (ns := [l.key]) (ms := [l.key]) (by simp) (by simp) rfl (by simp [ints]) (by simp) ?_; simp
      first | (refine ck_intro' (by kernel_rfl) ?_; simp) | skip
      exact LeV.ro rfl rfl (by simp)
end Go.Proofs.Ytnbodfakblbmbaa.C
