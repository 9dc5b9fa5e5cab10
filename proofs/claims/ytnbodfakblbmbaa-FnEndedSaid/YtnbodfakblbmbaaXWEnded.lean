/- The law FnEnded: every call of it answers true. Conditions: those that each theorem names. -/
import Derived.Test.YtnbodfakblbmbaaXP1
import Derived.Test.YtnbodfakblbmbaaXD4
import Derived.Test.YtnbodfakblbmbaaXL1
set_option linter.unusedVariables false
set_option linter.unusedSimpArgs false
set_option maxRecDepth 4000
namespace Go.Proofs.Ytnbodfakblbmbaa.C
open Go.Sym Go.Proofs.Ytnbodfakblbmbaa.I
theorem laws_big_c (bs : List Int)  : T 33 [aB bs] [] (.bool (decide (1048576 < bs.length))) ([]) := by
  refine semT' (S := S0) hm laws_big_ok (Nat.le_of_ble_eq_true rfl) ?_
  unfold laws_big; dsimp only
  simp
  exact LeV.ro rfl rfl (by simp; omega)
theorem laws_big_call {bs : List Int}  {S : FuncId → Bool} {H : List Blk} {K : A → Dl → Prop} (hS : S 33 = false) (hK : K (.bool (decide (1048576 < bs.length))) (.news [])) : @WCall' Go.Proofs.Try.prog S 33 [aB bs] H ⟨K⟩ :=
  WCall_pure hS (laws_big_c bs) (by simp) (by simp) (by simp) hK
theorem laws_big_k {bs : List Int}  {S : FuncId → Bool} {H : List Blk} {K : A → Dl → Prop} {zs : List A} (hS : S 33 = false) (hv : viewL (viewA 8 H) zs = some [aB bs]) (ho : noOwns zs = true ∨ nosl (.bool (decide (1048576 < bs.length))) = true) (hK : K (.bool (decide (1048576 < bs.length))) (.news [])) : @WCall' Go.Proofs.Try.prog S 33 zs H ⟨K⟩ :=
  WCall_pure hS (laws_big_c bs) hv ho (by simp) hK
theorem linkSendF_over {q : List Nd} {l : Lk} {t : Int} (hk : lkF q l = true) (ho : l.over = true) : linkSendF q l t = (q, l, -1) := by
  simp [linkSendF, hk, sendF, ho]
theorem linkTurnF_over {q : List Nd} {l : Lk} (hk : lkF q l = true) (ho : l.over = true) : linkTurnF q l = (q, l, false) := by
  simp [linkTurnF, hk, turnF, ho]
theorem laws_FnEnded_c (bs : List Int) (ha : bs.length < 9223372036854775808) : T 13 [aB bs] [] (.bool true) ([]) := by
  refine semT' (S := S0) hm laws_FnEnded_ok (Nat.le_of_ble_eq_true rfl) ?_
  unfold laws_FnEnded; dsimp only
  simp
  refine laws_big_k (bs := bs) rfl (by simp) (by simp) ?_; simp
  refine br_intro' (fun g => ?_) (fun g => ?_) <;> simp only [decide_eq_true_eq, decide_eq_false_iff_not] at g <;> simp [g]
  · exact LeV.ro rfl rfl rfl
  have hb : bs.length < 9223372036854775807 := by omega
  have hl := drF_len bs
  have hl' : (drF bs).pool.length ≤ 4294967296 := by omega
  refine spec_DrawLinkEnd_k (bs := bs) hb rfl (by simp) (by simp [noslBlks]) ?_; simp [shiftB]
  refine impl_LinkEnd_k (ns := (drF bs).pool) (l := (drF bs).link) hl' rfl (by simp) (by simp [noslBlks]) ?_; simp [shiftB]
  first | (refine ck_intro' (by kernel_rfl) ?_; try simp) | skip
  refine spec_LinkEnd_k (ns := (drF bs).pool) (l := (drF bs).link) hl' rfl (by simp) (by simp [noslBlks]) ?_; simp [shiftB]
  have hS := linkEndF_spec (drF bs).pool (drF bs).link
  generalize (drF bs).pool = ns at hl hl' hS ⊢
  generalize (drF bs).link = l at hS ⊢
  generalize linkEndF ns l = r at hS ⊢
  rcases hS with ⟨s1, s2, s3⟩ | ⟨s1, s2, s3, s4, s5, s7, s8, t, s6, s9⟩
  · simp [s1, s3]
    first | (refine ck_intro' (by kernel_rfl) ?_; try simp) | skip
    exact LeV.ro rfl rfl rfl
  · have s1' : ¬ r.2.2 < 0 := by omega
    simp [s1']
    have hq := len_ok s7
    have hq5 : r.1.length ≤ 4294967296 := by have := poolF_len s7; omega
    have k1 := lkF_grow s2 s7 s8
    have k2 : lkF r.1 r.2.1 = true := by rw [s5]; exact k1
    have o2 : r.2.1.over = true := by rw [s5]
    have t1 := takeF_sealed s6 k1 s3 s4
    rw [if_pos s9, ← s5] at t1
    have t2 := takeF_over s6.has k2 o2
    have e1 := linkSendF_over (t := l.key) k2 o2
    have e2 := linkTurnF_over k2 o2
    refine impl_LinkTake_k (ns := r.1) (l := l) (w := r.2.2) hq rfl (by simp) (by simp [noslBlks]) ?_; simp [shiftB]
    rw [t1]
    simp
    refine impl_LinkTake_k (ns := r.1) (l := r.2.1) (w := r.2.2) hq rfl (by simp) (by simp) ?_; simp
    rw [t2]
    simp
    refine impl_LinkSend_k (ns := r.1) (l := r.2.1) (t := l.key) hq5 rfl (by simp) (by simp [noslBlks]) ?_; simp [shiftB]
    rw [e1]
    simp
    refine impl_LinkTurn_k (ns := r.1) (l := r.2.1) hq5 rfl (by simp) (by simp [noslBlks]) ?_; simp [shiftB]
    rw [e2]
    simp [o2]
    trace_state
    first | (refine ck_intro' (by kernel_rfl) ?_; try simp) | skip
    exact LeV.ro rfl rfl (by simp)
end Go.Proofs.Ytnbodfakblbmbaa.C
