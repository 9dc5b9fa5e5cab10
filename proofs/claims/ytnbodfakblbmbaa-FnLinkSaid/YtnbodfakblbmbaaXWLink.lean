/- The law FnLink: every call of it answers true. Conditions: those that each theorem names. -/
import Derived.Test.YtnbodfakblbmbaaXP1
import Derived.Test.YtnbodfakblbmbaaXD4
import Derived.Test.YtnbodfakblbmbaaXL1
set_option linter.unusedVariables false
set_option linter.unusedSimpArgs false
set_option maxRecDepth 4000
namespace Go.Proofs.Ytnbodfakblbmbaa.C
open Go.Sym Go.Proofs.Ytnbodfakblbmbaa.I
theorem laws_big_c (bs : List Int)  : T 33 [aB bs] [] (.bool (decide (1048576 < bs.length))) ([]) := by
  refine semT' (S := S0) hm laws_big_ok (Nat.le_of_ble_eq_true rfl) ?_
  unfold laws_big; dsimp only
  simp
  exact LeV.ro rfl rfl (by simp; omega)
theorem laws_big_call {bs : List Int}  {S : FuncId → Bool} {H : List Blk} {K : A → Dl → Prop} (hS : S 33 = false) (hK : K (.bool (decide (1048576 < bs.length))) (.news [])) : @WCall' Go.Proofs.Try.prog S 33 [aB bs] H ⟨K⟩ :=
  WCall_pure hS (laws_big_c bs) (by simp) (by simp) (by simp) hK
theorem laws_big_k {bs : List Int}  {S : FuncId → Bool} {H : List Blk} {K : A → Dl → Prop} {zs : List A} (hS : S 33 = false) (hv : viewL (viewA 8 H) zs = some [aB bs]) (ho : noOwns zs = true ∨ nosl (.bool (decide (1048576 < bs.length))) = true) (hK : K (.bool (decide (1048576 < bs.length))) (.news [])) : @WCall' Go.Proofs.Try.prog S 33 zs H ⟨K⟩ :=
  WCall_pure hS (laws_big_c bs) hv ho (by simp) hK
theorem laws_FnLink_c (bs : List Int) (ha : bs.length < 9223372036854775808) : T 7 [aB bs] [] (.bool true) ([]) := by
  refine semT' (S := S0) hm laws_FnLink_ok (Nat.le_of_ble_eq_true rfl) ?_
  unfold laws_FnLink; dsimp only
  simp
  refine laws_big_k (bs := bs) rfl (by simp) (by simp) ?_; simp
  refine br_intro' (fun g => ?_) (fun g => ?_) <;> simp only [decide_eq_true_eq, decide_eq_false_iff_not] at g <;> simp [g]
  · exact LeV.ro rfl rfl rfl
  have hb : bs.length < 9223372036854775807 := by omega
  have hl := drF_len bs
  have hl' : (drF bs).pool.length ≤ 4294967296 := by omega
  refine spec_DrawLinkSend_k (bs := bs) hb rfl (by simp) (by simp [noslBlks]) ?_; simp [shiftB]
  refine impl_LinkSend_k (ns := (drF bs).pool) (l := (drF bs).link) (t := (drF bs).term) hl' rfl (by simp) (by simp [noslBlks]) ?_; simp [shiftB]
  first | (refine ck_intro' (by kernel_rfl) ?_; try simp) | skip
  refine spec_LinkSend_k (ns := (drF bs).pool) (l := (drF bs).link) (t := (drF bs).term) hl' rfl (by simp) (by simp [noslBlks]) ?_; simp [shiftB]
  have hS := linkSendF_spec (drF bs).pool (drF bs).link (drF bs).term
  generalize (drF bs).pool = ns at hl hl' hS ⊢
  generalize (drF bs).link = l at hS ⊢
  generalize (drF bs).term = t at hS ⊢
  generalize linkSendF ns l t = r at hS ⊢
  rcases hS with ⟨s1, s2, s3, s4⟩ | ⟨s1, s2, s3, s4, s5, s6, s7, s8, s9⟩
  · simp [s1, s3]
    first | (refine ck_intro' (by kernel_rfl) ?_; try simp) | skip
    rcases s4 with s4 | s4
    · simp [s4]
      exact LeV.ro rfl rfl rfl
    · simp [s4]
      refine br_intro' (fun z => ?_) (fun z => ?_) <;> (try simp at z) <;> (try simp [z, s4])
      all_goals first | exact LeV.ro rfl rfl rfl | (refine ck_intro' (by kernel_rfl) ?_; simp; exact LeV.ro rfl rfl rfl)
  · have s1' : ¬ r.2.2 < 0 := by omega
    simp [s1']
    have hq := len_ok s7
    have k1 := lkF_grow s2 s7 s8
    have k2 := lkF_send s2 s7 s8 s4
    have t1 := takeF_sealed s6 k1 s3 s4
    rw [if_neg (by simp [s9]), ← s5] at t1
    have t2 := takeF_twice (m := r.2.1) s6 (by rw [s5]) (by rw [s5]) (by rw [s5]; exact k2) (by rw [s5]; exact s3)
    refine impl_LinkTake_k (ns := r.1) (l := l) (w := r.2.2) hq rfl (by simp) (by simp [noslBlks]) ?_; simp [shiftB]
    rw [t1]
    simp
    refine impl_LinkTake_k (ns := r.1) (l := r.2.1) (w := r.2.2) hq rfl (by simp) (by simp) ?_; simp
    rw [t2]
    simp
    refine impl_LinkOk_k (ns := r.1) (l := r.2.1) hq rfl (by simp) (by simp) ?_; simp
    have k3 : lkF r.1 r.2.1 = true := by rw [s5]; exact k2
    have hw : IntKind.i64.wrap (l.seq + 1) = l.seq + 1 := by
      simp [lkF, linkF, inF] at s2
      exact wrap64 (by omega) (by omega)
    have hsq : r.2.1.seq = l.seq + 1 := by rw [s5]
    rw [k3]
    simp [hw, hsq]
    first | (refine ck_intro' (by kernel_rfl) ?_; try simp) | skip
    exact LeV.ro rfl rfl (by simp)
end Go.Proofs.Ytnbodfakblbmbaa.C
