/- The law FnExactStreamOk: every call of it answers true. Conditions: those that each theorem names. -/
import Derived.Test.YtnbodfakblbmbaaXL1
set_option linter.unusedVariables false
set_option linter.unusedSimpArgs false
namespace Go.Proofs.Ytnbodfakblbmbaa.C
open Go.Sym Go.Proofs.Ytnbodfakblbmbaa.I
theorem laws_FnExactStreamOk_c (s : St) (ha : s.fitA) : T 4 [aS s] [] (.bool true) ([]) := by
  refine semT' (S := S0) hm laws_FnExactStreamOk_ok (Nat.le_of_ble_eq_true rfl) ?_
  unfold laws_FnExactStreamOk; dsimp only
  simp
  refine laws_szStream_call (s := s) (x := 1048576) ha (by omega) (by omega) rfl ?_; simp
  refine br_intro' (fun g => ?_) (fun g => ?_) <;> simp only [decide_eq_true_eq, decide_eq_false_iff_not] at g <;> simp [g]
  · exact LeV.ro rfl rfl rfl
  have g' : s.pool.length ≤ 4294967296 ∧ s.know.length ≤ 4294967296 ∧ s.sent.length ≤ 4294967296 ∧ s.got.length ≤ 4294967296 := by simp only [szStr] at g; split at g <;> omega
  have hs : s.fit := ⟨by omega, by omega, by omega, by omega⟩
  refine laws_toStream_k (s := s) g'.1 g'.2.1 g'.2.2.1 g'.2.2.2 rfl (by simp) (by simp [noslBlks]) ?_; simp [shiftB]
  refine spec_StreamOk_k (s := s) hs rfl (by simp) (by simp [noslBlks]) ?_; simp [shiftB]
  refine laws_toStream_k (s := s) g'.1 g'.2.1 g'.2.2.1 g'.2.2.2 rfl (by simp) (by simp [noslBlks]) ?_; simp [shiftB]
  refine impl_StreamOk_k (s := s) hs rfl (by simp) (by simp [noslBlks]) ?_; simp [shiftB]
  refine laws_toStream_k (s := s) g'.1 g'.2.1 g'.2.2.1 g'.2.2.2 rfl (by simp) (by simp [noslBlks]) ?_; simp [shiftB]
  refine laws_eqStream_k (s := s) (t := s) hs hs rfl (by simp) (by simp [noslBlks]) ?_; simp [shiftB]
  refine ck_intro' (by kernel_rfl) ?_; simp
  exact LeV.ro rfl rfl rfl
end Go.Proofs.Ytnbodfakblbmbaa.C
