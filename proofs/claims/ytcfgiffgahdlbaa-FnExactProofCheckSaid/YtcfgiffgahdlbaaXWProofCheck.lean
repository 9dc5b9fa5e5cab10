/- The law FnExactProofCheck: every call of it answers true. Conditions: those that each theorem names. -/
import Derived.Test.YtcfgiffgahdlbaaXL4
import Derived.Test.YtcfgiffgahdlbaaXE5
set_option linter.unusedVariables false
set_option linter.unusedSimpArgs false
set_option maxRecDepth 4000
namespace Go.Proofs.Ytcfgiffgahdlbaa.C
open Go.Sym Go.Proofs.Ytcfgiffgahdlbaa.I
theorem laws_FnExactProofCheck_c (ns : List Nd) (ks : List Int) (ss : List Sp) (t : Int) (ha : ns.length < 9223372036854775808) (hb : ks.length < 9223372036854775808) (hc : ss.length < 9223372036854775808) (hd : In64 t) : T 4 [aP ns, aI ks, aSs ss, i6 t] [] (.bool true) ([]) := by
  refine semT' (S := S0) hm laws_FnExactProofCheck_ok (Nat.le_of_ble_eq_true rfl) ?_
  unfold laws_FnExactProofCheck; dsimp only
  simp
  refine br_intro' (fun g0 => ?_) (fun g0 => ?_) <;> simp at g0 <;> simp [g0]
  · exact LeV.ro rfl rfl rfl
  refine laws_szPool_call (ns := ns) (x := 1048576) ha (by omega) (by omega) rfl ?_; simp
  refine br_intro' (fun g => ?_) (fun g => ?_) <;> simp only [decide_eq_true_eq, decide_eq_false_iff_not, szF_neg] at g <;> simp [szF_neg, g]
  · exact LeV.ro rfl rfl rfl
  rw [szF_pos g]
  refine laws_szStepS_call (ns := ss) (x := 1048576 - ns.length) hc (by omega) (by omega) rfl ?_; simp
  refine br_intro' (fun g1 => ?_) (fun g1 => ?_) <;> simp only [decide_eq_true_eq, decide_eq_false_iff_not, szF_neg] at g1 <;> simp [szF_neg, g1]
  · exact LeV.ro rfl rfl rfl
  have hl : ns.length ≤ 4294967296 := by omega
  have hk : ks.length ≤ 4294967296 := by omega
  have hs : ss.length ≤ 4294967296 := by omega
  refine laws_toPool_k (ns := ns) hl rfl (by simp) (by simp [noslBlks]) ?_; simp [shiftB]
  refine laws_toIntS_k (xs := ks) hk rfl (by simp) (by simp [noslBlks]) ?_; simp [shiftB]
  refine laws_toStepS_k (ns := ss) hs rfl (by simp) (by simp [noslBlks]) ?_; simp [shiftB]
  refine spec_ProofCheck_k (ns := ns) (ks := ks) (ss := ss) (t := t) (by omega) (by omega) (by omega) rfl (by simp) (by simp [noslBlks]) ?_; simp [shiftB]
  refine laws_toPool_k (ns := ns) hl rfl (by simp) (by simp [noslBlks]) ?_; simp [shiftB]
  refine laws_toIntS_k (xs := ks) hk rfl (by simp) (by simp [noslBlks]) ?_; simp [shiftB]
  refine laws_toStepS_k (ns := ss) hs rfl (by simp) (by simp [noslBlks]) ?_; simp [shiftB]
  refine impl_ProofCheck_k (ns := ns) (ks := ks) (ss := ss) (t := t) (by omega) (by omega) (by omega) rfl (by simp) (by simp [noslBlks]) ?_; simp [shiftB]
  refine laws_toPool_k (ns := ns) hl rfl (by simp) (by simp [noslBlks]) ?_; simp [shiftB]
  refine laws_eqPool_k (ns := ns) (ms := ns) (by omega) (by omega) rfl (by simp) (by simp [noslBlks]) ?_; simp [shiftB]
  first | (refine ck_intro' (by kernel_rfl) ?_; try simp) | skip
  refine laws_toIntS_k (xs := ks) hk rfl (by simp) (by simp [noslBlks]) ?_; simp [shiftB]
  refine laws_eqIntS_k (ns := ks) (ms := ks) (by omega) (by omega) rfl (by simp) (by simp [noslBlks]) ?_; simp [shiftB]
  first | (refine ck_intro' (by kernel_rfl) ?_; try simp) | skip
  refine laws_toStepS_k (ns := ss) hs rfl (by simp) (by simp [noslBlks]) ?_; simp [shiftB]
  refine laws_eqStepS_k (ns := ss) (ms := ss) (by omega) (by omega) rfl (by simp) (by simp [noslBlks]) ?_; simp [shiftB]
  first | (refine ck_intro' (by kernel_rfl) ?_; try simp) | skip
  exact LeV.ro rfl rfl rfl
end Go.Proofs.Ytcfgiffgahdlbaa.C
