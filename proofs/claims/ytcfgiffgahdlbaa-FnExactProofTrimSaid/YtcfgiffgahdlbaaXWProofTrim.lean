/- The law FnExactProofTrim: every call of it answers true. Conditions: those that each theorem names. -/
import Derived.Test.YtcfgiffgahdlbaaXL4
import Derived.Test.YtcfgiffgahdlbaaXE7
set_option linter.unusedVariables false
set_option linter.unusedSimpArgs false
set_option maxRecDepth 4000
namespace Go.Proofs.Ytcfgiffgahdlbaa.C
open Go.Sym Go.Proofs.Ytcfgiffgahdlbaa.I
theorem trimGo_len (ns : List Nd) (ss : List Sp) (kb : List Bool) : ∀ (n j : Nat) (now : List Int) (out : List Sp), (trimGo ns ss kb n j now out).length ≤ out.length + n
  | 0, _, _, out => Nat.le_refl _
  | n + 1, j, now, out => by
    unfold trimGo
    split
    · have := trimGo_len ns ss kb n (j + 1) (now.set j out.length) (out ++ [moveF ns now (spAt ss j)])
      simp only [List.length_append, List.length_singleton] at this
      omega
    · have := trimGo_len ns ss kb n (j + 1) now out
      omega
theorem trimF_len (ns : List Nd) (ss : List Sp) : (trimF ns ss).length ≤ ss.length := by
  unfold trimF
  split
  · have := trimGo_len ns ss (keepV ns ss) ss.length 0 (List.replicate ss.length 0) []
    simpa [trimV] using this
  · simp
theorem laws_FnExactProofTrim_c (ns : List Nd) (ss : List Sp) (ha : ns.length < 9223372036854775808) (hc : ss.length < 9223372036854775808) : T 3 [aP ns, aSs ss] [] (.bool true) ([]) := by
  refine semT' (S := (fun f => [17, 48, 18].contains f)) hm laws_FnExactProofTrim_ok (Nat.le_of_ble_eq_true rfl) ?_
  unfold laws_FnExactProofTrim; dsimp only
  simp
  refine laws_szPool_call (ns := ns) (x := 1048576) ha (by omega) (by omega) rfl ?_; simp
  refine br_intro' (fun g => ?_) (fun g => ?_) <;> simp only [decide_eq_true_eq, decide_eq_false_iff_not, szF_neg] at g <;> simp [szF_neg, g]
  · exact LeV.ro rfl rfl rfl
  rw [szF_pos g]
  refine laws_szStepS_call (ns := ss) (x := 1048576 - ns.length) hc (by omega) (by omega) rfl ?_; simp
  refine br_intro' (fun g1 => ?_) (fun g1 => ?_) <;> simp only [decide_eq_true_eq, decide_eq_false_iff_not, szF_neg] at g1 <;> simp [szF_neg, g1]
  · exact LeV.ro rfl rfl rfl
  have hl : ns.length ≤ 4294967296 := by omega
  have hs : ss.length ≤ 4294967296 := by omega
  have hR := trimF_len ns ss
  refine laws_toPool_k (ns := ns) hl rfl (by simp) (by simp [noslBlks]) ?_; simp [shiftB]
  refine laws_toStepS_k (ns := ss) hs rfl (by simp) (by simp [noslBlks]) ?_; simp [shiftB]
  refine spec_ProofTrim_k (ns := ns) (ss := ss) (by omega) (by omega) rfl (by simp) (by simp [noslBlks]) ?_; simp [shiftB]
  refine laws_toPool_k (ns := ns) hl rfl (by simp) (by simp [noslBlks]) ?_; simp [shiftB]
  refine laws_toStepS_k (ns := ss) hs rfl (by simp) (by simp [noslBlks]) ?_; simp [shiftB]
  refine impl_ProofTrim_k (ns := ns) (ss := ss) (by omega) (by omega) rfl (by simp) (by simp [noslBlks]) ?_; simp [shiftB]
  refine laws_eqStepS_k (ns := trimF ns ss) (ms := trimF ns ss) (by omega) (by omega) rfl (by simp) (by simp [noslBlks]) ?_; simp [shiftB]
  refine laws_toPool_k (ns := ns) hl rfl (by simp) (by simp [noslBlks]) ?_; simp [shiftB]
  refine laws_eqPool_k (ns := ns) (ms := ns) (by omega) (by omega) rfl (by simp) (by simp [noslBlks]) ?_; simp [shiftB]
  first | (refine ck_intro' (by kernel_rfl) ?_; try simp) | skip
  refine laws_toStepS_k (ns := ss) hs rfl (by simp) (by simp [noslBlks]) ?_; simp [shiftB]
  refine laws_eqStepS_k (ns := ss) (ms := ss) (by omega) (by omega) rfl (by simp) (by simp [noslBlks]) ?_; simp [shiftB]
  first | (refine ck_intro' (by kernel_rfl) ?_; try simp) | skip
  refine WCall_t' rfl [4] (laws_markPool_m _ 4 ns.length false ns 1 (by simp) (by simp) hl (by omega) (by omega) (by simp)) (by simp) (fun b hb _ => by simp at hb; rw [List.getElem?_set_ne (Ne.symm hb)]) ?_; simp
  refine WCall_t' rfl [6] (laws_markStepS_m _ 6 ss.length false ss (1 + 3 * ns.length) (by simp) (by simp) hs (by omega) (by omega)) (by simp) (fun b hb _ => by simp at hb; rw [List.getElem?_set_ne (Ne.symm hb)]) ?_; simp
  have k1 : ¬ 1 + 3 * (ns.length : Int) + 4 * ss.length < 0 := by omega
  have k2 : ¬ 1 + 4 * ((trimF ns ss).length : Int) < 0 := by omega
  simp [k1]
  refine laws_eqStepS_k (ns := trimF ns ss) (ms := trimF ns ss) (by omega) (by omega) rfl (by simp) (by simp [noslBlks]) ?_; simp [shiftB]
  first | (refine ck_intro' (by kernel_rfl) ?_; try simp) | skip
  refine WCall_t' rfl [7] (laws_markStepS_m _ 7 (trimF ns ss).length (decide (trimF ns ss = [])) (trimF ns ss) 1 (by simp) (by simp) (by omega) (by omega) (by omega)) (by simp) (fun b hb _ => by simp at hb; rw [List.getElem?_set_ne (Ne.symm hb)]) ?_; simp
  refine laws_heldStepS_k (n := (trimF ns ss).length) (k := 1) (by omega) (by omega) (by omega) rfl (by simp) (by simp [noslBlks]) ?_; simp [shiftB]
  simp [k2]
  refine laws_toPool_k (ns := ns) hl rfl (by simp) (by simp [noslBlks]) ?_; simp [shiftB]
  refine laws_toStepS_k (ns := ss) hs rfl (by simp) (by simp [noslBlks]) ?_; simp [shiftB]
  refine impl_ProofTrim_k (ns := ns) (ss := ss) (by omega) (by omega) rfl (by simp) (by simp [noslBlks]) ?_; simp [shiftB]
  refine laws_eqStepS_k (ns := trimF ns ss) (ms := trimF ns ss) (by omega) (by omega) rfl (by simp) (by simp [noslBlks]) ?_; simp [shiftB]
  refine laws_heldStepS_k (n := (trimF ns ss).length) (k := 1) (by omega) (by omega) (by omega) rfl (by simp) (by simp [noslBlks]) ?_; simp [shiftB]
  simp [k2]
  exact LeV.ro rfl rfl rfl
end Go.Proofs.Ytcfgiffgahdlbaa.C
