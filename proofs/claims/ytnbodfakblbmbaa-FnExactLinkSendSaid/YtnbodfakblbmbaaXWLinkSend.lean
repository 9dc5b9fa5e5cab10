/- The law FnExactLinkSend: every call of it answers true. Conditions: those that each theorem names. -/
import Derived.Test.YtnbodfakblbmbaaXL2
import Derived.Test.YtnbodfakblbmbaaXC8
set_option linter.unusedVariables false
set_option linter.unusedSimpArgs false
namespace Go.Proofs.Ytnbodfakblbmbaa.C
open Go.Sym Go.Proofs.Ytnbodfakblbmbaa.I
theorem linkSendF_len (ns : List Nd) (l : Lk) (t : Int) (h : ns.length ≤ 4294967296) : (linkSendF ns l t).1.length ≤ 4294967296 := by
  unfold linkSendF
  split
  · rename_i hk
    have hp : poolF ns = true := by simp [lkF] at hk; exact hk.1
    have := sendF_len ns l t (poolF_len hp)
    omega
  · have := orE_len ns
    simp; omega
theorem laws_FnExactLinkSend_c (ns : List Nd) (l : Lk) (t : Int) (ha : ns.length < 9223372036854775808) (hb : l.fit) (hc : In64 t) : T 6 [aP ns, aL l, i6 t] [] (.bool true) ([]) := by
  refine semT' (S := (fun f => [29, 78].contains f)) hm laws_FnExactLinkSend_ok (Nat.le_of_ble_eq_true rfl) ?_
  unfold laws_FnExactLinkSend; dsimp only
  simp
  refine laws_szPool_call (ns := ns) (x := 1048576) ha (by omega) (by omega) rfl ?_; simp
  refine br_intro' (fun g => ?_) (fun g => ?_) <;> simp only [decide_eq_true_eq, decide_eq_false_iff_not, szF_neg] at g <;> simp [szF_neg, g]
  · exact LeV.ro rfl rfl rfl
  have hl : ns.length ≤ 4294967296 := by omega
  refine laws_toPool_k (ns := ns) hl rfl (by simp) (by simp [noslBlks]) ?_; simp [shiftB]
  refine laws_toLink_call (l := l) rfl ?_; simp
  refine spec_LinkSend_k (ns := ns) (l := l) (t := t) hl rfl (by simp) (by simp [noslBlks]) ?_; simp [shiftB]
  first | (refine ck_intro' (by kernel_rfl) ?_; try simp) | skip
  refine laws_toPool_k (ns := ns) hl rfl (by simp) (by simp [noslBlks]) ?_; simp [shiftB]
  refine laws_toLink_call (l := l) rfl ?_; simp
  refine impl_LinkSend_k (ns := ns) (l := l) (t := t) hl rfl (by simp) (by simp [noslBlks]) ?_; simp [shiftB]
  first | (refine ck_intro' (by kernel_rfl) ?_; try simp) | skip
  have hR := linkSendF_len ns l t hl
  refine laws_eqPool_k (ns := (linkSendF ns l t).1) (ms := (linkSendF ns l t).1) (by omega) (by omega) rfl (by simp) (by simp [noslBlks]) ?_; simp [shiftB]
  refine laws_eqLink_k (n := (linkSendF ns l t).2.1) (m := (linkSendF ns l t).2.1) rfl (by simp) (by simp [noslBlks]) ?_; simp [shiftB]
  first | (refine ck_intro' (by kernel_rfl) ?_; try simp) | skip
  refine laws_toPool_k (ns := ns) hl rfl (by simp) (by simp [noslBlks]) ?_; simp [shiftB]
  refine laws_eqPool_k (ns := ns) (ms := ns) (by omega) (by omega) rfl (by simp) (by simp [noslBlks]) ?_; simp [shiftB]
  first | (refine ck_intro' (by kernel_rfl) ?_; try simp) | skip
  refine WCall_t' rfl [6] (laws_markPool_m _ 6 ns.length false ns 1 (by simp) (by simp) hl (by omega) (by omega) (by simp)) (by simp) (fun b hb _ => by simp at hb; rw [List.getElem?_set_ne (Ne.symm hb)]) ?_; simp
  have k1 : ¬ 1 + 3 * (ns.length : Int) < 0 := by omega
  have k2 : ¬ 1 + 3 * ((linkSendF ns l t).1.length : Int) < 0 := by omega
  simp [k1]
  refine laws_eqPool_k (ns := (linkSendF ns l t).1) (ms := (linkSendF ns l t).1) (by omega) (by omega) rfl (by simp) (by simp [noslBlks]) ?_; simp [shiftB]
  refine laws_eqLink_k (n := (linkSendF ns l t).2.1) (m := (linkSendF ns l t).2.1) rfl (by simp) (by simp [noslBlks]) ?_; simp [shiftB]
  first | (refine ck_intro' (by kernel_rfl) ?_; try simp) | skip
  refine WCall_t' rfl [8] (laws_markPool_m _ 8 (linkSendF ns l t).1.length (decide ((linkSendF ns l t).1 = [])) (linkSendF ns l t).1 1 (by simp) (by simp) (by omega) (by omega) (by omega) (by simp)) (by simp) (fun b hb _ => by simp at hb; rw [List.getElem?_set_ne (Ne.symm hb)]) ?_; simp
  refine laws_heldPool_k (n := (linkSendF ns l t).1.length) (k := 1) (by omega) (by omega) (by omega) rfl (by simp) (by simp [noslBlks]) ?_; simp [shiftB]
  simp [k2]
  refine laws_toPool_k (ns := ns) hl rfl (by simp) (by simp [noslBlks]) ?_; simp [shiftB]
  refine laws_toLink_call (l := l) rfl ?_; simp
  refine impl_LinkSend_k (ns := ns) (l := l) (t := t) hl rfl (by simp) (by simp [noslBlks]) ?_; simp [shiftB]
  first | (refine ck_intro' (by kernel_rfl) ?_; try simp) | skip
  refine laws_eqPool_k (ns := (linkSendF ns l t).1) (ms := (linkSendF ns l t).1) (by omega) (by omega) rfl (by simp) (by simp [noslBlks]) ?_; simp [shiftB]
  refine laws_eqLink_k (n := (linkSendF ns l t).2.1) (m := (linkSendF ns l t).2.1) rfl (by simp) (by simp [noslBlks]) ?_; simp [shiftB]
  first | (refine ck_intro' (by kernel_rfl) ?_; try simp) | skip
  refine laws_heldPool_k (n := (linkSendF ns l t).1.length) (k := 1) (by omega) (by omega) (by omega) rfl (by simp) (by simp [noslBlks]) ?_; simp [shiftB]
  simp [k2]
  exact LeV.ro rfl rfl rfl
end Go.Proofs.Ytnbodfakblbmbaa.C
