/- The law FnExactStreamNew: every call of it answers true. Conditions: those that each theorem names. -/
import Derived.Test.YtnbodfakblbmbaaXL3
set_option linter.unusedVariables false
set_option linter.unusedSimpArgs false
namespace Go.Proofs.Ytnbodfakblbmbaa.C
open Go.Sym Go.Proofs.Ytnbodfakblbmbaa.I
theorem streamNewF_mid (ns : List Nd) (ks : List Int) (key : Int) (h1 : ns.length ≤ 4294967296) (h2 : ks.length ≤ 4294967296) : (streamNewF ns ks key).1.mid := by
  unfold streamNewF
  split
  · exact ⟨by simpa [newS] using h1, by simpa [newS] using h2, by simp [newS], by simp [newS]⟩
  · exact ⟨by simp [noS], by simp [noS], by simp [noS], by simp [noS]⟩
theorem St.mid.fit {s : St} (h : s.mid) : s.fit := ⟨by have := h.p; omega, by have := h.k; omega, by have := h.t; omega, by have := h.g; omega⟩
theorem laws_FnExactStreamNew_c (ns : List Nd) (ks : List Int) (key : Int) (ha : ns.length < 9223372036854775808) (hb : ks.length < 9223372036854775808) (hc : In64 key) : T 12 [aP ns, aI ks, i6 key] [] (.bool true) ([]) := by
  refine semT' (S := (fun f => [29, 78, 48, 49].contains f)) hm laws_FnExactStreamNew_ok (Nat.le_of_ble_eq_true rfl) ?_
  unfold laws_FnExactStreamNew; dsimp only
  simp
  refine br_intro' (fun g0 => ?_) (fun g0 => ?_) <;> simp at g0 <;> simp [g0]
  · exact LeV.ro rfl rfl rfl
  refine laws_szPool_call (ns := ns) (x := 1048576) ha (by omega) (by omega) rfl ?_; simp
  refine br_intro' (fun g => ?_) (fun g => ?_) <;> simp only [decide_eq_true_eq, decide_eq_false_iff_not, szF_neg] at g <;> simp [szF_neg, g]
  · exact LeV.ro rfl rfl rfl
  have hl : ns.length ≤ 4294967296 := by omega
  have hk : ks.length ≤ 4294967296 := by omega
  refine laws_toPool_k (ns := ns) hl rfl (by simp) (by simp [noslBlks]) ?_; simp [shiftB]
  refine laws_toIntS_k (xs := ks) hk rfl (by simp) (by simp [noslBlks]) ?_; simp [shiftB]
  refine spec_StreamNew_k (ns := ns) (ks := ks) (key := key) hl hk rfl (by simp) (by simp [noslBlks]) ?_; simp [shiftB]
  have hR := streamNewF_mid ns ks key hl hk
  have hF := hR.fit
  refine laws_toPool_k (ns := ns) hl rfl (by simp) (by simp [noslBlks]) ?_; simp [shiftB]
  refine laws_toIntS_k (xs := ks) hk rfl (by simp) (by simp [noslBlks]) ?_; simp [shiftB]
  refine impl_StreamNew_k (ns := ns) (ks := ks) (key := key) hl hk rfl (by simp) (by simp [noslBlks]) ?_; simp [shiftB]
  first | (refine ck_intro' (by kernel_rfl) ?_; try simp) | skip
  refine laws_eqStream_k (s := (streamNewF ns ks key).1) (t := (streamNewF ns ks key).1) hF hF rfl (by simp) (by simp [noslBlks]) ?_; simp [shiftB]
  first | (refine ck_intro' (by kernel_rfl) ?_; try simp) | skip
  refine laws_toPool_k (ns := ns) hl rfl (by simp) (by simp [noslBlks]) ?_; simp [shiftB]
  refine laws_eqPool_k (ns := ns) (ms := ns) (by omega) (by omega) rfl (by simp) (by simp [noslBlks]) ?_; simp [shiftB]
  first | (refine ck_intro' (by kernel_rfl) ?_; try simp) | skip
  refine laws_toIntS_k (xs := ks) hk rfl (by simp) (by simp [noslBlks]) ?_; simp [shiftB]
  refine laws_eqIntS_k (ns := ks) (ms := ks) (by omega) (by omega) rfl (by simp) (by simp [noslBlks]) ?_; simp [shiftB]
  first | (refine ck_intro' (by kernel_rfl) ?_; try simp) | skip
  refine WCall_t' rfl [8] (laws_markPool_m _ 8 ns.length false ns 1 (by simp) (by simp) hl (by omega) (by omega) (by simp)) (by simp) (fun b hb _ => by simp at hb; rw [List.getElem?_set_ne (Ne.symm hb)]) ?_; simp
  refine WCall_t' rfl [10] (laws_markIntS_m _ 10 ks.length false ks (1 + 3 * ns.length) (by simp) (by simp) hk (by omega) (by omega)) (by simp) (fun b hb _ => by simp at hb; rw [List.getElem?_set_ne (Ne.symm hb)]) ?_; simp
  have k1 : ¬ 1 + 3 * (ns.length : Int) + ks.length < 0 := by omega
  simp [k1]
  refine laws_eqStream_k (s := (streamNewF ns ks key).1) (t := (streamNewF ns ks key).1) hF hF rfl (by simp) (by simp [noslBlks]) ?_; simp [shiftB]
  first | (refine ck_intro' (by kernel_rfl) ?_; try simp) | skip
  refine WCall_t' rfl [11, 12, 13, 14] (laws_markStream_m _ 11 12 13 14 (streamNewF ns ks key).1 1 hR (by simp) (by simp) (by simp) (by simp) (by simp) (by simp) (by simp) (by simp) (by simp) (by simp) (by omega) (by omega) (by simp)) (by simp) (fun b hb _ => by simp at hb; rw [List.getElem?_set_ne (by omega), List.getElem?_set_ne (by omega), List.getElem?_set_ne (by omega), List.getElem?_set_ne (by omega)]) ?_; simp
  have k2 : ¬ mkE 1 (streamNewF ns ks key).1 < 0 := by simp only [mkE]; omega
  refine laws_heldStream_k (s := (streamNewF ns ks key).1) (k := 1) hR (by omega) (by omega) rfl (by simp [mkS]) (by simp) ?_; simp [k2]
  refine laws_toPool_k (ns := ns) hl rfl (by simp) (by simp [noslBlks]) ?_; simp [shiftB]
  refine laws_toIntS_k (xs := ks) hk rfl (by simp) (by simp [noslBlks]) ?_; simp [shiftB]
  refine impl_StreamNew_k (ns := ns) (ks := ks) (key := key) hl hk rfl (by simp) (by simp [noslBlks]) ?_; simp [shiftB]
  first | (refine ck_intro' (by kernel_rfl) ?_; try simp) | skip
  refine laws_eqStream_k (s := (streamNewF ns ks key).1) (t := (streamNewF ns ks key).1) hF hF rfl (by simp) (by simp [noslBlks]) ?_; simp [shiftB]
  first | (refine ck_intro' (by kernel_rfl) ?_; try simp) | skip
  refine laws_heldStream_k (s := (streamNewF ns ks key).1) (k := 1) hR (by omega) (by omega) rfl (by simp [mkS]) (by simp) ?_; simp [k2]
  exact LeV.ro rfl rfl rfl
end Go.Proofs.Ytnbodfakblbmbaa.C
