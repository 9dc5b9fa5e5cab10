/- The law FnExactOpenOnce: every call of it answers true. Conditions: those that each theorem names. -/
import Derived.Test.YtfbfebaajdihiaaXE1Q2
import Derived.Test.YtfbfebaajdihiaaXQ4N3
set_option linter.unusedVariables false
set_option linter.unusedSimpArgs false
set_option maxRecDepth 4000
namespace Go.Proofs.Ytfbfebaajdihiaa.C
open Go.Sym Go.Proofs.Ytfbfebaajdihiaa.I
theorem laws_FnExactOpenOnce_c (ns : List Nd) (ks : List Int) (ha : ns.length < 9223372036854775808) (hb : ks.length < 9223372036854775808) : T 3 [aP ns, aI ks] [] (.bool true) ([]) := by
  refine semT' (S := (fun f => [19, 50, 20].contains f)) hm laws_FnExactOpenOnce_ok (Nat.le_of_ble_eq_true rfl) ?_
  unfold laws_FnExactOpenOnce; dsimp only
  simp
  refine br_intro' (fun g0 => ?_) (fun g0 => ?_) <;> simp at g0 <;> simp [g0]
  · exact LeV.ro rfl rfl rfl
  refine laws_szPool_call (ns := ns) (x := 1048576) ha (by omega) (by omega) rfl ?_; simp
  refine br_intro' (fun g => ?_) (fun g => ?_) <;> simp only [decide_eq_true_eq, decide_eq_false_iff_not, szF_neg] at g <;> simp [szF_neg, g]
  · exact LeV.ro rfl rfl rfl
  have hl : ns.length ≤ 4294967296 := by omega
  have hk : ks.length ≤ 4294967296 := by omega
  have hR := opOnceF_len ns ks
  refine laws_toPool_k (ns := ns) hl rfl (by simp) (by simp [noslBlks]) ?_; simp [shiftB]
  refine laws_toIntS_k (xs := ks) hk rfl (by simp) (by simp [noslBlks]) ?_; simp [shiftB]
  refine spec_OpenOnce_k (ns := ns) (ks := ks) (by omega) (by omega) rfl (by simp) (by simp [noslBlks]) ?_; simp [shiftB]
  refine laws_toPool_k (ns := ns) hl rfl (by simp) (by simp [noslBlks]) ?_; simp [shiftB]
  refine laws_toIntS_k (xs := ks) hk rfl (by simp) (by simp [noslBlks]) ?_; simp [shiftB]
  refine impl_OpenOnce_k (ns := ns) (ks := ks) (by omega) (by omega) rfl (by simp) (by simp [noslBlks]) ?_; simp [shiftB]
  refine laws_eqIntS_k (ns := opOnceF ns ks) (ms := opOnceF ns ks) (by omega) (by omega) rfl (by simp) (by simp [noslBlks]) ?_; simp [shiftB]
  refine laws_toPool_k (ns := ns) hl rfl (by simp) (by simp [noslBlks]) ?_; simp [shiftB]
  refine laws_eqPool_k (ns := ns) (ms := ns) (by omega) (by omega) rfl (by simp) (by simp [noslBlks]) ?_; simp [shiftB]
  first | (refine ck_intro' (by kernel_rfl) ?_; try simp) | skip
  refine laws_toIntS_k (xs := ks) hk rfl (by simp) (by simp [noslBlks]) ?_; simp [shiftB]
  refine laws_eqIntS_k (ns := ks) (ms := ks) (by omega) (by omega) rfl (by simp) (by simp [noslBlks]) ?_; simp [shiftB]
  first | (refine ck_intro' (by kernel_rfl) ?_; try simp) | skip
  refine WCall_t' rfl [4] (laws_markPool_m _ 4 ns.length false ns 1 (by simp) (by simp) hl (by omega) (by omega) (by simp)) (by simp) (fun b hb _ => by simp at hb; rw [List.getElem?_set_ne (Ne.symm hb)]) ?_; simp
  refine WCall_t' rfl [6] (laws_markIntS_m _ 6 ks.length false ks (1 + 3 * ns.length) (by simp) (by simp) hk (by omega) (by omega)) (by simp) (fun b hb _ => by simp at hb; rw [List.getElem?_set_ne (Ne.symm hb)]) ?_; simp
  have k1 : ¬ 1 + 3 * (ns.length : Int) + ks.length < 0 := by omega
  have k2 : ¬ 1 + ((opOnceF ns ks).length : Int) < 0 := by omega
  simp [k1]
  refine laws_eqIntS_k (ns := opOnceF ns ks) (ms := opOnceF ns ks) (by omega) (by omega) rfl (by simp) (by simp [noslBlks]) ?_; simp [shiftB]
  first | (refine ck_intro' (by kernel_rfl) ?_; try simp) | skip
  refine WCall_t' rfl [7] (laws_markIntS_m _ 7 (opOnceF ns ks).length (decide (opOnceF ns ks = [])) (opOnceF ns ks) 1 (by simp) (by simp) (by omega) (by omega) (by omega)) (by simp) (fun b hb _ => by simp at hb; rw [List.getElem?_set_ne (Ne.symm hb)]) ?_; simp
  refine laws_heldIntS_k (n := (opOnceF ns ks).length) (k := 1) (by omega) (by omega) (by omega) rfl (by simp) (by simp [noslBlks]) ?_; simp [shiftB]
  simp [k2]
  refine laws_toPool_k (ns := ns) hl rfl (by simp) (by simp [noslBlks]) ?_; simp [shiftB]
  refine laws_toIntS_k (xs := ks) hk rfl (by simp) (by simp [noslBlks]) ?_; simp [shiftB]
  refine impl_OpenOnce_k (ns := ns) (ks := ks) (by omega) (by omega) rfl (by simp) (by simp [noslBlks]) ?_; simp [shiftB]
  refine laws_eqIntS_k (ns := opOnceF ns ks) (ms := opOnceF ns ks) (by omega) (by omega) rfl (by simp) (by simp [noslBlks]) ?_; simp [shiftB]
  refine laws_heldIntS_k (n := (opOnceF ns ks).length) (k := 1) (by omega) (by omega) (by omega) rfl (by simp) (by simp [noslBlks]) ?_; simp [shiftB]
  simp [k2]
  exact LeV.ro rfl rfl rfl
end Go.Proofs.Ytfbfebaajdihiaa.C
