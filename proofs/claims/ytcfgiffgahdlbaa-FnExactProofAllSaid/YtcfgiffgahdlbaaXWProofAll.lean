/- The law FnExactProofAll: every call of it answers true. Conditions: those that each theorem names. -/
import Derived.Test.YtcfgiffgahdlbaaXL4
import Derived.Test.YtcfgiffgahdlbaaXE13
set_option linter.unusedVariables false
set_option linter.unusedSimpArgs false
set_option maxRecDepth 4000
namespace Go.Proofs.Ytcfgiffgahdlbaa.C
open Go.Sym Go.Proofs.Ytcfgiffgahdlbaa.I
theorem passGo_len (ns : List Nd) (ks : List Int) : ∀ (n t : Nat) (st : List Int) (out : List Sp) (m : Bool), t + n = ns.length → st.length = ns.length → out.length + negs st = ns.length →
    (passGo ns ks n t st out m).1.length = ns.length ∧ (passGo ns ks n t st out m).2.1.length + negs (passGo ns ks n t st out m).1 = ns.length
  | 0, t, st, out, m, _, h1, h2 => ⟨h1, h2⟩
  | n + 1, t, st, out, m, ht, h1, h2 => by
    have hts : t < st.length := by omega
    unfold passGo
    split
    · exact passGo_len ns ks n (t + 1) st out m (by omega) h1 h2
    · rename_i g
      rw [sv_nat hts] at g
      split
      · have := negs_set hts (by omega) (v := (out.length : Int)) (by omega)
        exact passGo_len ns ks n (t + 1) _ _ true (by omega) (by simpa using h1) (by simp; omega)
      · exact passGo_len ns ks n (t + 1) st out m (by omega) h1 h2
theorem allGo_len (ns : List Nd) (ks : List Int) : ∀ (n : Nat) (st : List Int) (out : List Sp), st.length = ns.length → out.length + negs st = ns.length → (allGo ns ks n st out).2.length ≤ ns.length
  | 0, st, out, _, h2 => by simp only [allGo]; omega
  | n + 1, st, out, h1, h2 => by
    have := passGo_len ns ks ns.length 0 st out false (by omega) h1 h2
    unfold allGo
    split
    · exact allGo_len ns ks n _ _ this.1 this.2
    · simp only; omega
theorem allSt_len (ns : List Nd) (ks : List Int) : (allSt ns ks).length ≤ ns.length := by
  unfold allSt
  split
  · exact allGo_len ns ks _ _ _ (by simp) (by simp [negs_rep])
  · simp
theorem laws_FnExactProofAll_c (ns : List Nd) (ks : List Int) (ha : ns.length < 9223372036854775808) (hb : ks.length < 9223372036854775808) : T 5 [aP ns, aI ks] [] (.bool true) ([]) := by
  refine semT' (S := (fun f => [17, 48, 18, 26].contains f)) hm laws_FnExactProofAll_ok (Nat.le_of_ble_eq_true rfl) ?_
  unfold laws_FnExactProofAll; dsimp only
  simp
  refine br_intro' (fun g0 => ?_) (fun g0 => ?_) <;> simp at g0 <;> simp [g0]
  · exact LeV.ro rfl rfl rfl
  refine laws_szPool_call (ns := ns) (x := 1048576) ha (by omega) (by omega) rfl ?_; simp
  refine br_intro' (fun g => ?_) (fun g => ?_) <;> simp only [decide_eq_true_eq, decide_eq_false_iff_not, szF_neg] at g <;> simp [szF_neg, g]
  · exact LeV.ro rfl rfl rfl
  have hl : ns.length ≤ 4294967296 := by omega
  have hk : ks.length ≤ 4294967296 := by omega
  have hR := allSt_len ns ks
  refine laws_toPool_k (ns := ns) hl rfl (by simp) (by simp [noslBlks]) ?_; simp [shiftB]
  refine laws_toIntS_k (xs := ks) hk rfl (by simp) (by simp [noslBlks]) ?_; simp [shiftB]
  refine spec_ProofAll_k (ns := ns) (ks := ks) (by omega) (by omega) rfl (by simp) (by simp [noslBlks]) ?_; simp [shiftB]
  refine laws_toPool_k (ns := ns) hl rfl (by simp) (by simp [noslBlks]) ?_; simp [shiftB]
  refine laws_toIntS_k (xs := ks) hk rfl (by simp) (by simp [noslBlks]) ?_; simp [shiftB]
  refine impl_ProofAll_k (ns := ns) (ks := ks) (by omega) (by omega) rfl (by simp) (by simp [noslBlks]) ?_; simp [shiftB]
  refine laws_eqStepS_k (ns := allSt ns ks) (ms := allSt ns ks) (by omega) (by omega) rfl (by simp) (by simp [noslBlks]) ?_; simp [shiftB]
  refine laws_toPool_k (ns := ns) hl rfl (by simp) (by simp [noslBlks]) ?_; simp [shiftB]
  refine laws_eqPool_k (ns := ns) (ms := ns) (by omega) (by omega) rfl (by simp) (by simp [noslBlks]) ?_; simp [shiftB]
  first | (refine ck_intro' (by kernel_rfl) ?_; try simp) | skip
  refine laws_toIntS_k (xs := ks) hk rfl (by simp) (by simp [noslBlks]) ?_; simp [shiftB]
  refine laws_eqIntS_k (ns := ks) (ms := ks) (by omega) (by omega) rfl (by simp) (by simp [noslBlks]) ?_; simp [shiftB]
  first | (refine ck_intro' (by kernel_rfl) ?_; try simp) | skip
  refine WCall_t' rfl [4] (laws_markPool_m _ 4 ns.length false ns 1 (by simp) (by simp) hl (by omega) (by omega) (by simp)) (by simp) (fun b hb _ => by simp at hb; rw [List.getElem?_set_ne (Ne.symm hb)]) ?_; simp
  refine WCall_t' rfl [6] (laws_markIntS_m _ 6 ks.length false ks (1 + 3 * ns.length) (by simp) (by simp) hk (by omega) (by omega)) (by simp) (fun b hb _ => by simp at hb; rw [List.getElem?_set_ne (Ne.symm hb)]) ?_; simp
  have k1 : ¬ 1 + 3 * (ns.length : Int) + ks.length < 0 := by omega
  have k2 : ¬ 1 + 4 * ((allSt ns ks).length : Int) < 0 := by omega
  simp [k1]
  refine laws_eqStepS_k (ns := allSt ns ks) (ms := allSt ns ks) (by omega) (by omega) rfl (by simp) (by simp [noslBlks]) ?_; simp [shiftB]
  first | (refine ck_intro' (by kernel_rfl) ?_; try simp) | skip
  refine WCall_t' rfl [7] (laws_markStepS_m _ 7 (allSt ns ks).length (decide (allSt ns ks = [])) (allSt ns ks) 1 (by simp) (by simp) (by omega) (by omega) (by omega)) (by simp) (fun b hb _ => by simp at hb; rw [List.getElem?_set_ne (Ne.symm hb)]) ?_; simp
  refine laws_heldStepS_k (n := (allSt ns ks).length) (k := 1) (by omega) (by omega) (by omega) rfl (by simp) (by simp [noslBlks]) ?_; simp [shiftB]
  simp [k2]
  refine laws_toPool_k (ns := ns) hl rfl (by simp) (by simp [noslBlks]) ?_; simp [shiftB]
  refine laws_toIntS_k (xs := ks) hk rfl (by simp) (by simp [noslBlks]) ?_; simp [shiftB]
  refine impl_ProofAll_k (ns := ns) (ks := ks) (by omega) (by omega) rfl (by simp) (by simp [noslBlks]) ?_; simp [shiftB]
  refine laws_eqStepS_k (ns := allSt ns ks) (ms := allSt ns ks) (by omega) (by omega) rfl (by simp) (by simp [noslBlks]) ?_; simp [shiftB]
  refine laws_heldStepS_k (n := (allSt ns ks).length) (k := 1) (by omega) (by omega) (by omega) rfl (by simp) (by simp [noslBlks]) ?_; simp [shiftB]
  simp [k2]
  exact LeV.ro rfl rfl rfl
end Go.Proofs.Ytcfgiffgahdlbaa.C
