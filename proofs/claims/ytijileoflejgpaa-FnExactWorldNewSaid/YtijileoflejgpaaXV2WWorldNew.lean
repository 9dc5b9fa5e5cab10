/- A new world: what it is. Conditions: those that each theorem names. -/
import Derived.Test.YtijileoflejgpaaXC1V1
set_option linter.unusedVariables false
set_option linter.unusedSimpArgs false
set_option maxRecDepth 4000
namespace Go.Proofs.Ytijileoflejgpaa.C
open Go.Sym Go.Proofs.Ytijileoflejgpaa.I
@[simp] theorem wr1 : IntKind.i64.wrap 1 = 1 := wrap64 (by omega) (by omega)
@[simp] theorem wr2 : IntKind.i64.wrap 2 = 2 := wrap64 (by omega) (by omega)
@[simp] theorem wr3 : IntKind.i64.wrap 3 = 3 := wrap64 (by omega) (by omega)
@[simp] theorem wr4 : IntKind.i64.wrap 4 = 4 := wrap64 (by omega) (by omega)
@[simp] theorem wr5 : IntKind.i64.wrap 5 = 5 := wrap64 (by omega) (by omega)
theorem spec_WorldNew_c   : T 4 [] [] (.agg [.sl (wp 5).1.length (enc (wp 5).1), aI (wp 5).2, .sl 0 [], i6 0, .sl 0 [], .sl 0 [], .sl 0 []]) ([]) := by
  refine semT' (S := S0) hm spec_WorldNew_ok (Nat.le_of_ble_eq_true rfl) ?_
  unfold spec_WorldNew; dsimp only
  simp
  refine WLoop_step' ?_; simp
  refine spec_l2Name_k (ns := []) (x := 0) (wn_pool 0) rfl (by simp) (by simp [noslBlks]) ?_; simp [shiftB]
  rw [show (addF [] ⟨1, 0, 0⟩).1 = wn 1 from rfl]
  refine WLoop_step' ?_; simp
  refine spec_l2Name_k (ns := (wn 1)) (x := 1) (wn_pool 1) rfl (by simp) (by simp [noslBlks]) ?_; simp [shiftB]
  rw [show (addF (wn 1) ⟨1, 1, 0⟩).1 = wn 2 from rfl]
  refine WLoop_step' ?_; simp
  refine spec_l2Name_k (ns := (wn 2)) (x := 2) (wn_pool 2) rfl (by simp) (by simp [noslBlks]) ?_; simp [shiftB]
  rw [show (addF (wn 2) ⟨1, 2, 0⟩).1 = wn 3 from rfl]
  refine WLoop_step' ?_; simp
  refine spec_l2Name_k (ns := (wn 3)) (x := 3) (wn_pool 3) rfl (by simp) (by simp [noslBlks]) ?_; simp [shiftB]
  rw [show (addF (wn 3) ⟨1, 3, 0⟩).1 = wn 4 from rfl]
  refine WLoop_step' ?_; simp
  refine spec_l2Name_k (ns := (wn 4)) (x := 4) (wn_pool 4) rfl (by simp) (by simp [noslBlks]) ?_; simp [shiftB]
  rw [show (addF (wn 4) ⟨1, 4, 0⟩).1 = wn 5 from rfl]
  refine WLoop_step' ?_; simp
  rw [show wn 5 = (wp 0).1 from rfl]
  refine WLoop_step' ?_; simp
  refine spec_StaticKey_call (a := 0) (by omega) rfl ?_; simp
  refine spec_l2Name_k (ns := (wp 0).1) (x := 90) (wp_pool _) rfl (by simp) (by simp [noslBlks]) ?_; simp [shiftB]
  repeat (refine ck_intro' (by first | omega | (simp; omega) | kernel_rfl) ?_; try simp)
  refine spec_l1Add_k (ns := (addF (wp 0).1 ⟨1, 90, 0⟩).1) (n := ⟨7, (addF (wp 0).1 ⟨1, 90, 0⟩).2, 0⟩) (addF_pool _ (wp_pool _)) rfl (by simp) (by simp [noslBlks]) ?_; simp [shiftB]
  rw [show (addF (addF (wp 0).1 ⟨1, 90, 0⟩).1 ⟨7, (addF (wp 0).1 ⟨1, 90, 0⟩).2, 0⟩).2 = (powO (wp 0).1 0).2 from rfl]
  refine spec_l6Put_k (ks := []) (t := (powO (wp 0).1 0).2) ((by simp)) rfl (by simp) (by simp [noslBlks]) ?_; simp [shiftB]
  rw [show putF [] (powO (wp 0).1 0).2 = (wp 1).2 from wp_put 0 (by omega)]
  rw [show (addF (addF (wp 0).1 ⟨1, 90, 0⟩).1 ⟨7, (addF (wp 0).1 ⟨1, 90, 0⟩).2, 0⟩).1 = (wp 1).1 from rfl]
  refine WLoop_step' ?_; simp
  refine spec_StaticKey_call (a := 1) (by omega) rfl ?_; simp
  refine spec_l2Name_k (ns := (wp 1).1) (x := 91) (wp_pool _) rfl (by simp) (by simp [noslBlks]) ?_; simp [shiftB]
  repeat (refine ck_intro' (by first | omega | (simp; omega) | kernel_rfl) ?_; try simp)
  refine spec_l1Add_k (ns := (addF (wp 1).1 ⟨1, 91, 0⟩).1) (n := ⟨7, (addF (wp 1).1 ⟨1, 91, 0⟩).2, 0⟩) (addF_pool _ (wp_pool _)) rfl (by simp) (by simp [noslBlks]) ?_; simp [shiftB]
  rw [show (addF (addF (wp 1).1 ⟨1, 91, 0⟩).1 ⟨7, (addF (wp 1).1 ⟨1, 91, 0⟩).2, 0⟩).2 = (powO (wp 1).1 1).2 from rfl]
  refine spec_l6Put_k (ks := (wp 1).2) (t := (powO (wp 1).1 1).2) ((by simp [wp_klen])) rfl (by simp) (by simp [noslBlks]) ?_; simp [shiftB]
  rw [show putF (wp 1).2 (powO (wp 1).1 1).2 = (wp 2).2 from wp_put 1 (by omega)]
  rw [show (addF (addF (wp 1).1 ⟨1, 91, 0⟩).1 ⟨7, (addF (wp 1).1 ⟨1, 91, 0⟩).2, 0⟩).1 = (wp 2).1 from rfl]
  refine WLoop_step' ?_; simp
  refine spec_StaticKey_call (a := 2) (by omega) rfl ?_; simp
  refine spec_l2Name_k (ns := (wp 2).1) (x := 92) (wp_pool _) rfl (by simp) (by simp [noslBlks]) ?_; simp [shiftB]
  repeat (refine ck_intro' (by first | omega | (simp; omega) | kernel_rfl) ?_; try simp)
  refine spec_l1Add_k (ns := (addF (wp 2).1 ⟨1, 92, 0⟩).1) (n := ⟨7, (addF (wp 2).1 ⟨1, 92, 0⟩).2, 0⟩) (addF_pool _ (wp_pool _)) rfl (by simp) (by simp [noslBlks]) ?_; simp [shiftB]
  rw [show (addF (addF (wp 2).1 ⟨1, 92, 0⟩).1 ⟨7, (addF (wp 2).1 ⟨1, 92, 0⟩).2, 0⟩).2 = (powO (wp 2).1 2).2 from rfl]
  refine spec_l6Put_k (ks := (wp 2).2) (t := (powO (wp 2).1 2).2) ((by simp [wp_klen])) rfl (by simp) (by simp [noslBlks]) ?_; simp [shiftB]
  rw [show putF (wp 2).2 (powO (wp 2).1 2).2 = (wp 3).2 from wp_put 2 (by omega)]
  rw [show (addF (addF (wp 2).1 ⟨1, 92, 0⟩).1 ⟨7, (addF (wp 2).1 ⟨1, 92, 0⟩).2, 0⟩).1 = (wp 3).1 from rfl]
  refine WLoop_step' ?_; simp
  refine spec_StaticKey_call (a := 3) (by omega) rfl ?_; simp
  refine spec_l2Name_k (ns := (wp 3).1) (x := 93) (wp_pool _) rfl (by simp) (by simp [noslBlks]) ?_; simp [shiftB]
  repeat (refine ck_intro' (by first | omega | (simp; omega) | kernel_rfl) ?_; try simp)
  refine spec_l1Add_k (ns := (addF (wp 3).1 ⟨1, 93, 0⟩).1) (n := ⟨7, (addF (wp 3).1 ⟨1, 93, 0⟩).2, 0⟩) (addF_pool _ (wp_pool _)) rfl (by simp) (by simp [noslBlks]) ?_; simp [shiftB]
  rw [show (addF (addF (wp 3).1 ⟨1, 93, 0⟩).1 ⟨7, (addF (wp 3).1 ⟨1, 93, 0⟩).2, 0⟩).2 = (powO (wp 3).1 3).2 from rfl]
  refine spec_l6Put_k (ks := (wp 3).2) (t := (powO (wp 3).1 3).2) ((by simp [wp_klen])) rfl (by simp) (by simp [noslBlks]) ?_; simp [shiftB]
  rw [show putF (wp 3).2 (powO (wp 3).1 3).2 = (wp 4).2 from wp_put 3 (by omega)]
  rw [show (addF (addF (wp 3).1 ⟨1, 93, 0⟩).1 ⟨7, (addF (wp 3).1 ⟨1, 93, 0⟩).2, 0⟩).1 = (wp 4).1 from rfl]
  refine WLoop_step' ?_; simp
  refine spec_StaticKey_call (a := 4) (by omega) rfl ?_; simp
  refine spec_l2Name_k (ns := (wp 4).1) (x := 94) (wp_pool _) rfl (by simp) (by simp [noslBlks]) ?_; simp [shiftB]
  repeat (refine ck_intro' (by first | omega | (simp; omega) | kernel_rfl) ?_; try simp)
  refine spec_l1Add_k (ns := (addF (wp 4).1 ⟨1, 94, 0⟩).1) (n := ⟨7, (addF (wp 4).1 ⟨1, 94, 0⟩).2, 0⟩) (addF_pool _ (wp_pool _)) rfl (by simp) (by simp [noslBlks]) ?_; simp [shiftB]
  rw [show (addF (addF (wp 4).1 ⟨1, 94, 0⟩).1 ⟨7, (addF (wp 4).1 ⟨1, 94, 0⟩).2, 0⟩).2 = (powO (wp 4).1 4).2 from rfl]
  refine spec_l6Put_k (ks := (wp 4).2) (t := (powO (wp 4).1 4).2) ((by simp [wp_klen])) rfl (by simp) (by simp [noslBlks]) ?_; simp [shiftB]
  rw [show putF (wp 4).2 (powO (wp 4).1 4).2 = (wp 5).2 from wp_put 4 (by omega)]
  rw [show (addF (addF (wp 4).1 ⟨1, 94, 0⟩).1 ⟨7, (addF (wp 4).1 ⟨1, 94, 0⟩).2, 0⟩).1 = (wp 5).1 from rfl]
  refine WLoop_step' ?_; simp
  repeat (refine ck_intro' (by first | omega | (simp; omega) | kernel_rfl) ?_; try simp)
  exact LeV.ro rfl rfl (by simp)
theorem spec_WorldNew_call   {S : FuncId → Bool} {H : List Blk} {K : A → Dl → Prop} (hS : S 4 = false) (hK : K (.agg [.sl (wp 5).1.length (enc (wp 5).1), aI (wp 5).2, .sl 0 [], i6 0, .sl 0 [], .sl 0 [], .sl 0 []]) (.news [])) : @WCall' Go.Proofs.Try.prog S 4 [] H ⟨K⟩ :=
  WCall_pure hS (spec_WorldNew_c ) (by simp) (by simp) (by simp) hK
theorem spec_WorldNew_k   {S : FuncId → Bool} {H : List Blk} {K : A → Dl → Prop} {zs : List A} (hS : S 4 = false) (hv : viewL (viewA 8 H) zs = some []) (ho : noOwns zs = true ∨ nosl (.agg [.sl (wp 5).1.length (enc (wp 5).1), aI (wp 5).2, .sl 0 [], i6 0, .sl 0 [], .sl 0 [], .sl 0 []]) = true) (hK : K (.agg [.sl (wp 5).1.length (enc (wp 5).1), aI (wp 5).2, .sl 0 [], i6 0, .sl 0 [], .sl 0 [], .sl 0 []]) (.news [])) : @WCall' Go.Proofs.Try.prog S 4 zs H ⟨K⟩ :=
  WCall_pure hS (spec_WorldNew_c ) hv ho (by simp) hK
abbrev wc (ns : List Nd) (ks : List Int) : List A := [pref 2 ns, jref 3 ks, .nil, i6 0, .nil, .nil, .nil]
abbrev wH (ns : List Nd) (ks : List Int) : List Blk := [⟨0, false, 1, [.nil, .nil, .nil, i6 0, .nil, .nil, .nil], none⟩, ⟨0, false, 1, wc ns ks, none⟩, pblk ns, jblk ks]
theorem wH_in (ns : List Nd) (ks : List Int) : PIn (wH ns ks) 1 0 2 (wc ns ks) :=
  ⟨by simp, by simp, by simp, by simp, by simp, by simp, ⟨[aI ks, .sl 0 [], i6 0, .sl 0 [], .sl 0 [], .sl 0 []], fun G hG => by
    have h3 := hG 3 (by simp) (by simp) (by simp)
    have h4 : G[3]? = some (jblk ks) := h3
    simp [h4]⟩⟩
theorem impl_WorldNew_c   : T 5 [] [] (.agg [pref 0 (wp 5).1, jref 1 (wp 5).2, .nil, i6 0, .nil, .nil, .nil]) ([pblk (wp 5).1, jblk (wp 5).2]) := by
  refine semT' (S := (fun f => [32, 13, 14].contains f)) hm impl_WorldNew_ok (Nat.le_of_ble_eq_true rfl) ?_
  unfold impl_WorldNew; dsimp only
  simp
  refine WLoop_virtC 3 (b := 1) (off := 0) rfl rfl rfl rfl ?_; simp
  refine WLoop_virtC 1 (b := 1) (off := 1) rfl rfl rfl rfl ?_; simp
  refine WLoop_fam (fun j : Nat => [(0, A.ptr 0 0 0), (1, A.ptr 1 0 0), (5, i6 j)]) (fun j => wH (wn j) []) (fun j => 5 - j) (fun j => j ≤ 5) ?_ 0 (Nat.zero_le _)
  intro j hj ih
  simp
  refine br_intro' (fun u => ?_) (fun u => ?_) <;> (have u0 := u) <;> simp only [decide_eq_true_eq, decide_eq_false_iff_not] at u <;> simp [u0]
  · have hw := wrap_succ (n := j) (by omega)
    refine pool_call rfl 1 0 2 0 1 (wc (wn j) []) (wn j) (wn (j + 1)) (wH_in _ _) rfl (impl_Pool_name_m (wH (wn j) []) 1 0 2 0 1 (wc (wn j) []) (wn j) j (wH_in _ _) (wn_len _)) ?_; simp [pset]
    rw [hw]
    exact ih (j + 1) (by omega) (by omega)
  obtain rfl : j = 5 := by omega
  clear ih
  refine WLoop_fam (fun j : Nat => [(0, A.ptr 0 0 0), (1, A.ptr 1 0 0), (12, i6 j)]) (fun j => wH (wp j).1 (wp j).2) (fun j => 5 - j) (fun j => j ≤ 5) ?_ 0 (Nat.zero_le _)
  intro j hj ih
  simp
  have hkl := wp_klen j
  refine br_intro' (fun u => ?_) (fun u => ?_) <;> (have u0 := u) <;> simp only [decide_eq_true_eq, decide_eq_false_iff_not] at u <;> simp [u0]
  · have hw := wrap_succ (n := j) (by omega)
    refine pool_call rfl 1 0 2 0 1 (wc (wp j).1 (wp j).2) (wp j).1 (wp (j + 1)).1 (wH_in _ _) rfl (impl_Pool_powerOf_m (wH (wp j).1 (wp j).2) 1 0 2 0 1 (wc (wp j).1 (wp j).2) (wp j).1 j (wH_in _ _) (wp_len _) (by omega)) ?_; simp [pset]
    refine ck_intro' (by omega) ?_; simp [pset]
    repeat (refine ck_intro' (by first | omega | (simp; omega) | kernel_rfl) ?_; try simp)
    rw [hw]
    have e : (wp (j + 1)).2 = (wp j).2 ++ [(powO (wp j).1 j).2] := rfl
    refine WLoop_drop (wH (wp (j + 1)).1 (wp (j + 1)).2) [⟨0, false, 1, [A.int IntKind.i64 (powO (wp j).1 j).2], none⟩] (by rw [e]; simp [ints]) (by simp) (by simp) (by simp) ?_
    exact ih (j + 1) (by omega) (by omega)
  obtain rfl : j = 5 := by omega
  exact LeV.tell [some 2, some 3] (by simp) (by simp) (by simp)
theorem impl_WorldNew_k   {S : FuncId → Bool} {H : List Blk} {K : A → Dl → Prop} {zs : List A} (hS : S 5 = false) (hv : viewL (viewA 8 H) zs = some []) (ho : noOwns zs = true ∨ nosl (.agg [pref 0 (wp 5).1, jref 1 (wp 5).2, .nil, i6 0, .nil, .nil, .nil]) = true ∧ noslBlks ([pblk (wp 5).1, jblk (wp 5).2]) = true) (hK : K (shiftA H.length (.agg [pref 0 (wp 5).1, jref 1 (wp 5).2, .nil, i6 0, .nil, .nil, .nil])) (.news (([pblk (wp 5).1, jblk (wp 5).2]).map (shiftB H.length)))) : @WCall' Go.Proofs.Try.prog S 5 zs H ⟨K⟩ :=
  WCall_ro' hS hv (impl_WorldNew_c ) rfl ho hK
end Go.Proofs.Ytijileoflejgpaa.C

set_option linter.unusedVariables false
set_option linter.unusedSimpArgs false
set_option maxRecDepth 4000
namespace Go.Proofs.Ytijileoflejgpaa.C
open Go.Sym Go.Proofs.Ytijileoflejgpaa.I
abbrev aW (ns : List Nd) (ks : List Int) : A := .agg [.sl ns.length (enc ns), aI ks, .sl 0 [], i6 0, .sl 0 [], .sl 0 [], .sl 0 []]
theorem laws_eqInstS_c   : T 17 [.sl 0 [], .sl 0 []] [] (.bool true) ([]) := by
  refine semT' (S := S0) hm laws_eqInstS_ok (Nat.le_of_ble_eq_true rfl) ?_
  unfold laws_eqInstS; dsimp only
  simp
  refine WLoop_step' ?_; simp
  exact LeV.ro rfl rfl (by simp)
theorem laws_eqInstS_call   {S : FuncId → Bool} {H : List Blk} {K : A → Dl → Prop} (hS : S 17 = false) (hK : K (.bool true) (.news [])) : @WCall' Go.Proofs.Try.prog S 17 [.sl 0 [], .sl 0 []] H ⟨K⟩ :=
  WCall_pure hS (laws_eqInstS_c ) (by simp) (by simp) (by simp) hK
theorem laws_eqInstS_k   {S : FuncId → Bool} {H : List Blk} {K : A → Dl → Prop} {zs : List A} (hS : S 17 = false) (hv : viewL (viewA 8 H) zs = some [.sl 0 [], .sl 0 []]) (ho : noOwns zs = true ∨ nosl (.bool true) = true) (hK : K (.bool true) (.news [])) : @WCall' Go.Proofs.Try.prog S 17 zs H ⟨K⟩ :=
  WCall_pure hS (laws_eqInstS_c ) hv ho (by simp) hK
theorem laws_eqClaimS_c   : T 18 [.sl 0 [], .sl 0 []] [] (.bool true) ([]) := by
  refine semT' (S := S0) hm laws_eqClaimS_ok (Nat.le_of_ble_eq_true rfl) ?_
  unfold laws_eqClaimS; dsimp only
  simp
  refine WLoop_step' ?_; simp
  exact LeV.ro rfl rfl (by simp)
theorem laws_eqClaimS_call   {S : FuncId → Bool} {H : List Blk} {K : A → Dl → Prop} (hS : S 18 = false) (hK : K (.bool true) (.news [])) : @WCall' Go.Proofs.Try.prog S 18 [.sl 0 [], .sl 0 []] H ⟨K⟩ :=
  WCall_pure hS (laws_eqClaimS_c ) (by simp) (by simp) (by simp) hK
theorem laws_eqClaimS_k   {S : FuncId → Bool} {H : List Blk} {K : A → Dl → Prop} {zs : List A} (hS : S 18 = false) (hv : viewL (viewA 8 H) zs = some [.sl 0 [], .sl 0 []]) (ho : noOwns zs = true ∨ nosl (.bool true) = true) (hK : K (.bool true) (.news [])) : @WCall' Go.Proofs.Try.prog S 18 zs H ⟨K⟩ :=
  WCall_pure hS (laws_eqClaimS_c ) hv ho (by simp) hK
theorem laws_eqWorld_c (ns : List Nd) (ks : List Int) (hl : ns.length < 9223372036854775807) (hl2 : ks.length < 9223372036854775807) : T 6 [aW ns ks, aW ns ks] [] (.bool true) ([]) := by
  refine semT' (S := S0) hm laws_eqWorld_ok (Nat.le_of_ble_eq_true rfl) ?_
  unfold laws_eqWorld; dsimp only
  simp
  refine laws_eqPool_k (ns := ns) (ms := ns) hl hl rfl (by simp) (by simp [noslBlks]) ?_; simp [shiftB]
  refine laws_eqIntS_k (ns := ks) (ms := ks) hl2 hl2 rfl (by simp) (by simp [noslBlks]) ?_; simp [shiftB]
  refine laws_eqInstS_k rfl (by simp) (by simp [noslBlks]) ?_; simp [shiftB]
  refine laws_eqIntS_k (ns := []) (ms := []) (by simp) (by simp) rfl (by simp) (by simp [noslBlks]) ?_; simp [shiftB]
  refine laws_eqIntS_k (ns := []) (ms := []) (by simp) (by simp) rfl (by simp) (by simp [noslBlks]) ?_; simp [shiftB]
  refine laws_eqClaimS_k rfl (by simp) (by simp [noslBlks]) ?_; simp [shiftB]
  exact LeV.ro rfl rfl (by simp)
theorem laws_eqWorld_call {ns : List Nd} {ks : List Int} (hl : ns.length < 9223372036854775807) (hl2 : ks.length < 9223372036854775807) {S : FuncId → Bool} {H : List Blk} {K : A → Dl → Prop} (hS : S 6 = false) (hK : K (.bool true) (.news [])) : @WCall' Go.Proofs.Try.prog S 6 [aW ns ks, aW ns ks] H ⟨K⟩ :=
  WCall_pure hS (laws_eqWorld_c ns ks hl hl2) (by simp) (by simp) (by simp) hK
theorem laws_eqWorld_k {ns : List Nd} {ks : List Int} (hl : ns.length < 9223372036854775807) (hl2 : ks.length < 9223372036854775807) {S : FuncId → Bool} {H : List Blk} {K : A → Dl → Prop} {zs : List A} (hS : S 6 = false) (hv : viewL (viewA 8 H) zs = some [aW ns ks, aW ns ks]) (ho : noOwns zs = true ∨ nosl (.bool true) = true) (hK : K (.bool true) (.news [])) : @WCall' Go.Proofs.Try.prog S 6 zs H ⟨K⟩ :=
  WCall_pure hS (laws_eqWorld_c ns ks hl hl2) hv ho (by simp) hK
theorem laws_markInstS_c (k : Int)  : T 21 [.nil, i6 k] [] (i6 k) ([]) := by
  refine semT' (S := S0) hm laws_markInstS_ok (Nat.le_of_ble_eq_true rfl) ?_
  unfold laws_markInstS; dsimp only
  simp
  refine WLoop_step' ?_; simp
  exact LeV.ro rfl rfl (by simp)
theorem laws_markClaimS_c (k : Int)  : T 22 [.nil, i6 k] [] (i6 k) ([]) := by
  refine semT' (S := S0) hm laws_markClaimS_ok (Nat.le_of_ble_eq_true rfl) ?_
  unfold laws_markClaimS; dsimp only
  simp
  refine WLoop_step' ?_; simp
  exact LeV.ro rfl rfl (by simp)
theorem laws_markIntS_c (k : Int)  : T 20 [.nil, i6 k] [] (i6 k) ([]) := by
  refine semT' (S := S0) hm laws_markIntS_ok (Nat.le_of_ble_eq_true rfl) ?_
  unfold laws_markIntS; dsimp only
  simp
  refine WLoop_step' ?_; simp
  exact LeV.ro rfl rfl (by simp)
theorem laws_heldInstS_c (k : Int)  : T 25 [.sl 0 [], i6 k] [] (i6 k) ([]) := by
  refine semT' (S := S0) hm laws_heldInstS_ok (Nat.le_of_ble_eq_true rfl) ?_
  unfold laws_heldInstS; dsimp only
  simp
  refine WLoop_step' ?_; simp
  exact LeV.ro rfl rfl (by simp)
theorem laws_heldInstS_call {k : Int}  {S : FuncId → Bool} {H : List Blk} {K : A → Dl → Prop} (hS : S 25 = false) (hK : K (i6 k) (.news [])) : @WCall' Go.Proofs.Try.prog S 25 [.sl 0 [], i6 k] H ⟨K⟩ :=
  WCall_pure hS (laws_heldInstS_c k) (by simp) (by simp) (by simp) hK
theorem laws_heldInstS_k {k : Int}  {S : FuncId → Bool} {H : List Blk} {K : A → Dl → Prop} {zs : List A} (hS : S 25 = false) (hv : viewL (viewA 8 H) zs = some [.sl 0 [], i6 k]) (ho : noOwns zs = true ∨ nosl (i6 k) = true) (hK : K (i6 k) (.news [])) : @WCall' Go.Proofs.Try.prog S 25 zs H ⟨K⟩ :=
  WCall_pure hS (laws_heldInstS_c k) hv ho (by simp) hK
theorem laws_heldClaimS_c (k : Int)  : T 26 [.sl 0 [], i6 k] [] (i6 k) ([]) := by
  refine semT' (S := S0) hm laws_heldClaimS_ok (Nat.le_of_ble_eq_true rfl) ?_
  unfold laws_heldClaimS; dsimp only
  simp
  refine WLoop_step' ?_; simp
  exact LeV.ro rfl rfl (by simp)
theorem laws_heldClaimS_call {k : Int}  {S : FuncId → Bool} {H : List Blk} {K : A → Dl → Prop} (hS : S 26 = false) (hK : K (i6 k) (.news [])) : @WCall' Go.Proofs.Try.prog S 26 [.sl 0 [], i6 k] H ⟨K⟩ :=
  WCall_pure hS (laws_heldClaimS_c k) (by simp) (by simp) (by simp) hK
theorem laws_heldClaimS_k {k : Int}  {S : FuncId → Bool} {H : List Blk} {K : A → Dl → Prop} {zs : List A} (hS : S 26 = false) (hv : viewL (viewA 8 H) zs = some [.sl 0 [], i6 k]) (ho : noOwns zs = true ∨ nosl (i6 k) = true) (hK : K (i6 k) (.news [])) : @WCall' Go.Proofs.Try.prog S 26 zs H ⟨K⟩ :=
  WCall_pure hS (laws_heldClaimS_c k) hv ho (by simp) hK
theorem laws_markWorld_m (H : List Blk) (b0 b1 : Nat) (ns : List Nd) (ks : List Int) (k : Int) (m0 : ns.length ≤ 4294967296) (m1 : ks.length ≤ 4294967296) (h0 : H[b0]? = some (pblk ns)) (h1 : H[b1]? = some (jblk ks)) (d1 : b1 ≠ b0) (hk : 0 ≤ k) (hk2 : k ≤ 4294967296) (hcl : Closed1 H.length H = true) : T 7 [.agg [pref b0 ns, jref b1 ks, .nil, i6 0, .nil, .nil, .nil], i6 k] (H) (i6 (k + 3 * ns.length + ks.length)) ((H.set b0 ⟨ns.length, decide (ns.length = 0), 3, enc (mkN k ns.length), none⟩).set b1 ⟨ks.length, decide (ks.length = 0), 1, ints (mkI (k + 3 * ns.length) ks.length), none⟩) := by
  refine semT' (S := (fun f => [19, 20, 37, 21, 22].contains f)) hm laws_markWorld_ok (Nat.le_of_ble_eq_true rfl) ?_
  unfold laws_markWorld; dsimp only
  have l0 : b0 < H.length := (List.getElem?_eq_some_iff.1 h0).1
  have l1 : b1 < H.length := (List.getElem?_eq_some_iff.1 h1).1
  have fin : ∀ {α : Type} {G : List α} {n : Nat} (x : α) (b : Nat), b ∉ [n] → (G.set n x)[b]? = G[b]? := fun x b hb => by simp at hb; rw [List.getElem?_set_ne (Ne.symm hb)]
  simp
  refine WCall_t' rfl [b0] (laws_markPool_m (H ++ [_]) b0 ns.length (decide (ns.length = 0)) ns k (by rw [get_left l0]; exact h0) (by simp) m0 hk hk2 (Closed1_box hcl (by simp [l0, l1]; omega))) (by simp) (fun b hb _ => fin _ _ hb) ?_
  simp [set_left l0]
  refine WCall_t' rfl [b1] (laws_markIntS_m _ b1 ks.length (decide (ks.length = 0)) ks (k + 3 * ns.length) (by rw [get_left (by simpa using l1), List.getElem?_set_ne d1.symm]; exact h1) (by simp) m1 (by omega) (by omega)) (by simp) (fun b hb _ => fin _ _ hb) ?_
  rw [set_left (show b1 < (H.set b0 _).length by simpa using l1)]
  simp
  refine rest_call rfl (laws_markInstS_c _) (by simp) (by simp) ?_; simp
  refine rest_call rfl (laws_markIntS_c _) (by simp) (by simp) ?_; simp
  refine rest_call rfl (laws_markIntS_c _) (by simp) (by simp) ?_; simp
  refine rest_call rfl (laws_markClaimS_c _) (by simp) (by simp) ?_; simp
  exact LeV.drop (by simp) (by simpa using Closed1_set (by simp) _ _ (Closed1_set (by simp) _ _ hcl)) (by simp)
theorem laws_heldWorld_c (n m : Nat) (k : Int) (m0 : n ≤ 4294967296) (m1 : m ≤ 4294967296) (hk : 0 ≤ k) (hk2 : k ≤ 4294967296) : T 8 [.agg [.sl n (enc (mkN k n)), .sl m (ints (mkI (k + 3 * n) m)), .sl 0 [], i6 0, .sl 0 [], .sl 0 [], .sl 0 []], i6 k] [] (i6 (k + 3 * n + m)) ([]) := by
  refine semT' (S := S0) hm laws_heldWorld_ok (Nat.le_of_ble_eq_true rfl) ?_
  unfold laws_heldWorld; dsimp only
  have e0 : ¬ k + 3 * (n : Int) < 0 := by omega
  have e1 : ¬ k + 3 * (n : Int) + m < 0 := by omega
  simp
  refine laws_heldPool_k (n := n) (k := k) m0 hk hk2 rfl (by simp) (by simp) ?_; simp [e0]
  refine laws_heldIntS_k (n := m) (k := k + 3 * n) m1 (by omega) (by omega) rfl (by simp) (by simp) ?_; simp [e1]
  refine laws_heldInstS_k (k := k + 3 * n + m) rfl (by simp) (by simp) ?_; simp [e1]
  refine laws_heldIntS_k (n := 0) (k := k + 3 * n + m) (by omega) (by omega) (by omega) rfl (by simp [mkI]) (by simp) ?_; simp [e1]
  refine laws_heldIntS_k (n := 0) (k := k + 3 * n + m) (by omega) (by omega) (by omega) rfl (by simp [mkI]) (by simp) ?_; simp [e1]
  refine laws_heldClaimS_k (k := k + 3 * n + m) rfl (by simp) (by simp) ?_; simp [e1]
  exact LeV.ro rfl rfl (by simp)
theorem laws_heldWorld_call {n m : Nat} {k : Int} (m0 : n ≤ 4294967296) (m1 : m ≤ 4294967296) (hk : 0 ≤ k) (hk2 : k ≤ 4294967296) {S : FuncId → Bool} {H : List Blk} {K : A → Dl → Prop} (hS : S 8 = false) (hK : K (i6 (k + 3 * n + m)) (.news [])) : @WCall' Go.Proofs.Try.prog S 8 [.agg [.sl n (enc (mkN k n)), .sl m (ints (mkI (k + 3 * n) m)), .sl 0 [], i6 0, .sl 0 [], .sl 0 [], .sl 0 []], i6 k] H ⟨K⟩ :=
  WCall_pure hS (laws_heldWorld_c n m k m0 m1 hk hk2) (by simp) (by simp) (by simp) hK
theorem laws_heldWorld_k {n m : Nat} {k : Int} (m0 : n ≤ 4294967296) (m1 : m ≤ 4294967296) (hk : 0 ≤ k) (hk2 : k ≤ 4294967296) {S : FuncId → Bool} {H : List Blk} {K : A → Dl → Prop} {zs : List A} (hS : S 8 = false) (hv : viewL (viewA 8 H) zs = some [.agg [.sl n (enc (mkN k n)), .sl m (ints (mkI (k + 3 * n) m)), .sl 0 [], i6 0, .sl 0 [], .sl 0 [], .sl 0 []], i6 k]) (ho : noOwns zs = true ∨ nosl (i6 (k + 3 * n + m)) = true) (hK : K (i6 (k + 3 * n + m)) (.news [])) : @WCall' Go.Proofs.Try.prog S 8 zs H ⟨K⟩ :=
  WCall_pure hS (laws_heldWorld_c n m k m0 m1 hk hk2) hv ho (by simp) hK
theorem laws_FnExactWorldNew_c   : T 3 [] [] (.bool true) ([]) := by
  refine semT' (S := (fun f => [7, 19, 20, 37, 21, 22].contains f)) hm laws_FnExactWorldNew_ok (Nat.le_of_ble_eq_true rfl) ?_
  unfold laws_FnExactWorldNew; dsimp only
  have h0 : (wp 5).1.length ≤ 500 := wp_len 5
  have h1 : (wp 5).2.length = 5 := wp_klen 5
  simp
  refine spec_WorldNew_k rfl (by simp) (by simp [noslBlks]) ?_; simp [shiftB]
  refine impl_WorldNew_k rfl (by simp) (by simp [noslBlks]) ?_; simp [shiftB]
  obtain ⟨ns, en⟩ : ∃ n, (wp 5).1 = n := ⟨_, rfl⟩
  obtain ⟨ks, ek⟩ : ∃ n, (wp 5).2 = n := ⟨_, rfl⟩
  rw [en] at h0
  rw [ek] at h1
  rw [en, ek]
  refine laws_eqWorld_k (ns := ns) (ks := ks) (by omega) (by omega) rfl (by simp) (by simp [noslBlks]) ?_; simp [shiftB]
  refine WCall_t' rfl [1, 2] (laws_markWorld_m _ 1 2 ns ks 1 (by omega) (by omega) (by simp) (by simp) (by omega) (by omega) (by omega) (by simp)) (by simp) (fun b hb _ => by simp at hb; rw [List.getElem?_set_ne (by omega), List.getElem?_set_ne (by omega)]) ?_; simp
  have e1 : ¬ 1 + 3 * (ns.length : Int) + ks.length < 0 := by omega
  refine laws_heldWorld_k (n := ns.length) (m := ks.length) (k := 1) (by omega) (by omega) (by omega) (by omega) rfl (by simp) (by simp [noslBlks]) ?_; simp [shiftB]
  simp [e1]
  refine impl_WorldNew_k rfl (by simp) (by simp [noslBlks]) ?_; simp [shiftB]
  rw [en, ek]
  refine laws_eqWorld_k (ns := ns) (ks := ks) (by omega) (by omega) rfl (by simp) (by simp [noslBlks]) ?_; simp [shiftB]
  refine laws_heldWorld_k (n := ns.length) (m := ks.length) (k := 1) (by omega) (by omega) (by omega) (by omega) rfl (by simp) (by simp [noslBlks]) ?_; simp [shiftB]
  simp [e1]
  exact LeV.ro rfl rfl rfl
end Go.Proofs.Ytijileoflejgpaa.C
