/- All steps, in the program. Conditions: those that each theorem names. -/
import Derived.Test.YtcfgiffgahdlbaaXE7E12
import Derived.Test.YtcfgiffgahdlbaaXSymW
import Derived.Test.YtcfgiffgahdlbaaXE1E6
set_option linter.unusedVariables false
set_option linter.unusedSimpArgs false
set_option maxRecDepth 4000
namespace Go.Proofs.Ytcfgiffgahdlbaa.C
open Go.Sym Go.Proofs.Ytcfgiffgahdlbaa.I
theorem impl_prover_step_c (ns : List Nd) (ks : List Int) (x : A) (st : List Int) (t : Int) (hl : ns.length < 9223372036854775807) (hk : ks.length < 9223372036854775807) (hp : poolF ns = true) (hst : st.length = ns.length) (ht : hasF ns.length t = true) (hx : ∀ n H, viewA (n + 2) H x = some x) (ox : noOwn x = true) (hin : ∀ m, inA m x = true) : T 77 [aV ns ks x st, i6 t] [] (.tup [aSt (optS (stepF ns ks st t)), .bool (stepF ns ks st t).isSome]) ([]) := by
  refine semT' (S := S0) hm impl_prover_step_ok (Nat.le_of_ble_eq_true rfl) ?_
  unfold impl_prover_step; dsimp only
  have w6 : IntKind.i64.wrap 6 = 6 := wrap64 (by omega) (by omega)
  have w7 : IntKind.i64.wrap 7 = 7 := wrap64 (by omega) (by omega)
  have w8 : IntKind.i64.wrap 8 = 8 := wrap64 (by omega) (by omega)
  have w9 : IntKind.i64.wrap 9 = 9 := wrap64 (by omega) (by omega)
  obtain ⟨j, rfl, hj⟩ := hasN ht
  obtain ⟨q, hq⟩ := enc_at hj
  have h3 : 3 ≤ ns.length * 3 - j * 3 := by omega
  have en := nodeAt_nat hj
  simp [h3, hq, hj]
  refine slices_Contains_int_call (ks := ks) (t := j) hk rfl ?_; simp
  refine br_intro' (fun g => ?_) (fun g => ?_) <;> simp [g]
  · exact LeV.ro rfl rfl (by simp [stepF, g, optS])
  by_cases hpub : ns[j].k = 1 ∧ pubF ns[j].a = true
  · simp [hpub.1]
    refine impl_IsPublic_call rfl ?_; simp [hpub.2]
    exact LeV.ro rfl rfl (by simp [stepF, g, en, hpub, optS])
  · have hs0 : stepF ns ks st j = (madeF ns st j).or (restF ns st j) := by
      unfold stepF
      rw [en, if_neg (by simp [g]), if_neg hpub]
    by_cases hk1 : ns[j].k = 1
    · simp [hk1]
      have hpf : pubF ns[j].a = false := by simpa [hk1] using hpub
      refine impl_IsPublic_call rfl ?_; simp [hpf]
      refine impl_prover_made_k (ns := ns) (ks := ks) (x := x) (st := st) (t := j) hl hp hst ht hx ox rfl (by simp [hx]) (by simp [ox]) ?_; simp
      rcases hmd : madeF ns st j with _ | s
      rotate_left
      · have hm0 : madeS ns st j = s := by
          have : partsF (nodeAt ns j).k ≠ 0 := fun e => by simp [madeF, e] at hmd
          simp [madeS, this, hmd, optS]
        simp [hm0]
        exact LeV.ro rfl rfl (by rw [hs0]; simp [hmd, optS])
      simp
      refine impl_prover_share_k (ns := ns) (ks := ks) (x := x) (st := st) (t := j) hl hp hst ht hx ox rfl (by simp [hx]) (by simp [ox]) ?_; simp
      have he : stepF ns ks st j = restF ns st j := by rw [hs0, hmd]; rfl
      rcases hsh : shareF ns st j with _ | s
      rotate_left
      · simp [optS]
        exact LeV.ro rfl rfl (by rw [he]; simp [restF, hsh, optS])
      simp [optS]
      refine WLoop_step' ?_; simp
      refine impl_prover_opened_k (ns := ns) (ks := ks) (x := x) (st := st) (r := 5) (t := j) hl hp hst ht (by omega) hx ox hin rfl (by simp [hx]) (by simp [ox]) ?_; simp
      rcases h5 : upF ns st 5 j with _ | s
      rotate_left
      · simp [optS]
        exact LeV.ro rfl rfl (by rw [he]; simp [restF, optS, *])
      simp [optS, w6]
      refine WLoop_step' ?_; simp
      refine impl_prover_opened_k (ns := ns) (ks := ks) (x := x) (st := st) (r := 6) (t := j) hl hp hst ht (by omega) hx ox hin rfl (by simp [hx]) (by simp [ox]) ?_; simp
      rcases h6 : upF ns st 6 j with _ | s
      rotate_left
      · simp [optS]
        exact LeV.ro rfl rfl (by rw [he]; simp [restF, optS, *])
      simp [optS, w7]
      refine WLoop_step' ?_; simp
      refine impl_prover_opened_k (ns := ns) (ks := ks) (x := x) (st := st) (r := 7) (t := j) hl hp hst ht (by omega) hx ox hin rfl (by simp [hx]) (by simp [ox]) ?_; simp
      rcases h7 : upF ns st 7 j with _ | s
      rotate_left
      · simp [optS]
        exact LeV.ro rfl rfl (by rw [he]; simp [restF, optS, *])
      simp [optS, w8]
      refine WLoop_step' ?_; simp
      refine impl_prover_opened_k (ns := ns) (ks := ks) (x := x) (st := st) (r := 8) (t := j) hl hp hst ht (by omega) hx ox hin rfl (by simp [hx]) (by simp [ox]) ?_; simp
      rcases h8 : upF ns st 8 j with _ | s
      rotate_left
      · simp [optS]
        exact LeV.ro rfl rfl (by rw [he]; simp [restF, optS, *])
      simp [optS, w9]
      refine WLoop_step' ?_; simp
      exact LeV.ro rfl rfl (by rw [he]; simp [restF, optS, *])
    · simp [hk1]
      refine impl_prover_made_k (ns := ns) (ks := ks) (x := x) (st := st) (t := j) hl hp hst ht hx ox rfl (by simp [hx]) (by simp [ox]) ?_; simp
      rcases hmd : madeF ns st j with _ | s
      rotate_left
      · have hm0 : madeS ns st j = s := by
          have : partsF (nodeAt ns j).k ≠ 0 := fun e => by simp [madeF, e] at hmd
          simp [madeS, this, hmd, optS]
        simp [hm0]
        exact LeV.ro rfl rfl (by rw [hs0]; simp [hmd, optS])
      simp
      refine impl_prover_share_k (ns := ns) (ks := ks) (x := x) (st := st) (t := j) hl hp hst ht hx ox rfl (by simp [hx]) (by simp [ox]) ?_; simp
      have he : stepF ns ks st j = restF ns st j := by rw [hs0, hmd]; rfl
      rcases hsh : shareF ns st j with _ | s
      rotate_left
      · simp [optS]
        exact LeV.ro rfl rfl (by rw [he]; simp [restF, hsh, optS])
      simp [optS]
      refine WLoop_step' ?_; simp
      refine impl_prover_opened_k (ns := ns) (ks := ks) (x := x) (st := st) (r := 5) (t := j) hl hp hst ht (by omega) hx ox hin rfl (by simp [hx]) (by simp [ox]) ?_; simp
      rcases h5 : upF ns st 5 j with _ | s
      rotate_left
      · simp [optS]
        exact LeV.ro rfl rfl (by rw [he]; simp [restF, optS, *])
      simp [optS, w6]
      refine WLoop_step' ?_; simp
      refine impl_prover_opened_k (ns := ns) (ks := ks) (x := x) (st := st) (r := 6) (t := j) hl hp hst ht (by omega) hx ox hin rfl (by simp [hx]) (by simp [ox]) ?_; simp
      rcases h6 : upF ns st 6 j with _ | s
      rotate_left
      · simp [optS]
        exact LeV.ro rfl rfl (by rw [he]; simp [restF, optS, *])
      simp [optS, w7]
      refine WLoop_step' ?_; simp
      refine impl_prover_opened_k (ns := ns) (ks := ks) (x := x) (st := st) (r := 7) (t := j) hl hp hst ht (by omega) hx ox hin rfl (by simp [hx]) (by simp [ox]) ?_; simp
      rcases h7 : upF ns st 7 j with _ | s
      rotate_left
      · simp [optS]
        exact LeV.ro rfl rfl (by rw [he]; simp [restF, optS, *])
      simp [optS, w8]
      refine WLoop_step' ?_; simp
      refine impl_prover_opened_k (ns := ns) (ks := ks) (x := x) (st := st) (r := 8) (t := j) hl hp hst ht (by omega) hx ox hin rfl (by simp [hx]) (by simp [ox]) ?_; simp
      rcases h8 : upF ns st 8 j with _ | s
      rotate_left
      · simp [optS]
        exact LeV.ro rfl rfl (by rw [he]; simp [restF, optS, *])
      simp [optS, w9]
      refine WLoop_step' ?_; simp
      exact LeV.ro rfl rfl (by rw [he]; simp [restF, optS, *])
theorem impl_prover_step_k {ns : List Nd} {ks : List Int} {x : A} {st : List Int} {t : Int} (hl : ns.length < 9223372036854775807) (hk : ks.length < 9223372036854775807) (hp : poolF ns = true) (hst : st.length = ns.length) (ht : hasF ns.length t = true) (hx : ∀ n H, viewA (n + 2) H x = some x) (ox : noOwn x = true) (hin : ∀ m, inA m x = true) {S : FuncId → Bool} {H : List Blk} {K : A → Dl → Prop} {zs : List A} (hS : S 77 = false) (hv : viewL (viewA 8 H) zs = some [aV ns ks x st, i6 t]) (ho : noOwns zs = true ∨ nosl (.tup [aSt (optS (stepF ns ks st t)), .bool (stepF ns ks st t).isSome]) = true) (hK : K (.tup [aSt (optS (stepF ns ks st t)), .bool (stepF ns ks st t).isSome]) (.news [])) : @WCall' Go.Proofs.Try.prog S 77 zs H ⟨K⟩ :=
  WCall_pure hS (impl_prover_step_c ns ks x st t hl hk hp hst ht hx ox hin) hv ho (by simp) hK
abbrev vrow (ns : List Nd) (ks : List Int) (x : A) : Blk := ⟨0, false, 1, [A.pt [A.sl ns.length (enc ns)], aI ks, x, A.ref 0 0 0 ns.length], none⟩
theorem impl_Pool_proofAll_c (ns : List Nd) (ks : List Int) (hl : ns.length < 9223372036854775807) (hk : ks.length < 9223372036854775807) (hp : poolF ns = true) : T 54 [.pt [.sl ns.length (enc ns)], aI ks] [] (tref' 0 (allV ns ks)) ([tblk (allV ns ks)]) := by
  refine semT' (S := S0) hm impl_Pool_proofAll_ok (Nat.le_of_ble_eq_true rfl) ?_
  unfold impl_Pool_proofAll; dsimp only
  have h5 := poolF_len hp
  simp
  refine ck_intro' (by omega) ?_; simp
  rw [← ints_rep', show List.replicate ns.length (0 : Int) = fillI ns.length 0 by simp [fillI]]
  refine WLoop_fam (fun i : Nat => [(5, A.ptr 1 0 0), (22, i6 ns.length), (23, i6 i)]) (fun i => [⟨0, false, 1, ints (fillI ns.length i), none⟩, vrow ns ks .nil]) (fun i => ns.length - i)
    (fun i => i ≤ ns.length) ?_ 0 (Nat.zero_le _)
  intro i hi ih
  simp
  refine br_intro' (fun h => ?_) (fun h => ?_) <;> (have h0 := h) <;> (try simp at h) <;> try simp [h0, h]
  · have h' := h
    have hw := wrap_succ (n := i) (by omega)
    have hfl := fillI_len hi
    repeat (refine ck_intro' (by first | omega | (simp; omega) | kernel_rfl) ?_; try simp [h', hfl, ints_set', fillI_set h', hw])
    exact ih (i + 1) h' (by omega)
  have hi0 : i = ns.length := by omega
  subst hi0
  rw [show fillI ns.length ns.length = List.replicate ns.length (-1) by simp [fillI]]
  refine WLoop_virtC 4 (b := 1) (off := 2) (k := vrow ns ks .nil) rfl rfl rfl rfl ?_
  refine WLoop_fam (fun p : List Int × List Sp × Bool => [(5, A.ptr 1 0 0), (7, A.bool p.2.2)]) (fun p => [⟨0, false, 1, ints p.1, none⟩, vrow ns ks (tref' 2 p.2.1), tblk p.2.1]) (fun p => 2 * negs p.1 + p.2.2.toNat)
    (fun p => p.1.length = ns.length ∧ p.2.1.length + negs p.1 = ns.length ∧ (p.2.2 = false → allV ns ks = p.2.1) ∧ ∃ k, negs p.1 ≤ k ∧ (p.2.2 = true → allV ns ks = (allGo ns ks (k + 1) p.1 p.2.1).2)) ?_ (List.replicate ns.length (-1), [], true) ⟨by simp, by simp [negs_rep], by simp, ns.length, by simp [negs_rep], fun _ => rfl⟩
  rintro ⟨st, out, more⟩ ⟨hst, hon, hfin, k, hnk, hgo⟩ ih
  simp only at hst hon hfin hnk hgo
  cases more with
  | false =>
    simp
    rw [hfin rfl]
    first | (refine LeV.tell [none] ?_ ?_ ?_ <;> (simp; done)) | (refine LeV.tell [some 0] ?_ ?_ ?_ <;> (simp; done)) | (refine LeV.tell [some 1] ?_ ?_ ?_ <;> (simp; done)) | (refine LeV.tell [some 2] ?_ ?_ ?_ <;> (simp; done)) | (refine LeV.tell [some 3] ?_ ?_ ?_ <;> (simp; done)) | (refine LeV.tell [some 4] ?_ ?_ ?_ <;> (simp; done)) | (refine LeV.tell [some 5] ?_ ?_ ?_ <;> (simp; done)) | (refine LeV.tell [some 6] ?_ ?_ ?_ <;> (simp; done)) | (refine LeV.tell [some 7] ?_ ?_ ?_ <;> (simp; done)) | (refine LeV.tell [some 8] ?_ ?_ ?_ <;> (simp; done)) | (refine LeV.tell [some 9] ?_ ?_ ?_ <;> (simp; done)) | (refine LeV.tell [some 10] ?_ ?_ ?_ <;> (simp; done)) | (refine LeV.tell [some 11] ?_ ?_ ?_ <;> (simp; done)) | (refine LeV.tell [some 12] ?_ ?_ ?_ <;> (simp; done)) | (refine LeV.tell [some 13] ?_ ?_ ?_ <;> (simp; done)) | (refine LeV.tell [some 14] ?_ ?_ ?_ <;> (simp; done)) | (refine LeV.tell [some 15] ?_ ?_ ?_ <;> (simp; done))
  | true =>
    simp
    refine WLoop_fam (fun p : Nat × List Int × List Sp × Bool => [(5, A.ptr 1 0 0), (7, A.bool p.2.2.2), (34, i6 ns.length), (35, i6 p.1)]) (fun p => [⟨0, false, 1, ints p.2.1, none⟩, vrow ns ks (tref' 2 p.2.2.1), tblk p.2.2.1]) (fun p => ns.length - p.1)
      (fun p => p.1 ≤ ns.length ∧ p.2.1.length = ns.length ∧ p.2.2.1.length + negs p.2.1 = ns.length ∧ negs p.2.1 ≤ negs st ∧ (p.2.2.2 = true → negs p.2.1 < negs st) ∧ passGo ns ks ns.length 0 st out false = passGo ns ks (ns.length - p.1) p.1 p.2.1 p.2.2.1 p.2.2.2) ?_ (0, st, out, false) ⟨Nat.zero_le _, hst, hon, Nat.le_refl _, by simp, rfl⟩
    rintro ⟨t, st1, out1, m1⟩ ⟨htl, hst1, hon1, hle, hlt, hpg⟩ ih2
    simp only at htl hst1 hon1 hle hlt hpg
    simp
    refine br_intro' (fun u => ?_) (fun u => ?_) <;> (have u0 := u) <;> simp at u <;> simp [u0, u]
    · have htn : t < ns.length := by omega
      have hts : t < st1.length := by omega
      have hw := wrap_succ (n := t) (by omega)
      have hpn : passGo ns ks (ns.length - t) t st1 out1 m1 = if 0 ≤ st1[t] then passGo ns ks (ns.length - (t + 1)) (t + 1) st1 out1 m1
        else match stepF ns ks st1 t with
        | some s => passGo ns ks (ns.length - (t + 1)) (t + 1) (st1.set t out1.length) (out1 ++ [s]) true
        | none => passGo ns ks (ns.length - (t + 1)) (t + 1) st1 out1 m1 := by
        rw [show ns.length - t = (ns.length - (t + 1)) + 1 by omega, passGo, sv_nat hts]
        try rfl
      simp [hst1, htn]
      refine br_intro' (fun g => ?_) (fun g => ?_) <;> (have g0 := g) <;> simp only [decide_eq_true_eq, decide_eq_false_iff_not] at g <;> simp [g0, g]
      · rw [hw]
        exact ih2 (t + 1, st1, out1, m1) ⟨by omega, hst1, hon1, hle, hlt, by rw [hpg, hpn, if_pos g]⟩ (by simp; omega)
      · refine impl_prover_step_k (ns := ns) (ks := ks) (x := aSs out1) (st := st1) (t := t) hl hk hp hst1 (hasF_of htn) (by simp) (by simp) (by simp) rfl (by simp [← hst1]) (by simp) ?_; simp
        have hneg : st1[t] < 0 := by omega
        have hns := negs_set hts hneg (v := (out1.length : Int)) (by omega)
        have hlo : out1.length < 500 := by omega
        rcases hs : stepF ns ks st1 t with _ | s
        · simp [optS]
          rw [hw]
          refine WLoop_drop [⟨0, false, 1, ints st1, none⟩, vrow ns ks (tref' 2 out1), tblk out1] [_] rfl (by simp) (by simp [inAs_scals _ (enc_scals ns), inAs_scals _ (ints_scals ks)]) (by simp) ?_
          exact ih2 (t + 1, st1, out1, m1) ⟨by omega, hst1, hon1, hle, hlt, by rw [hpg, hpn, if_neg g, hs]⟩ (by simp; omega)
        · simp [optS, hst1, htn]
          repeat (refine ck_intro' (by first | omega | (simp; omega) | kernel_rfl) ?_; try simp [hst1, htn, ints_set', hw])
          trace_state
          refine WLoop_drop [⟨0, false, 1, ints (st1.set t out1.length), none⟩, vrow ns ks (tref' 2 (out1 ++ [s])), tblk (out1 ++ [s])] [_, _] (by simp [encS_snoc]; exact ⟨rfl, rfl⟩) (by simp) (by simp [inAs_scals _ (enc_scals ns), inAs_scals _ (ints_scals ks)]) (by simp) ?_
          exact ih2 (t + 1, st1.set t out1.length, out1 ++ [s], true) ⟨by omega, by simp [hst1], by simp; omega, by simp; omega, fun _ => by simp; omega, by rw [hpg, hpn, if_neg g, hs]⟩ (by simp; omega)
    · have htn : t = ns.length := by omega
      subst htn
      rw [Nat.sub_self] at hpg
      refine WLoop_env [(5, A.ptr 1 0 0), (7, A.bool m1)] ?_ ?_
      · intro t y hy
        simp [Sym.get] at hy ⊢
        (repeat' split at hy) <;> simp_all
      refine ih (st1, out1, m1) ⟨hst1, hon1, ?_, ?_⟩ ?_
      · intro e
        simp only at e
        subst e
        rw [hgo rfl, allGo_end hpg]
      · cases m1 with
        | false => exact ⟨_, Nat.le_refl _, by simp⟩
        | true =>
          have := hlt rfl
          obtain ⟨k', rfl⟩ : ∃ k', k = k' + 1 := ⟨k - 1, by omega⟩
          exact ⟨k', by simp; omega, fun _ => by rw [hgo rfl, allGo_more hpg]⟩
      · cases m1 with
        | false => simp; omega
        | true => have := hlt rfl; simp; omega
theorem impl_Pool_proofAll_k {ns : List Nd} {ks : List Int} (hl : ns.length < 9223372036854775807) (hk : ks.length < 9223372036854775807) (hp : poolF ns = true) {S : FuncId → Bool} {H : List Blk} {K : A → Dl → Prop} {zs : List A} (hS : S 54 = false) (hv : viewL (viewA 8 H) zs = some [.pt [.sl ns.length (enc ns)], aI ks]) (ho : noOwns zs = true ∨ nosl (tref' 0 (allV ns ks)) = true ∧ noslBlks ([tblk (allV ns ks)]) = true) (hK : K (shiftA H.length (tref' 0 (allV ns ks))) (.news (([tblk (allV ns ks)]).map (shiftB H.length)))) : @WCall' Go.Proofs.Try.prog S 54 zs H ⟨K⟩ :=
  WCall_ro' hS hv (impl_Pool_proofAll_c ns ks hl hk hp) rfl ho hK
theorem impl_ProofAll_c (ns : List Nd) (ks : List Int) (hl : ns.length < 9223372036854775807) (hk : ks.length < 9223372036854775807) : T 25 [aP ns, aI ks] [] (tref' 0 (allSt ns ks)) ([tblk (allSt ns ks)]) := by
  refine semT' (S := S0) hm impl_ProofAll_ok (Nat.le_of_ble_eq_true rfl) ?_
  unfold impl_ProofAll; dsimp only
  simp
  refine impl_KnowOk_k (ns := ns) (ks := ks) hl hk rfl (by simp) (by simp [noslBlks]) ?_; simp [shiftB]
  refine br_intro' (fun hkp => ?_) (fun hkp => ?_) <;> simp [hkp]
  · rw [show allSt ns ks = allV ns ks from if_pos hkp]
    refine impl_Pool_proofAll_k (ns := ns) (ks := ks) hl hk (kpF_pool hkp) rfl (by simp) (by simp [noslBlks]) ?_; simp [shiftB]
    first | (refine LeV.tell [none] ?_ ?_ ?_ <;> (simp; done)) | (refine LeV.tell [some 0] ?_ ?_ ?_ <;> (simp; done)) | (refine LeV.tell [some 1] ?_ ?_ ?_ <;> (simp; done)) | (refine LeV.tell [some 2] ?_ ?_ ?_ <;> (simp; done)) | (refine LeV.tell [some 3] ?_ ?_ ?_ <;> (simp; done)) | (refine LeV.tell [some 4] ?_ ?_ ?_ <;> (simp; done)) | (refine LeV.tell [some 5] ?_ ?_ ?_ <;> (simp; done)) | (refine LeV.tell [some 6] ?_ ?_ ?_ <;> (simp; done)) | (refine LeV.tell [some 7] ?_ ?_ ?_ <;> (simp; done)) | (refine LeV.tell [some 8] ?_ ?_ ?_ <;> (simp; done)) | (refine LeV.tell [some 9] ?_ ?_ ?_ <;> (simp; done)) | (refine LeV.tell [some 10] ?_ ?_ ?_ <;> (simp; done)) | (refine LeV.tell [some 11] ?_ ?_ ?_ <;> (simp; done)) | (refine LeV.tell [some 12] ?_ ?_ ?_ <;> (simp; done)) | (refine LeV.tell [some 13] ?_ ?_ ?_ <;> (simp; done)) | (refine LeV.tell [some 14] ?_ ?_ ?_ <;> (simp; done)) | (refine LeV.tell [some 15] ?_ ?_ ?_ <;> (simp; done))
  · rw [show allSt ns ks = [] from if_neg (by simp [hkp])]
    first | (refine LeV.tell [none] ?_ ?_ ?_ <;> (simp; done)) | (refine LeV.tell [some 0] ?_ ?_ ?_ <;> (simp; done)) | (refine LeV.tell [some 1] ?_ ?_ ?_ <;> (simp; done)) | (refine LeV.tell [some 2] ?_ ?_ ?_ <;> (simp; done)) | (refine LeV.tell [some 3] ?_ ?_ ?_ <;> (simp; done)) | (refine LeV.tell [some 4] ?_ ?_ ?_ <;> (simp; done)) | (refine LeV.tell [some 5] ?_ ?_ ?_ <;> (simp; done)) | (refine LeV.tell [some 6] ?_ ?_ ?_ <;> (simp; done)) | (refine LeV.tell [some 7] ?_ ?_ ?_ <;> (simp; done)) | (refine LeV.tell [some 8] ?_ ?_ ?_ <;> (simp; done)) | (refine LeV.tell [some 9] ?_ ?_ ?_ <;> (simp; done)) | (refine LeV.tell [some 10] ?_ ?_ ?_ <;> (simp; done)) | (refine LeV.tell [some 11] ?_ ?_ ?_ <;> (simp; done)) | (refine LeV.tell [some 12] ?_ ?_ ?_ <;> (simp; done)) | (refine LeV.tell [some 13] ?_ ?_ ?_ <;> (simp; done)) | (refine LeV.tell [some 14] ?_ ?_ ?_ <;> (simp; done)) | (refine LeV.tell [some 15] ?_ ?_ ?_ <;> (simp; done))
theorem impl_ProofAll_k {ns : List Nd} {ks : List Int} (hl : ns.length < 9223372036854775807) (hk : ks.length < 9223372036854775807) {S : FuncId → Bool} {H : List Blk} {K : A → Dl → Prop} {zs : List A} (hS : S 25 = false) (hv : viewL (viewA 8 H) zs = some [aP ns, aI ks]) (ho : noOwns zs = true ∨ nosl (tref' 0 (allSt ns ks)) = true ∧ noslBlks ([tblk (allSt ns ks)]) = true) (hK : K (shiftA H.length (tref' 0 (allSt ns ks))) (.news (([tblk (allSt ns ks)]).map (shiftB H.length)))) : @WCall' Go.Proofs.Try.prog S 25 zs H ⟨K⟩ :=
  WCall_ro' hS hv (impl_ProofAll_c ns ks hl hk) rfl ho hK
end Go.Proofs.Ytcfgiffgahdlbaa.C

set_option linter.unusedVariables false
set_option linter.unusedSimpArgs false
namespace Go.Proofs.Ytcfgiffgahdlbaa.C
theorem findF_nodeAt {ns : List Nd} {n : Nd} (h : 0 ≤ findF ns n 0) : ∃ x : Nat, findF ns n 0 = x ∧ x < ns.length ∧ nodeAt ns x = n := by
  obtain ⟨j, hj, e, e2⟩ := findF_at ns n 0 h
  exact ⟨j, by simpa using e, hj, by rw [nodeAt_nat hj, e2]⟩
structure PInv (ns : List Nd) (ks : List Int) (st : List Int) (out : List Sp) : Prop where
  len : st.length = ns.length
  idx : ∀ (t : Nat) (h : t < st.length), 0 ≤ st[t] → ∃ i : Nat, ∃ hi : i < out.length, st[t] = i ∧ out[i].t = t
  neg : ∀ (t : Nat) (h : t < st.length), st[t] < 0 → ∀ x ∈ out, x.t ≠ t
  ok : ∀ i : Nat, i < out.length → prF ns ks out i = true
theorem PInv.at {ns : List Nd} {ks st : List Int} {out : List Sp} (I : PInv ns ks st out) {t : Nat} (ht : t < ns.length) (h : 0 ≤ sv st t) : termAt out out.length (sv st t) = t ∧ 0 ≤ sv st t ∧ ¬ (t : Int) < 0 := by
  have hts : t < st.length := by rw [I.len]; exact ht
  rw [sv_nat hts] at h ⊢
  obtain ⟨i, hi, e1, e2⟩ := I.idx t hts h
  refine ⟨?_, h, by omega⟩
  rw [e1]
  have : inF (i : Int) 0 ((out.length : Int) - 1) = true := by simp [inF]; omega
  simp [termAt, this, hi, e2]
theorem upGo_some {ns : List Nd} {st : List Int} {r t : Int} {s : Sp} : ∀ {n i : Nat}, upGo ns st r t n i = some s → ∃ j : Nat, i ≤ j ∧ j < i + n ∧ upOk ns st r t j = true ∧ s = ⟨r, t, sv st j, if r = 7 then sv st (nodeAt ns j).b else 0⟩
  | 0, i, h => by simp [upGo] at h
  | n + 1, i, h => by
    unfold upGo at h
    split at h
    · rename_i g
      exact ⟨i, Nat.le_refl _, by omega, g, by simpa using h.symm⟩
    · obtain ⟨j, h1, h2, h3, h4⟩ := upGo_some h
      exact ⟨j, by omega, by omega, h3, h4⟩
theorem up_ok {ns : List Nd} {ks st : List Int} {out : List Sp} (I : PInv ns ks st out) (hp : poolF ns = true) {t : Nat} (ht : t < ns.length) {r : Int} (hr : r = 5 ∨ r = 6 ∨ r = 7 ∨ r = 8) {s : Sp} (h : upF ns st r t = some s) : stepOkF ns ks out s = true ∧ s.t = t := by
  unfold upF at h
  obtain ⟨j, h1, h2, h3, rfl⟩ := upGo_some h
  have hj : j < ns.length := by have : (t : Int).toNat = t := rfl; omega
  refine ⟨?_, rfl⟩
  simp only [upOk, Bool.and_eq_true, Bool.or_eq_true, decide_eq_true_eq] at h3
  obtain ⟨h4, h5⟩ := h3
  obtain ⟨a1, a2, a3⟩ := I.at hj h4
  simp only [stepOkF, hasF_of ht, Bool.true_and, holdsF]
  rcases hr with rfl | rfl | rfl | rfl
  · have h6 : (nodeAt ns j).k = 2 ∧ (nodeAt ns j).a = t := by simpa using h5
    simp [needsF, lackF, ruleF, a1, h6]
  · have h6 : (nodeAt ns j).k = 2 ∧ (nodeAt ns j).b = t := by simpa using h5
    simp [needsF, lackF, ruleF, a1, h6]
  · have h6 : ((nodeAt ns j).k = 3 ∧ (nodeAt ns j).a = t) ∧ 0 ≤ sv st (nodeAt ns j).b := by simpa using h5
    obtain ⟨⟨h6, h7⟩, h8⟩ := h6
    have hk := h6
    rw [nodeAt_nat hj] at hk
    obtain ⟨_, b, eb, hb⟩ := parts_in hp hj (by rw [hk]; rfl)
    rw [nodeAt_nat hj] at h8
    rw [eb] at h8
    obtain ⟨b1, b2, b3⟩ := I.at (by omega) h8
    have eb2 : (nodeAt ns j).b = b := by rw [nodeAt_nat hj, eb]
    simp [needsF, lackF, ruleF, a1, h6, h7, eb2, b1, b3]
  · have h6 : (nodeAt ns j).k = 4 ∧ (nodeAt ns j).a = t := by simpa using h5
    simp [needsF, lackF, ruleF, a1, h6]
theorem share_ok {ns : List Nd} {ks st : List Int} {out : List Sp} (I : PInv ns ks st out) (hp : poolF ns = true) {t : Nat} (ht : t < ns.length) {s : Sp} (h : shareF ns st t = some s) : stepOkF ns ks out s = true ∧ s.t = t := by
  have en := nodeAt_nat ht
  unfold shareF at h
  split at h
  · cases h
  · rename_i hk
    have hk8 : ns[t].k = 8 := by rw [en] at hk; omega
    obtain ⟨⟨a, ea, hal⟩, b, eb, hbl⟩ := parts_in hp ht (by rw [hk8]; rfl)
    rw [en, ea, eb] at h
    split at h
    · rename_i g
      obtain ⟨g1, g2, g3⟩ := g
      obtain ⟨x, ex, hx, enx⟩ := findF_nodeAt g2
      rw [ex] at g3 h
      obtain ⟨a1, a2, a3⟩ := I.at (by omega) g1
      obtain ⟨b1, b2, b3⟩ := I.at hx g3
      cases h
      refine ⟨?_, rfl⟩
      simp only [stepOkF, hasF_of ht, Bool.true_and, holdsF]
      simp [needsF, lackF, ruleF, a1, b1, enx, en, ea, eb, hk8]
    · split at h
      · rename_i g
        obtain ⟨g1, g2, g3⟩ := g
        obtain ⟨x, ex, hx, enx⟩ := findF_nodeAt g2
        rw [ex] at g3 h
        obtain ⟨a1, a2, a3⟩ := I.at (by omega) g1
        obtain ⟨b1, b2, b3⟩ := I.at hx g3
        cases h
        refine ⟨?_, rfl⟩
        simp only [stepOkF, hasF_of ht, Bool.true_and, holdsF]
        simp [needsF, lackF, ruleF, a1, b1, enx, en, ea, eb, hk8]
      · cases h
theorem made_ok {ns : List Nd} {ks st : List Int} {out : List Sp} (I : PInv ns ks st out) (hp : poolF ns = true) {t : Nat} (ht : t < ns.length) {s : Sp} (h : madeF ns st t = some s) : stepOkF ns ks out s = true ∧ s.t = t := by
  have en := nodeAt_nat ht
  unfold madeF at h
  rw [en] at h
  split at h
  · rename_i hk
    have hk1 := partsF_ne (k := ns[t].k) (by omega)
    obtain ⟨a, ea, hal⟩ := part_in hp ht hk
    rw [ea] at h
    split at h
    · rename_i g
      obtain ⟨a1, a2, a3⟩ := I.at (by omega) g
      cases h
      refine ⟨?_, rfl⟩
      simp only [stepOkF, hasF_of ht, Bool.true_and, holdsF]
      simp [needsF, lackF, ruleF, a1, en, ea, hk, hk1]
    · cases h
  · split at h
    · rename_i hk
      have hk1 := partsF_ne (k := ns[t].k) (by omega)
      obtain ⟨⟨a, ea, hal⟩, b, eb, hbl⟩ := parts_in hp ht hk
      rw [ea, eb] at h
      split at h
      · rename_i g
        obtain ⟨a1, a2, a3⟩ := I.at (by omega) g.1
        obtain ⟨b1, b2, b3⟩ := I.at (by omega) g.2
        cases h
        refine ⟨?_, rfl⟩
        simp only [stepOkF, hasF_of ht, Bool.true_and, holdsF]
        simp [needsF, lackF, ruleF, a1, b1, en, ea, eb, hk, hk1]
      · cases h
    · cases h
theorem or_some {α : Type} {a b : Option α} {s : α} (h : a.or b = some s) : a = some s ∨ b = some s := by
  cases a with
  | none => right; simpa using h
  | some x => left; simpa using h
theorem step_ok {ns : List Nd} {ks st : List Int} {out : List Sp} (I : PInv ns ks st out) (hp : poolF ns = true) {t : Nat} (ht : t < ns.length) {s : Sp} (h : stepF ns ks st t = some s) : stepOkF ns ks out s = true ∧ s.t = t := by
  unfold stepF at h
  split at h
  · rename_i g
    cases h
    refine ⟨?_, rfl⟩
    simp only [stepOkF, hasF_of ht, Bool.true_and, holdsF]
    simp [needsF, lackF, ruleF, g]
  · split at h
    · rename_i g
      cases h
      refine ⟨?_, rfl⟩
      simp only [stepOkF, hasF_of ht, Bool.true_and, holdsF]
      simp [needsF, lackF, ruleF, g]
    · rcases or_some h with h | h
      · exact made_ok I hp ht h
      · unfold restF at h
        rcases or_some h with h | h
        · exact share_ok I hp ht h
        rcases or_some h with h | h
        · exact up_ok I hp ht (by simp) h
        rcases or_some h with h | h
        · exact up_ok I hp ht (by simp) h
        rcases or_some h with h | h
        · exact up_ok I hp ht (by simp) h
        · exact up_ok I hp ht (by simp) h
theorem prF_snoc {ns : List Nd} {ks : List Int} {out : List Sp} {s : Sp} {i : Nat} (h : i < out.length) : prF ns ks (out ++ [s]) i = prF ns ks out i := by
  have e1 : (out ++ [s]).take i = out.take i := List.take_append_of_le_length (by omega)
  have e2 : spAt (out ++ [s]) i = spAt out i := by simp [spAt, List.getElem?_append_left h]
  simp only [prF, freshF, e1, e2]
theorem PInv.put {ns : List Nd} {ks st : List Int} {out : List Sp} (I : PInv ns ks st out) (hp : poolF ns = true) {t : Nat} (ht : t < st.length) (hn : st[t] < 0) {s : Sp} (h : stepF ns ks st t = some s) : PInv ns ks (st.set t out.length) (out ++ [s]) := by
  have htn : t < ns.length := by rw [← I.len]; exact ht
  obtain ⟨s1, s2⟩ := step_ok I hp htn h
  refine ⟨by simp [I.len], ?_, ?_, ?_⟩
  · intro u hu hpos
    simp only [List.length_set] at hu
    rw [List.getElem_set] at hpos ⊢
    split at hpos
    · rename_i e
      subst e
      exact ⟨out.length, by simp, by simp, by simp [s2]⟩
    · rename_i e
      obtain ⟨i, hi, e1, e2⟩ := I.idx u hu hpos
      refine ⟨i, by simp; omega, by rw [if_neg e]; exact e1, by rw [List.getElem_append_left hi]; exact e2⟩
  · intro u hu hneg x hx
    simp only [List.length_set] at hu
    rw [List.getElem_set] at hneg
    split at hneg
    · omega
    · rename_i e
      rcases List.mem_append.1 hx with hx | hx
      · exact I.neg u hu hneg x hx
      · simp only [List.mem_singleton] at hx
        subst hx
        rw [s2]
        omega
  · intro i hi
    simp only [List.length_append, List.length_singleton] at hi
    rcases Nat.lt_or_ge i out.length with g | g
    · rw [prF_snoc g]; exact I.ok i g
    · have : i = out.length := by omega
      subst this
      have e1 : (out ++ [s]).take out.length = out := List.take_left' rfl
      have e2 : spAt (out ++ [s]) out.length = s := by simp [spAt]
      simp only [prF, freshF, e1, e2, s1, Bool.true_and, decide_eq_true_eq]
      intro x hx
      rw [s2]
      exact I.neg t ht hn x hx
theorem passGo_inv {ns : List Nd} {ks : List Int} (hp : poolF ns = true) : ∀ (n t : Nat) (st : List Int) (out : List Sp) (m : Bool), t + n = ns.length → PInv ns ks st out → PInv ns ks (passGo ns ks n t st out m).1 (passGo ns ks n t st out m).2.1
  | 0, t, st, out, m, _, I => I
  | n + 1, t, st, out, m, ht, I => by
    have hts : t < st.length := by rw [I.len]; omega
    unfold passGo
    split
    · exact passGo_inv hp n (t + 1) st out m (by omega) I
    · rename_i g
      rw [sv_nat hts] at g
      split
      · rename_i s hs
        exact passGo_inv hp n (t + 1) _ _ true (by omega) (I.put hp hts (by omega) hs)
      · exact passGo_inv hp n (t + 1) st out m (by omega) I
theorem allGo_inv {ns : List Nd} {ks : List Int} (hp : poolF ns = true) : ∀ (n : Nat) (st : List Int) (out : List Sp), PInv ns ks st out → PInv ns ks (allGo ns ks n st out).1 (allGo ns ks n st out).2
  | 0, st, out, I => I
  | n + 1, st, out, I => by
    have J := passGo_inv hp ns.length 0 st out false (by omega) I
    unfold allGo
    split
    · exact allGo_inv hp n _ _ J
    · exact J
theorem PInv.start (ns : List Nd) (ks : List Int) : PInv ns ks (List.replicate ns.length (-1)) [] := by
  refine ⟨by simp, ?_, ?_, ?_⟩
  · intro t h hp; simp at hp
  · intro t h hn x hx; cases hx
  · intro i hi; simp at hi
theorem allV_inv {ns : List Nd} (ks : List Int) (hp : poolF ns = true) : PInv ns ks (allGo ns ks (ns.length + 1) (List.replicate ns.length (-1)) []).1 (allV ns ks) := allGo_inv hp _ _ _ (PInv.start ns ks)
theorem spAt_take {ss : List Sp} {m i : Nat} (h : i < m) : spAt (ss.take m) i = spAt ss i := by simp [spAt, List.getElem?_take, h]
theorem prF_take {ns : List Nd} {ks : List Int} {ss : List Sp} {m i : Nat} (h : i < m) : prF ns ks (ss.take m) i = prF ns ks ss i := by
  have e1 : (ss.take m).take i = ss.take i := by rw [List.take_take, Nat.min_eq_left (by omega)]
  simp only [prF, freshF, e1, spAt_take h]
theorem prF_well {ns : List Nd} {ks : List Int} {ss : List Sp} {i : Nat} (hi : i < ss.length) (h : prF ns ks ss i = true) : wellF ns ss i = true := by
  simp only [prF, stepOkF, Bool.and_eq_true, holdsF, termAt_take (Nat.le_of_lt hi)] at h
  obtain ⟨⟨h1, h2, _⟩, _⟩ := h
  simp only [lackF, Bool.not_eq_true', decide_eq_false_iff_not, not_or, not_and] at h2
  obtain ⟨g1, g2, g3, g4, g5⟩ := h2
  have key : ∀ k, ¬ termAt ss i k < 0 → inF k 0 ((i : Int) - 1) = true := fun k hk => by
    cases hc : inF k 0 ((i : Int) - 1) with
    | true => rfl
    | false => exact absurd (by simp [termAt, hc]) hk
  simp only [wellF, h1, Bool.true_and, Bool.and_eq_true, Bool.or_eq_true, decide_eq_true_eq]
  refine ⟨⟨by omega, ?_⟩, ?_⟩
  · rcases Int.lt_or_le (needsF ns (spAt ss i)) 1 with u | u
    · exact .inl u
    · exact .inr (key _ (g2 (by omega)))
  · rcases Int.lt_or_le (needsF ns (spAt ss i)) 2 with u | u
    · exact .inl u
    · exact .inr (key _ (g3 (by omega)))
theorem allF_of {p : Nat → Bool} {n : Nat} (h : ∀ i : Nat, i < n → p i = true) : allF p n 0 = true := by
  simp only [allF, List.all_eq_true]
  intro i hi
  simp [List.mem_range'] at hi
  exact h i (by omega)
end Go.Proofs.Ytcfgiffgahdlbaa.C

set_option linter.unusedVariables false
set_option linter.unusedSimpArgs false
set_option maxRecDepth 4000
namespace Go.Proofs.Ytcfgiffgahdlbaa.C
open Go.Sym Go.Proofs.Ytcfgiffgahdlbaa.I
def idxT : List Sp → Int → Int → Int
  | [], _, _ => -1
  | x :: xs, t, i => if x.t = t then i else idxT xs t (i + 1)
theorem idxT_at (t : Int) : ∀ (ss : List Sp) (i : Nat), 0 ≤ idxT ss t i → ∃ j : Nat, ∃ h : j < ss.length, idxT ss t i = i + j ∧ ss[j].t = t
  | [], i, h => by simp [idxT] at h
  | x :: xs, i, h => by
    unfold idxT at h ⊢
    by_cases e : x.t = t
    · rw [if_pos e]; exact ⟨0, by simp, by simp, by simpa using e⟩
    · rw [if_neg e] at h ⊢
      obtain ⟨j, h1, h2, h3⟩ := idxT_at t xs (i + 1) (by simpa using h)
      exact ⟨j + 1, by simp; omega, by push_cast at h2 ⊢; omega, by simpa using h3⟩
theorem idxT_at0 {t : Int} {ss : List Sp} (h : 0 ≤ idxT ss t 0) : ∃ j : Nat, ∃ h : j < ss.length, idxT ss t 0 = j ∧ ss[j].t = t := by
  obtain ⟨j, h1, h2, h3⟩ := idxT_at t ss 0 h
  exact ⟨j, h1, by simpa using h2, h3⟩
/-- The steps up to that of a term. -/
def upto (ss : List Sp) (t : Int) : List Sp := ss.take ((idxT ss t 0).toNat + 1)
def ofF (ns : List Nd) (ks : List Int) (t : Int) : List Sp × Bool := if 0 ≤ idxT (allSt ns ks) t 0 then (trimF ns (upto (allSt ns ks) t), true) else ([], false)
theorem passGo_len (ns : List Nd) (ks : List Int) : ∀ (n t : Nat) (st : List Int) (out : List Sp) (m : Bool), t + n = ns.length → st.length = ns.length → out.length + negs st = ns.length →
    (passGo ns ks n t st out m).1.length = ns.length ∧ (passGo ns ks n t st out m).2.1.length + negs (passGo ns ks n t st out m).1 = ns.length
  | 0, t, st, out, m, _, h1, h2 => ⟨h1, h2⟩
  | n + 1, t, st, out, m, ht, h1, h2 => by
    have hts : t < st.length := by omega
    unfold passGo
    split
    · exact passGo_len ns ks n (t + 1) st out m (by omega) h1 h2
    · rename_i g
      rw [sv_nat hts] at g
      split
      · have := negs_set hts (by omega) (v := (out.length : Int)) (by omega)
        exact passGo_len ns ks n (t + 1) _ _ true (by omega) (by simpa using h1) (by simp; omega)
      · exact passGo_len ns ks n (t + 1) st out m (by omega) h1 h2
theorem allGo_len (ns : List Nd) (ks : List Int) : ∀ (n : Nat) (st : List Int) (out : List Sp), st.length = ns.length → out.length + negs st = ns.length → (allGo ns ks n st out).2.length ≤ ns.length
  | 0, st, out, _, h2 => by simp only [allGo]; omega
  | n + 1, st, out, h1, h2 => by
    have := passGo_len ns ks ns.length 0 st out false (by omega) h1 h2
    unfold allGo
    split
    · exact allGo_len ns ks n _ _ this.1 this.2
    · simp only; omega
theorem allSt_len (ns : List Nd) (ks : List Int) : (allSt ns ks).length ≤ ns.length := by
  unfold allSt
  split
  · exact allGo_len ns ks _ _ _ (by simp) (by simp [negs_rep])
  · simp
theorem allSt_le (ns : List Nd) (ks : List Int) : (allSt ns ks).length ≤ 500 := by
  by_cases h : kpF ns ks = true
  · have := allSt_len ns ks
    have := poolF_len (kpF_pool h)
    omega
  · simp [allSt, h]
theorem encS_tq {ns : List Sp} {j : Nat} (h : j < ns.length) : (encS ns)[j * 4 + 1]? = some (i6 ns[j].t) := by
  obtain ⟨r, hr⟩ := encS_at h
  rw [← List.getElem?_drop, hr]
  rfl
theorem spec_ProofOf_c (ns : List Nd) (ks : List Int) (t : Int) (hl : ns.length < 9223372036854775807) (hk : ks.length < 9223372036854775807) : T 27 [aP ns, aI ks, i6 t] [] (.tup [tref' 0 (ofF ns ks t).1, .bool (ofF ns ks t).2]) ([tblk (ofF ns ks t).1]) := by
  refine semT' (S := S0) hm spec_ProofOf_ok (Nat.le_of_ble_eq_true rfl) ?_
  unfold spec_ProofOf; dsimp only
  have hle := allSt_le ns ks
  simp
  refine spec_ProofAll_k (ns := ns) (ks := ks) hl hk rfl (by simp) (by simp [noslBlks]) ?_; simp [shiftB]
  have hof : ofF ns ks t = if 0 ≤ idxT (allSt ns ks) t 0 then (trimF ns (upto (allSt ns ks) t), true) else ([], false) := rfl
  generalize hss : allSt ns ks = ss at hle hof ⊢
  refine WLoop_fam (fun i : Nat => [(2, i6 t), (3, A.ptr 0 0 0), (8, tref' 1 ss), (9, i6 i)]) (fun _ => [⟨0, false, 1, [A.sl ns.length (enc ns)], none⟩, ⟨ss.length, decide (ss = []), 4, encS ss, none⟩]) (fun i => ss.length - i)
    (fun i => i ≤ ss.length ∧ idxT ss t 0 = idxT (ss.drop i) t i) ?_ 0 ⟨Nat.zero_le _, rfl⟩
  intro i ⟨hi, hf⟩ ih
  simp
  refine br_intro' (fun h => ?_) (fun h => ?_) <;> (have h0 := h) <;> (try simp at h) <;> try simp [h0, h]
  · have h' := h
    have hd : ss.drop i = ss[i] :: ss.drop (i + 1) := List.drop_eq_getElem_cons h'
    have hw := wrap_succ (n := i) (by omega)
    obtain ⟨q, hr⟩ := encS_at h'
    have h4 : i * 4 + 1 < ss.length * 4 := by omega
    have hg := encS_tq h'
    have hge : ∀ h : i * 4 + 1 < (encS ss).length, (encS ss)[i * 4 + 1]'h = i6 ss[i].t := fun h => by
      rw [List.getElem?_eq_getElem h] at hg
      simpa using hg
    simp [h', h4, hr, hge]
    refine br_intro' (fun g => ?_) (fun g => ?_) <;> (have g0 := g) <;> simp only [decide_eq_true_eq, decide_eq_false_iff_not] at g <;> simp [g0, g]
    · have hx : idxT ss t 0 = i := by rw [hf, hd, idxT, if_pos g]
      have hup : upto ss t = ss.take (i + 1) := by simp [upto, hx]
      have hoo : ofF ns ks t = (trimF ns (ss.take (i + 1)), true) := by
        rw [hof, if_pos (by omega), hup]
      rw [hoo]
      refine ck_intro' (by omega) ?_; simp [hw]
      have hmin : min (i + 1) ss.length = i + 1 := by omega
      have h44 : (i + 1) * 4 ≤ ss.length * 4 := by omega
      refine spec_ProofTrim_k (ns := ns) (ss := ss.take (i + 1)) hl (by simp; omega) rfl (by simp [encS_takes, hmin, h44]) (by simp [noslBlks]) ?_; simp [shiftB]
      first | (refine ck_intro' (by kernel_rfl) ?_; try simp) | skip
      first | (refine LeV.tell [none] ?_ ?_ ?_ <;> (simp; done)) | (refine LeV.tell [some 0] ?_ ?_ ?_ <;> (simp; done)) | (refine LeV.tell [some 1] ?_ ?_ ?_ <;> (simp; done)) | (refine LeV.tell [some 2] ?_ ?_ ?_ <;> (simp; done)) | (refine LeV.tell [some 3] ?_ ?_ ?_ <;> (simp; done)) | (refine LeV.tell [some 4] ?_ ?_ ?_ <;> (simp; done)) | (refine LeV.tell [some 5] ?_ ?_ ?_ <;> (simp; done)) | (refine LeV.tell [some 6] ?_ ?_ ?_ <;> (simp; done)) | (refine LeV.tell [some 7] ?_ ?_ ?_ <;> (simp; done)) | (refine LeV.tell [some 8] ?_ ?_ ?_ <;> (simp; done)) | (refine LeV.tell [some 9] ?_ ?_ ?_ <;> (simp; done)) | (refine LeV.tell [some 10] ?_ ?_ ?_ <;> (simp; done)) | (refine LeV.tell [some 11] ?_ ?_ ?_ <;> (simp; done)) | (refine LeV.tell [some 12] ?_ ?_ ?_ <;> (simp; done)) | (refine LeV.tell [some 13] ?_ ?_ ?_ <;> (simp; done)) | (refine LeV.tell [some 14] ?_ ?_ ?_ <;> (simp; done)) | (refine LeV.tell [some 15] ?_ ?_ ?_ <;> (simp; done))
    · rw [hw]
      refine ih (i + 1) ⟨h', ?_⟩ (by omega)
      rw [hf, hd, idxT, if_neg g]
      rfl
  · have hx : idxT ss t 0 = -1 := by rw [hf, List.drop_of_length_le h]; rfl
    rw [show ofF ns ks t = ([], false) by rw [hof, if_neg (by omega)]]
    first | (refine LeV.tell [none] ?_ ?_ ?_ <;> (simp; done)) | (refine LeV.tell [some 0] ?_ ?_ ?_ <;> (simp; done)) | (refine LeV.tell [some 1] ?_ ?_ ?_ <;> (simp; done)) | (refine LeV.tell [some 2] ?_ ?_ ?_ <;> (simp; done)) | (refine LeV.tell [some 3] ?_ ?_ ?_ <;> (simp; done)) | (refine LeV.tell [some 4] ?_ ?_ ?_ <;> (simp; done)) | (refine LeV.tell [some 5] ?_ ?_ ?_ <;> (simp; done)) | (refine LeV.tell [some 6] ?_ ?_ ?_ <;> (simp; done)) | (refine LeV.tell [some 7] ?_ ?_ ?_ <;> (simp; done)) | (refine LeV.tell [some 8] ?_ ?_ ?_ <;> (simp; done)) | (refine LeV.tell [some 9] ?_ ?_ ?_ <;> (simp; done)) | (refine LeV.tell [some 10] ?_ ?_ ?_ <;> (simp; done)) | (refine LeV.tell [some 11] ?_ ?_ ?_ <;> (simp; done)) | (refine LeV.tell [some 12] ?_ ?_ ?_ <;> (simp; done)) | (refine LeV.tell [some 13] ?_ ?_ ?_ <;> (simp; done)) | (refine LeV.tell [some 14] ?_ ?_ ?_ <;> (simp; done)) | (refine LeV.tell [some 15] ?_ ?_ ?_ <;> (simp; done))
theorem spec_ProofOf_k {ns : List Nd} {ks : List Int} {t : Int} (hl : ns.length < 9223372036854775807) (hk : ks.length < 9223372036854775807) {S : FuncId → Bool} {H : List Blk} {K : A → Dl → Prop} {zs : List A} (hS : S 27 = false) (hv : viewL (viewA 8 H) zs = some [aP ns, aI ks, i6 t]) (ho : noOwns zs = true ∨ nosl (.tup [tref' 0 (ofF ns ks t).1, .bool (ofF ns ks t).2]) = true ∧ noslBlks ([tblk (ofF ns ks t).1]) = true) (hK : K (shiftA H.length (.tup [tref' 0 (ofF ns ks t).1, .bool (ofF ns ks t).2])) (.news (([tblk (ofF ns ks t).1]).map (shiftB H.length)))) : @WCall' Go.Proofs.Try.prog S 27 zs H ⟨K⟩ :=
  WCall_ro' hS hv (spec_ProofOf_c ns ks t hl hk) rfl ho hK
theorem impl_ProofOf_1_c (s : Sp) (t : Int)  : T 56 [aSt s, .pt [i6 t]] [] (.bool (decide (s.t = t))) ([]) := by
  refine semT' (S := S0) hm impl_ProofOf_1_ok (Nat.le_of_ble_eq_true rfl) ?_
  unfold impl_ProofOf_1; dsimp only
  simp
  exact LeV.ro rfl rfl (by simp)
theorem impl_ProofOf_1_k {s : Sp} {t : Int}  {S : FuncId → Bool} {H : List Blk} {K : A → Dl → Prop} {zs : List A} (hS : S 56 = false) (hv : viewL (viewA 8 H) zs = some [aSt s, .pt [i6 t]]) (ho : noOwns zs = true ∨ nosl (.bool (decide (s.t = t))) = true) (hK : K (.bool (decide (s.t = t))) (.news [])) : @WCall' Go.Proofs.Try.prog S 56 zs H ⟨K⟩ :=
  WCall_pure hS (impl_ProofOf_1_c s t) hv ho (by simp) hK
theorem slices_IndexFunc_Step_c (ss : List Sp) (t : Int) (hls : ss.length < 9223372036854775807) : T 55 [aSs ss, .fn 56 [.pt [i6 t]]] [] (i6 (idxT ss t 0)) ([]) := by
  refine semT' (S := S0) hm slices_IndexFunc_Step_ok (Nat.le_of_ble_eq_true rfl) ?_
  unfold slices_IndexFunc_Step; dsimp only
  simp
  refine WLoop_fam (fun i : Nat => [(0, aSs ss), (1, .fn 56 [.pt [i6 t]]), (7, i6 ss.length), (8, i6 i)]) (fun _ => []) (fun i => ss.length - i)
    (fun i => i ≤ ss.length ∧ idxT ss t 0 = idxT (ss.drop i) t i) ?_ 0 ⟨Nat.zero_le _, rfl⟩
  intro i ⟨hi, hf⟩ ih
  simp
  refine br_intro' (fun h => ?_) (fun h => ?_) <;> (have h0 := h) <;> (try simp at h) <;> try simp [h0, h]
  · have h' := h
    have hd : ss.drop i = ss[i] :: ss.drop (i + 1) := List.drop_eq_getElem_cons h'
    have hw := wrap_succ (n := i) (by omega)
    obtain ⟨q, hr⟩ := encS_at h'
    have h4 : 4 ≤ ss.length * 4 - i * 4 := by omega
    simp [h', h4, hr]
    refine ck_intro' (by kernel_rfl) ?_; simp
    refine impl_ProofOf_1_k (s := ss[i]) (t := t) rfl (by simp) (by simp) ?_; simp
    refine br_intro' (fun g => ?_) (fun g => ?_) <;> (have g0 := g) <;> simp only [decide_eq_true_eq, decide_eq_false_iff_not] at g <;> simp [g0, g]
    · have hx : idxT ss t 0 = i := by rw [hf, hd, idxT, if_pos g]
      exact LeV.ro rfl rfl (by subst g; rw [hx]; rfl)
    · rw [hw]
      refine ih (i + 1) ⟨h', ?_⟩ (by omega)
      rw [hf, hd, idxT, if_neg g]
      rfl
  · have hx : idxT ss t 0 = -1 := by rw [hf, List.drop_of_length_le h]; rfl
    exact LeV.ro rfl rfl (by rw [hx]; rfl)
theorem slices_IndexFunc_Step_k {ss : List Sp} {t : Int} (hls : ss.length < 9223372036854775807) {S : FuncId → Bool} {H : List Blk} {K : A → Dl → Prop} {zs : List A} (hS : S 55 = false) (hv : viewL (viewA 8 H) zs = some [aSs ss, .fn 56 [.pt [i6 t]]]) (ho : noOwns zs = true ∨ nosl (i6 (idxT ss t 0)) = true) (hK : K (i6 (idxT ss t 0)) (.news [])) : @WCall' Go.Proofs.Try.prog S 55 zs H ⟨K⟩ :=
  WCall_pure hS (slices_IndexFunc_Step_c ss t hls) hv ho (by simp) hK
theorem allSt_pr {ns : List Nd} {ks : List Int} (h : kpF ns ks = true) : ∀ i : Nat, i < (allSt ns ks).length → prF ns ks (allSt ns ks) i = true := by
  rw [show allSt ns ks = allV ns ks from if_pos h]
  exact (allV_inv ks (kpF_pool h)).ok
theorem take_well {ns : List Nd} {ks : List Int} {ss : List Sp} (h : ∀ i : Nat, i < ss.length → prF ns ks ss i = true) (m : Nat) : ∀ i : Nat, i < (ss.take m).length → wellF ns (ss.take m) i = true := by
  intro i hi
  have hi' := hi
  simp only [List.length_take] at hi'
  exact prF_well (ks := ks) hi (by rw [prF_take (by omega)]; exact h i (by omega))
theorem impl_ProofOf_c (ns : List Nd) (ks : List Int) (t : Int) (hl : ns.length < 9223372036854775807) (hk : ks.length < 9223372036854775807) : T 28 [aP ns, aI ks, i6 t] [] (.tup [tref' 0 (ofF ns ks t).1, .bool (ofF ns ks t).2]) ([tblk (ofF ns ks t).1]) := by
  refine semT' (S := S0) hm impl_ProofOf_ok (Nat.le_of_ble_eq_true rfl) ?_
  unfold impl_ProofOf; dsimp only
  have hle := allSt_le ns ks
  simp
  refine impl_ProofAll_k (ns := ns) (ks := ks) hl hk rfl (by simp) (by simp [noslBlks]) ?_; simp [shiftB]
  have hof : ofF ns ks t = if 0 ≤ idxT (allSt ns ks) t 0 then (trimF ns (upto (allSt ns ks) t), true) else ([], false) := rfl
  have hpr : kpF ns ks = true → ∀ i : Nat, i < (allSt ns ks).length → prF ns ks (allSt ns ks) i = true := allSt_pr
  have hnil : kpF ns ks = false → allSt ns ks = [] := fun h => by simp [allSt, h]
  generalize hss : allSt ns ks = ss at hle hof hpr hnil ⊢
  refine slices_IndexFunc_Step_k (ss := ss) (t := t) (by omega) rfl (by simp) (by simp) ?_; simp
  refine br_intro' (fun g => ?_) (fun g => ?_) <;> (have g0 := g) <;> simp only [decide_eq_true_eq, decide_eq_false_iff_not] at g <;> simp [g0, g]
  · rw [show ofF ns ks t = ([], false) by rw [hof, if_neg (by omega)]]
    first | (refine LeV.tell [none] ?_ ?_ ?_ <;> (simp; done)) | (refine LeV.tell [some 0] ?_ ?_ ?_ <;> (simp; done)) | (refine LeV.tell [some 1] ?_ ?_ ?_ <;> (simp; done)) | (refine LeV.tell [some 2] ?_ ?_ ?_ <;> (simp; done)) | (refine LeV.tell [some 3] ?_ ?_ ?_ <;> (simp; done)) | (refine LeV.tell [some 4] ?_ ?_ ?_ <;> (simp; done)) | (refine LeV.tell [some 5] ?_ ?_ ?_ <;> (simp; done)) | (refine LeV.tell [some 6] ?_ ?_ ?_ <;> (simp; done)) | (refine LeV.tell [some 7] ?_ ?_ ?_ <;> (simp; done)) | (refine LeV.tell [some 8] ?_ ?_ ?_ <;> (simp; done)) | (refine LeV.tell [some 9] ?_ ?_ ?_ <;> (simp; done)) | (refine LeV.tell [some 10] ?_ ?_ ?_ <;> (simp; done)) | (refine LeV.tell [some 11] ?_ ?_ ?_ <;> (simp; done)) | (refine LeV.tell [some 12] ?_ ?_ ?_ <;> (simp; done)) | (refine LeV.tell [some 13] ?_ ?_ ?_ <;> (simp; done)) | (refine LeV.tell [some 14] ?_ ?_ ?_ <;> (simp; done)) | (refine LeV.tell [some 15] ?_ ?_ ?_ <;> (simp; done))
  · obtain ⟨i, hi, hx2, e2⟩ := idxT_at0 (t := t) (ss := ss) (by omega)
    have hw := wrap_succ (n := i) (by omega)
    have hup : upto ss t = ss.take (i + 1) := by simp [upto, hx2]
    have hoo : ofF ns ks t = (trimF ns (ss.take (i + 1)), true) := by rw [hof, if_pos (by omega), hup]
    have hmin : min (i + 1) ss.length = i + 1 := by omega
    have h44 : (i + 1) * 4 ≤ ss.length * 4 := by omega
    have hkp : kpF ns ks = true := by
      cases hc : kpF ns ks with
      | true => rfl
      | false => rw [hnil hc] at hi; simp at hi
    have hp := kpF_pool hkp
    have hne : ss.take (i + 1) ≠ [] := by
      intro e
      have := congrArg List.length e
      rw [List.length_take, List.length_nil] at this
      omega
    have hwl := take_well (hpr hkp) (i + 1)
    have ht : trimF ns (ss.take (i + 1)) = trimV ns (ss.take (i + 1)) := if_pos ⟨hne, by rw [List.length_take]; omega, hp, allF_of hwl⟩
    rw [hoo, ht, hx2, hw]
    refine ck_intro' (by omega) ?_; simp [hw]
    refine impl_Pool_trimmed_k (ns := ns) (ss := ss.take (i + 1)) hl hp hne (by rw [List.length_take]; omega) hwl rfl (by simp [encS_takes, hmin, h44]) (by simp [noslBlks]) ?_; simp [shiftB]
    first | (refine LeV.tell [none] ?_ ?_ ?_ <;> (simp; done)) | (refine LeV.tell [some 0] ?_ ?_ ?_ <;> (simp; done)) | (refine LeV.tell [some 1] ?_ ?_ ?_ <;> (simp; done)) | (refine LeV.tell [some 2] ?_ ?_ ?_ <;> (simp; done)) | (refine LeV.tell [some 3] ?_ ?_ ?_ <;> (simp; done)) | (refine LeV.tell [some 4] ?_ ?_ ?_ <;> (simp; done)) | (refine LeV.tell [some 5] ?_ ?_ ?_ <;> (simp; done)) | (refine LeV.tell [some 6] ?_ ?_ ?_ <;> (simp; done)) | (refine LeV.tell [some 7] ?_ ?_ ?_ <;> (simp; done)) | (refine LeV.tell [some 8] ?_ ?_ ?_ <;> (simp; done)) | (refine LeV.tell [some 9] ?_ ?_ ?_ <;> (simp; done)) | (refine LeV.tell [some 10] ?_ ?_ ?_ <;> (simp; done)) | (refine LeV.tell [some 11] ?_ ?_ ?_ <;> (simp; done)) | (refine LeV.tell [some 12] ?_ ?_ ?_ <;> (simp; done)) | (refine LeV.tell [some 13] ?_ ?_ ?_ <;> (simp; done)) | (refine LeV.tell [some 14] ?_ ?_ ?_ <;> (simp; done)) | (refine LeV.tell [some 15] ?_ ?_ ?_ <;> (simp; done))
theorem impl_ProofOf_k {ns : List Nd} {ks : List Int} {t : Int} (hl : ns.length < 9223372036854775807) (hk : ks.length < 9223372036854775807) {S : FuncId → Bool} {H : List Blk} {K : A → Dl → Prop} {zs : List A} (hS : S 28 = false) (hv : viewL (viewA 8 H) zs = some [aP ns, aI ks, i6 t]) (ho : noOwns zs = true ∨ nosl (.tup [tref' 0 (ofF ns ks t).1, .bool (ofF ns ks t).2]) = true ∧ noslBlks ([tblk (ofF ns ks t).1]) = true) (hK : K (shiftA H.length (.tup [tref' 0 (ofF ns ks t).1, .bool (ofF ns ks t).2])) (.news (([tblk (ofF ns ks t).1]).map (shiftB H.length)))) : @WCall' Go.Proofs.Try.prog S 28 zs H ⟨K⟩ :=
  WCall_ro' hS hv (impl_ProofOf_c ns ks t hl hk) rfl ho hK
end Go.Proofs.Ytcfgiffgahdlbaa.C

set_option linter.unusedVariables false
set_option linter.unusedSimpArgs false
set_option maxRecDepth 4000
namespace Go.Proofs.Ytcfgiffgahdlbaa.C
open Go.Sym Go.Proofs.Ytcfgiffgahdlbaa.I
theorem trimGo_len (ns : List Nd) (ss : List Sp) (kb : List Bool) : ∀ (n j : Nat) (now : List Int) (out : List Sp), (trimGo ns ss kb n j now out).length ≤ out.length + n
  | 0, _, _, out => Nat.le_refl _
  | n + 1, j, now, out => by
    unfold trimGo
    split
    · have := trimGo_len ns ss kb n (j + 1) (now.set j out.length) (out ++ [moveF ns now (spAt ss j)])
      simp only [List.length_append, List.length_singleton] at this
      omega
    · have := trimGo_len ns ss kb n (j + 1) now out
      omega
theorem trimF_len (ns : List Nd) (ss : List Sp) : (trimF ns ss).length ≤ ss.length := by
  unfold trimF
  split
  · have := trimGo_len ns ss (keepV ns ss) ss.length 0 (List.replicate ss.length 0) []
    simpa [trimV] using this
  · simp
theorem ofF_len (ns : List Nd) (ks : List Int) (t : Int) : (ofF ns ks t).1.length ≤ 500 := by
  unfold ofF
  split
  · have h1 := trimF_len ns (upto (allSt ns ks) t)
    have h2 := allSt_le ns ks
    have h3 : (upto (allSt ns ks) t).length ≤ (allSt ns ks).length := by simp [upto]; omega
    simp only
    omega
  · simp
theorem laws_FnExactProofOf_c (ns : List Nd) (ks : List Int) (t : Int) (ha : ns.length < 9223372036854775808) (hb : ks.length < 9223372036854775808) (hc : In64 t) : T 6 [aP ns, aI ks, i6 t] [] (.bool true) ([]) := by
  refine semT' (S := (fun f => [17, 48, 18, 26].contains f)) hm laws_FnExactProofOf_ok (Nat.le_of_ble_eq_true rfl) ?_
  unfold laws_FnExactProofOf; dsimp only
  simp
  refine br_intro' (fun g0 => ?_) (fun g0 => ?_) <;> simp at g0 <;> simp [g0]
  · exact LeV.ro rfl rfl rfl
  refine laws_szPool_call (ns := ns) (x := 1048576) ha (by omega) (by omega) rfl ?_; simp
  refine br_intro' (fun g => ?_) (fun g => ?_) <;> simp only [decide_eq_true_eq, decide_eq_false_iff_not, szF_neg] at g <;> simp [szF_neg, g]
  · exact LeV.ro rfl rfl rfl
  have hl : ns.length ≤ 4294967296 := by omega
  have hk : ks.length ≤ 4294967296 := by omega
  have hR := ofF_len ns ks t
  refine laws_toPool_k (ns := ns) hl rfl (by simp) (by simp [noslBlks]) ?_; simp [shiftB]
  refine laws_toIntS_k (xs := ks) hk rfl (by simp) (by simp [noslBlks]) ?_; simp [shiftB]
  refine spec_ProofOf_k (ns := ns) (ks := ks) (t := t) (by omega) (by omega) rfl (by simp) (by simp [noslBlks]) ?_; simp [shiftB]
  refine laws_toPool_k (ns := ns) hl rfl (by simp) (by simp [noslBlks]) ?_; simp [shiftB]
  refine laws_toIntS_k (xs := ks) hk rfl (by simp) (by simp [noslBlks]) ?_; simp [shiftB]
  refine impl_ProofOf_k (ns := ns) (ks := ks) (t := t) (by omega) (by omega) rfl (by simp) (by simp [noslBlks]) ?_; simp [shiftB]
  refine laws_eqStepS_k (ns := (ofF ns ks t).1) (ms := (ofF ns ks t).1) (by omega) (by omega) rfl (by simp) (by simp [noslBlks]) ?_; simp [shiftB]
  first | (refine ck_intro' (by kernel_rfl) ?_; try simp) | skip
  refine laws_toPool_k (ns := ns) hl rfl (by simp) (by simp [noslBlks]) ?_; simp [shiftB]
  refine laws_eqPool_k (ns := ns) (ms := ns) (by omega) (by omega) rfl (by simp) (by simp [noslBlks]) ?_; simp [shiftB]
  first | (refine ck_intro' (by kernel_rfl) ?_; try simp) | skip
  refine laws_toIntS_k (xs := ks) hk rfl (by simp) (by simp [noslBlks]) ?_; simp [shiftB]
  refine laws_eqIntS_k (ns := ks) (ms := ks) (by omega) (by omega) rfl (by simp) (by simp [noslBlks]) ?_; simp [shiftB]
  first | (refine ck_intro' (by kernel_rfl) ?_; try simp) | skip
  refine WCall_t' rfl [4] (laws_markPool_m _ 4 ns.length false ns 1 (by simp) (by simp) hl (by omega) (by omega) (by simp)) (by simp) (fun b hb _ => by simp at hb; rw [List.getElem?_set_ne (Ne.symm hb)]) ?_; simp
  refine WCall_t' rfl [6] (laws_markIntS_m _ 6 ks.length false ks (1 + 3 * ns.length) (by simp) (by simp) hk (by omega) (by omega)) (by simp) (fun b hb _ => by simp at hb; rw [List.getElem?_set_ne (Ne.symm hb)]) ?_; simp
  have k1 : ¬ 1 + 3 * (ns.length : Int) + ks.length < 0 := by omega
  have k2 : ¬ 1 + 4 * (((ofF ns ks t).1).length : Int) < 0 := by omega
  simp [k1]
  refine laws_eqStepS_k (ns := (ofF ns ks t).1) (ms := (ofF ns ks t).1) (by omega) (by omega) rfl (by simp) (by simp [noslBlks]) ?_; simp [shiftB]
  first | (refine ck_intro' (by kernel_rfl) ?_; try simp) | skip
  refine WCall_t' rfl [7] (laws_markStepS_m _ 7 (ofF ns ks t).1.length (decide ((ofF ns ks t).1 = [])) (ofF ns ks t).1 1 (by simp) (by simp) (by omega) (by omega) (by omega)) (by simp) (fun b hb _ => by simp at hb; rw [List.getElem?_set_ne (Ne.symm hb)]) ?_; simp
  refine laws_heldStepS_k (n := (ofF ns ks t).1.length) (k := 1) (by omega) (by omega) (by omega) rfl (by simp) (by simp [noslBlks]) ?_; simp [shiftB]
  simp [k2]
  refine laws_toPool_k (ns := ns) hl rfl (by simp) (by simp [noslBlks]) ?_; simp [shiftB]
  refine laws_toIntS_k (xs := ks) hk rfl (by simp) (by simp [noslBlks]) ?_; simp [shiftB]
  refine impl_ProofOf_k (ns := ns) (ks := ks) (t := t) (by omega) (by omega) rfl (by simp) (by simp [noslBlks]) ?_; simp [shiftB]
  first | (refine ck_intro' (by kernel_rfl) ?_; try simp) | skip
  refine laws_eqStepS_k (ns := (ofF ns ks t).1) (ms := (ofF ns ks t).1) (by omega) (by omega) rfl (by simp) (by simp [noslBlks]) ?_; simp [shiftB]
  first | (refine ck_intro' (by kernel_rfl) ?_; try simp) | skip
  refine laws_heldStepS_k (n := (ofF ns ks t).1.length) (k := 1) (by omega) (by omega) (by omega) rfl (by simp) (by simp [noslBlks]) ?_; simp [shiftB]
  simp [k2]
  exact LeV.ro rfl rfl rfl
end Go.Proofs.Ytcfgiffgahdlbaa.C
