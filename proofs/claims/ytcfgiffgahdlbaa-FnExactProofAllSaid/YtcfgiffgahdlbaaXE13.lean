/- All steps, in the program. Conditions: those that each theorem names. -/
import Derived.Test.YtcfgiffgahdlbaaXE12
import Derived.Test.YtcfgiffgahdlbaaXSymW
set_option linter.unusedVariables false
set_option linter.unusedSimpArgs false
set_option maxRecDepth 4000
namespace Go.Proofs.Ytcfgiffgahdlbaa.C
open Go.Sym Go.Proofs.Ytcfgiffgahdlbaa.I
theorem impl_prover_step_c (ns : List Nd) (ks : List Int) (x : A) (st : List Int) (t : Int) (hl : ns.length < 9223372036854775807) (hk : ks.length < 9223372036854775807) (hp : poolF ns = true) (hst : st.length = ns.length) (ht : hasF ns.length t = true) (hx : ∀ n H, viewA (n + 2) H x = some x) (ox : noOwn x = true) (hin : ∀ m, inA m x = true) : T 77 [aV ns ks x st, i6 t] [] (.tup [aSt (optS (stepF ns ks st t)), .bool (stepF ns ks st t).isSome]) ([]) := by
  refine semT' (S := S0) hm impl_prover_step_ok (Nat.le_of_ble_eq_true rfl) ?_
  unfold impl_prover_step; dsimp only
  have w6 : IntKind.i64.wrap 6 = 6 := wrap64 (by omega) (by omega)
  have w7 : IntKind.i64.wrap 7 = 7 := wrap64 (by omega) (by omega)
  have w8 : IntKind.i64.wrap 8 = 8 := wrap64 (by omega) (by omega)
  have w9 : IntKind.i64.wrap 9 = 9 := wrap64 (by omega) (by omega)
  obtain ⟨j, rfl, hj⟩ := hasN ht
  obtain ⟨q, hq⟩ := enc_at hj
  have h3 : 3 ≤ ns.length * 3 - j * 3 := by omega
  have en := nodeAt_nat hj
  simp [h3, hq, hj]
  refine slices_Contains_int_call (ks := ks) (t := j) hk rfl ?_; simp
  refine br_intro' (fun g => ?_) (fun g => ?_) <;> simp [g]
  · exact LeV.ro rfl rfl (by simp [stepF, g, optS])
  by_cases hpub : ns[j].k = 1 ∧ pubF ns[j].a = true
  · simp [hpub.1]
    refine impl_IsPublic_call rfl ?_; simp [hpub.2]
    exact LeV.ro rfl rfl (by simp [stepF, g, en, hpub, optS])
  · have hs0 : stepF ns ks st j = (madeF ns st j).or (restF ns st j) := by
      unfold stepF
      rw [en, if_neg (by simp [g]), if_neg hpub]
    by_cases hk1 : ns[j].k = 1
    · simp [hk1]
      have hpf : pubF ns[j].a = false := by simpa [hk1] using hpub
      refine impl_IsPublic_call rfl ?_; simp [hpf]
      refine impl_prover_made_k (ns := ns) (ks := ks) (x := x) (st := st) (t := j) hl hp hst ht hx ox rfl (by simp [hx]) (by simp [ox]) ?_; simp
      rcases hmd : madeF ns st j with _ | s
      rotate_left
      · have hm0 : madeS ns st j = s := by
          have : partsF (nodeAt ns j).k ≠ 0 := fun e => by simp [madeF, e] at hmd
          simp [madeS, this, hmd, optS]
        simp [hm0]
        exact LeV.ro rfl rfl (by rw [hs0]; simp [hmd, optS])
      simp
      refine impl_prover_share_k (ns := ns) (ks := ks) (x := x) (st := st) (t := j) hl hp hst ht hx ox rfl (by simp [hx]) (by simp [ox]) ?_; simp
      have he : stepF ns ks st j = restF ns st j := by rw [hs0, hmd]; rfl
      rcases hsh : shareF ns st j with _ | s
      rotate_left
      · simp [optS]
        exact LeV.ro rfl rfl (by rw [he]; simp [restF, hsh, optS])
      simp [optS]
      refine WLoop_step' ?_; simp
      refine impl_prover_opened_k (ns := ns) (ks := ks) (x := x) (st := st) (r := 5) (t := j) hl hp hst ht (by omega) hx ox hin rfl (by simp [hx]) (by simp [ox]) ?_; simp
      rcases h5 : upF ns st 5 j with _ | s
      rotate_left
      · simp [optS]
        exact LeV.ro rfl rfl (by rw [he]; simp [restF, optS, *])
      simp [optS, w6]
      refine WLoop_step' ?_; simp
      refine impl_prover_opened_k (ns := ns) (ks := ks) (x := x) (st := st) (r := 6) (t := j) hl hp hst ht (by omega) hx ox hin rfl (by simp [hx]) (by simp [ox]) ?_; simp
      rcases h6 : upF ns st 6 j with _ | s
      rotate_left
      · simp [optS]
        exact LeV.ro rfl rfl (by rw [he]; simp [restF, optS, *])
      simp [optS, w7]
      refine WLoop_step' ?_; simp
      refine impl_prover_opened_k (ns := ns) (ks := ks) (x := x) (st := st) (r := 7) (t := j) hl hp hst ht (by omega) hx ox hin rfl (by simp [hx]) (by simp [ox]) ?_; simp
      rcases h7 : upF ns st 7 j with _ | s
      rotate_left
      · simp [optS]
        exact LeV.ro rfl rfl (by rw [he]; simp [restF, optS, *])
      simp [optS, w8]
      refine WLoop_step' ?_; simp
      refine impl_prover_opened_k (ns := ns) (ks := ks) (x := x) (st := st) (r := 8) (t := j) hl hp hst ht (by omega) hx ox hin rfl (by simp [hx]) (by simp [ox]) ?_; simp
      rcases h8 : upF ns st 8 j with _ | s
      rotate_left
      · simp [optS]
        exact LeV.ro rfl rfl (by rw [he]; simp [restF, optS, *])
      simp [optS, w9]
      refine WLoop_step' ?_; simp
      exact LeV.ro rfl rfl (by rw [he]; simp [restF, optS, *])
    · simp [hk1]
      refine impl_prover_made_k (ns := ns) (ks := ks) (x := x) (st := st) (t := j) hl hp hst ht hx ox rfl (by simp [hx]) (by simp [ox]) ?_; simp
      rcases hmd : madeF ns st j with _ | s
      rotate_left
      · have hm0 : madeS ns st j = s := by
          have : partsF (nodeAt ns j).k ≠ 0 := fun e => by simp [madeF, e] at hmd
          simp [madeS, this, hmd, optS]
        simp [hm0]
        exact LeV.ro rfl rfl (by rw [hs0]; simp [hmd, optS])
      simp
      refine impl_prover_share_k (ns := ns) (ks := ks) (x := x) (st := st) (t := j) hl hp hst ht hx ox rfl (by simp [hx]) (by simp [ox]) ?_; simp
      have he : stepF ns ks st j = restF ns st j := by rw [hs0, hmd]; rfl
      rcases hsh : shareF ns st j with _ | s
      rotate_left
      · simp [optS]
        exact LeV.ro rfl rfl (by rw [he]; simp [restF, hsh, optS])
      simp [optS]
      refine WLoop_step' ?_; simp
      refine impl_prover_opened_k (ns := ns) (ks := ks) (x := x) (st := st) (r := 5) (t := j) hl hp hst ht (by omega) hx ox hin rfl (by simp [hx]) (by simp [ox]) ?_; simp
      rcases h5 : upF ns st 5 j with _ | s
      rotate_left
      · simp [optS]
        exact LeV.ro rfl rfl (by rw [he]; simp [restF, optS, *])
      simp [optS, w6]
      refine WLoop_step' ?_; simp
      refine impl_prover_opened_k (ns := ns) (ks := ks) (x := x) (st := st) (r := 6) (t := j) hl hp hst ht (by omega) hx ox hin rfl (by simp [hx]) (by simp [ox]) ?_; simp
      rcases h6 : upF ns st 6 j with _ | s
      rotate_left
      · simp [optS]
        exact LeV.ro rfl rfl (by rw [he]; simp [restF, optS, *])
      simp [optS, w7]
      refine WLoop_step' ?_; simp
      refine impl_prover_opened_k (ns := ns) (ks := ks) (x := x) (st := st) (r := 7) (t := j) hl hp hst ht (by omega) hx ox hin rfl (by simp [hx]) (by simp [ox]) ?_; simp
      rcases h7 : upF ns st 7 j with _ | s
      rotate_left
      · simp [optS]
        exact LeV.ro rfl rfl (by rw [he]; simp [restF, optS, *])
      simp [optS, w8]
      refine WLoop_step' ?_; simp
      refine impl_prover_opened_k (ns := ns) (ks := ks) (x := x) (st := st) (r := 8) (t := j) hl hp hst ht (by omega) hx ox hin rfl (by simp [hx]) (by simp [ox]) ?_; simp
      rcases h8 : upF ns st 8 j with _ | s
      rotate_left
      · simp [optS]
        exact LeV.ro rfl rfl (by rw [he]; simp [restF, optS, *])
      simp [optS, w9]
      refine WLoop_step' ?_; simp
      exact LeV.ro rfl rfl (by rw [he]; simp [restF, optS, *])
theorem impl_prover_step_k {ns : List Nd} {ks : List Int} {x : A} {st : List Int} {t : Int} (hl : ns.length < 9223372036854775807) (hk : ks.length < 9223372036854775807) (hp : poolF ns = true) (hst : st.length = ns.length) (ht : hasF ns.length t = true) (hx : ∀ n H, viewA (n + 2) H x = some x) (ox : noOwn x = true) (hin : ∀ m, inA m x = true) {S : FuncId → Bool} {H : List Blk} {K : A → Dl → Prop} {zs : List A} (hS : S 77 = false) (hv : viewL (viewA 8 H) zs = some [aV ns ks x st, i6 t]) (ho : noOwns zs = true ∨ nosl (.tup [aSt (optS (stepF ns ks st t)), .bool (stepF ns ks st t).isSome]) = true) (hK : K (.tup [aSt (optS (stepF ns ks st t)), .bool (stepF ns ks st t).isSome]) (.news [])) : @WCall' Go.Proofs.Try.prog S 77 zs H ⟨K⟩ :=
  WCall_pure hS (impl_prover_step_c ns ks x st t hl hk hp hst ht hx ox hin) hv ho (by simp) hK
abbrev vrow (ns : List Nd) (ks : List Int) (x : A) : Blk := ⟨0, false, 1, [A.pt [A.sl ns.length (enc ns)], aI ks, x, A.ref 0 0 0 ns.length], none⟩
theorem impl_Pool_proofAll_c (ns : List Nd) (ks : List Int) (hl : ns.length < 9223372036854775807) (hk : ks.length < 9223372036854775807) (hp : poolF ns = true) : T 54 [.pt [.sl ns.length (enc ns)], aI ks] [] (tref' 0 (allV ns ks)) ([tblk (allV ns ks)]) := by
  refine semT' (S := S0) hm impl_Pool_proofAll_ok (Nat.le_of_ble_eq_true rfl) ?_
  unfold impl_Pool_proofAll; dsimp only
  have h5 := poolF_len hp
  simp
  refine ck_intro' (by omega) ?_; simp
  rw [← ints_rep', show List.replicate ns.length (0 : Int) = fillI ns.length 0 by simp [fillI]]
  refine WLoop_fam (fun i : Nat => [(5, A.ptr 1 0 0), (22, i6 ns.length), (23, i6 i)]) (fun i => [⟨0, false, 1, ints (fillI ns.length i), none⟩, vrow ns ks .nil]) (fun i => ns.length - i)
    (fun i => i ≤ ns.length) ?_ 0 (Nat.zero_le _)
  intro i hi ih
  simp
  refine br_intro' (fun h => ?_) (fun h => ?_) <;> (have h0 := h) <;> (try simp at h) <;> try simp [h0, h]
  · have h' := h
    have hw := wrap_succ (n := i) (by omega)
    have hfl := fillI_len hi
    repeat (refine ck_intro' (by first | omega | (simp; omega) | kernel_rfl) ?_; try simp [h', hfl, ints_set', fillI_set h', hw])
    exact ih (i + 1) h' (by omega)
  have hi0 : i = ns.length := by omega
  subst hi0
  rw [show fillI ns.length ns.length = List.replicate ns.length (-1) by simp [fillI]]
  refine WLoop_virtC 4 (b := 1) (off := 2) (k := vrow ns ks .nil) rfl rfl rfl rfl ?_
  refine WLoop_fam (fun p : List Int × List Sp × Bool => [(5, A.ptr 1 0 0), (7, A.bool p.2.2)]) (fun p => [⟨0, false, 1, ints p.1, none⟩, vrow ns ks (tref' 2 p.2.1), tblk p.2.1]) (fun p => 2 * negs p.1 + p.2.2.toNat)
    (fun p => p.1.length = ns.length ∧ p.2.1.length + negs p.1 = ns.length ∧ (p.2.2 = false → allV ns ks = p.2.1) ∧ ∃ k, negs p.1 ≤ k ∧ (p.2.2 = true → allV ns ks = (allGo ns ks (k + 1) p.1 p.2.1).2)) ?_ (List.replicate ns.length (-1), [], true) ⟨by simp, by simp [negs_rep], by simp, ns.length, by simp [negs_rep], fun _ => rfl⟩
  rintro ⟨st, out, more⟩ ⟨hst, hon, hfin, k, hnk, hgo⟩ ih
  simp only at hst hon hfin hnk hgo
  cases more with
  | false =>
    simp
    rw [hfin rfl]
    first | (refine LeV.tell [none] ?_ ?_ ?_ <;> (simp; done)) | (refine LeV.tell [some 0] ?_ ?_ ?_ <;> (simp; done)) | (refine LeV.tell [some 1] ?_ ?_ ?_ <;> (simp; done)) | (refine LeV.tell [some 2] ?_ ?_ ?_ <;> (simp; done)) | (refine LeV.tell [some 3] ?_ ?_ ?_ <;> (simp; done)) | (refine LeV.tell [some 4] ?_ ?_ ?_ <;> (simp; done)) | (refine LeV.tell [some 5] ?_ ?_ ?_ <;> (simp; done)) | (refine LeV.tell [some 6] ?_ ?_ ?_ <;> (simp; done)) | (refine LeV.tell [some 7] ?_ ?_ ?_ <;> (simp; done)) | (refine LeV.tell [some 8] ?_ ?_ ?_ <;> (simp; done)) | (refine LeV.tell [some 9] ?_ ?_ ?_ <;> (simp; done)) | (refine LeV.tell [some 10] ?_ ?_ ?_ <;> (simp; done)) | (refine LeV.tell [some 11] ?_ ?_ ?_ <;> (simp; done)) | (refine LeV.tell [some 12] ?_ ?_ ?_ <;> (simp; done)) | (refine LeV.tell [some 13] ?_ ?_ ?_ <;> (simp; done)) | (refine LeV.tell [some 14] ?_ ?_ ?_ <;> (simp; done)) | (refine LeV.tell [some 15] ?_ ?_ ?_ <;> (simp; done))
  | true =>
    simp
    refine WLoop_fam (fun p : Nat × List Int × List Sp × Bool => [(5, A.ptr 1 0 0), (7, A.bool p.2.2.2), (34, i6 ns.length), (35, i6 p.1)]) (fun p => [⟨0, false, 1, ints p.2.1, none⟩, vrow ns ks (tref' 2 p.2.2.1), tblk p.2.2.1]) (fun p => ns.length - p.1)
      (fun p => p.1 ≤ ns.length ∧ p.2.1.length = ns.length ∧ p.2.2.1.length + negs p.2.1 = ns.length ∧ negs p.2.1 ≤ negs st ∧ (p.2.2.2 = true → negs p.2.1 < negs st) ∧ passGo ns ks ns.length 0 st out false = passGo ns ks (ns.length - p.1) p.1 p.2.1 p.2.2.1 p.2.2.2) ?_ (0, st, out, false) ⟨Nat.zero_le _, hst, hon, Nat.le_refl _, by simp, rfl⟩
    rintro ⟨t, st1, out1, m1⟩ ⟨htl, hst1, hon1, hle, hlt, hpg⟩ ih2
    simp only at htl hst1 hon1 hle hlt hpg
    simp
    refine br_intro' (fun u => ?_) (fun u => ?_) <;> (have u0 := u) <;> simp at u <;> simp [u0, u]
    · have htn : t < ns.length := by omega
      have hts : t < st1.length := by omega
      have hw := wrap_succ (n := t) (by omega)
      have hpn : passGo ns ks (ns.length - t) t st1 out1 m1 = if 0 ≤ st1[t] then passGo ns ks (ns.length - (t + 1)) (t + 1) st1 out1 m1
        else match stepF ns ks st1 t with
        | some s => passGo ns ks (ns.length - (t + 1)) (t + 1) (st1.set t out1.length) (out1 ++ [s]) true
        | none => passGo ns ks (ns.length - (t + 1)) (t + 1) st1 out1 m1 := by
        rw [show ns.length - t = (ns.length - (t + 1)) + 1 by omega, passGo, sv_nat hts]
        try rfl
      simp [hst1, htn]
      refine br_intro' (fun g => ?_) (fun g => ?_) <;> (have g0 := g) <;> simp only [decide_eq_true_eq, decide_eq_false_iff_not] at g <;> simp [g0, g]
      · rw [hw]
        exact ih2 (t + 1, st1, out1, m1) ⟨by omega, hst1, hon1, hle, hlt, by rw [hpg, hpn, if_pos g]⟩ (by simp; omega)
      · refine impl_prover_step_k (ns := ns) (ks := ks) (x := aSs out1) (st := st1) (t := t) hl hk hp hst1 (hasF_of htn) (by simp) (by simp) (by simp) rfl (by simp [← hst1]) (by simp) ?_; simp
        have hneg : st1[t] < 0 := by omega
        have hns := negs_set hts hneg (v := (out1.length : Int)) (by omega)
        have hlo : out1.length < 500 := by omega
        rcases hs : stepF ns ks st1 t with _ | s
        · simp [optS]
          rw [hw]
          refine WLoop_drop [⟨0, false, 1, ints st1, none⟩, vrow ns ks (tref' 2 out1), tblk out1] [_] rfl (by simp) (by simp [inAs_scals _ (enc_scals ns), inAs_scals _ (ints_scals ks)]) (by simp) ?_
          exact ih2 (t + 1, st1, out1, m1) ⟨by omega, hst1, hon1, hle, hlt, by rw [hpg, hpn, if_neg g, hs]⟩ (by simp; omega)
        · simp [optS, hst1, htn]
          repeat (refine ck_intro' (by first | omega | (simp; omega) | kernel_rfl) ?_; try simp [hst1, htn, ints_set', hw])
          trace_state
          refine WLoop_drop [⟨0, false, 1, ints (st1.set t out1.length), none⟩, vrow ns ks (tref' 2 (out1 ++ [s])), tblk (out1 ++ [s])] [_, _] (by simp [encS_snoc]; exact ⟨rfl, rfl⟩) (by simp) (by simp [inAs_scals _ (enc_scals ns), inAs_scals _ (ints_scals ks)]) (by simp) ?_
          exact ih2 (t + 1, st1.set t out1.length, out1 ++ [s], true) ⟨by omega, by simp [hst1], by simp; omega, by simp; omega, fun _ => by simp; omega, by rw [hpg, hpn, if_neg g, hs]⟩ (by simp; omega)
    · have htn : t = ns.length := by omega
      subst htn
      rw [Nat.sub_self] at hpg
      refine WLoop_env [(5, A.ptr 1 0 0), (7, A.bool m1)] ?_ ?_
      · intro t y hy
        simp [Sym.get] at hy ⊢
        (repeat' split at hy) <;> simp_all
      refine ih (st1, out1, m1) ⟨hst1, hon1, ?_, ?_⟩ ?_
      · intro e
        simp only at e
        subst e
        rw [hgo rfl, allGo_end hpg]
      · cases m1 with
        | false => exact ⟨_, Nat.le_refl _, by simp⟩
        | true =>
          have := hlt rfl
          obtain ⟨k', rfl⟩ : ∃ k', k = k' + 1 := ⟨k - 1, by omega⟩
          exact ⟨k', by simp; omega, fun _ => by rw [hgo rfl, allGo_more hpg]⟩
      · cases m1 with
        | false => simp; omega
        | true => have := hlt rfl; simp; omega
theorem impl_Pool_proofAll_k {ns : List Nd} {ks : List Int} (hl : ns.length < 9223372036854775807) (hk : ks.length < 9223372036854775807) (hp : poolF ns = true) {S : FuncId → Bool} {H : List Blk} {K : A → Dl → Prop} {zs : List A} (hS : S 54 = false) (hv : viewL (viewA 8 H) zs = some [.pt [.sl ns.length (enc ns)], aI ks]) (ho : noOwns zs = true ∨ nosl (tref' 0 (allV ns ks)) = true ∧ noslBlks ([tblk (allV ns ks)]) = true) (hK : K (shiftA H.length (tref' 0 (allV ns ks))) (.news (([tblk (allV ns ks)]).map (shiftB H.length)))) : @WCall' Go.Proofs.Try.prog S 54 zs H ⟨K⟩ :=
  WCall_ro' hS hv (impl_Pool_proofAll_c ns ks hl hk hp) rfl ho hK
theorem impl_ProofAll_c (ns : List Nd) (ks : List Int) (hl : ns.length < 9223372036854775807) (hk : ks.length < 9223372036854775807) : T 25 [aP ns, aI ks] [] (tref' 0 (allSt ns ks)) ([tblk (allSt ns ks)]) := by
  refine semT' (S := S0) hm impl_ProofAll_ok (Nat.le_of_ble_eq_true rfl) ?_
  unfold impl_ProofAll; dsimp only
  simp
  refine impl_KnowOk_k (ns := ns) (ks := ks) hl hk rfl (by simp) (by simp [noslBlks]) ?_; simp [shiftB]
  refine br_intro' (fun hkp => ?_) (fun hkp => ?_) <;> simp [hkp]
  · rw [show allSt ns ks = allV ns ks from if_pos hkp]
    refine impl_Pool_proofAll_k (ns := ns) (ks := ks) hl hk (kpF_pool hkp) rfl (by simp) (by simp [noslBlks]) ?_; simp [shiftB]
    first | (refine LeV.tell [none] ?_ ?_ ?_ <;> (simp; done)) | (refine LeV.tell [some 0] ?_ ?_ ?_ <;> (simp; done)) | (refine LeV.tell [some 1] ?_ ?_ ?_ <;> (simp; done)) | (refine LeV.tell [some 2] ?_ ?_ ?_ <;> (simp; done)) | (refine LeV.tell [some 3] ?_ ?_ ?_ <;> (simp; done)) | (refine LeV.tell [some 4] ?_ ?_ ?_ <;> (simp; done)) | (refine LeV.tell [some 5] ?_ ?_ ?_ <;> (simp; done)) | (refine LeV.tell [some 6] ?_ ?_ ?_ <;> (simp; done)) | (refine LeV.tell [some 7] ?_ ?_ ?_ <;> (simp; done)) | (refine LeV.tell [some 8] ?_ ?_ ?_ <;> (simp; done)) | (refine LeV.tell [some 9] ?_ ?_ ?_ <;> (simp; done)) | (refine LeV.tell [some 10] ?_ ?_ ?_ <;> (simp; done)) | (refine LeV.tell [some 11] ?_ ?_ ?_ <;> (simp; done)) | (refine LeV.tell [some 12] ?_ ?_ ?_ <;> (simp; done)) | (refine LeV.tell [some 13] ?_ ?_ ?_ <;> (simp; done)) | (refine LeV.tell [some 14] ?_ ?_ ?_ <;> (simp; done)) | (refine LeV.tell [some 15] ?_ ?_ ?_ <;> (simp; done))
  · rw [show allSt ns ks = [] from if_neg (by simp [hkp])]
    first | (refine LeV.tell [none] ?_ ?_ ?_ <;> (simp; done)) | (refine LeV.tell [some 0] ?_ ?_ ?_ <;> (simp; done)) | (refine LeV.tell [some 1] ?_ ?_ ?_ <;> (simp; done)) | (refine LeV.tell [some 2] ?_ ?_ ?_ <;> (simp; done)) | (refine LeV.tell [some 3] ?_ ?_ ?_ <;> (simp; done)) | (refine LeV.tell [some 4] ?_ ?_ ?_ <;> (simp; done)) | (refine LeV.tell [some 5] ?_ ?_ ?_ <;> (simp; done)) | (refine LeV.tell [some 6] ?_ ?_ ?_ <;> (simp; done)) | (refine LeV.tell [some 7] ?_ ?_ ?_ <;> (simp; done)) | (refine LeV.tell [some 8] ?_ ?_ ?_ <;> (simp; done)) | (refine LeV.tell [some 9] ?_ ?_ ?_ <;> (simp; done)) | (refine LeV.tell [some 10] ?_ ?_ ?_ <;> (simp; done)) | (refine LeV.tell [some 11] ?_ ?_ ?_ <;> (simp; done)) | (refine LeV.tell [some 12] ?_ ?_ ?_ <;> (simp; done)) | (refine LeV.tell [some 13] ?_ ?_ ?_ <;> (simp; done)) | (refine LeV.tell [some 14] ?_ ?_ ?_ <;> (simp; done)) | (refine LeV.tell [some 15] ?_ ?_ ?_ <;> (simp; done))
theorem impl_ProofAll_k {ns : List Nd} {ks : List Int} (hl : ns.length < 9223372036854775807) (hk : ks.length < 9223372036854775807) {S : FuncId → Bool} {H : List Blk} {K : A → Dl → Prop} {zs : List A} (hS : S 25 = false) (hv : viewL (viewA 8 H) zs = some [aP ns, aI ks]) (ho : noOwns zs = true ∨ nosl (tref' 0 (allSt ns ks)) = true ∧ noslBlks ([tblk (allSt ns ks)]) = true) (hK : K (shiftA H.length (tref' 0 (allSt ns ks))) (.news (([tblk (allSt ns ks)]).map (shiftB H.length)))) : @WCall' Go.Proofs.Try.prog S 25 zs H ⟨K⟩ :=
  WCall_ro' hS hv (impl_ProofAll_c ns ks hl hk) rfl ho hK
end Go.Proofs.Ytcfgiffgahdlbaa.C
