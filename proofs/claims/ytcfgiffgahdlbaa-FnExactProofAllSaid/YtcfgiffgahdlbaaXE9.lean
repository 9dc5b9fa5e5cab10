/- The first step of a term, in the reference. Conditions: those that each theorem names. -/
import Derived.Test.YtcfgiffgahdlbaaXE8
set_option linter.unusedVariables false
set_option linter.unusedSimpArgs false
set_option maxRecDepth 4000
namespace Go.Proofs.Ytcfgiffgahdlbaa.C
open Go.Sym Go.Proofs.Ytcfgiffgahdlbaa.I
/-- The step that makes a term of its parts. -/
def madeF (ns : List Nd) (st : List Int) (t : Int) : Option Sp :=
  if partsF (nodeAt ns t).k = 1 then (if 0 ≤ sv st (nodeAt ns t).a then some ⟨3, t, sv st (nodeAt ns t).a, 0⟩ else none)
  else if partsF (nodeAt ns t).k = 2 then (if 0 ≤ sv st (nodeAt ns t).a ∧ 0 ≤ sv st (nodeAt ns t).b then some ⟨3, t, sv st (nodeAt ns t).a, sv st (nodeAt ns t).b⟩ else none)
  else none
def restF (ns : List Nd) (st : List Int) (t : Int) : Option Sp := (shareF ns st t).or ((upF ns st 5 t).or ((upF ns st 6 t).or ((upF ns st 7 t).or (upF ns st 8 t))))
/-- The step that is first for a term. -/
def stepF (ns : List Nd) (ks : List Int) (st : List Int) (t : Int) : Option Sp :=
  if hasK ks t = true then some ⟨1, t, 0, 0⟩
  else if (nodeAt ns t).k = 1 ∧ pubF (nodeAt ns t).a = true then some ⟨2, t, 0, 0⟩
  else (madeF ns st t).or (restF ns st t)
theorem spec_l9Step_c (ns : List Nd) (ks st : List Int) (t : Int) (hl : ns.length < 9223372036854775807) (hk : ks.length < 9223372036854775807) (hp : poolF ns = true) (hst : st.length = ns.length) (ht : hasF ns.length t = true) : T 53 [aP ns, aI ks, aI st, i6 t] [] (.tup [aSt (optS (stepF ns ks st t)), .bool (stepF ns ks st t).isSome]) ([]) := by
  refine semT' (S := S0) hm spec_l9Step_ok (Nat.le_of_ble_eq_true rfl) ?_
  unfold spec_l9Step; dsimp only
  have w6 : IntKind.i64.wrap 6 = 6 := wrap64 (by omega) (by omega)
  have w7 : IntKind.i64.wrap 7 = 7 := wrap64 (by omega) (by omega)
  have w8 : IntKind.i64.wrap 8 = 8 := wrap64 (by omega) (by omega)
  have w9 : IntKind.i64.wrap 9 = 9 := wrap64 (by omega) (by omega)
  have w1 : IntKind.i64.wrap 1 = 1 := wrap64 (by omega) (by omega)
  have w2 : IntKind.i64.wrap 2 = 2 := wrap64 (by omega) (by omega)
  obtain ⟨j, rfl, hj⟩ := hasN ht
  obtain ⟨q, hq⟩ := enc_at hj
  have h3 : 3 ≤ ns.length * 3 - j * 3 := by omega
  have en := nodeAt_nat hj
  simp [h3, hq, hj]
  refine spec_l1PartsOf_k (ns := ns) (t := j) hl ht rfl (by simp) (by simp [noslBlks]) ?_; simp [shiftB]
  rw [en]
  rcases parts_kind hp hj with hpk | hpk | hpk
  · have hpl : partsL ns[j] = [] := by simp [partsL, hpk]
    rw [hpl]
    simp
    refine WLoop_step' ?_; simp
    refine spec_KnowHas_call (ks := ks) (t := j) hk rfl ?_; simp
    refine br_intro' (fun g => ?_) (fun g => ?_) <;> simp [g]
    · exact LeV.ro rfl rfl (by simp [stepF, g, optS])
    have hk1 : ns[j].k = 1 := partsF_0 hpk
    simp [hk1]
    refine spec_IsPublic_call rfl ?_; simp
    refine br_intro' (fun f => ?_) (fun f => ?_) <;> simp [f]
    · exact LeV.ro rfl rfl (by simp [stepF, g, f, en, hk1, optS])
    have he : stepF ns ks st j = restF ns st j := by simp [stepF, g, f, en, madeF, hpk]
    refine spec_l9Share_k (ns := ns) (st := st) (t := j) hl hp hst ht rfl (by simp) (by simp) ?_; simp
    rcases hsh : shareF ns st j with _ | s
    rotate_left
    · simp [optS]
      refine WLoop_step' ?_; simp
      exact LeV.ro rfl rfl (by rw [he]; simp [restF, hsh, optS])
    simp [optS]
    refine WLoop_step' ?_; simp
    refine spec_l9Up_k (ns := ns) (st := st) (t := j) (r := 5) hl hp hst ht (by omega) rfl (by simp) (by simp) ?_; simp
    rcases h5 : upF ns st 5 j with _ | s
    rotate_left
    · simp [optS, w6]
      refine WLoop_step' ?_; simp
      exact LeV.ro rfl rfl (by rw [he]; simp [restF, optS, *])
    simp [optS, w6]
    refine WLoop_step' ?_; simp
    refine spec_l9Up_k (ns := ns) (st := st) (t := j) (r := 6) hl hp hst ht (by omega) rfl (by simp) (by simp) ?_; simp
    rcases h6 : upF ns st 6 j with _ | s
    rotate_left
    · simp [optS, w7]
      refine WLoop_step' ?_; simp
      exact LeV.ro rfl rfl (by rw [he]; simp [restF, optS, *])
    simp [optS, w7]
    refine WLoop_step' ?_; simp
    refine spec_l9Up_k (ns := ns) (st := st) (t := j) (r := 7) hl hp hst ht (by omega) rfl (by simp) (by simp) ?_; simp
    rcases h7 : upF ns st 7 j with _ | s
    rotate_left
    · simp [optS, w8]
      refine WLoop_step' ?_; simp
      exact LeV.ro rfl rfl (by rw [he]; simp [restF, optS, *])
    simp [optS, w8]
    refine WLoop_step' ?_; simp
    refine spec_l9Up_k (ns := ns) (st := st) (t := j) (r := 8) hl hp hst ht (by omega) rfl (by simp) (by simp) ?_; simp
    rcases h8 : upF ns st 8 j with _ | s
    rotate_left
    · simp [optS, w9]
      refine WLoop_step' ?_; simp
      exact LeV.ro rfl rfl (by rw [he]; simp [restF, optS, *])
    simp [optS, w9]
    refine WLoop_step' ?_; simp
    exact LeV.ro rfl rfl (by rw [he]; simp [restF, optS, *])
  · have hk1 : ns[j].k ≠ 1 := partsF_ne (by omega)
    have hpl : partsL ns[j] = [ns[j].a] := by simp [partsL, hpk]
    obtain ⟨a, ea, hal⟩ := part_in hp hj hpk
    have hal' : a < st.length := by omega
    have esa := sv_nat hal'
    have hmd : madeF ns st j = if 0 ≤ st[a] then some ⟨3, j, st[a], 0⟩ else none := by simp [madeF, en, hpk, ea, esa]
    rw [hpl, ea]
    simp [ints]
    refine WLoop_step' ?_; simp [hal', ints, w1]
    refine WLoop_step' ?_; simp [hal', ints, w1]
    refine spec_KnowHas_call (ks := ks) (t := j) hk rfl ?_; simp
    refine br_intro' (fun g => ?_) (fun g => ?_) <;> simp [g]
    · exact LeV.ro rfl rfl (by simp [stepF, g, optS])
    simp [hk1]
    refine br_intro' (fun f => ?_) (fun f => ?_) <;> (have f0 := f) <;> simp only [decide_eq_true_eq, decide_eq_false_iff_not] at f <;> simp [f0, f, hal', ea]
    · exact LeV.ro rfl rfl (by simp [stepF, g, en, hmd, hk1, f, optS])
    · have he : stepF ns ks st j = restF ns st j := by simp [stepF, g, en, hmd, hk1, f]
      refine spec_l9Share_k (ns := ns) (st := st) (t := j) hl hp hst ht rfl (by simp) (by simp) ?_; simp
      rcases hsh : shareF ns st j with _ | s
      rotate_left
      · simp [optS]
        refine WLoop_step' ?_; simp
        exact LeV.ro rfl rfl (by rw [he]; simp [restF, hsh, optS])
      simp [optS]
      refine WLoop_step' ?_; simp
      refine spec_l9Up_k (ns := ns) (st := st) (t := j) (r := 5) hl hp hst ht (by omega) rfl (by simp) (by simp) ?_; simp
      rcases h5 : upF ns st 5 j with _ | s
      rotate_left
      · simp [optS, w6]
        refine WLoop_step' ?_; simp
        exact LeV.ro rfl rfl (by rw [he]; simp [restF, optS, *])
      simp [optS, w6]
      refine WLoop_step' ?_; simp
      refine spec_l9Up_k (ns := ns) (st := st) (t := j) (r := 6) hl hp hst ht (by omega) rfl (by simp) (by simp) ?_; simp
      rcases h6 : upF ns st 6 j with _ | s
      rotate_left
      · simp [optS, w7]
        refine WLoop_step' ?_; simp
        exact LeV.ro rfl rfl (by rw [he]; simp [restF, optS, *])
      simp [optS, w7]
      refine WLoop_step' ?_; simp
      refine spec_l9Up_k (ns := ns) (st := st) (t := j) (r := 7) hl hp hst ht (by omega) rfl (by simp) (by simp) ?_; simp
      rcases h7 : upF ns st 7 j with _ | s
      rotate_left
      · simp [optS, w8]
        refine WLoop_step' ?_; simp
        exact LeV.ro rfl rfl (by rw [he]; simp [restF, optS, *])
      simp [optS, w8]
      refine WLoop_step' ?_; simp
      refine spec_l9Up_k (ns := ns) (st := st) (t := j) (r := 8) hl hp hst ht (by omega) rfl (by simp) (by simp) ?_; simp
      rcases h8 : upF ns st 8 j with _ | s
      rotate_left
      · simp [optS, w9]
        refine WLoop_step' ?_; simp
        exact LeV.ro rfl rfl (by rw [he]; simp [restF, optS, *])
      simp [optS, w9]
      refine WLoop_step' ?_; simp
      exact LeV.ro rfl rfl (by rw [he]; simp [restF, optS, *])
  · have hk1 : ns[j].k ≠ 1 := partsF_ne (by omega)
    have hpl : partsL ns[j] = [ns[j].a, ns[j].b] := by simp [partsL, hpk]
    obtain ⟨⟨a, ea, hal⟩, b, eb, hbl⟩ := parts_in hp hj hpk
    have hal' : a < st.length := by omega
    have hbl' : b < st.length := by omega
    have esa := sv_nat hal'
    have esb := sv_nat hbl'
    have hmd : madeF ns st j = if 0 ≤ st[a] ∧ 0 ≤ st[b] then some ⟨3, j, st[a], st[b]⟩ else none := by simp [madeF, en, hpk, ea, esa, eb, esb]
    rw [hpl, ea, eb]
    simp [ints]
    refine WLoop_step' ?_; simp [hal', hbl', ints, w1, w2]
    have fin : ∀ B : Bool, B = decide (0 ≤ st[a] ∧ 0 ≤ st[b]) → (B = false → stepF ns ks st j = if hasK ks j = true then some ⟨1, j, 0, 0⟩ else restF ns st j) ∧ (B = true → stepF ns ks st j = if hasK ks j = true then some ⟨1, j, 0, 0⟩ else some ⟨3, j, st[a], st[b]⟩) := fun B hB => by
      constructor
      · intro e
        rw [e] at hB
        have : ¬ (0 ≤ st[a] ∧ 0 ≤ st[b]) := by simpa using hB.symm
        unfold stepF
        rw [hmd, if_neg this, en]
        simp [hk1]
      · intro e
        rw [e] at hB
        have : 0 ≤ st[a] ∧ 0 ≤ st[b] := by simpa using hB.symm
        unfold stepF
        rw [hmd, if_pos this, en]
        simp [hk1]
    by_cases u : 0 ≤ st[a]
    · simp [u]
      refine WLoop_step' ?_; simp [hal', hbl', ints, w1, w2]
      refine WLoop_step' ?_; simp [hal', hbl', ints, w1, w2]
      by_cases v : 0 ≤ st[b]
      · have F := (fin true (by simp [u, v])).2 rfl
        refine spec_KnowHas_call (ks := ks) (t := j) hk rfl ?_; simp
        refine br_intro' (fun g => ?_) (fun g => ?_) <;> simp [g]
        · exact LeV.ro rfl rfl (by rw [F]; simp [g, optS])
        try simp [hk1, eb, ea, hal', hbl', v]
        first | (refine ck_intro' (by kernel_rfl) ?_; try simp [hal', hbl']) | skip
        exact LeV.ro rfl rfl (by rw [F]; simp [g, optS])
      · have F := (fin false (by simp [u, v])).1 rfl
        refine spec_KnowHas_call (ks := ks) (t := j) hk rfl ?_; simp
        refine br_intro' (fun g => ?_) (fun g => ?_) <;> simp [g]
        · exact LeV.ro rfl rfl (by rw [F]; simp [g, optS])
        try simp [hk1, v]
        have he : stepF ns ks st j = restF ns st j := by rw [F]; simp [g]
        refine spec_l9Share_k (ns := ns) (st := st) (t := j) hl hp hst ht rfl (by simp) (by simp) ?_; simp
        rcases hsh : shareF ns st j with _ | s
        rotate_left
        · simp [optS]
          refine WLoop_step' ?_; simp
          exact LeV.ro rfl rfl (by rw [he]; simp [restF, hsh, optS])
        simp [optS]
        refine WLoop_step' ?_; simp
        refine spec_l9Up_k (ns := ns) (st := st) (t := j) (r := 5) hl hp hst ht (by omega) rfl (by simp) (by simp) ?_; simp
        rcases h5 : upF ns st 5 j with _ | s
        rotate_left
        · simp [optS, w6]
          refine WLoop_step' ?_; simp
          exact LeV.ro rfl rfl (by rw [he]; simp [restF, optS, *])
        simp [optS, w6]
        refine WLoop_step' ?_; simp
        refine spec_l9Up_k (ns := ns) (st := st) (t := j) (r := 6) hl hp hst ht (by omega) rfl (by simp) (by simp) ?_; simp
        rcases h6 : upF ns st 6 j with _ | s
        rotate_left
        · simp [optS, w7]
          refine WLoop_step' ?_; simp
          exact LeV.ro rfl rfl (by rw [he]; simp [restF, optS, *])
        simp [optS, w7]
        refine WLoop_step' ?_; simp
        refine spec_l9Up_k (ns := ns) (st := st) (t := j) (r := 7) hl hp hst ht (by omega) rfl (by simp) (by simp) ?_; simp
        rcases h7 : upF ns st 7 j with _ | s
        rotate_left
        · simp [optS, w8]
          refine WLoop_step' ?_; simp
          exact LeV.ro rfl rfl (by rw [he]; simp [restF, optS, *])
        simp [optS, w8]
        refine WLoop_step' ?_; simp
        refine spec_l9Up_k (ns := ns) (st := st) (t := j) (r := 8) hl hp hst ht (by omega) rfl (by simp) (by simp) ?_; simp
        rcases h8 : upF ns st 8 j with _ | s
        rotate_left
        · simp [optS, w9]
          refine WLoop_step' ?_; simp
          exact LeV.ro rfl rfl (by rw [he]; simp [restF, optS, *])
        simp [optS, w9]
        refine WLoop_step' ?_; simp
        exact LeV.ro rfl rfl (by rw [he]; simp [restF, optS, *])
    · have F := (fin false (by simp [u])).1 rfl
      simp [u]
      refine WLoop_step' ?_; simp [hal', hbl', ints, w1, w2]
      refine WLoop_step' ?_; simp [hal', hbl', ints, w1, w2]
      refine spec_KnowHas_call (ks := ks) (t := j) hk rfl ?_; simp
      refine br_intro' (fun g => ?_) (fun g => ?_) <;> simp [g]
      · exact LeV.ro rfl rfl (by rw [F]; simp [g, optS])
      try simp [hk1]
      have he : stepF ns ks st j = restF ns st j := by rw [F]; simp [g]
      refine spec_l9Share_k (ns := ns) (st := st) (t := j) hl hp hst ht rfl (by simp) (by simp) ?_; simp
      rcases hsh : shareF ns st j with _ | s
      rotate_left
      · simp [optS]
        refine WLoop_step' ?_; simp
        exact LeV.ro rfl rfl (by rw [he]; simp [restF, hsh, optS])
      simp [optS]
      refine WLoop_step' ?_; simp
      refine spec_l9Up_k (ns := ns) (st := st) (t := j) (r := 5) hl hp hst ht (by omega) rfl (by simp) (by simp) ?_; simp
      rcases h5 : upF ns st 5 j with _ | s
      rotate_left
      · simp [optS, w6]
        refine WLoop_step' ?_; simp
        exact LeV.ro rfl rfl (by rw [he]; simp [restF, optS, *])
      simp [optS, w6]
      refine WLoop_step' ?_; simp
      refine spec_l9Up_k (ns := ns) (st := st) (t := j) (r := 6) hl hp hst ht (by omega) rfl (by simp) (by simp) ?_; simp
      rcases h6 : upF ns st 6 j with _ | s
      rotate_left
      · simp [optS, w7]
        refine WLoop_step' ?_; simp
        exact LeV.ro rfl rfl (by rw [he]; simp [restF, optS, *])
      simp [optS, w7]
      refine WLoop_step' ?_; simp
      refine spec_l9Up_k (ns := ns) (st := st) (t := j) (r := 7) hl hp hst ht (by omega) rfl (by simp) (by simp) ?_; simp
      rcases h7 : upF ns st 7 j with _ | s
      rotate_left
      · simp [optS, w8]
        refine WLoop_step' ?_; simp
        exact LeV.ro rfl rfl (by rw [he]; simp [restF, optS, *])
      simp [optS, w8]
      refine WLoop_step' ?_; simp
      refine spec_l9Up_k (ns := ns) (st := st) (t := j) (r := 8) hl hp hst ht (by omega) rfl (by simp) (by simp) ?_; simp
      rcases h8 : upF ns st 8 j with _ | s
      rotate_left
      · simp [optS, w9]
        refine WLoop_step' ?_; simp
        exact LeV.ro rfl rfl (by rw [he]; simp [restF, optS, *])
      simp [optS, w9]
      refine WLoop_step' ?_; simp
      exact LeV.ro rfl rfl (by rw [he]; simp [restF, optS, *])
theorem spec_l9Step_call {ns : List Nd} {ks st : List Int} {t : Int} (hl : ns.length < 9223372036854775807) (hk : ks.length < 9223372036854775807) (hp : poolF ns = true) (hst : st.length = ns.length) (ht : hasF ns.length t = true) {S : FuncId → Bool} {H : List Blk} {K : A → Dl → Prop} (hS : S 53 = false) (hK : K (.tup [aSt (optS (stepF ns ks st t)), .bool (stepF ns ks st t).isSome]) (.news [])) : @WCall' Go.Proofs.Try.prog S 53 [aP ns, aI ks, aI st, i6 t] H ⟨K⟩ :=
  WCall_pure hS (spec_l9Step_c ns ks st t hl hk hp hst ht) (by simp) (by simp) (by simp) hK
theorem spec_l9Step_k {ns : List Nd} {ks st : List Int} {t : Int} (hl : ns.length < 9223372036854775807) (hk : ks.length < 9223372036854775807) (hp : poolF ns = true) (hst : st.length = ns.length) (ht : hasF ns.length t = true) {S : FuncId → Bool} {H : List Blk} {K : A → Dl → Prop} {zs : List A} (hS : S 53 = false) (hv : viewL (viewA 8 H) zs = some [aP ns, aI ks, aI st, i6 t]) (ho : noOwns zs = true ∨ nosl (.tup [aSt (optS (stepF ns ks st t)), .bool (stepF ns ks st t).isSome]) = true) (hK : K (.tup [aSt (optS (stepF ns ks st t)), .bool (stepF ns ks st t).isSome]) (.news [])) : @WCall' Go.Proofs.Try.prog S 53 zs H ⟨K⟩ :=
  WCall_pure hS (spec_l9Step_c ns ks st t hl hk hp hst ht) hv ho (by simp) hK
end Go.Proofs.Ytcfgiffgahdlbaa.C
