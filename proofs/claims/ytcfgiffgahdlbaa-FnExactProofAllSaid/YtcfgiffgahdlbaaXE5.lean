/- Whether a list of steps is a proof. Conditions: those that each theorem names. -/
import Derived.Test.YtcfgiffgahdlbaaXE4
set_option linter.unusedVariables false
set_option linter.unusedSimpArgs false
set_option maxRecDepth 4000
namespace Go.Proofs.Ytcfgiffgahdlbaa.C
open Go.Sym Go.Proofs.Ytcfgiffgahdlbaa.I
abbrev spAt (ss : List Sp) (i : Nat) : Sp := ss.getD i ⟨0, 0, 0, 0⟩
theorem spAt_lt {ss : List Sp} {i : Nat} (h : i < ss.length) : spAt ss i = ss[i] := by simp [spAt, h]
def freshF (ss : List Sp) (i : Nat) : Bool := decide (∀ x ∈ ss.take i, x.t ≠ (spAt ss i).t)
def prF (ns : List Nd) (ks : List Int) (ss : List Sp) (i : Nat) : Bool := stepOkF ns ks (ss.take i) (spAt ss i) && freshF ss i
/-- A list of steps that is a proof. -/
def proofF (ns : List Nd) (ks : List Int) (ss : List Sp) : Bool := kpF ns ks && decide (ss.length ≤ 500) && allF (prF ns ks ss) ss.length 0
theorem termAt_take {ss : List Sp} {i : Nat} (h : i ≤ ss.length) (k : Int) : termAt (ss.take i) (ss.take i).length k = termAt ss i k := by
  have e : (ss.take i).length = i := by simp; omega
  rw [e]
  unfold termAt
  split
  · rename_i g
    simp [inF] at g
    have : k.toNat < i := by omega
    simp [List.getElem?_take, this]
  · rfl
theorem kpF_pool {ns : List Nd} {ks : List Int} (h : kpF ns ks = true) : poolF ns = true := by simp [kpF] at h; exact h.1
theorem spec_l9Proof_c (ns : List Nd) (ks : List Int) (ss : List Sp) (hl : ns.length < 9223372036854775807) (hk : ks.length < 9223372036854775807) (hls : ss.length < 9223372036854775807) : T 49 [aP ns, aI ks, aSs ss] [] (.bool (proofF ns ks ss)) ([]) := by
  refine semT' (S := S0) hm spec_l9Proof_ok (Nat.le_of_ble_eq_true rfl) ?_
  unfold spec_l9Proof; dsimp only
  simp
  refine spec_KnowOk_call hl rfl ?_; simp
  refine br_intro' (fun hkp => ?_) (fun hkp => ?_) <;> simp [hkp]
  rotate_left
  · exact LeV.ro rfl rfl (by simp [proofF, hkp])
  have hp := kpF_pool hkp
  refine br_intro' (fun h5 => ?_) (fun h5 => ?_) <;> simp at h5 <;> simp [h5]
  · exact LeV.ro rfl rfl (by simp [proofF]; omega)
  have h500 : ss.length ≤ 500 := by omega
  have hP : proofF ns ks ss = allF (prF ns ks ss) ss.length 0 := by simp [proofF, hkp, h500]
  rw [hP]
  refine WLoop_fam (fun j : Nat => [(1, aI ks), (2, aSs ss), (3, A.ptr 0 0 0), (7, i6 j)]) (fun _ => [⟨0, false, 1, [A.sl ns.length (enc ns)], none⟩]) (fun j => ss.length - j)
    (fun j => j ≤ ss.length ∧ allF (prF ns ks ss) ss.length 0 = allF (prF ns ks ss) ss.length j ∧ ∀ i : Nat, i < j → (h : i < ss.length) → hasF ns.length ss[i].t = true) ?_ 0 ⟨Nat.zero_le _, rfl, fun i h => by omega⟩
  intro j ⟨hj, hf, hss⟩ ih
  simp
  refine br_intro' (fun h => ?_) (fun h => ?_) <;> (have h0 := h) <;> (try simp at h) <;> try simp [h0, h]
  · have h' := h
    obtain ⟨q, hr⟩ := encS_at h
    have h4 : 4 ≤ ss.length * 4 - j * 4 := by omega
    have hw := wrap_succ (n := j) (by omega)
    simp [h4, hr]
    refine spec_l1Has_call (t := ss[j].t) hl rfl ?_; simp
    have hfj : allF (prF ns ks ss) ss.length j = (prF ns ks ss j && allF (prF ns ks ss) ss.length (j + 1)) := allF_at h'
    have hprj : prF ns ks ss j = (hasF ns.length ss[j].t && holdsF ns ks ss[j] (termAt ss j ss[j].a) (termAt ss j ss[j].b) && freshF ss j) := by
      simp only [prF, spAt_lt h', stepOkF, termAt_take hj]
    refine br_intro' (fun g => ?_) (fun g => ?_) <;> simp [g]
    · refine spec_l9Term_call (ss := ss) (m := j) (k := ss[j].a) (by omega) hj rfl ?_; simp
      refine spec_l9Term_call (ss := ss) (m := j) (k := ss[j].b) (by omega) hj rfl ?_; simp
      have hta := termAt_in hj hss ss[j].a
      have htb := termAt_in hj hss ss[j].b
      refine spec_l9Holds_k (ns := ns) (ks := ks) (s := ss[j]) (a := termAt ss j ss[j].a) (b := termAt ss j ss[j].b) hl hk hp g (hta.imp (fun z => by omega) (fun z => z.2)) (htb.imp (fun z => by omega) (fun z => z.2)) rfl (by simp) (by simp) ?_; simp
      refine ck_intro' (by kernel_rfl) ?_; simp
      refine br_intro' (fun f => ?_) (fun f => ?_) <;> simp [f]
      · refine WLoop_fam (fun k : Nat => [(1, aI ks), (2, aSs ss), (3, A.ptr 0 0 0), (7, i6 j), (8, A.ptr 1 0 0), (9, i6 k)]) (fun _ => [⟨0, false, 1, [A.sl ns.length (enc ns)], none⟩, ⟨0, false, 1, [i6 ss[j].r, i6 ss[j].t, i6 ss[j].a, i6 ss[j].b], none⟩]) (fun k => j - k)
          (fun k => k ≤ j ∧ ∀ x ∈ ss.take k, x.t ≠ ss[j].t) ?_ 0 ⟨Nat.zero_le _, by simp⟩
        intro k ⟨hkj, hfr⟩ ih2
        simp
        refine br_intro' (fun u => ?_) (fun u => ?_) <;> (have u0 := u) <;> simp at u <;> simp [u0, u]
        · have hkl : k < ss.length := by omega
          obtain ⟨q2, hr2⟩ := encS_at hkl
          have h42 : 2 ≤ ss.length * 4 - k * 4 := by omega
          have hw2 := wrap_succ (n := k) (by omega)
          simp [hkl, hr2]
          refine ck_intro' (by kernel_rfl) ?_; simp
          refine br_intro' (fun v => ?_) (fun v => ?_) <;> simp at v <;> simp [v]
          · exact LeV.ro rfl rfl (by
              have : freshF ss j = false := by
                simp only [freshF, spAt_lt h', decide_eq_false_iff_not]
                intro e
                exact e ss[k] (List.mem_take_iff_getElem.2 ⟨k, by omega, rfl⟩) v
              rw [hf, hfj, hprj]; simp [this])
          · rw [hw2]
            refine ih2 (k + 1) ⟨u, fun x hx => ?_⟩ (by omega)
            rw [List.take_succ_eq_append_getElem hkl] at hx
            rcases List.mem_append.1 hx with hx | hx
            · exact hfr x hx
            · simp at hx; subst hx; exact v
        · have hkj' : k = j := by omega
          subst hkj'
          rw [hw]
          have hfre : freshF ss k = true := by simp only [freshF, spAt_lt h', decide_eq_true_eq]; exact hfr
          refine WLoop_drop [⟨0, false, 1, [A.sl ns.length (enc ns)], none⟩] [_] rfl (by simp) (by simp) (by simp) ?_
          refine ih (k + 1) ⟨h', by rw [hf, hfj, hprj, g, f, hfre]; simp, fun i hi hil => ?_⟩ (by omega)
          rcases Nat.lt_or_ge i k with z | z
          · exact hss i z hil
          · have : i = k := by omega
            subst this; exact g
      · exact LeV.ro rfl rfl (by rw [hf, hfj, hprj]; simp [f])
    · first | (refine ck_intro' (by kernel_rfl) ?_; try simp) | skip
      exact LeV.ro rfl rfl (by rw [hf, hfj, hprj]; simp [g])
  · have e := allF_end (p := prF ns ks ss) h
    exact LeV.ro rfl rfl (by rw [hf, e]; rfl)
theorem spec_l9Proof_call {ns : List Nd} {ks : List Int} {ss : List Sp} (hl : ns.length < 9223372036854775807) (hk : ks.length < 9223372036854775807) (hls : ss.length < 9223372036854775807) {S : FuncId → Bool} {H : List Blk} {K : A → Dl → Prop} (hS : S 49 = false) (hK : K (.bool (proofF ns ks ss)) (.news [])) : @WCall' Go.Proofs.Try.prog S 49 [aP ns, aI ks, aSs ss] H ⟨K⟩ :=
  WCall_pure hS (spec_l9Proof_c ns ks ss hl hk hls) (by simp) (by simp) (by simp) hK
theorem spec_l9Proof_k {ns : List Nd} {ks : List Int} {ss : List Sp} (hl : ns.length < 9223372036854775807) (hk : ks.length < 9223372036854775807) (hls : ss.length < 9223372036854775807) {S : FuncId → Bool} {H : List Blk} {K : A → Dl → Prop} {zs : List A} (hS : S 49 = false) (hv : viewL (viewA 8 H) zs = some [aP ns, aI ks, aSs ss]) (ho : noOwns zs = true ∨ nosl (.bool (proofF ns ks ss)) = true) (hK : K (.bool (proofF ns ks ss)) (.news [])) : @WCall' Go.Proofs.Try.prog S 49 zs H ⟨K⟩ :=
  WCall_pure hS (spec_l9Proof_c ns ks ss hl hk hls) hv ho (by simp) hK
def mkT (xs : List Sp) : List (List Int × Int) := xs.map fun n => ([n.t], 1)
theorem mcnt_mkT (t : Int) : ∀ (xs : List Sp), mcnt (mkT xs) [t] = if ∃ x ∈ xs, x.t = t then 1 else 0
  | [] => by simp [mkT]
  | x :: xs => by
    by_cases h : t = x.t
    · subst h; simp [mkT, mcnt]
    · have := mcnt_mkT t xs
      simp only [mkT] at this
      have h' : ¬ x.t = t := fun e => h e.symm
      simp [mkT, mcnt, h, h', this]
theorem mcnt_c (ks : List Int) (v : Int) (l : List (List Int × Int)) : mcnt ((ks, v) :: l) ks = v := by simp [mcnt]
def proofI (ns : List Nd) (ks : List Int) (ss : List Sp) : Bool := inF ss.length 1 500 && allF (prF ns ks ss) ss.length 0
theorem impl_Pool_isProof_c (ns : List Nd) (ks : List Int) (ss : List Sp) (hl : ns.length < 9223372036854775807) (hk : ks.length < 9223372036854775807) (hls : ss.length < 9223372036854775807) (hp : poolF ns = true) : T 51 [.pt [.sl ns.length (enc ns)], aI ks, aSs ss] [] (.bool (proofI ns ks ss)) ([]) := by
  refine semT' (S := S0) hm impl_Pool_isProof_ok (Nat.le_of_ble_eq_true rfl) ?_
  unfold impl_Pool_isProof; dsimp only
  simp
  refine impl_inRange_call rfl ?_; simp
  refine br_intro' (fun h5 => ?_) (fun h5 => ?_) <;> simp [h5]
  rotate_left
  · exact LeV.ro rfl rfl (by simp [proofI, h5])
  have h50 := h5
  simp [inF] at h50
  have h500 : ss.length ≤ 500 := by omega
  have hP : proofI ns ks ss = allF (prF ns ks ss) ss.length 0 := by simp [proofI, h5]
  refine WLoop_fam (fun j : Nat => [(0, A.pt [.sl ns.length (enc ns)]), (1, aI ks), (2, aSs ss), (7, A.mref 0 0), (15, aSs ss), (16, i6 ss.length), (17, i6 j)]) (fun j => [⟨0, false, 1, [], some (false, mkT (ss.take j).reverse)⟩]) (fun j => ss.length - j)
    (fun j => j ≤ ss.length ∧ allF (prF ns ks ss) ss.length 0 = allF (prF ns ks ss) ss.length j ∧ ∀ i : Nat, i < j → (h : i < ss.length) → hasF ns.length ss[i].t = true) ?_ 0 ⟨Nat.zero_le _, rfl, fun i h => by omega⟩
  intro j ⟨hj, hf, hss⟩ ih
  simp
  refine br_intro' (fun h => ?_) (fun h => ?_) <;> (have h0 := h) <;> (try simp at h) <;> try simp [h0, h]
  · have h' := h
    obtain ⟨q, hr⟩ := encS_at h
    have h4 : 4 ≤ ss.length * 4 - j * 4 := by omega
    have hw := wrap_succ (n := j) (by omega)
    have w1 : IntKind.i64.wrap 1 = 1 := wrap64 (by omega) (by omega)
    have w2 : IntKind.i64.wrap 2 = 2 := wrap64 (by omega) (by omega)
    simp [h4, hr, h', mcnt_c]
    have hfj : allF (prF ns ks ss) ss.length j = (prF ns ks ss j && allF (prF ns ks ss) ss.length (j + 1)) := allF_at h'
    have hprj : prF ns ks ss j = (stepOkF ns ks (ss.take j) ss[j] && freshF ss j) := by
      simp only [prF, spAt_lt h']
    by_cases hm : ∃ x ∈ (ss.take j).reverse, x.t = ss[j].t
    · have hc : mcnt (mkT (ss.take j).reverse) [ss[j].t] = 1 := by rw [mcnt_mkT, if_pos hm]
      have hfre : freshF ss j = false := by
        simp only [freshF, spAt_lt h', decide_eq_false_iff_not]
        intro e
        obtain ⟨x, hx, hx2⟩ := hm
        exact e x (by simpa using hx) hx2
      simp [hc, w2, mcnt_c]
      refine ck_intro' (by kernel_rfl) ?_; simp
      exact LeV.ro rfl rfl (by rw [hP, hf, hfj, hprj, hfre]; simp)
    · have hc : mcnt (mkT (ss.take j).reverse) [ss[j].t] = 0 := by rw [mcnt_mkT, if_neg hm]
      have hfre : freshF ss j = true := by
        simp only [freshF, spAt_lt h', decide_eq_true_eq]
        intro x hx e
        exact hm ⟨x, by simpa using hx, e⟩
      simp [hc, w1, mcnt_c]
      refine ck_intro' hj ?_; simp
      refine WCall_pure rfl (impl_Pool_holds_c ns [] ks (ss.take j) ss[j] hl hk (by simp; omega) hp (fun i hi => by simp at hi; simp; exact hss i (by omega) (by omega)) (by simp) (by simp)) (by simp [encS_takes, Nat.min_eq_left hj]) (by simp) (by simp) ?_; simp
      refine ck_intro' (by kernel_rfl) ?_; simp
      refine br_intro' (fun g => ?_) (fun g => ?_) <;> simp [g]
      · rw [hw]
        have hk2 : ([ss[j].t], (1 : Int)) :: mkT (ss.take j).reverse = mkT (ss.take (j + 1)).reverse := by
          rw [List.take_succ_eq_append_getElem h', List.reverse_append]; rfl
        refine WLoop_drop [⟨0, false, 1, [], some (false, mkT (ss.take (j + 1)).reverse)⟩] [_] (by rw [← hk2]; rfl) (by simp) (by simp) (by simp) ?_
        refine ih (j + 1) ⟨h', by rw [hf, hfj, hprj, g, hfre]; simp, fun i hi hil => ?_⟩ (by omega)
        rcases Nat.lt_or_ge i j with z | z
        · exact hss i z hil
        · have : i = j := by omega
          subst this
          simp only [stepOkF, Bool.and_eq_true] at g
          exact g.1
      · exact LeV.ro rfl rfl (by rw [hP, hf, hfj, hprj, g]; simp)
  · have e := allF_end (p := prF ns ks ss) h
    exact LeV.ro rfl rfl (by rw [hP, hf, e]; rfl)
/-- What ProofCheck answers. -/
def checkF (ns : List Nd) (ks : List Int) (ss : List Sp) (t : Int) : Bool := decide (ss ≠ []) && proofF ns ks ss && decide ((spAt ss (ss.length - 1)).t = t)
theorem spec_ProofCheck_c (ns : List Nd) (ks : List Int) (ss : List Sp) (t : Int) (hl : ns.length < 9223372036854775807) (hk : ks.length < 9223372036854775807) (hls : ss.length < 9223372036854775807) : T 20 [aP ns, aI ks, aSs ss, i6 t] [] (.bool (checkF ns ks ss t)) ([]) := by
  refine semT' (S := S0) hm spec_ProofCheck_ok (Nat.le_of_ble_eq_true rfl) ?_
  unfold spec_ProofCheck; dsimp only
  simp
  refine br_intro' (fun h => ?_) (fun h => ?_) <;> (have h0 := h) <;> simp at h <;> simp [h0, h]
  · have hw := wrap_len (n := ss.length) (by omega)
    obtain ⟨m, hm⟩ : ∃ m : Nat, (ss.length : Int) - 1 = m := ⟨ss.length - 1, by omega⟩
    have hml : m < ss.length := by omega
    obtain ⟨q, hr⟩ := encS_at hml
    have h42 : 2 ≤ ss.length * 4 - m * 4 := by omega
    have hm2 : ss.length - 1 = m := by omega
    have hne : ss ≠ [] := by intro e; rw [e] at hml; exact absurd hml (Nat.not_lt_zero _)
    have hge : (1 : Int) ≤ ss.length := by omega
    have hc5 : (ss.length : Int) ≤ 500 ↔ ss.length ≤ 500 := by omega
    refine spec_l9Proof_k (ns := ns) (ks := ks) (ss := ss) hl hk hls rfl (by simp) (by simp) ?_; simp
    refine br_intro' (fun g => ?_) (fun g => ?_) <;> simp [g]
    · rw [hw, hm]
      simp [hml, hr]
      exact LeV.ro rfl rfl (by simp [checkF, g, hm2, hml, hne])
    · exact LeV.ro rfl rfl (by simp [checkF, g])
  · exact LeV.ro rfl rfl (by simp [checkF, h])
theorem spec_ProofCheck_call {ns : List Nd} {ks : List Int} {ss : List Sp} {t : Int} (hl : ns.length < 9223372036854775807) (hk : ks.length < 9223372036854775807) (hls : ss.length < 9223372036854775807) {S : FuncId → Bool} {H : List Blk} {K : A → Dl → Prop} (hS : S 20 = false) (hK : K (.bool (checkF ns ks ss t)) (.news [])) : @WCall' Go.Proofs.Try.prog S 20 [aP ns, aI ks, aSs ss, i6 t] H ⟨K⟩ :=
  WCall_pure hS (spec_ProofCheck_c ns ks ss t hl hk hls) (by simp) (by simp) (by simp) hK
theorem spec_ProofCheck_k {ns : List Nd} {ks : List Int} {ss : List Sp} {t : Int} (hl : ns.length < 9223372036854775807) (hk : ks.length < 9223372036854775807) (hls : ss.length < 9223372036854775807) {S : FuncId → Bool} {H : List Blk} {K : A → Dl → Prop} {zs : List A} (hS : S 20 = false) (hv : viewL (viewA 8 H) zs = some [aP ns, aI ks, aSs ss, i6 t]) (ho : noOwns zs = true ∨ nosl (.bool (checkF ns ks ss t)) = true) (hK : K (.bool (checkF ns ks ss t)) (.news [])) : @WCall' Go.Proofs.Try.prog S 20 zs H ⟨K⟩ :=
  WCall_pure hS (spec_ProofCheck_c ns ks ss t hl hk hls) hv ho (by simp) hK
theorem impl_ProofCheck_c (ns : List Nd) (ks : List Int) (ss : List Sp) (t : Int) (hl : ns.length < 9223372036854775807) (hk : ks.length < 9223372036854775807) (hls : ss.length < 9223372036854775807) : T 22 [aP ns, aI ks, aSs ss, i6 t] [] (.bool (checkF ns ks ss t)) ([]) := by
  refine semT' (S := S0) hm impl_ProofCheck_ok (Nat.le_of_ble_eq_true rfl) ?_
  unfold impl_ProofCheck; dsimp only
  simp
  refine br_intro' (fun h => ?_) (fun h => ?_) <;> (have h0 := h) <;> simp at h <;> simp [h0, h]
  · have hw := wrap_len (n := ss.length) (by omega)
    obtain ⟨m, hm⟩ : ∃ m : Nat, (ss.length : Int) - 1 = m := ⟨ss.length - 1, by omega⟩
    have hml : m < ss.length := by omega
    obtain ⟨q, hr⟩ := encS_at hml
    have h42 : 2 ≤ ss.length * 4 - m * 4 := by omega
    have hm2 : ss.length - 1 = m := by omega
    have hne : ss ≠ [] := by intro e; rw [e] at hml; exact absurd hml (Nat.not_lt_zero _)
    have hge : (1 : Int) ≤ ss.length := by omega
    have hc5 : (ss.length : Int) ≤ 500 ↔ ss.length ≤ 500 := by omega
    rw [hw, hm]
    simp [hml, hr]
    refine br_intro' (fun g => ?_) (fun g => ?_) <;> (have g0 := g) <;> simp at g <;> simp [g0, g]
    · refine impl_KnowOk_k (ns := ns) (ks := ks) hl hk rfl (by simp) (by simp) ?_; simp
      refine br_intro' (fun f => ?_) (fun f => ?_) <;> simp [f]
      · refine WCall_pure rfl (impl_Pool_isProof_c ns ks ss hl hk hls (kpF_pool f)) (by simp) (by simp) (by simp) ?_; simp
        exact LeV.ro rfl rfl (by simp [checkF, proofF, proofI, f, hm2, hml, hne, g, inF, hge, hc5])
      · exact LeV.ro rfl rfl (by simp [checkF, proofF, f])
    · exact LeV.ro rfl rfl (by simp [checkF, hm2, hml, g])
  · exact LeV.ro rfl rfl (by simp [checkF, h])
theorem impl_ProofCheck_call {ns : List Nd} {ks : List Int} {ss : List Sp} {t : Int} (hl : ns.length < 9223372036854775807) (hk : ks.length < 9223372036854775807) (hls : ss.length < 9223372036854775807) {S : FuncId → Bool} {H : List Blk} {K : A → Dl → Prop} (hS : S 22 = false) (hK : K (.bool (checkF ns ks ss t)) (.news [])) : @WCall' Go.Proofs.Try.prog S 22 [aP ns, aI ks, aSs ss, i6 t] H ⟨K⟩ :=
  WCall_pure hS (impl_ProofCheck_c ns ks ss t hl hk hls) (by simp) (by simp) (by simp) hK
theorem impl_ProofCheck_k {ns : List Nd} {ks : List Int} {ss : List Sp} {t : Int} (hl : ns.length < 9223372036854775807) (hk : ks.length < 9223372036854775807) (hls : ss.length < 9223372036854775807) {S : FuncId → Bool} {H : List Blk} {K : A → Dl → Prop} {zs : List A} (hS : S 22 = false) (hv : viewL (viewA 8 H) zs = some [aP ns, aI ks, aSs ss, i6 t]) (ho : noOwns zs = true ∨ nosl (.bool (checkF ns ks ss t)) = true) (hK : K (.bool (checkF ns ks ss t)) (.news [])) : @WCall' Go.Proofs.Try.prog S 22 zs H ⟨K⟩ :=
  WCall_pure hS (impl_ProofCheck_c ns ks ss t hl hk hls) hv ho (by simp) hK
end Go.Proofs.Ytcfgiffgahdlbaa.C
