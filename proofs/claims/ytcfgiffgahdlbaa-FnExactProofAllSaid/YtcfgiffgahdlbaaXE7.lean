/- What ProofTrim answers, in the program and in the reference. Conditions: those that each theorem names. -/
import Derived.Test.YtcfgiffgahdlbaaXE6
set_option linter.unusedVariables false
set_option linter.unusedSimpArgs false
set_option maxRecDepth 4000
namespace Go.Proofs.Ytcfgiffgahdlbaa.C
open Go.Sym Go.Proofs.Ytcfgiffgahdlbaa.I
theorem trimF_bad {ns : List Nd} {ss : List Sp} {j : Nat} (hj : j < ss.length) (hf : allF (wellF ns ss) ss.length 0 = allF (wellF ns ss) ss.length j) (h : wellF ns ss j = false) : trimF ns ss = [] := by
  unfold trimF
  rw [if_neg]
  rintro ⟨_, _, _, q⟩
  rw [hf, allF_at hj, h] at q
  cases q
theorem well_lo {ns : List Nd} {ss : List Sp} {i : Nat} (hi : i < ss.length) (h : needsF ns ss[i] < 0) : wellF ns ss i = false := by
  simp only [wellF, spAt_lt hi]
  rw [show decide (0 ≤ needsF ns ss[i]) = false by simpa using h]
  simp
theorem well_eq {ns : List Nd} {ss : List Sp} {i : Nat} (hi : i < ss.length) (ht : hasF ns.length ss[i].t = true) (h : 0 ≤ needsF ns ss[i]) : wellF ns ss i = ((decide (needsF ns ss[i] < 1) || inF ss[i].a 0 ((i : Int) - 1)) && (decide (needsF ns ss[i] < 2) || inF ss[i].b 0 ((i : Int) - 1))) := by
  simp [wellF, hi, ht, h]
theorem impl_ProofTrim_c (ns : List Nd) (ss : List Sp) (hl : ns.length < 9223372036854775807) (hls : ss.length < 9223372036854775807) : T 14 [aP ns, aSs ss] [] (tref' 0 (trimF ns ss)) ([tblk (trimF ns ss)]) := by
  refine semT' (S := S0) hm impl_ProofTrim_ok (Nat.le_of_ble_eq_true rfl) ?_
  unfold impl_ProofTrim; dsimp only
  simp
  refine impl_inRange_call rfl ?_; simp
  refine br_intro' (fun h => ?_) (fun h => ?_) <;> simp [h]
  rotate_left
  · rw [show trimF ns ss = [] from if_neg (by
      rintro ⟨h1, h2, _⟩
      have := List.length_pos_iff.2 h1
      simp [inF] at h
      omega)]
    first | (refine LeV.tell [none] ?_ ?_ ?_ <;> (simp; done)) | (refine LeV.tell [some 0] ?_ ?_ ?_ <;> (simp; done)) | (refine LeV.tell [some 1] ?_ ?_ ?_ <;> (simp; done)) | (refine LeV.tell [some 2] ?_ ?_ ?_ <;> (simp; done)) | (refine LeV.tell [some 3] ?_ ?_ ?_ <;> (simp; done)) | (refine LeV.tell [some 4] ?_ ?_ ?_ <;> (simp; done)) | (refine LeV.tell [some 5] ?_ ?_ ?_ <;> (simp; done)) | (refine LeV.tell [some 6] ?_ ?_ ?_ <;> (simp; done)) | (refine LeV.tell [some 7] ?_ ?_ ?_ <;> (simp; done)) | (refine LeV.tell [some 8] ?_ ?_ ?_ <;> (simp; done)) | (refine LeV.tell [some 9] ?_ ?_ ?_ <;> (simp; done)) | (refine LeV.tell [some 10] ?_ ?_ ?_ <;> (simp; done)) | (refine LeV.tell [some 11] ?_ ?_ ?_ <;> (simp; done)) | (refine LeV.tell [some 12] ?_ ?_ ?_ <;> (simp; done)) | (refine LeV.tell [some 13] ?_ ?_ ?_ <;> (simp; done)) | (refine LeV.tell [some 14] ?_ ?_ ?_ <;> (simp; done)) | (refine LeV.tell [some 15] ?_ ?_ ?_ <;> (simp; done))
  have h0 := h
  simp [inF] at h0
  have hne : ss ≠ [] := by intro e; rw [e] at h0; simp at h0
  have h5 : ss.length ≤ 500 := by omega
  refine impl_PoolOk_k (ns := ns) rfl (by simp) (by simp [noslBlks]) ?_; simp [shiftB]
  refine br_intro' (fun hp => ?_) (fun hp => ?_) <;> simp [hp]
  rotate_left
  · rw [show trimF ns ss = [] from if_neg (by simp [hp])]
    first | (refine LeV.tell [none] ?_ ?_ ?_ <;> (simp; done)) | (refine LeV.tell [some 0] ?_ ?_ ?_ <;> (simp; done)) | (refine LeV.tell [some 1] ?_ ?_ ?_ <;> (simp; done)) | (refine LeV.tell [some 2] ?_ ?_ ?_ <;> (simp; done)) | (refine LeV.tell [some 3] ?_ ?_ ?_ <;> (simp; done)) | (refine LeV.tell [some 4] ?_ ?_ ?_ <;> (simp; done)) | (refine LeV.tell [some 5] ?_ ?_ ?_ <;> (simp; done)) | (refine LeV.tell [some 6] ?_ ?_ ?_ <;> (simp; done)) | (refine LeV.tell [some 7] ?_ ?_ ?_ <;> (simp; done)) | (refine LeV.tell [some 8] ?_ ?_ ?_ <;> (simp; done)) | (refine LeV.tell [some 9] ?_ ?_ ?_ <;> (simp; done)) | (refine LeV.tell [some 10] ?_ ?_ ?_ <;> (simp; done)) | (refine LeV.tell [some 11] ?_ ?_ ?_ <;> (simp; done)) | (refine LeV.tell [some 12] ?_ ?_ ?_ <;> (simp; done)) | (refine LeV.tell [some 13] ?_ ?_ ?_ <;> (simp; done)) | (refine LeV.tell [some 14] ?_ ?_ ?_ <;> (simp; done)) | (refine LeV.tell [some 15] ?_ ?_ ?_ <;> (simp; done))
  refine WLoop_fam (fun j : Nat => [(1, aSs ss), (2, A.ptr 0 0 0), (17, aSs ss), (18, i6 ss.length), (19, i6 j)]) (fun _ => [⟨0, false, 1, [A.sl ns.length (enc ns)], none⟩]) (fun j => ss.length - j)
    (fun j => j ≤ ss.length ∧ allF (wellF ns ss) ss.length 0 = allF (wellF ns ss) ss.length j) ?_ 0 ⟨Nat.zero_le _, rfl⟩
  intro j ⟨hj, hf⟩ ih
  simp
  refine br_intro' (fun h => ?_) (fun h => ?_) <;> (have h0 := h) <;> (try simp at h) <;> try simp [h0, h]
  · have h' := h
    obtain ⟨q, hr⟩ := encS_at h
    have h4 : 4 ≤ ss.length * 4 - j * 4 := by omega
    have hw := wrap_succ (n := j) (by omega)
    have hwl := wrap_len (n := j) (by omega)
    have hfj := allF_at (p := wellF ns ss) h'
    simp [h4, hr]
    refine WCall_pure rfl (impl_Pool_isTerm_c ns [] ss[j].t hl) (by simp) (by simp) (by simp) ?_; simp
    refine br_intro' (fun ht => ?_) (fun ht => ?_) <;> simp [ht]
    rotate_left
    · rw [trimF_bad h' hf (by simp [wellF, h', ht])]
      first | (refine LeV.tell [none] ?_ ?_ ?_ <;> (simp; done)) | (refine LeV.tell [some 0] ?_ ?_ ?_ <;> (simp; done)) | (refine LeV.tell [some 1] ?_ ?_ ?_ <;> (simp; done)) | (refine LeV.tell [some 2] ?_ ?_ ?_ <;> (simp; done)) | (refine LeV.tell [some 3] ?_ ?_ ?_ <;> (simp; done)) | (refine LeV.tell [some 4] ?_ ?_ ?_ <;> (simp; done)) | (refine LeV.tell [some 5] ?_ ?_ ?_ <;> (simp; done)) | (refine LeV.tell [some 6] ?_ ?_ ?_ <;> (simp; done)) | (refine LeV.tell [some 7] ?_ ?_ ?_ <;> (simp; done)) | (refine LeV.tell [some 8] ?_ ?_ ?_ <;> (simp; done)) | (refine LeV.tell [some 9] ?_ ?_ ?_ <;> (simp; done)) | (refine LeV.tell [some 10] ?_ ?_ ?_ <;> (simp; done)) | (refine LeV.tell [some 11] ?_ ?_ ?_ <;> (simp; done)) | (refine LeV.tell [some 12] ?_ ?_ ?_ <;> (simp; done)) | (refine LeV.tell [some 13] ?_ ?_ ?_ <;> (simp; done)) | (refine LeV.tell [some 14] ?_ ?_ ?_ <;> (simp; done)) | (refine LeV.tell [some 15] ?_ ?_ ?_ <;> (simp; done))
    refine WCall_pure rfl (impl_Pool_needs_c ns [] ss[j] hl hp ht (by simp) (by simp)) (by simp) (by simp) (by simp) ?_; simp
    rcases needsF_in hp ht with hn | hn | hn | hn <;> simp [hn]
    · rw [trimF_bad h' hf (well_lo h' (by omega))]
      first | (refine LeV.tell [none] ?_ ?_ ?_ <;> (simp; done)) | (refine LeV.tell [some 0] ?_ ?_ ?_ <;> (simp; done)) | (refine LeV.tell [some 1] ?_ ?_ ?_ <;> (simp; done)) | (refine LeV.tell [some 2] ?_ ?_ ?_ <;> (simp; done)) | (refine LeV.tell [some 3] ?_ ?_ ?_ <;> (simp; done)) | (refine LeV.tell [some 4] ?_ ?_ ?_ <;> (simp; done)) | (refine LeV.tell [some 5] ?_ ?_ ?_ <;> (simp; done)) | (refine LeV.tell [some 6] ?_ ?_ ?_ <;> (simp; done)) | (refine LeV.tell [some 7] ?_ ?_ ?_ <;> (simp; done)) | (refine LeV.tell [some 8] ?_ ?_ ?_ <;> (simp; done)) | (refine LeV.tell [some 9] ?_ ?_ ?_ <;> (simp; done)) | (refine LeV.tell [some 10] ?_ ?_ ?_ <;> (simp; done)) | (refine LeV.tell [some 11] ?_ ?_ ?_ <;> (simp; done)) | (refine LeV.tell [some 12] ?_ ?_ ?_ <;> (simp; done)) | (refine LeV.tell [some 13] ?_ ?_ ?_ <;> (simp; done)) | (refine LeV.tell [some 14] ?_ ?_ ?_ <;> (simp; done)) | (refine LeV.tell [some 15] ?_ ?_ ?_ <;> (simp; done))
    · rw [hw]
      refine WLoop_drop [⟨0, false, 1, [A.sl ns.length (enc ns)], none⟩] [_] rfl (by simp) (by simp) (by simp) ?_
      exact ih (j + 1) ⟨h', by rw [hf, hfj, well_eq h' ht (by omega)]; simp [hn]⟩ (by omega)
    · rw [hwl]
      refine impl_inRange_call rfl ?_; simp
      refine br_intro' (fun g => ?_) (fun g => ?_) <;> simp [g]
      · rw [hw]
        refine WLoop_drop [⟨0, false, 1, [A.sl ns.length (enc ns)], none⟩] [_] rfl (by simp) (by simp) (by simp) ?_
        exact ih (j + 1) ⟨h', by rw [hf, hfj, well_eq h' ht (by omega)]; simp [hn, g]⟩ (by omega)
      · rw [trimF_bad h' hf (by rw [well_eq h' ht (by omega)]; simp [hn, g])]
        first | (refine LeV.tell [none] ?_ ?_ ?_ <;> (simp; done)) | (refine LeV.tell [some 0] ?_ ?_ ?_ <;> (simp; done)) | (refine LeV.tell [some 1] ?_ ?_ ?_ <;> (simp; done)) | (refine LeV.tell [some 2] ?_ ?_ ?_ <;> (simp; done)) | (refine LeV.tell [some 3] ?_ ?_ ?_ <;> (simp; done)) | (refine LeV.tell [some 4] ?_ ?_ ?_ <;> (simp; done)) | (refine LeV.tell [some 5] ?_ ?_ ?_ <;> (simp; done)) | (refine LeV.tell [some 6] ?_ ?_ ?_ <;> (simp; done)) | (refine LeV.tell [some 7] ?_ ?_ ?_ <;> (simp; done)) | (refine LeV.tell [some 8] ?_ ?_ ?_ <;> (simp; done)) | (refine LeV.tell [some 9] ?_ ?_ ?_ <;> (simp; done)) | (refine LeV.tell [some 10] ?_ ?_ ?_ <;> (simp; done)) | (refine LeV.tell [some 11] ?_ ?_ ?_ <;> (simp; done)) | (refine LeV.tell [some 12] ?_ ?_ ?_ <;> (simp; done)) | (refine LeV.tell [some 13] ?_ ?_ ?_ <;> (simp; done)) | (refine LeV.tell [some 14] ?_ ?_ ?_ <;> (simp; done)) | (refine LeV.tell [some 15] ?_ ?_ ?_ <;> (simp; done))
    · rw [hwl]
      refine impl_inRange_call rfl ?_; simp
      refine br_intro' (fun g => ?_) (fun g => ?_) <;> simp [g]
      · rw [hwl]
        refine impl_inRange_call rfl ?_; simp
        refine br_intro' (fun g2 => ?_) (fun g2 => ?_) <;> simp [g2]
        · rw [hw]
          refine WLoop_drop [⟨0, false, 1, [A.sl ns.length (enc ns)], none⟩] [_] rfl (by simp) (by simp) (by simp) ?_
          exact ih (j + 1) ⟨h', by rw [hf, hfj, well_eq h' ht (by omega)]; simp [hn, g, g2]⟩ (by omega)
        · rw [trimF_bad h' hf (by rw [well_eq h' ht (by omega)]; simp [hn, g, g2])]
          first | (refine LeV.tell [none] ?_ ?_ ?_ <;> (simp; done)) | (refine LeV.tell [some 0] ?_ ?_ ?_ <;> (simp; done)) | (refine LeV.tell [some 1] ?_ ?_ ?_ <;> (simp; done)) | (refine LeV.tell [some 2] ?_ ?_ ?_ <;> (simp; done)) | (refine LeV.tell [some 3] ?_ ?_ ?_ <;> (simp; done)) | (refine LeV.tell [some 4] ?_ ?_ ?_ <;> (simp; done)) | (refine LeV.tell [some 5] ?_ ?_ ?_ <;> (simp; done)) | (refine LeV.tell [some 6] ?_ ?_ ?_ <;> (simp; done)) | (refine LeV.tell [some 7] ?_ ?_ ?_ <;> (simp; done)) | (refine LeV.tell [some 8] ?_ ?_ ?_ <;> (simp; done)) | (refine LeV.tell [some 9] ?_ ?_ ?_ <;> (simp; done)) | (refine LeV.tell [some 10] ?_ ?_ ?_ <;> (simp; done)) | (refine LeV.tell [some 11] ?_ ?_ ?_ <;> (simp; done)) | (refine LeV.tell [some 12] ?_ ?_ ?_ <;> (simp; done)) | (refine LeV.tell [some 13] ?_ ?_ ?_ <;> (simp; done)) | (refine LeV.tell [some 14] ?_ ?_ ?_ <;> (simp; done)) | (refine LeV.tell [some 15] ?_ ?_ ?_ <;> (simp; done))
      · rw [trimF_bad h' hf (by rw [well_eq h' ht (by omega)]; simp [hn, g])]
        first | (refine LeV.tell [none] ?_ ?_ ?_ <;> (simp; done)) | (refine LeV.tell [some 0] ?_ ?_ ?_ <;> (simp; done)) | (refine LeV.tell [some 1] ?_ ?_ ?_ <;> (simp; done)) | (refine LeV.tell [some 2] ?_ ?_ ?_ <;> (simp; done)) | (refine LeV.tell [some 3] ?_ ?_ ?_ <;> (simp; done)) | (refine LeV.tell [some 4] ?_ ?_ ?_ <;> (simp; done)) | (refine LeV.tell [some 5] ?_ ?_ ?_ <;> (simp; done)) | (refine LeV.tell [some 6] ?_ ?_ ?_ <;> (simp; done)) | (refine LeV.tell [some 7] ?_ ?_ ?_ <;> (simp; done)) | (refine LeV.tell [some 8] ?_ ?_ ?_ <;> (simp; done)) | (refine LeV.tell [some 9] ?_ ?_ ?_ <;> (simp; done)) | (refine LeV.tell [some 10] ?_ ?_ ?_ <;> (simp; done)) | (refine LeV.tell [some 11] ?_ ?_ ?_ <;> (simp; done)) | (refine LeV.tell [some 12] ?_ ?_ ?_ <;> (simp; done)) | (refine LeV.tell [some 13] ?_ ?_ ?_ <;> (simp; done)) | (refine LeV.tell [some 14] ?_ ?_ ?_ <;> (simp; done)) | (refine LeV.tell [some 15] ?_ ?_ ?_ <;> (simp; done))
  · have hE : trimF ns ss = trimV ns ss := if_pos ⟨hne, h5, hp, by rw [hf, allF_end h]⟩
    have hA : ∀ i : Nat, i < ss.length → wellF ns ss i = true := fun i hi => allF_all (by rw [hf, allF_end h]) hi
    rw [hE]
    refine impl_Pool_trimmed_k (ns := ns) (ss := ss) hl hp hne h5 hA rfl (by simp) (by simp [noslBlks]) ?_; simp [shiftB]
    first | (refine LeV.tell [none] ?_ ?_ ?_ <;> (simp; done)) | (refine LeV.tell [some 0] ?_ ?_ ?_ <;> (simp; done)) | (refine LeV.tell [some 1] ?_ ?_ ?_ <;> (simp; done)) | (refine LeV.tell [some 2] ?_ ?_ ?_ <;> (simp; done)) | (refine LeV.tell [some 3] ?_ ?_ ?_ <;> (simp; done)) | (refine LeV.tell [some 4] ?_ ?_ ?_ <;> (simp; done)) | (refine LeV.tell [some 5] ?_ ?_ ?_ <;> (simp; done)) | (refine LeV.tell [some 6] ?_ ?_ ?_ <;> (simp; done)) | (refine LeV.tell [some 7] ?_ ?_ ?_ <;> (simp; done)) | (refine LeV.tell [some 8] ?_ ?_ ?_ <;> (simp; done)) | (refine LeV.tell [some 9] ?_ ?_ ?_ <;> (simp; done)) | (refine LeV.tell [some 10] ?_ ?_ ?_ <;> (simp; done)) | (refine LeV.tell [some 11] ?_ ?_ ?_ <;> (simp; done)) | (refine LeV.tell [some 12] ?_ ?_ ?_ <;> (simp; done)) | (refine LeV.tell [some 13] ?_ ?_ ?_ <;> (simp; done)) | (refine LeV.tell [some 14] ?_ ?_ ?_ <;> (simp; done)) | (refine LeV.tell [some 15] ?_ ?_ ?_ <;> (simp; done))
theorem impl_ProofTrim_k {ns : List Nd} {ss : List Sp} (hl : ns.length < 9223372036854775807) (hls : ss.length < 9223372036854775807) {S : FuncId → Bool} {H : List Blk} {K : A → Dl → Prop} {zs : List A} (hS : S 14 = false) (hv : viewL (viewA 8 H) zs = some [aP ns, aSs ss]) (ho : noOwns zs = true ∨ nosl (tref' 0 (trimF ns ss)) = true ∧ noslBlks ([tblk (trimF ns ss)]) = true) (hK : K (shiftA H.length (tref' 0 (trimF ns ss))) (.news (([tblk (trimF ns ss)]).map (shiftB H.length)))) : @WCall' Go.Proofs.Try.prog S 14 zs H ⟨K⟩ :=
  WCall_ro' hS hv (impl_ProofTrim_c ns ss hl hls) rfl ho hK
theorem spec_ProofTrim_c (ns : List Nd) (ss : List Sp) (hl : ns.length < 9223372036854775807) (hls : ss.length < 9223372036854775807) : T 11 [aP ns, aSs ss] [] (tref' 0 (trimF ns ss)) ([tblk (trimF ns ss)]) := by
  refine semT' (S := S0) hm spec_ProofTrim_ok (Nat.le_of_ble_eq_true rfl) ?_
  unfold spec_ProofTrim; dsimp only
  simp
  by_cases hne : ss = []
  · subst hne
    simp
    rw [show trimF ns [] = [] by simp [trimF]]
    first | (refine LeV.tell [none] ?_ ?_ ?_ <;> (simp; done)) | (refine LeV.tell [some 0] ?_ ?_ ?_ <;> (simp; done)) | (refine LeV.tell [some 1] ?_ ?_ ?_ <;> (simp; done)) | (refine LeV.tell [some 2] ?_ ?_ ?_ <;> (simp; done)) | (refine LeV.tell [some 3] ?_ ?_ ?_ <;> (simp; done)) | (refine LeV.tell [some 4] ?_ ?_ ?_ <;> (simp; done)) | (refine LeV.tell [some 5] ?_ ?_ ?_ <;> (simp; done)) | (refine LeV.tell [some 6] ?_ ?_ ?_ <;> (simp; done)) | (refine LeV.tell [some 7] ?_ ?_ ?_ <;> (simp; done)) | (refine LeV.tell [some 8] ?_ ?_ ?_ <;> (simp; done)) | (refine LeV.tell [some 9] ?_ ?_ ?_ <;> (simp; done)) | (refine LeV.tell [some 10] ?_ ?_ ?_ <;> (simp; done)) | (refine LeV.tell [some 11] ?_ ?_ ?_ <;> (simp; done)) | (refine LeV.tell [some 12] ?_ ?_ ?_ <;> (simp; done)) | (refine LeV.tell [some 13] ?_ ?_ ?_ <;> (simp; done)) | (refine LeV.tell [some 14] ?_ ?_ ?_ <;> (simp; done)) | (refine LeV.tell [some 15] ?_ ?_ ?_ <;> (simp; done))
  have hpos : 0 < ss.length := List.length_pos_iff.2 hne
  simp [hne]
  refine br_intro' (fun h => ?_) (fun h => ?_) <;> simp at h <;> simp [h]
  · rw [show trimF ns ss = [] from if_neg (by rintro ⟨_, h2, _⟩; omega)]
    first | (refine LeV.tell [none] ?_ ?_ ?_ <;> (simp; done)) | (refine LeV.tell [some 0] ?_ ?_ ?_ <;> (simp; done)) | (refine LeV.tell [some 1] ?_ ?_ ?_ <;> (simp; done)) | (refine LeV.tell [some 2] ?_ ?_ ?_ <;> (simp; done)) | (refine LeV.tell [some 3] ?_ ?_ ?_ <;> (simp; done)) | (refine LeV.tell [some 4] ?_ ?_ ?_ <;> (simp; done)) | (refine LeV.tell [some 5] ?_ ?_ ?_ <;> (simp; done)) | (refine LeV.tell [some 6] ?_ ?_ ?_ <;> (simp; done)) | (refine LeV.tell [some 7] ?_ ?_ ?_ <;> (simp; done)) | (refine LeV.tell [some 8] ?_ ?_ ?_ <;> (simp; done)) | (refine LeV.tell [some 9] ?_ ?_ ?_ <;> (simp; done)) | (refine LeV.tell [some 10] ?_ ?_ ?_ <;> (simp; done)) | (refine LeV.tell [some 11] ?_ ?_ ?_ <;> (simp; done)) | (refine LeV.tell [some 12] ?_ ?_ ?_ <;> (simp; done)) | (refine LeV.tell [some 13] ?_ ?_ ?_ <;> (simp; done)) | (refine LeV.tell [some 14] ?_ ?_ ?_ <;> (simp; done)) | (refine LeV.tell [some 15] ?_ ?_ ?_ <;> (simp; done))
  have h5 : ss.length ≤ 500 := by omega
  refine WLoop_fam (fun j : Nat => [(1, aSs ss), (2, A.ptr 0 0 0), (5, A.nil), (6, i6 ss.length), (7, i6 j)]) (fun _ => [⟨0, false, 1, [A.sl ns.length (enc ns)], none⟩]) (fun j => ss.length - j)
    (fun j => j ≤ ss.length ∧ (0 < j → poolF ns = true) ∧ allF (wellF ns ss) ss.length 0 = allF (wellF ns ss) ss.length j) ?_ 0 ⟨Nat.zero_le _, by simp, rfl⟩
  intro j ⟨hj, hpj, hf⟩ ih
  simp
  refine br_intro' (fun h => ?_) (fun h => ?_) <;> (have h0 := h) <;> (try simp at h) <;> try simp [h0, h]
  · have h' := h
    obtain ⟨q, hr⟩ := encS_at h
    have h4 : 4 ≤ ss.length * 4 - j * 4 := by omega
    have hw := wrap_succ (n := j) (by omega)
    have hwl := wrap_len (n := j) (by omega)
    have hfj := allF_at (p := wellF ns ss) h'
    simp [h4, hr]
    refine spec_StepNeeds_call (s := ss[j]) hl rfl ?_; simp
    first | (refine ck_intro' (by kernel_rfl) ?_; try simp) | skip
    by_cases hp : poolF ns = true ∧ hasF ns.length ss[j].t = true
    · obtain ⟨hp, ht⟩ := hp
      rw [show stepNeedsF ns ss[j] = needsF ns ss[j] from if_pos ⟨hp, ht⟩]
      rcases needsF_in hp ht with hn | hn | hn | hn <;> simp [hn]
      · rw [trimF_bad h' hf (well_lo h' (by omega))]
        first | (refine LeV.tell [none] ?_ ?_ ?_ <;> (simp; done)) | (refine LeV.tell [some 0] ?_ ?_ ?_ <;> (simp; done)) | (refine LeV.tell [some 1] ?_ ?_ ?_ <;> (simp; done)) | (refine LeV.tell [some 2] ?_ ?_ ?_ <;> (simp; done)) | (refine LeV.tell [some 3] ?_ ?_ ?_ <;> (simp; done)) | (refine LeV.tell [some 4] ?_ ?_ ?_ <;> (simp; done)) | (refine LeV.tell [some 5] ?_ ?_ ?_ <;> (simp; done)) | (refine LeV.tell [some 6] ?_ ?_ ?_ <;> (simp; done)) | (refine LeV.tell [some 7] ?_ ?_ ?_ <;> (simp; done)) | (refine LeV.tell [some 8] ?_ ?_ ?_ <;> (simp; done)) | (refine LeV.tell [some 9] ?_ ?_ ?_ <;> (simp; done)) | (refine LeV.tell [some 10] ?_ ?_ ?_ <;> (simp; done)) | (refine LeV.tell [some 11] ?_ ?_ ?_ <;> (simp; done)) | (refine LeV.tell [some 12] ?_ ?_ ?_ <;> (simp; done)) | (refine LeV.tell [some 13] ?_ ?_ ?_ <;> (simp; done)) | (refine LeV.tell [some 14] ?_ ?_ ?_ <;> (simp; done)) | (refine LeV.tell [some 15] ?_ ?_ ?_ <;> (simp; done))
      · rw [hw]
        exact ih (j + 1) ⟨h', fun _ => hp, by rw [hf, hfj, well_eq h' ht (by omega)]; simp [hn]⟩ (by omega)
      · simp [hr, h4, h']
        rw [hwl]
        refine spec_l1In_call rfl ?_; simp
        refine br_intro' (fun g => ?_) (fun g => ?_) <;> simp [g]
        · rw [hw]
          exact ih (j + 1) ⟨h', fun _ => hp, by rw [hf, hfj, well_eq h' ht (by omega)]; simp [hn, g]⟩ (by omega)
        · rw [trimF_bad h' hf (by rw [well_eq h' ht (by omega)]; simp [hn, g])]
          first | (refine LeV.tell [none] ?_ ?_ ?_ <;> (simp; done)) | (refine LeV.tell [some 0] ?_ ?_ ?_ <;> (simp; done)) | (refine LeV.tell [some 1] ?_ ?_ ?_ <;> (simp; done)) | (refine LeV.tell [some 2] ?_ ?_ ?_ <;> (simp; done)) | (refine LeV.tell [some 3] ?_ ?_ ?_ <;> (simp; done)) | (refine LeV.tell [some 4] ?_ ?_ ?_ <;> (simp; done)) | (refine LeV.tell [some 5] ?_ ?_ ?_ <;> (simp; done)) | (refine LeV.tell [some 6] ?_ ?_ ?_ <;> (simp; done)) | (refine LeV.tell [some 7] ?_ ?_ ?_ <;> (simp; done)) | (refine LeV.tell [some 8] ?_ ?_ ?_ <;> (simp; done)) | (refine LeV.tell [some 9] ?_ ?_ ?_ <;> (simp; done)) | (refine LeV.tell [some 10] ?_ ?_ ?_ <;> (simp; done)) | (refine LeV.tell [some 11] ?_ ?_ ?_ <;> (simp; done)) | (refine LeV.tell [some 12] ?_ ?_ ?_ <;> (simp; done)) | (refine LeV.tell [some 13] ?_ ?_ ?_ <;> (simp; done)) | (refine LeV.tell [some 14] ?_ ?_ ?_ <;> (simp; done)) | (refine LeV.tell [some 15] ?_ ?_ ?_ <;> (simp; done))
      · simp [hr, h4, h']
        rw [hwl]
        refine spec_l1In_call rfl ?_; simp
        refine br_intro' (fun g => ?_) (fun g => ?_) <;> simp [g]
        · simp [hr, h4, h']
          rw [hwl]
          refine spec_l1In_call rfl ?_; simp
          refine br_intro' (fun g2 => ?_) (fun g2 => ?_) <;> simp [g2]
          · rw [hw]
            exact ih (j + 1) ⟨h', fun _ => hp, by rw [hf, hfj, well_eq h' ht (by omega)]; simp [hn, g, g2]⟩ (by omega)
          · rw [trimF_bad h' hf (by rw [well_eq h' ht (by omega)]; simp [hn, g, g2])]
            first | (refine LeV.tell [none] ?_ ?_ ?_ <;> (simp; done)) | (refine LeV.tell [some 0] ?_ ?_ ?_ <;> (simp; done)) | (refine LeV.tell [some 1] ?_ ?_ ?_ <;> (simp; done)) | (refine LeV.tell [some 2] ?_ ?_ ?_ <;> (simp; done)) | (refine LeV.tell [some 3] ?_ ?_ ?_ <;> (simp; done)) | (refine LeV.tell [some 4] ?_ ?_ ?_ <;> (simp; done)) | (refine LeV.tell [some 5] ?_ ?_ ?_ <;> (simp; done)) | (refine LeV.tell [some 6] ?_ ?_ ?_ <;> (simp; done)) | (refine LeV.tell [some 7] ?_ ?_ ?_ <;> (simp; done)) | (refine LeV.tell [some 8] ?_ ?_ ?_ <;> (simp; done)) | (refine LeV.tell [some 9] ?_ ?_ ?_ <;> (simp; done)) | (refine LeV.tell [some 10] ?_ ?_ ?_ <;> (simp; done)) | (refine LeV.tell [some 11] ?_ ?_ ?_ <;> (simp; done)) | (refine LeV.tell [some 12] ?_ ?_ ?_ <;> (simp; done)) | (refine LeV.tell [some 13] ?_ ?_ ?_ <;> (simp; done)) | (refine LeV.tell [some 14] ?_ ?_ ?_ <;> (simp; done)) | (refine LeV.tell [some 15] ?_ ?_ ?_ <;> (simp; done))
        · rw [trimF_bad h' hf (by rw [well_eq h' ht (by omega)]; simp [hn, g])]
          first | (refine LeV.tell [none] ?_ ?_ ?_ <;> (simp; done)) | (refine LeV.tell [some 0] ?_ ?_ ?_ <;> (simp; done)) | (refine LeV.tell [some 1] ?_ ?_ ?_ <;> (simp; done)) | (refine LeV.tell [some 2] ?_ ?_ ?_ <;> (simp; done)) | (refine LeV.tell [some 3] ?_ ?_ ?_ <;> (simp; done)) | (refine LeV.tell [some 4] ?_ ?_ ?_ <;> (simp; done)) | (refine LeV.tell [some 5] ?_ ?_ ?_ <;> (simp; done)) | (refine LeV.tell [some 6] ?_ ?_ ?_ <;> (simp; done)) | (refine LeV.tell [some 7] ?_ ?_ ?_ <;> (simp; done)) | (refine LeV.tell [some 8] ?_ ?_ ?_ <;> (simp; done)) | (refine LeV.tell [some 9] ?_ ?_ ?_ <;> (simp; done)) | (refine LeV.tell [some 10] ?_ ?_ ?_ <;> (simp; done)) | (refine LeV.tell [some 11] ?_ ?_ ?_ <;> (simp; done)) | (refine LeV.tell [some 12] ?_ ?_ ?_ <;> (simp; done)) | (refine LeV.tell [some 13] ?_ ?_ ?_ <;> (simp; done)) | (refine LeV.tell [some 14] ?_ ?_ ?_ <;> (simp; done)) | (refine LeV.tell [some 15] ?_ ?_ ?_ <;> (simp; done))
    · rw [show stepNeedsF ns ss[j] = -1 from if_neg hp]
      simp
      rw [show trimF ns ss = [] from if_neg (by
        rintro ⟨_, _, q1, q2⟩
        have := allF_all q2 h'
        simp only [wellF, spAt_lt h', Bool.and_eq_true] at this
        exact hp ⟨q1, this.1.1.1⟩)]
      first | (refine LeV.tell [none] ?_ ?_ ?_ <;> (simp; done)) | (refine LeV.tell [some 0] ?_ ?_ ?_ <;> (simp; done)) | (refine LeV.tell [some 1] ?_ ?_ ?_ <;> (simp; done)) | (refine LeV.tell [some 2] ?_ ?_ ?_ <;> (simp; done)) | (refine LeV.tell [some 3] ?_ ?_ ?_ <;> (simp; done)) | (refine LeV.tell [some 4] ?_ ?_ ?_ <;> (simp; done)) | (refine LeV.tell [some 5] ?_ ?_ ?_ <;> (simp; done)) | (refine LeV.tell [some 6] ?_ ?_ ?_ <;> (simp; done)) | (refine LeV.tell [some 7] ?_ ?_ ?_ <;> (simp; done)) | (refine LeV.tell [some 8] ?_ ?_ ?_ <;> (simp; done)) | (refine LeV.tell [some 9] ?_ ?_ ?_ <;> (simp; done)) | (refine LeV.tell [some 10] ?_ ?_ ?_ <;> (simp; done)) | (refine LeV.tell [some 11] ?_ ?_ ?_ <;> (simp; done)) | (refine LeV.tell [some 12] ?_ ?_ ?_ <;> (simp; done)) | (refine LeV.tell [some 13] ?_ ?_ ?_ <;> (simp; done)) | (refine LeV.tell [some 14] ?_ ?_ ?_ <;> (simp; done)) | (refine LeV.tell [some 15] ?_ ?_ ?_ <;> (simp; done))
  · have hp : poolF ns = true := hpj (by omega)
    have hE : trimF ns ss = trimV ns ss := if_pos ⟨hne, h5, hp, by rw [hf, allF_end h]⟩
    have hwl : ∀ i : Nat, i < ss.length → wellF ns ss i = true := fun i hi => allF_all (by rw [hf, allF_end h]) hi
    rw [hE]
    have hw := wrap_len (n := ss.length) (by omega)
    refine ck_intro' (by omega) ?_; simp [hw]
    refine ck_intro' (by omega) ?_; simp [hw]
    refine ck_intro' (by omega) ?_; simp [hw]
    rw [← bls_rep, bls_set]
    have hkv : keepV ns ss = keepGo ns ss ss.length ((List.replicate ss.length false).set (ss.length - 1) true) := rfl
    refine WLoop_fam (fun p : Nat × List Bool => [(1, aSs ss), (2, A.ptr 0 0 0), (5, A.nil), (6, i6 ss.length), (9, A.ref 1 0 0 ss.length), (10, i6 ((p.1 : Int) - 1))]) (fun p => [⟨0, false, 1, [A.sl ns.length (enc ns)], none⟩, ⟨0, false, 1, bls p.2, none⟩]) (fun p => p.1)
      (fun p => p.1 ≤ ss.length ∧ p.2.length = ss.length ∧ keepV ns ss = keepGo ns ss p.1 p.2) ?_ (ss.length, (List.replicate ss.length false).set (ss.length - 1) true) ⟨Nat.le_refl _, by simp, hkv⟩
    rintro ⟨k, kb⟩ ⟨hk, hkl, hkg⟩ ih
    simp only at hk hkl hkg
    simp
    refine br_intro' (fun h => ?_) (fun h => ?_) <;> (have hc0 := h) <;> simp at h <;> simp [hc0, h]
    · obtain ⟨i, rfl⟩ : ∃ i, k = i + 1 := ⟨k - 1, by omega⟩
      have e1 : ((i + 1 : Nat) : Int) - 1 = i := by omega
      have hil : i < ss.length := by omega
      have hik : i < kb.length := by omega
      have hw2 : IntKind.i64.wrap ((i : Int) - 1) = i - 1 := wrap64 (by omega) (by omega)
      obtain ⟨q, hr⟩ := encS_at hil
      have h4 : 4 ≤ ss.length * 4 - i * 4 := by omega
      have hst : keepGo ns ss (i + 1) kb = keepGo ns ss i (keepStep ns ss kb i) := rfl
      have hks : keepStep ns ss kb i = if kb[i] = true then
        if 0 < needsF ns ss[i] then
          if 1 < needsF ns ss[i] then (kb.set ss[i].a.toNat true).set ss[i].b.toNat true else kb.set ss[i].a.toNat true
        else kb
        else kb := by simp only [keepStep, spAt_lt hil]; simp [hik]
      obtain ⟨ht, hn⟩ := well_at (hwl i hil) hil
      simp [e1, hil, hik, hkl, h4, hr]
      refine spec_l9Needs_call (s := ss[i]) hl ht rfl ?_; simp
      repeat (refine ck_intro' (by first | omega | (simp; omega) | kernel_rfl) ?_; try simp [hil, hik, hkl])
      refine br_intro' (fun g => ?_) (fun g => ?_) <;> simp [g]
      · have hs : ∀ c (h : i < (kb.set c true).length), (kb.set c true)[i]'h = true := fun c h => by
          rw [List.getElem_set]
          split
          · rfl
          · exact g
        rcases hn with hn | ⟨hn, a, ea, hla⟩ | ⟨hn, ⟨a, ea, hla⟩, b, eb, hlb⟩ | hn
        · simp [hn, hil, hik, hkl]
          repeat (refine ck_intro' (by first | omega | (simp; omega) | kernel_rfl) ?_; try simp [hil, hik, hkl, hn, g])
          simp [g]
          rw [hw2]
          exact ih (i, kb) ⟨by omega, hkl, by rw [hkg, hst, hks]; simp [g, hn]⟩ (by simp)
        · have hal : a < kb.length := by omega
          simp [hn, ea, h4, hr, hil, hw2]
          repeat (refine ck_intro' (by first | omega | (simp; omega) | kernel_rfl) ?_; try simp [hn, ea, h4, hr, hil, hw2, bls_set, hik, hkl, g])
          simp [hs, hn, ea, h4, hr, hil, hw2, bls_set, hik, hkl, g]
          exact ih (i, kb.set a true) ⟨by omega, by simp [hkl], by rw [hkg, hst, hks]; simp [g, hn, ea]⟩ (by simp)
        · have hal : a < kb.length := by omega
          have hbl : b < kb.length := by omega
          simp [hn, ea, eb, h4, hr, hil, hw2]
          repeat (refine ck_intro' (by first | omega | (simp; omega) | kernel_rfl) ?_; try simp [hn, ea, eb, h4, hr, hil, hw2, bls_set, hik, hkl, g])
          simp [hs, hn, ea, eb, h4, hr, hil, hw2, bls_set, hik, hkl, g]
          repeat (refine ck_intro' (by first | omega | (simp; omega) | kernel_rfl) ?_; try simp [hs, hn, ea, eb, h4, hr, hil, hw2, bls_set, hik, hkl, g])
          exact ih (i, (kb.set a true).set b true) ⟨by omega, by simp [hkl], by rw [hkg, hst, hks]; simp [g, hn, ea, eb]⟩ (by simp)
        · rcases needsF_in hp ht with z | z | z | z <;> omega
      · repeat (refine ck_intro' (by first | omega | (simp; omega) | kernel_rfl) ?_; try simp [hil, hik, hkl, g])
        rw [hw2]
        exact ih (i, kb) ⟨by omega, hkl, by rw [hkg, hst, hks]; simp [g]⟩ (by simp)
    · have hk0 : k = 0 := by omega
      subst hk0
      have hkv2 : keepV ns ss = kb := hkg
      refine ck_intro' (by omega) ?_; simp
      rw [← ints_rep']
      refine WLoop_virt 4 [(1, aSs ss), (2, A.ptr 0 0 0), (5, A.ref 3 0 0 0), (6, i6 ss.length), (9, A.ref 1 0 0 ss.length), (12, A.ref 2 0 0 ss.length), (13, i6 0)] ?_ ?_
      · intro t y hy
        simp [Sym.get] at hy ⊢
        (repeat' split at hy) <;> simp_all
      refine WLoop_fam (fun p : Nat × List Int × List Sp => [(1, aSs ss), (2, A.ptr 0 0 0), (5, tref' 3 p.2.2), (6, i6 ss.length), (9, A.ref 1 0 0 ss.length), (12, A.ref 2 0 0 ss.length), (13, i6 p.1)]) (fun p => [⟨0, false, 1, [A.sl ns.length (enc ns)], none⟩, ⟨0, false, 1, bls kb, none⟩, ⟨0, false, 1, ints p.2.1, none⟩, tblk p.2.2]) (fun p => ss.length - p.1)
        (fun p => p.1 ≤ ss.length ∧ p.2.1.length = ss.length ∧ p.2.2.length ≤ p.1 ∧ trimV ns ss = trimGo ns ss kb (ss.length - p.1) p.1 p.2.1 p.2.2) ?_ (0, List.replicate ss.length 0, []) ⟨Nat.zero_le _, by simp, by simp, by simp [trimV, hkv2]⟩
      rintro ⟨j, now, out⟩ ⟨hj, hnl, hol, htg⟩ ih2
      simp only at hj hnl hol htg
      simp
      refine br_intro' (fun u => ?_) (fun u => ?_) <;> (have u0 := u) <;> simp at u <;> simp [u0, u]
      · obtain ⟨q, hr⟩ := encS_at u
        have h4 : 4 ≤ ss.length * 4 - j * 4 := by omega
        have hjk : j < kb.length := by omega
        have hw3 := wrap_succ (n := j) (by omega)
        obtain ⟨ht, hn⟩ := well_at (hwl j u) u
        have hst : trimGo ns ss kb (ss.length - j) j now out = if kb[j] = true then trimGo ns ss kb (ss.length - (j + 1)) (j + 1) (now.set j out.length) (out ++ [moveF ns now ss[j]]) else trimGo ns ss kb (ss.length - (j + 1)) (j + 1) now out := by
          rw [show ss.length - j = (ss.length - (j + 1)) + 1 by omega, trimGo, spAt_lt u]
          simp [hjk]
        simp [h4, hr, hjk, u]
        refine br_intro' (fun g => ?_) (fun g => ?_) <;> simp [g]
        · simp [h4, hr, hjk, u]
          refine spec_l9Needs_call (s := ss[j]) hl ht rfl ?_; simp
          have hlo : out.length < 500 := by omega
          rcases hn with hn | ⟨hn, a, ea, hla⟩ | ⟨hn, ⟨a, ea, hla⟩, b, eb, hlb⟩ | hn
          · have hmv : moveF ns now ss[j] = ss[j] := by simp [moveF, hn]
            simp [hn, hnl, u, ints_set']
            repeat (refine ck_intro' (by first | omega | (simp; omega) | kernel_rfl) ?_; try simp [hn, hnl, u, ints_set', hw3])
            refine WLoop_drop [⟨0, false, 1, [A.sl ns.length (enc ns)], none⟩, ⟨0, false, 1, bls kb, none⟩, ⟨0, false, 1, ints (now.set j out.length), none⟩, tblk (out ++ [ss[j]])] [_, _] (by simp [encS_snoc]; exact ⟨rfl, rfl⟩) (by simp) (by simp) (by simp) ?_
            rw [show A.ref 3 (out.length + 1) 0 (out.length + 1) = tref' 3 (out ++ [ss[j]]) by simp]
            exact ih2 (j + 1, now.set j out.length, out ++ [ss[j]]) ⟨u, by simp [hnl], by simp; omega, by rw [htg, hst]; simp [g, hmv]⟩ (by simp; omega)
          · have hal : a < now.length := by omega
            have hmv : moveF ns now ss[j] = ⟨ss[j].r, ss[j].t, now[a], ss[j].b⟩ := by simp [moveF, hn, ea, hal]
            simp [hn, ea, hal, ints_at hal, hnl, u, ints_set']
            repeat (refine ck_intro' (by first | omega | (simp; omega) | kernel_rfl) ?_; try simp [hn, ea, hal, ints_at hal, hnl, u, ints_set', hw3])
            refine WLoop_drop [⟨0, false, 1, [A.sl ns.length (enc ns)], none⟩, ⟨0, false, 1, bls kb, none⟩, ⟨0, false, 1, ints (now.set j out.length), none⟩, tblk (out ++ [⟨ss[j].r, ss[j].t, now[a], ss[j].b⟩])] [_, _] (by simp [encS_snoc]; exact ⟨rfl, rfl⟩) (by simp) (by simp) (by simp) ?_
            rw [show A.ref 3 (out.length + 1) 0 (out.length + 1) = tref' 3 (out ++ [⟨ss[j].r, ss[j].t, now[a], ss[j].b⟩]) by simp]
            exact ih2 (j + 1, now.set j out.length, out ++ [⟨ss[j].r, ss[j].t, now[a], ss[j].b⟩]) ⟨u, by simp [hnl], by simp; omega, by rw [htg, hst]; simp [g, hmv]⟩ (by simp; omega)
          · have hal : a < now.length := by omega
            have hbl : b < now.length := by omega
            have hmv : moveF ns now ss[j] = ⟨ss[j].r, ss[j].t, now[a], now[b]⟩ := by simp [moveF, hn, ea, eb, hal, hbl]
            simp [hn, ea, eb, hal, hbl, ints_at hal, ints_at hbl, hnl, u, ints_set']
            repeat (refine ck_intro' (by first | omega | (simp; omega) | kernel_rfl) ?_; try simp [hn, ea, eb, hal, hbl, ints_at hal, ints_at hbl, hnl, u, ints_set', hw3])
            refine WLoop_drop [⟨0, false, 1, [A.sl ns.length (enc ns)], none⟩, ⟨0, false, 1, bls kb, none⟩, ⟨0, false, 1, ints (now.set j out.length), none⟩, tblk (out ++ [⟨ss[j].r, ss[j].t, now[a], now[b]⟩])] [_, _] (by simp [encS_snoc]; exact ⟨rfl, rfl⟩) (by simp) (by simp) (by simp) ?_
            rw [show A.ref 3 (out.length + 1) 0 (out.length + 1) = tref' 3 (out ++ [⟨ss[j].r, ss[j].t, now[a], now[b]⟩]) by simp]
            exact ih2 (j + 1, now.set j out.length, out ++ [⟨ss[j].r, ss[j].t, now[a], now[b]⟩]) ⟨u, by simp [hnl], by simp; omega, by rw [htg, hst]; simp [g, hmv]⟩ (by simp; omega)
          · rcases needsF_in hp ht with z | z | z | z <;> omega
        · rw [hw3]
          exact ih2 (j + 1, now, out) ⟨u, hnl, by simp; omega, by rw [htg, hst]; simp [g]⟩ (by simp; omega)
      · have hjn : j = ss.length := by omega
        have e : trimV ns ss = out := by rw [htg, hjn, Nat.sub_self]; rfl
        rw [e]
        first | (refine LeV.tell [none] ?_ ?_ ?_ <;> (simp; done)) | (refine LeV.tell [some 0] ?_ ?_ ?_ <;> (simp; done)) | (refine LeV.tell [some 1] ?_ ?_ ?_ <;> (simp; done)) | (refine LeV.tell [some 2] ?_ ?_ ?_ <;> (simp; done)) | (refine LeV.tell [some 3] ?_ ?_ ?_ <;> (simp; done)) | (refine LeV.tell [some 4] ?_ ?_ ?_ <;> (simp; done)) | (refine LeV.tell [some 5] ?_ ?_ ?_ <;> (simp; done)) | (refine LeV.tell [some 6] ?_ ?_ ?_ <;> (simp; done)) | (refine LeV.tell [some 7] ?_ ?_ ?_ <;> (simp; done)) | (refine LeV.tell [some 8] ?_ ?_ ?_ <;> (simp; done)) | (refine LeV.tell [some 9] ?_ ?_ ?_ <;> (simp; done)) | (refine LeV.tell [some 10] ?_ ?_ ?_ <;> (simp; done)) | (refine LeV.tell [some 11] ?_ ?_ ?_ <;> (simp; done)) | (refine LeV.tell [some 12] ?_ ?_ ?_ <;> (simp; done)) | (refine LeV.tell [some 13] ?_ ?_ ?_ <;> (simp; done)) | (refine LeV.tell [some 14] ?_ ?_ ?_ <;> (simp; done)) | (refine LeV.tell [some 15] ?_ ?_ ?_ <;> (simp; done))
theorem spec_ProofTrim_k {ns : List Nd} {ss : List Sp} (hl : ns.length < 9223372036854775807) (hls : ss.length < 9223372036854775807) {S : FuncId → Bool} {H : List Blk} {K : A → Dl → Prop} {zs : List A} (hS : S 11 = false) (hv : viewL (viewA 8 H) zs = some [aP ns, aSs ss]) (ho : noOwns zs = true ∨ nosl (tref' 0 (trimF ns ss)) = true ∧ noslBlks ([tblk (trimF ns ss)]) = true) (hK : K (shiftA H.length (tref' 0 (trimF ns ss))) (.news (([tblk (trimF ns ss)]).map (shiftB H.length)))) : @WCall' Go.Proofs.Try.prog S 11 zs H ⟨K⟩ :=
  WCall_ro' hS hv (spec_ProofTrim_c ns ss hl hls) rfl ho hK
end Go.Proofs.Ytcfgiffgahdlbaa.C
