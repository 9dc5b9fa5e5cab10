/- What ProofTrim answers, in the program and in the reference. Conditions: those that each theorem names. -/
import Derived.Test.YtcfgiffgahdlbaaGreatXB1E6
import Derived.Test.YtcfgiffgahdlbaaGreatXSymW
set_option linter.unusedVariables false
set_option linter.unusedSimpArgs false
set_option maxRecDepth 4000
namespace Go.Proofs.YtcfgiffgahdlbaaGreat.C
open Go.Sym Go.Proofs.YtcfgiffgahdlbaaGreat.I
theorem trimF_bad {ns : List Nd} {ss : List Sp} {j : Nat} (hj : j < ss.length) (hf : allF (wellF ns ss) ss.length 0 = allF (wellF ns ss) ss.length j) (h : wellF ns ss j = false) : trimF ns ss = [] := by
  unfold trimF
  rw [if_neg]
  rintro ⟨_, _, _, q⟩
  rw [hf, allF_at hj, h] at q
  cases q
theorem well_lo {ns : List Nd} {ss : List Sp} {i : Nat} (hi : i < ss.length) (h : needsF ns ss[i] < 0) : wellF ns ss i = false := by
  simp only [wellF, spAt_lt hi]
  rw [show decide (0 ≤ needsF ns ss[i]) = false by simpa using h]
  simp
theorem well_eq {ns : List Nd} {ss : List Sp} {i : Nat} (hi : i < ss.length) (ht : hasF ns.length ss[i].t = true) (h : 0 ≤ needsF ns ss[i]) : wellF ns ss i = ((decide (needsF ns ss[i] < 1) || inF ss[i].a 0 ((i : Int) - 1)) && (decide (needsF ns ss[i] < 2) || inF ss[i].b 0 ((i : Int) - 1))) := by
  simp [wellF, hi, ht, h]
theorem spec_ProofTrim_c (ns : List Nd) (ss : List Sp) (hl : ns.length < 9223372036854775807) (hls : ss.length < 9223372036854775807) : T 19 [aP ns, aSs ss] [] (tref' 0 (trimF ns ss)) ([tblk (trimF ns ss)]) := by
  refine semT' (S := S0) hm spec_ProofTrim_ok (Nat.le_of_ble_eq_true rfl) ?_
  unfold spec_ProofTrim; dsimp only
  simp
  by_cases hne : ss = []
  · subst hne
    simp
    rw [show trimF ns [] = [] by simp [trimF]]
    first | (refine LeV.tell [none] ?_ ?_ ?_ <;> (simp; done)) | (refine LeV.tell [some 0] ?_ ?_ ?_ <;> (simp; done)) | (refine LeV.tell [some 1] ?_ ?_ ?_ <;> (simp; done)) | (refine LeV.tell [some 2] ?_ ?_ ?_ <;> (simp; done)) | (refine LeV.tell [some 3] ?_ ?_ ?_ <;> (simp; done)) | (refine LeV.tell [some 4] ?_ ?_ ?_ <;> (simp; done)) | (refine LeV.tell [some 5] ?_ ?_ ?_ <;> (simp; done)) | (refine LeV.tell [some 6] ?_ ?_ ?_ <;> (simp; done)) | (refine LeV.tell [some 7] ?_ ?_ ?_ <;> (simp; done)) | (refine LeV.tell [some 8] ?_ ?_ ?_ <;> (simp; done)) | (refine LeV.tell [some 9] ?_ ?_ ?_ <;> (simp; done)) | (refine LeV.tell [some 10] ?_ ?_ ?_ <;> (simp; done)) | (refine LeV.tell [some 11] ?_ ?_ ?_ <;> (simp; done)) | (refine LeV.tell [some 12] ?_ ?_ ?_ <;> (simp; done)) | (refine LeV.tell [some 13] ?_ ?_ ?_ <;> (simp; done)) | (refine LeV.tell [some 14] ?_ ?_ ?_ <;> (simp; done)) | (refine LeV.tell [some 15] ?_ ?_ ?_ <;> (simp; done))
  have hpos : 0 < ss.length := List.length_pos_iff.2 hne
  simp [hne]
  refine br_intro' (fun h => ?_) (fun h => ?_) <;> simp at h <;> simp [h]
  · rw [show trimF ns ss = [] from if_neg (by rintro ⟨_, h2, _⟩; omega)]
    first | (refine LeV.tell [none] ?_ ?_ ?_ <;> (simp; done)) | (refine LeV.tell [some 0] ?_ ?_ ?_ <;> (simp; done)) | (refine LeV.tell [some 1] ?_ ?_ ?_ <;> (simp; done)) | (refine LeV.tell [some 2] ?_ ?_ ?_ <;> (simp; done)) | (refine LeV.tell [some 3] ?_ ?_ ?_ <;> (simp; done)) | (refine LeV.tell [some 4] ?_ ?_ ?_ <;> (simp; done)) | (refine LeV.tell [some 5] ?_ ?_ ?_ <;> (simp; done)) | (refine LeV.tell [some 6] ?_ ?_ ?_ <;> (simp; done)) | (refine LeV.tell [some 7] ?_ ?_ ?_ <;> (simp; done)) | (refine LeV.tell [some 8] ?_ ?_ ?_ <;> (simp; done)) | (refine LeV.tell [some 9] ?_ ?_ ?_ <;> (simp; done)) | (refine LeV.tell [some 10] ?_ ?_ ?_ <;> (simp; done)) | (refine LeV.tell [some 11] ?_ ?_ ?_ <;> (simp; done)) | (refine LeV.tell [some 12] ?_ ?_ ?_ <;> (simp; done)) | (refine LeV.tell [some 13] ?_ ?_ ?_ <;> (simp; done)) | (refine LeV.tell [some 14] ?_ ?_ ?_ <;> (simp; done)) | (refine LeV.tell [some 15] ?_ ?_ ?_ <;> (simp; done))
  have h5 : ss.length ≤ 500 := by omega
  refine WLoop_fam (fun j : Nat => [(1, aSs ss), (2, A.ptr 0 0 0), (5, A.nil), (6, i6 ss.length), (7, i6 j)]) (fun _ => [⟨0, false, 1, [A.sl ns.length (enc ns)], none⟩]) (fun j => ss.length - j)
    (fun j => j ≤ ss.length ∧ (0 < j → poolF ns = true) ∧ allF (wellF ns ss) ss.length 0 = allF (wellF ns ss) ss.length j) ?_ 0 ⟨Nat.zero_le _, by simp, rfl⟩
  intro j ⟨hj, hpj, hf⟩ ih
  simp
  refine br_intro' (fun h => ?_) (fun h => ?_) <;> (have h0 := h) <;> (try simp at h) <;> try simp [h0, h]
  · have h' := h
    obtain ⟨q, hr⟩ := encS_at h
    have h4 : 4 ≤ ss.length * 4 - j * 4 := by omega
    have hw := wrap_succ (n := j) (by omega)
    have hwl := wrap_len (n := j) (by omega)
    have hfj := allF_at (p := wellF ns ss) h'
    simp [h4, hr]
    refine spec_StepNeeds_call (s := ss[j]) hl rfl ?_; simp
    first | (refine ck_intro' (by kernel_rfl) ?_; try simp) | skip
    by_cases hp : poolF ns = true ∧ hasF ns.length ss[j].t = true
    · obtain ⟨hp, ht⟩ := hp
      rw [show stepNeedsF ns ss[j] = needsF ns ss[j] from if_pos ⟨hp, ht⟩]
      rcases needsF_in hp ht with hn | hn | hn | hn <;> simp [hn]
      · rw [trimF_bad h' hf (well_lo h' (by omega))]
        first | (refine LeV.tell [none] ?_ ?_ ?_ <;> (simp; done)) | (refine LeV.tell [some 0] ?_ ?_ ?_ <;> (simp; done)) | (refine LeV.tell [some 1] ?_ ?_ ?_ <;> (simp; done)) | (refine LeV.tell [some 2] ?_ ?_ ?_ <;> (simp; done)) | (refine LeV.tell [some 3] ?_ ?_ ?_ <;> (simp; done)) | (refine LeV.tell [some 4] ?_ ?_ ?_ <;> (simp; done)) | (refine LeV.tell [some 5] ?_ ?_ ?_ <;> (simp; done)) | (refine LeV.tell [some 6] ?_ ?_ ?_ <;> (simp; done)) | (refine LeV.tell [some 7] ?_ ?_ ?_ <;> (simp; done)) | (refine LeV.tell [some 8] ?_ ?_ ?_ <;> (simp; done)) | (refine LeV.tell [some 9] ?_ ?_ ?_ <;> (simp; done)) | (refine LeV.tell [some 10] ?_ ?_ ?_ <;> (simp; done)) | (refine LeV.tell [some 11] ?_ ?_ ?_ <;> (simp; done)) | (refine LeV.tell [some 12] ?_ ?_ ?_ <;> (simp; done)) | (refine LeV.tell [some 13] ?_ ?_ ?_ <;> (simp; done)) | (refine LeV.tell [some 14] ?_ ?_ ?_ <;> (simp; done)) | (refine LeV.tell [some 15] ?_ ?_ ?_ <;> (simp; done))
      · rw [hw]
        exact ih (j + 1) ⟨h', fun _ => hp, by rw [hf, hfj, well_eq h' ht (by omega)]; simp [hn]⟩ (by omega)
      · simp [hr, h4, h']
        rw [hwl]
        refine spec_l1In_call rfl ?_; simp
        refine br_intro' (fun g => ?_) (fun g => ?_) <;> simp [g]
        · rw [hw]
          exact ih (j + 1) ⟨h', fun _ => hp, by rw [hf, hfj, well_eq h' ht (by omega)]; simp [hn, g]⟩ (by omega)
        · rw [trimF_bad h' hf (by rw [well_eq h' ht (by omega)]; simp [hn, g])]
          first | (refine LeV.tell [none] ?_ ?_ ?_ <;> (simp; done)) | (refine LeV.tell [some 0] ?_ ?_ ?_ <;> (simp; done)) | (refine LeV.tell [some 1] ?_ ?_ ?_ <;> (simp; done)) | (refine LeV.tell [some 2] ?_ ?_ ?_ <;> (simp; done)) | (refine LeV.tell [some 3] ?_ ?_ ?_ <;> (simp; done)) | (refine LeV.tell [some 4] ?_ ?_ ?_ <;> (simp; done)) | (refine LeV.tell [some 5] ?_ ?_ ?_ <;> (simp; done)) | (refine LeV.tell [some 6] ?_ ?_ ?_ <;> (simp; done)) | (refine LeV.tell [some 7] ?_ ?_ ?_ <;> (simp; done)) | (refine LeV.tell [some 8] ?_ ?_ ?_ <;> (simp; done)) | (refine LeV.tell [some 9] ?_ ?_ ?_ <;> (simp; done)) | (refine LeV.tell [some 10] ?_ ?_ ?_ <;> (simp; done)) | (refine LeV.tell [some 11] ?_ ?_ ?_ <;> (simp; done)) | (refine LeV.tell [some 12] ?_ ?_ ?_ <;> (simp; done)) | (refine LeV.tell [some 13] ?_ ?_ ?_ <;> (simp; done)) | (refine LeV.tell [some 14] ?_ ?_ ?_ <;> (simp; done)) | (refine LeV.tell [some 15] ?_ ?_ ?_ <;> (simp; done))
      · simp [hr, h4, h']
        rw [hwl]
        refine spec_l1In_call rfl ?_; simp
        refine br_intro' (fun g => ?_) (fun g => ?_) <;> simp [g]
        · simp [hr, h4, h']
          rw [hwl]
          refine spec_l1In_call rfl ?_; simp
          refine br_intro' (fun g2 => ?_) (fun g2 => ?_) <;> simp [g2]
          · rw [hw]
            exact ih (j + 1) ⟨h', fun _ => hp, by rw [hf, hfj, well_eq h' ht (by omega)]; simp [hn, g, g2]⟩ (by omega)
          · rw [trimF_bad h' hf (by rw [well_eq h' ht (by omega)]; simp [hn, g, g2])]
            first | (refine LeV.tell [none] ?_ ?_ ?_ <;> (simp; done)) | (refine LeV.tell [some 0] ?_ ?_ ?_ <;> (simp; done)) | (refine LeV.tell [some 1] ?_ ?_ ?_ <;> (simp; done)) | (refine LeV.tell [some 2] ?_ ?_ ?_ <;> (simp; done)) | (refine LeV.tell [some 3] ?_ ?_ ?_ <;> (simp; done)) | (refine LeV.tell [some 4] ?_ ?_ ?_ <;> (simp; done)) | (refine LeV.tell [some 5] ?_ ?_ ?_ <;> (simp; done)) | (refine LeV.tell [some 6] ?_ ?_ ?_ <;> (simp; done)) | (refine LeV.tell [some 7] ?_ ?_ ?_ <;> (simp; done)) | (refine LeV.tell [some 8] ?_ ?_ ?_ <;> (simp; done)) | (refine LeV.tell [some 9] ?_ ?_ ?_ <;> (simp; done)) | (refine LeV.tell [some 10] ?_ ?_ ?_ <;> (simp; done)) | (refine LeV.tell [some 11] ?_ ?_ ?_ <;> (simp; done)) | (refine LeV.tell [some 12] ?_ ?_ ?_ <;> (simp; done)) | (refine LeV.tell [some 13] ?_ ?_ ?_ <;> (simp; done)) | (refine LeV.tell [some 14] ?_ ?_ ?_ <;> (simp; done)) | (refine LeV.tell [some 15] ?_ ?_ ?_ <;> (simp; done))
        · rw [trimF_bad h' hf (by rw [well_eq h' ht (by omega)]; simp [hn, g])]
          first | (refine LeV.tell [none] ?_ ?_ ?_ <;> (simp; done)) | (refine LeV.tell [some 0] ?_ ?_ ?_ <;> (simp; done)) | (refine LeV.tell [some 1] ?_ ?_ ?_ <;> (simp; done)) | (refine LeV.tell [some 2] ?_ ?_ ?_ <;> (simp; done)) | (refine LeV.tell [some 3] ?_ ?_ ?_ <;> (simp; done)) | (refine LeV.tell [some 4] ?_ ?_ ?_ <;> (simp; done)) | (refine LeV.tell [some 5] ?_ ?_ ?_ <;> (simp; done)) | (refine LeV.tell [some 6] ?_ ?_ ?_ <;> (simp; done)) | (refine LeV.tell [some 7] ?_ ?_ ?_ <;> (simp; done)) | (refine LeV.tell [some 8] ?_ ?_ ?_ <;> (simp; done)) | (refine LeV.tell [some 9] ?_ ?_ ?_ <;> (simp; done)) | (refine LeV.tell [some 10] ?_ ?_ ?_ <;> (simp; done)) | (refine LeV.tell [some 11] ?_ ?_ ?_ <;> (simp; done)) | (refine LeV.tell [some 12] ?_ ?_ ?_ <;> (simp; done)) | (refine LeV.tell [some 13] ?_ ?_ ?_ <;> (simp; done)) | (refine LeV.tell [some 14] ?_ ?_ ?_ <;> (simp; done)) | (refine LeV.tell [some 15] ?_ ?_ ?_ <;> (simp; done))
    · rw [show stepNeedsF ns ss[j] = -1 from if_neg hp]
      simp
      rw [show trimF ns ss = [] from if_neg (by
        rintro ⟨_, _, q1, q2⟩
        have := allF_all q2 h'
        simp only [wellF, spAt_lt h', Bool.and_eq_true] at this
        exact hp ⟨q1, this.1.1.1⟩)]
      first | (refine LeV.tell [none] ?_ ?_ ?_ <;> (simp; done)) | (refine LeV.tell [some 0] ?_ ?_ ?_ <;> (simp; done)) | (refine LeV.tell [some 1] ?_ ?_ ?_ <;> (simp; done)) | (refine LeV.tell [some 2] ?_ ?_ ?_ <;> (simp; done)) | (refine LeV.tell [some 3] ?_ ?_ ?_ <;> (simp; done)) | (refine LeV.tell [some 4] ?_ ?_ ?_ <;> (simp; done)) | (refine LeV.tell [some 5] ?_ ?_ ?_ <;> (simp; done)) | (refine LeV.tell [some 6] ?_ ?_ ?_ <;> (simp; done)) | (refine LeV.tell [some 7] ?_ ?_ ?_ <;> (simp; done)) | (refine LeV.tell [some 8] ?_ ?_ ?_ <;> (simp; done)) | (refine LeV.tell [some 9] ?_ ?_ ?_ <;> (simp; done)) | (refine LeV.tell [some 10] ?_ ?_ ?_ <;> (simp; done)) | (refine LeV.tell [some 11] ?_ ?_ ?_ <;> (simp; done)) | (refine LeV.tell [some 12] ?_ ?_ ?_ <;> (simp; done)) | (refine LeV.tell [some 13] ?_ ?_ ?_ <;> (simp; done)) | (refine LeV.tell [some 14] ?_ ?_ ?_ <;> (simp; done)) | (refine LeV.tell [some 15] ?_ ?_ ?_ <;> (simp; done))
  · have hp : poolF ns = true := hpj (by omega)
    have hE : trimF ns ss = trimV ns ss := if_pos ⟨hne, h5, hp, by rw [hf, allF_end h]⟩
    have hwl : ∀ i : Nat, i < ss.length → wellF ns ss i = true := fun i hi => allF_all (by rw [hf, allF_end h]) hi
    rw [hE]
    have hw := wrap_len (n := ss.length) (by omega)
    refine ck_intro' (by omega) ?_; simp [hw]
    refine ck_intro' (by omega) ?_; simp [hw]
    refine ck_intro' (by omega) ?_; simp [hw]
    rw [← bls_rep, bls_set]
    have hkv : keepV ns ss = keepGo ns ss ss.length ((List.replicate ss.length false).set (ss.length - 1) true) := rfl
    refine WLoop_fam (fun p : Nat × List Bool => [(1, aSs ss), (2, A.ptr 0 0 0), (5, A.nil), (6, i6 ss.length), (9, A.ref 1 0 0 ss.length), (10, i6 ((p.1 : Int) - 1))]) (fun p => [⟨0, false, 1, [A.sl ns.length (enc ns)], none⟩, ⟨0, false, 1, bls p.2, none⟩]) (fun p => p.1)
      (fun p => p.1 ≤ ss.length ∧ p.2.length = ss.length ∧ keepV ns ss = keepGo ns ss p.1 p.2) ?_ (ss.length, (List.replicate ss.length false).set (ss.length - 1) true) ⟨Nat.le_refl _, by simp, hkv⟩
    rintro ⟨k, kb⟩ ⟨hk, hkl, hkg⟩ ih
    simp only at hk hkl hkg
    simp
    refine br_intro' (fun h => ?_) (fun h => ?_) <;> (have hc0 := h) <;> simp at h <;> simp [hc0, h]
    · obtain ⟨i, rfl⟩ : ∃ i, k = i + 1 := ⟨k - 1, by omega⟩
      have e1 : ((i + 1 : Nat) : Int) - 1 = i := by omega
      have hil : i < ss.length := by omega
      have hik : i < kb.length := by omega
      have hw2 : IntKind.i64.wrap ((i : Int) - 1) = i - 1 := wrap64 (by omega) (by omega)
      obtain ⟨q, hr⟩ := encS_at hil
      have h4 : 4 ≤ ss.length * 4 - i * 4 := by omega
      have hst : keepGo ns ss (i + 1) kb = keepGo ns ss i (keepStep ns ss kb i) := rfl
      have hks : keepStep ns ss kb i = if kb[i] = true then
        if 0 < needsF ns ss[i] then
          if 1 < needsF ns ss[i] then (kb.set ss[i].a.toNat true).set ss[i].b.toNat true else kb.set ss[i].a.toNat true
        else kb
        else kb := by simp only [keepStep, spAt_lt hil]; simp [hik]
      obtain ⟨ht, hn⟩ := well_at (hwl i hil) hil
      simp [e1, hil, hik, hkl, h4, hr]
      refine spec_l9Needs_call (s := ss[i]) hl ht rfl ?_; simp
      repeat (refine ck_intro' (by first | omega | (simp; omega) | kernel_rfl) ?_; try simp [hil, hik, hkl])
      refine br_intro' (fun g => ?_) (fun g => ?_) <;> simp [g]
      · have hs : ∀ c (h : i < (kb.set c true).length), (kb.set c true)[i]'h = true := fun c h => by
          rw [List.getElem_set]
          split
          · rfl
          · exact g
        rcases hn with hn | ⟨hn, a, ea, hla⟩ | ⟨hn, ⟨a, ea, hla⟩, b, eb, hlb⟩ | hn
        · simp [hn, hil, hik, hkl]
          repeat (refine ck_intro' (by first | omega | (simp; omega) | kernel_rfl) ?_; try simp [hil, hik, hkl, hn, g])
          simp [g]
          rw [hw2]
          exact ih (i, kb) ⟨by omega, hkl, by rw [hkg, hst, hks]; simp [g, hn]⟩ (by simp)
        · have hal : a < kb.length := by omega
          simp [hn, ea, h4, hr, hil, hw2]
          repeat (refine ck_intro' (by first | omega | (simp; omega) | kernel_rfl) ?_; try simp [hn, ea, h4, hr, hil, hw2, bls_set, hik, hkl, g])
          simp [hs, hn, ea, h4, hr, hil, hw2, bls_set, hik, hkl, g]
          exact ih (i, kb.set a true) ⟨by omega, by simp [hkl], by rw [hkg, hst, hks]; simp [g, hn, ea]⟩ (by simp)
        · have hal : a < kb.length := by omega
          have hbl : b < kb.length := by omega
          simp [hn, ea, eb, h4, hr, hil, hw2]
          repeat (refine ck_intro' (by first | omega | (simp; omega) | kernel_rfl) ?_; try simp [hn, ea, eb, h4, hr, hil, hw2, bls_set, hik, hkl, g])
          simp [hs, hn, ea, eb, h4, hr, hil, hw2, bls_set, hik, hkl, g]
          repeat (refine ck_intro' (by first | omega | (simp; omega) | kernel_rfl) ?_; try simp [hs, hn, ea, eb, h4, hr, hil, hw2, bls_set, hik, hkl, g])
          exact ih (i, (kb.set a true).set b true) ⟨by omega, by simp [hkl], by rw [hkg, hst, hks]; simp [g, hn, ea, eb]⟩ (by simp)
        · rcases needsF_in hp ht with z | z | z | z <;> omega
      · repeat (refine ck_intro' (by first | omega | (simp; omega) | kernel_rfl) ?_; try simp [hil, hik, hkl, g])
        rw [hw2]
        exact ih (i, kb) ⟨by omega, hkl, by rw [hkg, hst, hks]; simp [g]⟩ (by simp)
    · have hk0 : k = 0 := by omega
      subst hk0
      have hkv2 : keepV ns ss = kb := hkg
      refine ck_intro' (by omega) ?_; simp
      rw [← ints_rep']
      refine WLoop_virt 4 [(1, aSs ss), (2, A.ptr 0 0 0), (5, A.ref 3 0 0 0), (6, i6 ss.length), (9, A.ref 1 0 0 ss.length), (12, A.ref 2 0 0 ss.length), (13, i6 0)] ?_ ?_
      · intro t y hy
        simp [Sym.get] at hy ⊢
        (repeat' split at hy) <;> simp_all
      refine WLoop_fam (fun p : Nat × List Int × List Sp => [(1, aSs ss), (2, A.ptr 0 0 0), (5, tref' 3 p.2.2), (6, i6 ss.length), (9, A.ref 1 0 0 ss.length), (12, A.ref 2 0 0 ss.length), (13, i6 p.1)]) (fun p => [⟨0, false, 1, [A.sl ns.length (enc ns)], none⟩, ⟨0, false, 1, bls kb, none⟩, ⟨0, false, 1, ints p.2.1, none⟩, tblk p.2.2]) (fun p => ss.length - p.1)
        (fun p => p.1 ≤ ss.length ∧ p.2.1.length = ss.length ∧ p.2.2.length ≤ p.1 ∧ trimV ns ss = trimGo ns ss kb (ss.length - p.1) p.1 p.2.1 p.2.2) ?_ (0, List.replicate ss.length 0, []) ⟨Nat.zero_le _, by simp, by simp, by simp [trimV, hkv2]⟩
      rintro ⟨j, now, out⟩ ⟨hj, hnl, hol, htg⟩ ih2
      simp only at hj hnl hol htg
      simp
      refine br_intro' (fun u => ?_) (fun u => ?_) <;> (have u0 := u) <;> simp at u <;> simp [u0, u]
      · obtain ⟨q, hr⟩ := encS_at u
        have h4 : 4 ≤ ss.length * 4 - j * 4 := by omega
        have hjk : j < kb.length := by omega
        have hw3 := wrap_succ (n := j) (by omega)
        obtain ⟨ht, hn⟩ := well_at (hwl j u) u
        have hst : trimGo ns ss kb (ss.length - j) j now out = if kb[j] = true then trimGo ns ss kb (ss.length - (j + 1)) (j + 1) (now.set j out.length) (out ++ [moveF ns now ss[j]]) else trimGo ns ss kb (ss.length - (j + 1)) (j + 1) now out := by
          rw [show ss.length - j = (ss.length - (j + 1)) + 1 by omega, trimGo, spAt_lt u]
          simp [hjk]
        simp [h4, hr, hjk, u]
        refine br_intro' (fun g => ?_) (fun g => ?_) <;> simp [g]
        · simp [h4, hr, hjk, u]
          refine spec_l9Needs_call (s := ss[j]) hl ht rfl ?_; simp
          have hlo : out.length < 500 := by omega
          rcases hn with hn | ⟨hn, a, ea, hla⟩ | ⟨hn, ⟨a, ea, hla⟩, b, eb, hlb⟩ | hn
          · have hmv : moveF ns now ss[j] = ss[j] := by simp [moveF, hn]
            simp [hn, hnl, u, ints_set']
            repeat (refine ck_intro' (by first | omega | (simp; omega) | kernel_rfl) ?_; try simp [hn, hnl, u, ints_set', hw3])
            refine WLoop_drop [⟨0, false, 1, [A.sl ns.length (enc ns)], none⟩, ⟨0, false, 1, bls kb, none⟩, ⟨0, false, 1, ints (now.set j out.length), none⟩, tblk (out ++ [ss[j]])] [_, _] (by simp [encS_snoc]; exact ⟨rfl, rfl⟩) (by simp) (by simp) (by simp) ?_
            rw [show A.ref 3 (out.length + 1) 0 (out.length + 1) = tref' 3 (out ++ [ss[j]]) by simp]
            exact ih2 (j + 1, now.set j out.length, out ++ [ss[j]]) ⟨u, by simp [hnl], by simp; omega, by rw [htg, hst]; simp [g, hmv]⟩ (by simp; omega)
          · have hal : a < now.length := by omega
            have hmv : moveF ns now ss[j] = ⟨ss[j].r, ss[j].t, now[a], ss[j].b⟩ := by simp [moveF, hn, ea, hal]
            simp [hn, ea, hal, ints_at hal, hnl, u, ints_set']
            repeat (refine ck_intro' (by first | omega | (simp; omega) | kernel_rfl) ?_; try simp [hn, ea, hal, ints_at hal, hnl, u, ints_set', hw3])
            refine WLoop_drop [⟨0, false, 1, [A.sl ns.length (enc ns)], none⟩, ⟨0, false, 1, bls kb, none⟩, ⟨0, false, 1, ints (now.set j out.length), none⟩, tblk (out ++ [⟨ss[j].r, ss[j].t, now[a], ss[j].b⟩])] [_, _] (by simp [encS_snoc]; exact ⟨rfl, rfl⟩) (by simp) (by simp) (by simp) ?_
            rw [show A.ref 3 (out.length + 1) 0 (out.length + 1) = tref' 3 (out ++ [⟨ss[j].r, ss[j].t, now[a], ss[j].b⟩]) by simp]
            exact ih2 (j + 1, now.set j out.length, out ++ [⟨ss[j].r, ss[j].t, now[a], ss[j].b⟩]) ⟨u, by simp [hnl], by simp; omega, by rw [htg, hst]; simp [g, hmv]⟩ (by simp; omega)
          · have hal : a < now.length := by omega
            have hbl : b < now.length := by omega
            have hmv : moveF ns now ss[j] = ⟨ss[j].r, ss[j].t, now[a], now[b]⟩ := by simp [moveF, hn, ea, eb, hal, hbl]
            simp [hn, ea, eb, hal, hbl, ints_at hal, ints_at hbl, hnl, u, ints_set']
            repeat (refine ck_intro' (by first | omega | (simp; omega) | kernel_rfl) ?_; try simp [hn, ea, eb, hal, hbl, ints_at hal, ints_at hbl, hnl, u, ints_set', hw3])
            refine WLoop_drop [⟨0, false, 1, [A.sl ns.length (enc ns)], none⟩, ⟨0, false, 1, bls kb, none⟩, ⟨0, false, 1, ints (now.set j out.length), none⟩, tblk (out ++ [⟨ss[j].r, ss[j].t, now[a], now[b]⟩])] [_, _] (by simp [encS_snoc]; exact ⟨rfl, rfl⟩) (by simp) (by simp) (by simp) ?_
            rw [show A.ref 3 (out.length + 1) 0 (out.length + 1) = tref' 3 (out ++ [⟨ss[j].r, ss[j].t, now[a], now[b]⟩]) by simp]
            exact ih2 (j + 1, now.set j out.length, out ++ [⟨ss[j].r, ss[j].t, now[a], now[b]⟩]) ⟨u, by simp [hnl], by simp; omega, by rw [htg, hst]; simp [g, hmv]⟩ (by simp; omega)
          · rcases needsF_in hp ht with z | z | z | z <;> omega
        · rw [hw3]
          exact ih2 (j + 1, now, out) ⟨u, hnl, by simp; omega, by rw [htg, hst]; simp [g]⟩ (by simp; omega)
      · have hjn : j = ss.length := by omega
        have e : trimV ns ss = out := by rw [htg, hjn, Nat.sub_self]; rfl
        rw [e]
        first | (refine LeV.tell [none] ?_ ?_ ?_ <;> (simp; done)) | (refine LeV.tell [some 0] ?_ ?_ ?_ <;> (simp; done)) | (refine LeV.tell [some 1] ?_ ?_ ?_ <;> (simp; done)) | (refine LeV.tell [some 2] ?_ ?_ ?_ <;> (simp; done)) | (refine LeV.tell [some 3] ?_ ?_ ?_ <;> (simp; done)) | (refine LeV.tell [some 4] ?_ ?_ ?_ <;> (simp; done)) | (refine LeV.tell [some 5] ?_ ?_ ?_ <;> (simp; done)) | (refine LeV.tell [some 6] ?_ ?_ ?_ <;> (simp; done)) | (refine LeV.tell [some 7] ?_ ?_ ?_ <;> (simp; done)) | (refine LeV.tell [some 8] ?_ ?_ ?_ <;> (simp; done)) | (refine LeV.tell [some 9] ?_ ?_ ?_ <;> (simp; done)) | (refine LeV.tell [some 10] ?_ ?_ ?_ <;> (simp; done)) | (refine LeV.tell [some 11] ?_ ?_ ?_ <;> (simp; done)) | (refine LeV.tell [some 12] ?_ ?_ ?_ <;> (simp; done)) | (refine LeV.tell [some 13] ?_ ?_ ?_ <;> (simp; done)) | (refine LeV.tell [some 14] ?_ ?_ ?_ <;> (simp; done)) | (refine LeV.tell [some 15] ?_ ?_ ?_ <;> (simp; done))
theorem spec_ProofTrim_k {ns : List Nd} {ss : List Sp} (hl : ns.length < 9223372036854775807) (hls : ss.length < 9223372036854775807) {S : FuncId → Bool} {H : List Blk} {K : A → Dl → Prop} {zs : List A} (hS : S 19 = false) (hv : viewL (viewA 8 H) zs = some [aP ns, aSs ss]) (ho : noOwns zs = true ∨ nosl (tref' 0 (trimF ns ss)) = true ∧ noslBlks ([tblk (trimF ns ss)]) = true) (hK : K (shiftA H.length (tref' 0 (trimF ns ss))) (.news (([tblk (trimF ns ss)]).map (shiftB H.length)))) : @WCall' Go.Proofs.Tryz.prog S 19 zs H ⟨K⟩ :=
  WCall_ro' hS hv (spec_ProofTrim_c ns ss hl hls) rfl ho hK
end Go.Proofs.YtcfgiffgahdlbaaGreat.C

set_option linter.unusedVariables false
set_option linter.unusedSimpArgs false
set_option maxRecDepth 4000
namespace Go.Proofs.YtcfgiffgahdlbaaGreat.C
open Go.Sym Go.Proofs.YtcfgiffgahdlbaaGreat.I
/-- The step of a term; below 0: there is none. -/
def sv (st : List Int) (t : Int) : Int := st.getD t.toNat 0
theorem sv_nat {st : List Int} {j : Nat} (h : j < st.length) : sv st j = st[j] := by simp [sv, h]
def optS (o : Option Sp) : Sp := o.getD ⟨0, 0, 0, 0⟩
def upOk (ns : List Nd) (st : List Int) (r t : Int) (i : Nat) : Bool :=
  decide (0 ≤ sv st i) && (decide (r = 5 ∧ (nodeAt ns i).k = 2 ∧ (nodeAt ns i).a = t) || decide (r = 6 ∧ (nodeAt ns i).k = 2 ∧ (nodeAt ns i).b = t) || decide (r = 8 ∧ (nodeAt ns i).k = 4 ∧ (nodeAt ns i).a = t) ||
    (decide (r = 7 ∧ (nodeAt ns i).k = 3 ∧ (nodeAt ns i).a = t) && decide (0 ≤ sv st (nodeAt ns i).b)))
def upGo (ns : List Nd) (st : List Int) (r t : Int) : Nat → Nat → Option Sp
  | 0, _ => none
  | n + 1, i => if upOk ns st r t i = true then some ⟨r, t, sv st i, if r = 7 then sv st (nodeAt ns i).b else 0⟩ else upGo ns st r t n (i + 1)
def upF (ns : List Nd) (st : List Int) (r t : Int) : Option Sp := upGo ns st r t (ns.length - (t.toNat + 1)) (t.toNat + 1)
theorem spec_l9Up_c (ns : List Nd) (st : List Int) (t r : Int) (hl : ns.length < 9223372036854775807) (hp : poolF ns = true) (hst : st.length = ns.length) (ht : hasF ns.length t = true) (hr : r = 5 ∨ r = 6 ∨ r = 7 ∨ r = 8) : T 63 [aP ns, aI st, i6 t, i6 r] [] (.tup [aSt (optS (upF ns st r t)), .bool (upF ns st r t).isSome]) ([]) := by
  refine semT' (S := S0) hm spec_l9Up_ok (Nat.le_of_ble_eq_true rfl) ?_
  unfold spec_l9Up; dsimp only
  obtain ⟨j, rfl, hj⟩ := hasN ht
  have hw := wrap_succ (n := j) (by omega)
  simp
  rw [hw]
  refine WLoop_fam (fun i : Nat => [(1, aI st), (2, i6 j), (3, i6 r), (4, A.ptr 0 0 0), (8, A.ptr 1 0 0), (10, i6 i)]) (fun _ => [⟨0, false, 1, [A.sl ns.length (enc ns)], none⟩, ⟨0, false, 1, [i6 0, i6 0, i6 0, i6 0], none⟩]) (fun i => ns.length - i)
    (fun i => i ≤ ns.length ∧ upF ns st r j = upGo ns st r j (ns.length - i) i) ?_ (j + 1) ⟨hj, by simp [upF]⟩
  intro i ⟨hi, hf⟩ ih
  simp
  refine br_intro' (fun h => ?_) (fun h => ?_) <;> (have h0 := h) <;> (try simp at h) <;> try simp [h0, h]
  · have h' := h
    have his : i < st.length := by omega
    obtain ⟨q, hq⟩ := enc_at h
    have h3 : 3 ≤ ns.length * 3 - i * 3 := by omega
    have hwi := wrap_succ (n := i) (by omega)
    have en := nodeAt_nat h'
    have es := sv_nat his
    have hgo : upGo ns st r j (ns.length - i) i = if upOk ns st r j i = true then some ⟨r, j, sv st i, if r = 7 then sv st (nodeAt ns i).b else 0⟩ else upGo ns st r j (ns.length - (i + 1)) (i + 1) := by
      rw [show ns.length - i = (ns.length - (i + 1)) + 1 by omega]; rfl
    simp [h3, hq, his, h']
    refine br_intro' (fun g => ?_) (fun g => ?_) <;> (have g0 := g) <;> simp at g <;> simp [g0, g]
    · have hb : upOk ns st r j i = false := by
        have : ¬ 0 ≤ st[i] := by omega
        simp [upOk, es, this]
      try simp [his, h']
      rw [hwi]
      refine WLoop_drop [⟨0, false, 1, [A.sl ns.length (enc ns)], none⟩, ⟨0, false, 1, [i6 0, i6 0, i6 0, i6 0], none⟩] [_] rfl (by simp) (by simp) (by simp) ?_
      exact ih (i + 1) ⟨h', by rw [hf, hgo, hb]; simp⟩ (by omega)
    · have hsi : 0 ≤ st[i] := g
      have hbr : ns[i].k = 3 → ∃ b : Nat, ns[i].b = b ∧ b < st.length := fun e => by
        obtain ⟨_, b, e2, e3⟩ := parts_in hp h' (by rw [e]; rfl)
        exact ⟨b, e2, by omega⟩
      rcases hr with rfl | rfl | rfl | rfl <;> simp
      · refine br_intro' (fun u => ?_) (fun u => ?_) <;> (have u0 := u) <;> (try simp at u) <;> try simp [u0, u, hq, h3, his, h']
        · refine br_intro' (fun v => ?_) (fun v => ?_) <;> (have v0 := v) <;> (try simp at v) <;> try simp [v0, v, hq, h3, his, h']
          · first | (refine ck_intro' (by kernel_rfl) ?_; try simp [his, h']) | skip
            have hb : upOk ns st 5 j i = true := by simp [upOk, es, en, u, v, hsi]
            exact LeV.ro rfl rfl (by rw [hf, hgo, hb]; simp [optS, es])
          · have hb : upOk ns st 5 j i = false := by simp [upOk, es, en, v]
            try simp [his, h']
            rw [hwi]
            refine WLoop_drop [⟨0, false, 1, [A.sl ns.length (enc ns)], none⟩, ⟨0, false, 1, [i6 0, i6 0, i6 0, i6 0], none⟩] [_] rfl (by simp) (by simp) (by simp) ?_
            exact ih (i + 1) ⟨h', by rw [hf, hgo, hb]; simp⟩ (by omega)
        · have hb : upOk ns st 5 j i = false := by simp [upOk, es, en, u]
          try simp [his, h']
          rw [hwi]
          refine WLoop_drop [⟨0, false, 1, [A.sl ns.length (enc ns)], none⟩, ⟨0, false, 1, [i6 0, i6 0, i6 0, i6 0], none⟩] [_] rfl (by simp) (by simp) (by simp) ?_
          exact ih (i + 1) ⟨h', by rw [hf, hgo, hb]; simp⟩ (by omega)
      · refine br_intro' (fun u => ?_) (fun u => ?_) <;> (have u0 := u) <;> (try simp at u) <;> try simp [u0, u, hq, h3, his, h']
        · refine br_intro' (fun v => ?_) (fun v => ?_) <;> (have v0 := v) <;> (try simp at v) <;> try simp [v0, v, hq, h3, his, h']
          · first | (refine ck_intro' (by kernel_rfl) ?_; try simp [his, h']) | skip
            have hb : upOk ns st 6 j i = true := by simp [upOk, es, en, u, v, hsi]
            exact LeV.ro rfl rfl (by rw [hf, hgo, hb]; simp [optS, es])
          · have hb : upOk ns st 6 j i = false := by simp [upOk, es, en, v]
            try simp [his, h']
            rw [hwi]
            refine WLoop_drop [⟨0, false, 1, [A.sl ns.length (enc ns)], none⟩, ⟨0, false, 1, [i6 0, i6 0, i6 0, i6 0], none⟩] [_] rfl (by simp) (by simp) (by simp) ?_
            exact ih (i + 1) ⟨h', by rw [hf, hgo, hb]; simp⟩ (by omega)
        · have hb : upOk ns st 6 j i = false := by simp [upOk, es, en, u]
          try simp [his, h']
          rw [hwi]
          refine WLoop_drop [⟨0, false, 1, [A.sl ns.length (enc ns)], none⟩, ⟨0, false, 1, [i6 0, i6 0, i6 0, i6 0], none⟩] [_] rfl (by simp) (by simp) (by simp) ?_
          exact ih (i + 1) ⟨h', by rw [hf, hgo, hb]; simp⟩ (by omega)
      · refine br_intro' (fun u => ?_) (fun u => ?_) <;> (have u0 := u) <;> (try simp at u) <;> try simp [u0, u, hq, h3, his, h']
        · refine br_intro' (fun v => ?_) (fun v => ?_) <;> (have v0 := v) <;> (try simp at v) <;> try simp [v0, v, hq, h3, his, h']
          · obtain ⟨b, eb, hb1⟩ := hbr u
            rw [eb]
            simp [hb1]
            have esb := sv_nat hb1
            refine br_intro' (fun z => ?_) (fun z => ?_) <;> (have z0 := z) <;> (try simp at z) <;> try simp [z0, z, hq, h3, his, h', eb, hb1]
            · first | (refine ck_intro' (by kernel_rfl) ?_; try simp [his, h', hb1, eb]) | skip
              have hb : upOk ns st 7 j i = true := by simp [upOk, es, en, u, v, hsi, eb, esb, z]
              exact LeV.ro rfl rfl (by rw [hf, hgo, hb]; simp [optS, es, en, eb, esb])
            · have hb : upOk ns st 7 j i = false := by
                have : ¬ 0 ≤ st[b] := by omega
                simp [upOk, es, en, eb, esb, this]
              try simp [his, h']
              rw [hwi]
              refine WLoop_drop [⟨0, false, 1, [A.sl ns.length (enc ns)], none⟩, ⟨0, false, 1, [i6 0, i6 0, i6 0, i6 0], none⟩] [_] rfl (by simp) (by simp) (by simp) ?_
              exact ih (i + 1) ⟨h', by rw [hf, hgo, hb]; simp⟩ (by omega)
          · have hb : upOk ns st 7 j i = false := by simp [upOk, es, en, v]
            try simp [his, h']
            rw [hwi]
            refine WLoop_drop [⟨0, false, 1, [A.sl ns.length (enc ns)], none⟩, ⟨0, false, 1, [i6 0, i6 0, i6 0, i6 0], none⟩] [_] rfl (by simp) (by simp) (by simp) ?_
            exact ih (i + 1) ⟨h', by rw [hf, hgo, hb]; simp⟩ (by omega)
        · have hb : upOk ns st 7 j i = false := by simp [upOk, es, en, u]
          try simp [his, h']
          rw [hwi]
          refine WLoop_drop [⟨0, false, 1, [A.sl ns.length (enc ns)], none⟩, ⟨0, false, 1, [i6 0, i6 0, i6 0, i6 0], none⟩] [_] rfl (by simp) (by simp) (by simp) ?_
          exact ih (i + 1) ⟨h', by rw [hf, hgo, hb]; simp⟩ (by omega)
      · refine br_intro' (fun u => ?_) (fun u => ?_) <;> (have u0 := u) <;> (try simp at u) <;> try simp [u0, u, hq, h3, his, h']
        · refine br_intro' (fun v => ?_) (fun v => ?_) <;> (have v0 := v) <;> (try simp at v) <;> try simp [v0, v, hq, h3, his, h']
          · first | (refine ck_intro' (by kernel_rfl) ?_; try simp [his, h']) | skip
            have hb : upOk ns st 8 j i = true := by simp [upOk, es, en, u, v, hsi]
            exact LeV.ro rfl rfl (by rw [hf, hgo, hb]; simp [optS, es])
          · have hb : upOk ns st 8 j i = false := by simp [upOk, es, en, v]
            try simp [his, h']
            rw [hwi]
            refine WLoop_drop [⟨0, false, 1, [A.sl ns.length (enc ns)], none⟩, ⟨0, false, 1, [i6 0, i6 0, i6 0, i6 0], none⟩] [_] rfl (by simp) (by simp) (by simp) ?_
            exact ih (i + 1) ⟨h', by rw [hf, hgo, hb]; simp⟩ (by omega)
        · have hb : upOk ns st 8 j i = false := by simp [upOk, es, en, u]
          try simp [his, h']
          rw [hwi]
          refine WLoop_drop [⟨0, false, 1, [A.sl ns.length (enc ns)], none⟩, ⟨0, false, 1, [i6 0, i6 0, i6 0, i6 0], none⟩] [_] rfl (by simp) (by simp) (by simp) ?_
          exact ih (i + 1) ⟨h', by rw [hf, hgo, hb]; simp⟩ (by omega)
  · have hi0 : ns.length - i = 0 := by omega
    exact LeV.ro rfl rfl (by rw [hf, hi0]; simp [upGo, optS])
theorem spec_l9Up_call {ns : List Nd} {st : List Int} {t r : Int} (hl : ns.length < 9223372036854775807) (hp : poolF ns = true) (hst : st.length = ns.length) (ht : hasF ns.length t = true) (hr : r = 5 ∨ r = 6 ∨ r = 7 ∨ r = 8) {S : FuncId → Bool} {H : List Blk} {K : A → Dl → Prop} (hS : S 63 = false) (hK : K (.tup [aSt (optS (upF ns st r t)), .bool (upF ns st r t).isSome]) (.news [])) : @WCall' Go.Proofs.Tryz.prog S 63 [aP ns, aI st, i6 t, i6 r] H ⟨K⟩ :=
  WCall_pure hS (spec_l9Up_c ns st t r hl hp hst ht hr) (by simp) (by simp) (by simp) hK
theorem spec_l9Up_k {ns : List Nd} {st : List Int} {t r : Int} (hl : ns.length < 9223372036854775807) (hp : poolF ns = true) (hst : st.length = ns.length) (ht : hasF ns.length t = true) (hr : r = 5 ∨ r = 6 ∨ r = 7 ∨ r = 8) {S : FuncId → Bool} {H : List Blk} {K : A → Dl → Prop} {zs : List A} (hS : S 63 = false) (hv : viewL (viewA 8 H) zs = some [aP ns, aI st, i6 t, i6 r]) (ho : noOwns zs = true ∨ nosl (.tup [aSt (optS (upF ns st r t)), .bool (upF ns st r t).isSome]) = true) (hK : K (.tup [aSt (optS (upF ns st r t)), .bool (upF ns st r t).isSome]) (.news [])) : @WCall' Go.Proofs.Tryz.prog S 63 zs H ⟨K⟩ :=
  WCall_pure hS (spec_l9Up_c ns st t r hl hp hst ht hr) hv ho (by simp) hK
theorem findF_lt {ns : List Nd} {n : Nd} (h : 0 ≤ findF ns n 0) : ∃ x : Nat, findF ns n 0 = x ∧ x < ns.length := by
  obtain ⟨j, hj, e, _⟩ := findF_at ns n 0 h
  exact ⟨j, by simpa using e, hj⟩
/-- The step that shares. -/
def shareF (ns : List Nd) (st : List Int) (t : Int) : Option Sp :=
  if (nodeAt ns t).k ≠ 8 then none
  else if 0 ≤ sv st (nodeAt ns t).a ∧ 0 ≤ findF ns ⟨7, (nodeAt ns t).b, 0⟩ 0 ∧ 0 ≤ sv st (findF ns ⟨7, (nodeAt ns t).b, 0⟩ 0) then some ⟨4, t, sv st (nodeAt ns t).a, sv st (findF ns ⟨7, (nodeAt ns t).b, 0⟩ 0)⟩
  else if 0 ≤ sv st (nodeAt ns t).b ∧ 0 ≤ findF ns ⟨7, (nodeAt ns t).a, 0⟩ 0 ∧ 0 ≤ sv st (findF ns ⟨7, (nodeAt ns t).a, 0⟩ 0) then some ⟨4, t, sv st (nodeAt ns t).b, sv st (findF ns ⟨7, (nodeAt ns t).a, 0⟩ 0)⟩
  else none
theorem spec_l9Share_c (ns : List Nd) (st : List Int) (t : Int) (hl : ns.length < 9223372036854775807) (hp : poolF ns = true) (hst : st.length = ns.length) (ht : hasF ns.length t = true) : T 62 [aP ns, aI st, i6 t] [] (.tup [aSt (optS (shareF ns st t)), .bool (shareF ns st t).isSome]) ([]) := by
  refine semT' (S := S0) hm spec_l9Share_ok (Nat.le_of_ble_eq_true rfl) ?_
  unfold spec_l9Share; dsimp only
  obtain ⟨j, rfl, hj⟩ := hasN ht
  obtain ⟨q, hq⟩ := enc_at hj
  have h3 : 3 ≤ ns.length * 3 - j * 3 := by omega
  have en := nodeAt_nat hj
  simp [h3, hq, hj]
  refine br_intro' (fun u => ?_) (fun u => ?_) <;> (have u0 := u) <;> (try simp at u) <;> try simp [u0, u]
  · obtain ⟨⟨a, ea, ha⟩, b, eb, hb⟩ := parts_in hp hj (by rw [u]; rfl)
    have hal : a < st.length := by omega
    have hbl : b < st.length := by omega
    have esa := sv_nat hal
    have esb := sv_nat hbl
    have hsh : shareF ns st j = if 0 ≤ sv st a ∧ 0 ≤ findF ns ⟨7, b, 0⟩ 0 ∧ 0 ≤ sv st (findF ns ⟨7, b, 0⟩ 0) then some ⟨4, j, sv st a, sv st (findF ns ⟨7, b, 0⟩ 0)⟩
      else if 0 ≤ sv st b ∧ 0 ≤ findF ns ⟨7, a, 0⟩ 0 ∧ 0 ≤ sv st (findF ns ⟨7, a, 0⟩ 0) then some ⟨4, j, sv st b, sv st (findF ns ⟨7, a, 0⟩ 0)⟩ else none := by
      unfold shareF
      rw [en, if_neg (by simp [u]), ea, eb]
    rw [ea, eb]
    refine spec_l1Find_call (ns := ns) (n := ⟨7, b, 0⟩) hl rfl ?_; simp
    refine spec_l1Find_call (ns := ns) (n := ⟨7, a, 0⟩) hl rfl ?_; simp
    have hx := @findF_lt ns ⟨7, b, 0⟩
    have hy := @findF_lt ns ⟨7, a, 0⟩
    generalize findF ns ⟨7, b, 0⟩ 0 = x at hsh hx ⊢
    generalize findF ns ⟨7, a, 0⟩ 0 = y at hsh hy ⊢
    simp [hal, hbl]
    rcases Int.lt_or_le x 0 with kx | kx
    · have kx' : ¬ 0 ≤ x := by omega
      rcases Int.lt_or_le y 0 with ky | ky
      · have ky' : ¬ 0 ≤ y := by omega
        repeat (any_goals (first | (refine br_intro' (fun h => ?_) (fun h => ?_) <;> (have k0 := h) <;> (try simp only [decide_eq_true_eq, decide_eq_false_iff_not] at h) <;> try simp [k0, h, kx', ky', hal, hbl, hq, h3]) | (refine ck_intro' (by first | omega | kernel_rfl) ?_; try simp [kx', ky', hal, hbl, hq, h3])))
        all_goals exact LeV.ro rfl rfl (by rw [hsh]; simp [optS, esa, esb, kx', ky', hal, hbl, *])
      · obtain ⟨y, rfl, hyl⟩ := hy ky
        have hyl' : y < st.length := by omega
        have esy := sv_nat hyl'
        have ky' : (0 : Int) ≤ y := by omega
        repeat (any_goals (first | (refine br_intro' (fun h => ?_) (fun h => ?_) <;> (have k0 := h) <;> (try simp only [decide_eq_true_eq, decide_eq_false_iff_not] at h) <;> try simp [k0, h, kx', ky', hal, hbl, hyl', esy, hq, h3]) | (refine ck_intro' (by first | omega | kernel_rfl) ?_; try simp [kx', ky', hal, hbl, hyl', esy, hq, h3])))
        all_goals exact LeV.ro rfl rfl (by rw [hsh]; simp [optS, esa, esb, kx', ky', hal, hbl, hyl', esy, *])
    · obtain ⟨x, rfl, hxl⟩ := hx kx
      have hxl' : x < st.length := by omega
      have esx := sv_nat hxl'
      have kx' : (0 : Int) ≤ x := by omega
      rcases Int.lt_or_le y 0 with ky | ky
      · have ky' : ¬ 0 ≤ y := by omega
        repeat (any_goals (first | (refine br_intro' (fun h => ?_) (fun h => ?_) <;> (have k0 := h) <;> (try simp only [decide_eq_true_eq, decide_eq_false_iff_not] at h) <;> try simp [k0, h, kx', ky', hal, hbl, hxl', esx, hq, h3]) | (refine ck_intro' (by first | omega | kernel_rfl) ?_; try simp [kx', ky', hal, hbl, hxl', esx, hq, h3])))
        all_goals exact LeV.ro rfl rfl (by rw [hsh]; simp [optS, esa, esb, kx', ky', hal, hbl, hxl', esx, *])
      · obtain ⟨y, rfl, hyl⟩ := hy ky
        have hyl' : y < st.length := by omega
        have esy := sv_nat hyl'
        have ky' : (0 : Int) ≤ y := by omega
        repeat (any_goals (first | (refine br_intro' (fun h => ?_) (fun h => ?_) <;> (have k0 := h) <;> (try simp only [decide_eq_true_eq, decide_eq_false_iff_not] at h) <;> try simp [k0, h, kx', ky', hal, hbl, hxl', hyl', esx, esy, hq, h3]) | (refine ck_intro' (by first | omega | kernel_rfl) ?_; try simp [kx', ky', hal, hbl, hxl', hyl', esx, esy, hq, h3])))
        all_goals exact LeV.ro rfl rfl (by rw [hsh]; simp [optS, esa, esb, kx', ky', hal, hbl, hxl', hyl', esx, esy, *])
  · exact LeV.ro rfl rfl (by simp [shareF, en, u, optS])
theorem spec_l9Share_call {ns : List Nd} {st : List Int} {t : Int} (hl : ns.length < 9223372036854775807) (hp : poolF ns = true) (hst : st.length = ns.length) (ht : hasF ns.length t = true) {S : FuncId → Bool} {H : List Blk} {K : A → Dl → Prop} (hS : S 62 = false) (hK : K (.tup [aSt (optS (shareF ns st t)), .bool (shareF ns st t).isSome]) (.news [])) : @WCall' Go.Proofs.Tryz.prog S 62 [aP ns, aI st, i6 t] H ⟨K⟩ :=
  WCall_pure hS (spec_l9Share_c ns st t hl hp hst ht) (by simp) (by simp) (by simp) hK
theorem spec_l9Share_k {ns : List Nd} {st : List Int} {t : Int} (hl : ns.length < 9223372036854775807) (hp : poolF ns = true) (hst : st.length = ns.length) (ht : hasF ns.length t = true) {S : FuncId → Bool} {H : List Blk} {K : A → Dl → Prop} {zs : List A} (hS : S 62 = false) (hv : viewL (viewA 8 H) zs = some [aP ns, aI st, i6 t]) (ho : noOwns zs = true ∨ nosl (.tup [aSt (optS (shareF ns st t)), .bool (shareF ns st t).isSome]) = true) (hK : K (.tup [aSt (optS (shareF ns st t)), .bool (shareF ns st t).isSome]) (.news [])) : @WCall' Go.Proofs.Tryz.prog S 62 zs H ⟨K⟩ :=
  WCall_pure hS (spec_l9Share_c ns st t hl hp hst ht) hv ho (by simp) hK
end Go.Proofs.YtcfgiffgahdlbaaGreat.C

set_option linter.unusedVariables false
set_option linter.unusedSimpArgs false
set_option maxRecDepth 4000
namespace Go.Proofs.YtcfgiffgahdlbaaGreat.C
open Go.Sym Go.Proofs.YtcfgiffgahdlbaaGreat.I
/-- The step that makes a term of its parts. -/
def madeF (ns : List Nd) (st : List Int) (t : Int) : Option Sp :=
  if partsF (nodeAt ns t).k = 1 then (if 0 ≤ sv st (nodeAt ns t).a then some ⟨3, t, sv st (nodeAt ns t).a, 0⟩ else none)
  else if partsF (nodeAt ns t).k = 2 then (if 0 ≤ sv st (nodeAt ns t).a ∧ 0 ≤ sv st (nodeAt ns t).b then some ⟨3, t, sv st (nodeAt ns t).a, sv st (nodeAt ns t).b⟩ else none)
  else none
def restF (ns : List Nd) (st : List Int) (t : Int) : Option Sp := (shareF ns st t).or ((upF ns st 5 t).or ((upF ns st 6 t).or ((upF ns st 7 t).or (upF ns st 8 t))))
/-- The step that is first for a term. -/
def stepF (ns : List Nd) (ks : List Int) (st : List Int) (t : Int) : Option Sp :=
  if hasK ks t = true then some ⟨1, t, 0, 0⟩
  else if (nodeAt ns t).k = 1 ∧ pubF (nodeAt ns t).a = true then some ⟨2, t, 0, 0⟩
  else (madeF ns st t).or (restF ns st t)
theorem spec_l9Step_c (ns : List Nd) (ks st : List Int) (t : Int) (hl : ns.length < 9223372036854775807) (hk : ks.length < 9223372036854775807) (hp : poolF ns = true) (hst : st.length = ns.length) (ht : hasF ns.length t = true) : T 35 [aP ns, aI ks, aI st, i6 t] [] (.tup [aSt (optS (stepF ns ks st t)), .bool (stepF ns ks st t).isSome]) ([]) := by
  refine semT' (S := S0) hm spec_l9Step_ok (Nat.le_of_ble_eq_true rfl) ?_
  unfold spec_l9Step; dsimp only
  have w6 : IntKind.i64.wrap 6 = 6 := wrap64 (by omega) (by omega)
  have w7 : IntKind.i64.wrap 7 = 7 := wrap64 (by omega) (by omega)
  have w8 : IntKind.i64.wrap 8 = 8 := wrap64 (by omega) (by omega)
  have w9 : IntKind.i64.wrap 9 = 9 := wrap64 (by omega) (by omega)
  have w1 : IntKind.i64.wrap 1 = 1 := wrap64 (by omega) (by omega)
  have w2 : IntKind.i64.wrap 2 = 2 := wrap64 (by omega) (by omega)
  obtain ⟨j, rfl, hj⟩ := hasN ht
  obtain ⟨q, hq⟩ := enc_at hj
  have h3 : 3 ≤ ns.length * 3 - j * 3 := by omega
  have en := nodeAt_nat hj
  simp [h3, hq, hj]
  refine spec_l1PartsOf_k (ns := ns) (t := j) hl ht rfl (by simp) (by simp [noslBlks]) ?_; simp [shiftB]
  rw [en]
  rcases parts_kind hp hj with hpk | hpk | hpk
  · have hpl : partsL ns[j] = [] := by simp [partsL, hpk]
    rw [hpl]
    simp
    refine WLoop_step' ?_; simp
    refine spec_KnowHas_call (ks := ks) (t := j) hk rfl ?_; simp
    refine br_intro' (fun g => ?_) (fun g => ?_) <;> simp [g]
    · exact LeV.ro rfl rfl (by simp [stepF, g, optS])
    have hk1 : ns[j].k = 1 := partsF_0 hpk
    simp [hk1]
    refine spec_IsPublic_call rfl ?_; simp
    refine br_intro' (fun f => ?_) (fun f => ?_) <;> simp [f]
    · exact LeV.ro rfl rfl (by simp [stepF, g, f, en, hk1, optS])
    have he : stepF ns ks st j = restF ns st j := by simp [stepF, g, f, en, madeF, hpk]
    refine spec_l9Share_k (ns := ns) (st := st) (t := j) hl hp hst ht rfl (by simp) (by simp) ?_; simp
    rcases hsh : shareF ns st j with _ | s
    rotate_left
    · simp [optS]
      refine WLoop_step' ?_; simp
      exact LeV.ro rfl rfl (by rw [he]; simp [restF, hsh, optS])
    simp [optS]
    refine WLoop_step' ?_; simp
    refine spec_l9Up_k (ns := ns) (st := st) (t := j) (r := 5) hl hp hst ht (by omega) rfl (by simp) (by simp) ?_; simp
    rcases h5 : upF ns st 5 j with _ | s
    rotate_left
    · simp [optS, w6]
      refine WLoop_step' ?_; simp
      exact LeV.ro rfl rfl (by rw [he]; simp [restF, optS, *])
    simp [optS, w6]
    refine WLoop_step' ?_; simp
    refine spec_l9Up_k (ns := ns) (st := st) (t := j) (r := 6) hl hp hst ht (by omega) rfl (by simp) (by simp) ?_; simp
    rcases h6 : upF ns st 6 j with _ | s
    rotate_left
    · simp [optS, w7]
      refine WLoop_step' ?_; simp
      exact LeV.ro rfl rfl (by rw [he]; simp [restF, optS, *])
    simp [optS, w7]
    refine WLoop_step' ?_; simp
    refine spec_l9Up_k (ns := ns) (st := st) (t := j) (r := 7) hl hp hst ht (by omega) rfl (by simp) (by simp) ?_; simp
    rcases h7 : upF ns st 7 j with _ | s
    rotate_left
    · simp [optS, w8]
      refine WLoop_step' ?_; simp
      exact LeV.ro rfl rfl (by rw [he]; simp [restF, optS, *])
    simp [optS, w8]
    refine WLoop_step' ?_; simp
    refine spec_l9Up_k (ns := ns) (st := st) (t := j) (r := 8) hl hp hst ht (by omega) rfl (by simp) (by simp) ?_; simp
    rcases h8 : upF ns st 8 j with _ | s
    rotate_left
    · simp [optS, w9]
      refine WLoop_step' ?_; simp
      exact LeV.ro rfl rfl (by rw [he]; simp [restF, optS, *])
    simp [optS, w9]
    refine WLoop_step' ?_; simp
    exact LeV.ro rfl rfl (by rw [he]; simp [restF, optS, *])
  · have hk1 : ns[j].k ≠ 1 := partsF_ne (by omega)
    have hpl : partsL ns[j] = [ns[j].a] := by simp [partsL, hpk]
    obtain ⟨a, ea, hal⟩ := part_in hp hj hpk
    have hal' : a < st.length := by omega
    have esa := sv_nat hal'
    have hmd : madeF ns st j = if 0 ≤ st[a] then some ⟨3, j, st[a], 0⟩ else none := by simp [madeF, en, hpk, ea, esa]
    rw [hpl, ea]
    simp [ints]
    refine WLoop_step' ?_; simp [hal', ints, w1]
    refine WLoop_step' ?_; simp [hal', ints, w1]
    refine spec_KnowHas_call (ks := ks) (t := j) hk rfl ?_; simp
    refine br_intro' (fun g => ?_) (fun g => ?_) <;> simp [g]
    · exact LeV.ro rfl rfl (by simp [stepF, g, optS])
    simp [hk1]
    refine br_intro' (fun f => ?_) (fun f => ?_) <;> (have f0 := f) <;> simp only [decide_eq_true_eq, decide_eq_false_iff_not] at f <;> simp [f0, f, hal', ea]
    · exact LeV.ro rfl rfl (by simp [stepF, g, en, hmd, hk1, f, optS])
    · have he : stepF ns ks st j = restF ns st j := by simp [stepF, g, en, hmd, hk1, f]
      refine spec_l9Share_k (ns := ns) (st := st) (t := j) hl hp hst ht rfl (by simp) (by simp) ?_; simp
      rcases hsh : shareF ns st j with _ | s
      rotate_left
      · simp [optS]
        refine WLoop_step' ?_; simp
        exact LeV.ro rfl rfl (by rw [he]; simp [restF, hsh, optS])
      simp [optS]
      refine WLoop_step' ?_; simp
      refine spec_l9Up_k (ns := ns) (st := st) (t := j) (r := 5) hl hp hst ht (by omega) rfl (by simp) (by simp) ?_; simp
      rcases h5 : upF ns st 5 j with _ | s
      rotate_left
      · simp [optS, w6]
        refine WLoop_step' ?_; simp
        exact LeV.ro rfl rfl (by rw [he]; simp [restF, optS, *])
      simp [optS, w6]
      refine WLoop_step' ?_; simp
      refine spec_l9Up_k (ns := ns) (st := st) (t := j) (r := 6) hl hp hst ht (by omega) rfl (by simp) (by simp) ?_; simp
      rcases h6 : upF ns st 6 j with _ | s
      rotate_left
      · simp [optS, w7]
        refine WLoop_step' ?_; simp
        exact LeV.ro rfl rfl (by rw [he]; simp [restF, optS, *])
      simp [optS, w7]
      refine WLoop_step' ?_; simp
      refine spec_l9Up_k (ns := ns) (st := st) (t := j) (r := 7) hl hp hst ht (by omega) rfl (by simp) (by simp) ?_; simp
      rcases h7 : upF ns st 7 j with _ | s
      rotate_left
      · simp [optS, w8]
        refine WLoop_step' ?_; simp
        exact LeV.ro rfl rfl (by rw [he]; simp [restF, optS, *])
      simp [optS, w8]
      refine WLoop_step' ?_; simp
      refine spec_l9Up_k (ns := ns) (st := st) (t := j) (r := 8) hl hp hst ht (by omega) rfl (by simp) (by simp) ?_; simp
      rcases h8 : upF ns st 8 j with _ | s
      rotate_left
      · simp [optS, w9]
        refine WLoop_step' ?_; simp
        exact LeV.ro rfl rfl (by rw [he]; simp [restF, optS, *])
      simp [optS, w9]
      refine WLoop_step' ?_; simp
      exact LeV.ro rfl rfl (by rw [he]; simp [restF, optS, *])
  · have hk1 : ns[j].k ≠ 1 := partsF_ne (by omega)
    have hpl : partsL ns[j] = [ns[j].a, ns[j].b] := by simp [partsL, hpk]
    obtain ⟨⟨a, ea, hal⟩, b, eb, hbl⟩ := parts_in hp hj hpk
    have hal' : a < st.length := by omega
    have hbl' : b < st.length := by omega
    have esa := sv_nat hal'
    have esb := sv_nat hbl'
    have hmd : madeF ns st j = if 0 ≤ st[a] ∧ 0 ≤ st[b] then some ⟨3, j, st[a], st[b]⟩ else none := by simp [madeF, en, hpk, ea, esa, eb, esb]
    rw [hpl, ea, eb]
    simp [ints]
    refine WLoop_step' ?_; simp [hal', hbl', ints, w1, w2]
    have fin : ∀ B : Bool, B = decide (0 ≤ st[a] ∧ 0 ≤ st[b]) → (B = false → stepF ns ks st j = if hasK ks j = true then some ⟨1, j, 0, 0⟩ else restF ns st j) ∧ (B = true → stepF ns ks st j = if hasK ks j = true then some ⟨1, j, 0, 0⟩ else some ⟨3, j, st[a], st[b]⟩) := fun B hB => by
      constructor
      · intro e
        rw [e] at hB
        have : ¬ (0 ≤ st[a] ∧ 0 ≤ st[b]) := by simpa using hB.symm
        unfold stepF
        rw [hmd, if_neg this, en]
        simp [hk1]
      · intro e
        rw [e] at hB
        have : 0 ≤ st[a] ∧ 0 ≤ st[b] := by simpa using hB.symm
        unfold stepF
        rw [hmd, if_pos this, en]
        simp [hk1]
    by_cases u : 0 ≤ st[a]
    · simp [u]
      refine WLoop_step' ?_; simp [hal', hbl', ints, w1, w2]
      refine WLoop_step' ?_; simp [hal', hbl', ints, w1, w2]
      by_cases v : 0 ≤ st[b]
      · have F := (fin true (by simp [u, v])).2 rfl
        refine spec_KnowHas_call (ks := ks) (t := j) hk rfl ?_; simp
        refine br_intro' (fun g => ?_) (fun g => ?_) <;> simp [g]
        · exact LeV.ro rfl rfl (by rw [F]; simp [g, optS])
        try simp [hk1, eb, ea, hal', hbl', v]
        first | (refine ck_intro' (by kernel_rfl) ?_; try simp [hal', hbl']) | skip
        exact LeV.ro rfl rfl (by rw [F]; simp [g, optS])
      · have F := (fin false (by simp [u, v])).1 rfl
        refine spec_KnowHas_call (ks := ks) (t := j) hk rfl ?_; simp
        refine br_intro' (fun g => ?_) (fun g => ?_) <;> simp [g]
        · exact LeV.ro rfl rfl (by rw [F]; simp [g, optS])
        try simp [hk1, v]
        have he : stepF ns ks st j = restF ns st j := by rw [F]; simp [g]
        refine spec_l9Share_k (ns := ns) (st := st) (t := j) hl hp hst ht rfl (by simp) (by simp) ?_; simp
        rcases hsh : shareF ns st j with _ | s
        rotate_left
        · simp [optS]
          refine WLoop_step' ?_; simp
          exact LeV.ro rfl rfl (by rw [he]; simp [restF, hsh, optS])
        simp [optS]
        refine WLoop_step' ?_; simp
        refine spec_l9Up_k (ns := ns) (st := st) (t := j) (r := 5) hl hp hst ht (by omega) rfl (by simp) (by simp) ?_; simp
        rcases h5 : upF ns st 5 j with _ | s
        rotate_left
        · simp [optS, w6]
          refine WLoop_step' ?_; simp
          exact LeV.ro rfl rfl (by rw [he]; simp [restF, optS, *])
        simp [optS, w6]
        refine WLoop_step' ?_; simp
        refine spec_l9Up_k (ns := ns) (st := st) (t := j) (r := 6) hl hp hst ht (by omega) rfl (by simp) (by simp) ?_; simp
        rcases h6 : upF ns st 6 j with _ | s
        rotate_left
        · simp [optS, w7]
          refine WLoop_step' ?_; simp
          exact LeV.ro rfl rfl (by rw [he]; simp [restF, optS, *])
        simp [optS, w7]
        refine WLoop_step' ?_; simp
        refine spec_l9Up_k (ns := ns) (st := st) (t := j) (r := 7) hl hp hst ht (by omega) rfl (by simp) (by simp) ?_; simp
        rcases h7 : upF ns st 7 j with _ | s
        rotate_left
        · simp [optS, w8]
          refine WLoop_step' ?_; simp
          exact LeV.ro rfl rfl (by rw [he]; simp [restF, optS, *])
        simp [optS, w8]
        refine WLoop_step' ?_; simp
        refine spec_l9Up_k (ns := ns) (st := st) (t := j) (r := 8) hl hp hst ht (by omega) rfl (by simp) (by simp) ?_; simp
        rcases h8 : upF ns st 8 j with _ | s
        rotate_left
        · simp [optS, w9]
          refine WLoop_step' ?_; simp
          exact LeV.ro rfl rfl (by rw [he]; simp [restF, optS, *])
        simp [optS, w9]
        refine WLoop_step' ?_; simp
        exact LeV.ro rfl rfl (by rw [he]; simp [restF, optS, *])
    · have F := (fin false (by simp [u])).1 rfl
      simp [u]
      refine WLoop_step' ?_; simp [hal', hbl', ints, w1, w2]
      refine WLoop_step' ?_; simp [hal', hbl', ints, w1, w2]
      refine spec_KnowHas_call (ks := ks) (t := j) hk rfl ?_; simp
      refine br_intro' (fun g => ?_) (fun g => ?_) <;> simp [g]
      · exact LeV.ro rfl rfl (by rw [F]; simp [g, optS])
      try simp [hk1]
      have he : stepF ns ks st j = restF ns st j := by rw [F]; simp [g]
      refine spec_l9Share_k (ns := ns) (st := st) (t := j) hl hp hst ht rfl (by simp) (by simp) ?_; simp
      rcases hsh : shareF ns st j with _ | s
      rotate_left
      · simp [optS]
        refine WLoop_step' ?_; simp
        exact LeV.ro rfl rfl (by rw [he]; simp [restF, hsh, optS])
      simp [optS]
      refine WLoop_step' ?_; simp
      refine spec_l9Up_k (ns := ns) (st := st) (t := j) (r := 5) hl hp hst ht (by omega) rfl (by simp) (by simp) ?_; simp
      rcases h5 : upF ns st 5 j with _ | s
      rotate_left
      · simp [optS, w6]
        refine WLoop_step' ?_; simp
        exact LeV.ro rfl rfl (by rw [he]; simp [restF, optS, *])
      simp [optS, w6]
      refine WLoop_step' ?_; simp
      refine spec_l9Up_k (ns := ns) (st := st) (t := j) (r := 6) hl hp hst ht (by omega) rfl (by simp) (by simp) ?_; simp
      rcases h6 : upF ns st 6 j with _ | s
      rotate_left
      · simp [optS, w7]
        refine WLoop_step' ?_; simp
        exact LeV.ro rfl rfl (by rw [he]; simp [restF, optS, *])
      simp [optS, w7]
      refine WLoop_step' ?_; simp
      refine spec_l9Up_k (ns := ns) (st := st) (t := j) (r := 7) hl hp hst ht (by omega) rfl (by simp) (by simp) ?_; simp
      rcases h7 : upF ns st 7 j with _ | s
      rotate_left
      · simp [optS, w8]
        refine WLoop_step' ?_; simp
        exact LeV.ro rfl rfl (by rw [he]; simp [restF, optS, *])
      simp [optS, w8]
      refine WLoop_step' ?_; simp
      refine spec_l9Up_k (ns := ns) (st := st) (t := j) (r := 8) hl hp hst ht (by omega) rfl (by simp) (by simp) ?_; simp
      rcases h8 : upF ns st 8 j with _ | s
      rotate_left
      · simp [optS, w9]
        refine WLoop_step' ?_; simp
        exact LeV.ro rfl rfl (by rw [he]; simp [restF, optS, *])
      simp [optS, w9]
      refine WLoop_step' ?_; simp
      exact LeV.ro rfl rfl (by rw [he]; simp [restF, optS, *])
theorem spec_l9Step_call {ns : List Nd} {ks st : List Int} {t : Int} (hl : ns.length < 9223372036854775807) (hk : ks.length < 9223372036854775807) (hp : poolF ns = true) (hst : st.length = ns.length) (ht : hasF ns.length t = true) {S : FuncId → Bool} {H : List Blk} {K : A → Dl → Prop} (hS : S 35 = false) (hK : K (.tup [aSt (optS (stepF ns ks st t)), .bool (stepF ns ks st t).isSome]) (.news [])) : @WCall' Go.Proofs.Tryz.prog S 35 [aP ns, aI ks, aI st, i6 t] H ⟨K⟩ :=
  WCall_pure hS (spec_l9Step_c ns ks st t hl hk hp hst ht) (by simp) (by simp) (by simp) hK
theorem spec_l9Step_k {ns : List Nd} {ks st : List Int} {t : Int} (hl : ns.length < 9223372036854775807) (hk : ks.length < 9223372036854775807) (hp : poolF ns = true) (hst : st.length = ns.length) (ht : hasF ns.length t = true) {S : FuncId → Bool} {H : List Blk} {K : A → Dl → Prop} {zs : List A} (hS : S 35 = false) (hv : viewL (viewA 8 H) zs = some [aP ns, aI ks, aI st, i6 t]) (ho : noOwns zs = true ∨ nosl (.tup [aSt (optS (stepF ns ks st t)), .bool (stepF ns ks st t).isSome]) = true) (hK : K (.tup [aSt (optS (stepF ns ks st t)), .bool (stepF ns ks st t).isSome]) (.news [])) : @WCall' Go.Proofs.Tryz.prog S 35 zs H ⟨K⟩ :=
  WCall_pure hS (spec_l9Step_c ns ks st t hl hk hp hst ht) hv ho (by simp) hK
end Go.Proofs.YtcfgiffgahdlbaaGreat.C

set_option linter.unusedVariables false
set_option linter.unusedSimpArgs false
set_option maxRecDepth 4000
namespace Go.Proofs.YtcfgiffgahdlbaaGreat.C
open Go.Sym Go.Proofs.YtcfgiffgahdlbaaGreat.I
def passGo (ns : List Nd) (ks : List Int) : Nat → Nat → List Int → List Sp → Bool → List Int × List Sp × Bool
  | 0, _, st, out, m => (st, out, m)
  | n + 1, t, st, out, m =>
    if 0 ≤ sv st t then passGo ns ks n (t + 1) st out m
    else match stepF ns ks st t with
      | some s => passGo ns ks n (t + 1) (st.set t out.length) (out ++ [s]) true
      | none => passGo ns ks n (t + 1) st out m
def allGo (ns : List Nd) (ks : List Int) : Nat → List Int → List Sp → List Int × List Sp
  | 0, st, out => (st, out)
  | n + 1, st, out => if (passGo ns ks ns.length 0 st out false).2.2 = true then allGo ns ks n (passGo ns ks ns.length 0 st out false).1 (passGo ns ks ns.length 0 st out false).2.1
    else ((passGo ns ks ns.length 0 st out false).1, (passGo ns ks ns.length 0 st out false).2.1)
def allV (ns : List Nd) (ks : List Int) : List Sp := (allGo ns ks (ns.length + 1) (List.replicate ns.length (-1)) []).2
/-- What ProofAll answers. -/
def allSt (ns : List Nd) (ks : List Int) : List Sp := if kpF ns ks = true then allV ns ks else []
def negs (st : List Int) : Nat := st.countP fun x => decide (x < 0)
theorem negs_set {st : List Int} {t : Nat} (ht : t < st.length) (h : st[t] < 0) {v : Int} (hv : 0 ≤ v) : negs (st.set t v) + 1 = negs st := by
  have hp : 0 < st.countP fun x => decide (x < 0) := List.countP_pos_iff.2 ⟨st[t], List.getElem_mem ht, by simpa using h⟩
  have hv' : ¬ v < 0 := by omega
  simp only [negs]
  rw [List.countP_set ht]
  simp [h, hv']
  omega
theorem negs_rep (n : Nat) : negs (List.replicate n (-1)) = n := by simp [negs, List.countP_replicate]
theorem allGo_end {ns : List Nd} {ks : List Int} {k : Nat} {st st' : List Int} {out out' : List Sp} (h : passGo ns ks ns.length 0 st out false = (st', out', false)) : (allGo ns ks (k + 1) st out).2 = out' := by simp [allGo, h]
theorem allGo_more {ns : List Nd} {ks : List Int} {k : Nat} {st st' : List Int} {out out' : List Sp} (h : passGo ns ks ns.length 0 st out false = (st', out', true)) : (allGo ns ks (k + 1) st out).2 = (allGo ns ks k st' out').2 := by simp [allGo, h]
def fillI (n i : Nat) : List Int := List.replicate i (-1) ++ List.replicate (n - i) 0
theorem fillI_len {n i : Nat} (h : i ≤ n) : (fillI n i).length = n := by simp [fillI]; omega
theorem fillI_set {n i : Nat} (h : i < n) : (fillI n i).set i (-1) = fillI n (i + 1) := by
  have e : n - i = (n - (i + 1)) + 1 := by omega
  simp only [fillI]
  rw [List.set_append_right _ _ (by simp), List.length_replicate, Nat.sub_self, e, List.replicate_succ, List.set_cons_zero, List.replicate_succ' (n := i), List.append_assoc]
  rfl
theorem spec_ProofAll_c (ns : List Nd) (ks : List Int) (hl : ns.length < 9223372036854775807) (hk : ks.length < 9223372036854775807) : T 18 [aP ns, aI ks] [] (tref' 0 (allSt ns ks)) ([tblk (allSt ns ks)]) := by
  refine semT' (S := S0) hm spec_ProofAll_ok (Nat.le_of_ble_eq_true rfl) ?_
  unfold spec_ProofAll; dsimp only
  simp
  refine spec_KnowOk_k (ns := ns) (ks := ks) hl rfl (by simp) (by simp [noslBlks]) ?_; simp [shiftB]
  refine br_intro' (fun hkp => ?_) (fun hkp => ?_) <;> simp [hkp]
  rotate_left
  · rw [show allSt ns ks = [] from if_neg (by simp [hkp])]
    first | (refine LeV.tell [none] ?_ ?_ ?_ <;> (simp; done)) | (refine LeV.tell [some 0] ?_ ?_ ?_ <;> (simp; done)) | (refine LeV.tell [some 1] ?_ ?_ ?_ <;> (simp; done)) | (refine LeV.tell [some 2] ?_ ?_ ?_ <;> (simp; done)) | (refine LeV.tell [some 3] ?_ ?_ ?_ <;> (simp; done)) | (refine LeV.tell [some 4] ?_ ?_ ?_ <;> (simp; done)) | (refine LeV.tell [some 5] ?_ ?_ ?_ <;> (simp; done)) | (refine LeV.tell [some 6] ?_ ?_ ?_ <;> (simp; done)) | (refine LeV.tell [some 7] ?_ ?_ ?_ <;> (simp; done)) | (refine LeV.tell [some 8] ?_ ?_ ?_ <;> (simp; done)) | (refine LeV.tell [some 9] ?_ ?_ ?_ <;> (simp; done)) | (refine LeV.tell [some 10] ?_ ?_ ?_ <;> (simp; done)) | (refine LeV.tell [some 11] ?_ ?_ ?_ <;> (simp; done)) | (refine LeV.tell [some 12] ?_ ?_ ?_ <;> (simp; done)) | (refine LeV.tell [some 13] ?_ ?_ ?_ <;> (simp; done)) | (refine LeV.tell [some 14] ?_ ?_ ?_ <;> (simp; done)) | (refine LeV.tell [some 15] ?_ ?_ ?_ <;> (simp; done))
  have hp := kpF_pool hkp
  have h5 := poolF_len hp
  rw [show allSt ns ks = allV ns ks from if_pos hkp]
  refine ck_intro' (by omega) ?_; simp
  rw [← ints_rep', show List.replicate ns.length (0 : Int) = fillI ns.length 0 by simp [fillI]]
  refine WLoop_fam (fun i : Nat => [(1, aI ks), (2, A.ptr 0 0 0), (5, A.nil), (6, A.ref 1 0 0 ns.length), (7, i6 i)]) (fun i => [⟨0, false, 1, [A.sl ns.length (enc ns)], none⟩, ⟨0, false, 1, ints (fillI ns.length i), none⟩]) (fun i => ns.length - i)
    (fun i => i ≤ ns.length) ?_ 0 (Nat.zero_le _)
  intro i hi ih
  simp
  refine br_intro' (fun h => ?_) (fun h => ?_) <;> (have h0 := h) <;> (try simp at h) <;> try simp [h0, h]
  · have h' := h
    have hw := wrap_succ (n := i) (by omega)
    have hfl := fillI_len hi
    repeat (refine ck_intro' (by first | omega | (simp; omega) | kernel_rfl) ?_; try simp [h', hfl, ints_set', fillI_set h', hw])
    exact ih (i + 1) h' (by omega)
  have hi0 : i = ns.length := by omega
  subst hi0
  rw [show fillI ns.length ns.length = List.replicate ns.length (-1) by simp [fillI]]
  have hav : allV ns ks = (allGo ns ks (ns.length + 1) (List.replicate ns.length (-1)) []).2 := rfl
  refine WLoop_virt 4 [(1, aI ks), (2, A.ptr 0 0 0), (5, A.ref 2 0 0 0), (6, A.ref 1 0 0 ns.length), (8, A.bool true)] ?_ ?_
  · intro t y hy
    simp [Sym.get] at hy ⊢
    (repeat' split at hy) <;> simp_all
  refine WLoop_fam (fun p : List Int × List Sp × Bool => [(1, aI ks), (2, A.ptr 0 0 0), (5, tref' 2 p.2.1), (6, A.ref 1 0 0 ns.length), (8, A.bool p.2.2)]) (fun p => [⟨0, false, 1, [A.sl ns.length (enc ns)], none⟩, ⟨0, false, 1, ints p.1, none⟩, tblk p.2.1]) (fun p => 2 * negs p.1 + p.2.2.toNat)
    (fun p => p.1.length = ns.length ∧ p.2.1.length + negs p.1 = ns.length ∧ (p.2.2 = false → allV ns ks = p.2.1) ∧ ∃ k, negs p.1 ≤ k ∧ (p.2.2 = true → allV ns ks = (allGo ns ks (k + 1) p.1 p.2.1).2)) ?_ (List.replicate ns.length (-1), [], true) ⟨by simp, by simp [negs_rep], by simp, ns.length, by simp [negs_rep], fun _ => rfl⟩
  rintro ⟨st, out, more⟩ ⟨hst, hon, hfin, k, hnk, hgo⟩ ih
  simp only at hst hon hfin hnk hgo
  cases more with
  | false =>
    simp
    rw [hfin rfl]
    first | (refine LeV.tell [none] ?_ ?_ ?_ <;> (simp; done)) | (refine LeV.tell [some 0] ?_ ?_ ?_ <;> (simp; done)) | (refine LeV.tell [some 1] ?_ ?_ ?_ <;> (simp; done)) | (refine LeV.tell [some 2] ?_ ?_ ?_ <;> (simp; done)) | (refine LeV.tell [some 3] ?_ ?_ ?_ <;> (simp; done)) | (refine LeV.tell [some 4] ?_ ?_ ?_ <;> (simp; done)) | (refine LeV.tell [some 5] ?_ ?_ ?_ <;> (simp; done)) | (refine LeV.tell [some 6] ?_ ?_ ?_ <;> (simp; done)) | (refine LeV.tell [some 7] ?_ ?_ ?_ <;> (simp; done)) | (refine LeV.tell [some 8] ?_ ?_ ?_ <;> (simp; done)) | (refine LeV.tell [some 9] ?_ ?_ ?_ <;> (simp; done)) | (refine LeV.tell [some 10] ?_ ?_ ?_ <;> (simp; done)) | (refine LeV.tell [some 11] ?_ ?_ ?_ <;> (simp; done)) | (refine LeV.tell [some 12] ?_ ?_ ?_ <;> (simp; done)) | (refine LeV.tell [some 13] ?_ ?_ ?_ <;> (simp; done)) | (refine LeV.tell [some 14] ?_ ?_ ?_ <;> (simp; done)) | (refine LeV.tell [some 15] ?_ ?_ ?_ <;> (simp; done))
  | true =>
    simp
    refine WLoop_fam (fun p : Nat × List Int × List Sp × Bool => [(1, aI ks), (2, A.ptr 0 0 0), (5, tref' 2 p.2.2.1), (6, A.ref 1 0 0 ns.length), (8, A.bool p.2.2.2), (9, i6 p.1)]) (fun p => [⟨0, false, 1, [A.sl ns.length (enc ns)], none⟩, ⟨0, false, 1, ints p.2.1, none⟩, tblk p.2.2.1]) (fun p => ns.length - p.1)
      (fun p => p.1 ≤ ns.length ∧ p.2.1.length = ns.length ∧ p.2.2.1.length + negs p.2.1 = ns.length ∧ negs p.2.1 ≤ negs st ∧ (p.2.2.2 = true → negs p.2.1 < negs st) ∧ passGo ns ks ns.length 0 st out false = passGo ns ks (ns.length - p.1) p.1 p.2.1 p.2.2.1 p.2.2.2) ?_ (0, st, out, false) ⟨Nat.zero_le _, hst, hon, Nat.le_refl _, by simp, rfl⟩
    rintro ⟨t, st1, out1, m1⟩ ⟨htl, hst1, hon1, hle, hlt, hpg⟩ ih2
    simp only at htl hst1 hon1 hle hlt hpg
    simp
    refine br_intro' (fun u => ?_) (fun u => ?_) <;> (have u0 := u) <;> simp at u <;> simp [u0, u]
    · have htn : t < ns.length := by omega
      have hts : t < st1.length := by omega
      have hw := wrap_succ (n := t) (by omega)
      have hpn : passGo ns ks (ns.length - t) t st1 out1 m1 = if 0 ≤ st1[t] then passGo ns ks (ns.length - (t + 1)) (t + 1) st1 out1 m1
        else match stepF ns ks st1 t with
        | some s => passGo ns ks (ns.length - (t + 1)) (t + 1) (st1.set t out1.length) (out1 ++ [s]) true
        | none => passGo ns ks (ns.length - (t + 1)) (t + 1) st1 out1 m1 := by
        rw [show ns.length - t = (ns.length - (t + 1)) + 1 by omega, passGo, sv_nat hts]
      simp [hst1, htn]
      refine br_intro' (fun g => ?_) (fun g => ?_) <;> (have g0 := g) <;> simp only [decide_eq_true_eq, decide_eq_false_iff_not] at g <;> simp [g0, g]
      · rw [hw]
        exact ih2 (t + 1, st1, out1, m1) ⟨by omega, hst1, hon1, hle, hlt, by rw [hpg, hpn, if_pos g]⟩ (by simp; omega)
      · refine spec_l9Step_k (ns := ns) (ks := ks) (st := st1) (t := t) hl hk hp hst1 (hasF_of htn) rfl (by simp [← hst1]) (by simp) ?_; simp
        have hneg : st1[t] < 0 := by omega
        have hns := negs_set hts hneg (v := (out1.length : Int)) (by omega)
        have hlo : out1.length < 500 := by omega
        rcases hs : stepF ns ks st1 t with _ | s
        · simp [optS]
          rw [hw]
          refine WLoop_drop [⟨0, false, 1, [A.sl ns.length (enc ns)], none⟩, ⟨0, false, 1, ints st1, none⟩, tblk out1] [_] rfl (by simp) (by simp) (by simp) ?_
          exact ih2 (t + 1, st1, out1, m1) ⟨by omega, hst1, hon1, hle, hlt, by rw [hpg, hpn, if_neg g, hs]⟩ (by simp; omega)
        · simp [optS, hst1, htn]
          repeat (refine ck_intro' (by first | omega | (simp; omega) | kernel_rfl) ?_; try simp [hst1, htn, ints_set', hw])
          refine WLoop_drop [⟨0, false, 1, [A.sl ns.length (enc ns)], none⟩, ⟨0, false, 1, ints (st1.set t out1.length), none⟩, tblk (out1 ++ [s])] [_, _] (by simp [encS_snoc]; exact ⟨rfl, rfl⟩) (by simp) (by simp) (by simp) ?_
          rw [show A.ref 2 (out1.length + 1) 0 (out1.length + 1) = tref' 2 (out1 ++ [s]) by simp]
          exact ih2 (t + 1, st1.set t out1.length, out1 ++ [s], true) ⟨by omega, by simp [hst1], by simp; omega, by simp; omega, fun _ => by simp; omega, by rw [hpg, hpn, if_neg g, hs]⟩ (by simp; omega)
    · have htn : t = ns.length := by omega
      subst htn
      rw [Nat.sub_self] at hpg
      refine WLoop_env [(1, aI ks), (2, A.ptr 0 0 0), (5, tref' 2 out1), (6, A.ref 1 0 0 ns.length), (8, A.bool m1)] ?_ ?_
      · intro t y hy
        simp [Sym.get] at hy ⊢
        (repeat' split at hy) <;> simp_all
      refine ih (st1, out1, m1) ⟨hst1, hon1, ?_, ?_⟩ ?_
      · intro e
        simp only at e
        subst e
        rw [hgo rfl, allGo_end hpg]
      · cases m1 with
        | false => exact ⟨_, Nat.le_refl _, by simp⟩
        | true =>
          have := hlt rfl
          obtain ⟨k', rfl⟩ : ∃ k', k = k' + 1 := ⟨k - 1, by omega⟩
          exact ⟨k', by simp; omega, fun _ => by rw [hgo rfl, allGo_more hpg]⟩
      · cases m1 with
        | false => simp; omega
        | true => have := hlt rfl; simp; omega
theorem spec_ProofAll_k {ns : List Nd} {ks : List Int} (hl : ns.length < 9223372036854775807) (hk : ks.length < 9223372036854775807) {S : FuncId → Bool} {H : List Blk} {K : A → Dl → Prop} {zs : List A} (hS : S 18 = false) (hv : viewL (viewA 8 H) zs = some [aP ns, aI ks]) (ho : noOwns zs = true ∨ nosl (tref' 0 (allSt ns ks)) = true ∧ noslBlks ([tblk (allSt ns ks)]) = true) (hK : K (shiftA H.length (tref' 0 (allSt ns ks))) (.news (([tblk (allSt ns ks)]).map (shiftB H.length)))) : @WCall' Go.Proofs.Tryz.prog S 18 zs H ⟨K⟩ :=
  WCall_ro' hS hv (spec_ProofAll_c ns ks hl hk) rfl ho hK
end Go.Proofs.YtcfgiffgahdlbaaGreat.C

set_option linter.unusedVariables false
set_option linter.unusedSimpArgs false
set_option maxRecDepth 4000
namespace Go.Proofs.YtcfgiffgahdlbaaGreat.C
open Go.Sym Go.Proofs.YtcfgiffgahdlbaaGreat.I
abbrev aV (ns : List Nd) (ks : List Int) (x : A) (st : List Int) : A := .pt [.pt [.sl ns.length (enc ns)], aI ks, x, aI st]
def hasSt (st : List Int) (t : Int) : Bool := decide (0 ≤ t) && decide (0 ≤ sv st t)
theorem impl_prover_has_c (ns : List Nd) (ks : List Int) (x : A) (st : List Int) (t : Int) (ht : t < 0 ∨ t < st.length) (hx : ∀ n H, viewA (n + 2) H x = some x) (ox : noOwn x = true) : T 93 [aV ns ks x st, i6 t] [] (.bool (hasSt st t)) ([]) := by
  refine semT' (S := S0) hm impl_prover_has_ok (Nat.le_of_ble_eq_true rfl) ?_
  unfold impl_prover_has; dsimp only
  simp
  refine br_intro' (fun g => ?_) (fun g => ?_) <;> (have g0 := g) <;> simp only [decide_eq_true_eq, decide_eq_false_iff_not] at g <;> simp [g0, g]
  · obtain ⟨j, rfl⟩ : ∃ j : Nat, t = j := ⟨t.toNat, by omega⟩
    have hj : j < st.length := by omega
    simp [hj]
    exact LeV.ro rfl rfl (by simp [hasSt, sv_nat hj])
  · exact LeV.ro rfl rfl (by simp [hasSt, g])
theorem impl_prover_has_k {ns : List Nd} {ks : List Int} {x : A} {st : List Int} {t : Int} (ht : t < 0 ∨ t < st.length) (hx : ∀ n H, viewA (n + 2) H x = some x) (ox : noOwn x = true) {S : FuncId → Bool} {H : List Blk} {K : A → Dl → Prop} {zs : List A} (hS : S 93 = false) (hv : viewL (viewA 8 H) zs = some [aV ns ks x st, i6 t]) (ho : noOwns zs = true ∨ nosl (.bool (hasSt st t)) = true) (hK : K (.bool (hasSt st t)) (.news [])) : @WCall' Go.Proofs.Tryz.prog S 93 zs H ⟨K⟩ :=
  WCall_pure hS (impl_prover_has_c ns ks x st t ht hx ox) hv ho (by simp) hK
theorem impl_prover_share_c (ns : List Nd) (ks : List Int) (x : A) (st : List Int) (t : Int) (hl : ns.length < 9223372036854775807) (hp : poolF ns = true) (hst : st.length = ns.length) (ht : hasF ns.length t = true) (hx : ∀ n H, viewA (n + 2) H x = some x) (ox : noOwn x = true) : T 81 [aV ns ks x st, i6 t] [] (.tup [aSt (optS (shareF ns st t)), .bool (shareF ns st t).isSome]) ([]) := by
  refine semT' (S := S0) hm impl_prover_share_ok (Nat.le_of_ble_eq_true rfl) ?_
  unfold impl_prover_share; dsimp only
  obtain ⟨j, rfl, hj⟩ := hasN ht
  obtain ⟨q, hq⟩ := enc_at hj
  have h3 : 3 ≤ ns.length * 3 - j * 3 := by omega
  have en := nodeAt_nat hj
  have w1 : IntKind.i64.wrap 1 = 1 := wrap64 (by omega) (by omega)
  have w2 : IntKind.i64.wrap 2 = 2 := wrap64 (by omega) (by omega)
  simp [h3, hq, hj]
  refine br_intro' (fun u => ?_) (fun u => ?_) <;> (have u0 := u) <;> (try simp at u) <;> try simp [u0, u]
  · obtain ⟨⟨a, ea, ha⟩, b, eb, hb⟩ := parts_in hp hj (by rw [u]; rfl)
    have hal : a < st.length := by omega
    have hbl : b < st.length := by omega
    have esa := sv_nat hal
    have esb := sv_nat hbl
    have hsh : shareF ns st j = if 0 ≤ sv st a ∧ 0 ≤ findF ns ⟨7, b, 0⟩ 0 ∧ 0 ≤ sv st (findF ns ⟨7, b, 0⟩ 0) then some ⟨4, j, sv st a, sv st (findF ns ⟨7, b, 0⟩ 0)⟩
      else if 0 ≤ sv st b ∧ 0 ≤ findF ns ⟨7, a, 0⟩ 0 ∧ 0 ≤ sv st (findF ns ⟨7, a, 0⟩ 0) then some ⟨4, j, sv st b, sv st (findF ns ⟨7, a, 0⟩ 0)⟩ else none := by
      unfold shareF
      rw [en, if_neg (by simp [u]), ea, eb]
    have hxr : ∀ n : Nd, findF ns n 0 < 0 ∨ findF ns n 0 < st.length := fun n => by
      rcases Int.lt_or_le (findF ns n 0) 0 with z | z
      · exact .inl z
      · obtain ⟨y, e, hy⟩ := findF_lt z
        right; omega
    have hsh2 : shareF ns st j = if hasSt st a = true ∧ hasSt st (findF ns ⟨7, b, 0⟩ 0) = true then some ⟨4, j, st[a], sv st (findF ns ⟨7, b, 0⟩ 0)⟩
      else if hasSt st b = true ∧ hasSt st (findF ns ⟨7, a, 0⟩ 0) = true then some ⟨4, j, st[b], sv st (findF ns ⟨7, a, 0⟩ 0)⟩ else none := by
      rw [hsh]
      have e1 : (0 : Int) ≤ a := by omega
      have e2 : (0 : Int) ≤ b := by omega
      simp [hasSt, esa, esb, e1, e2]
    rw [ea, eb]
    refine WLoop_step' ?_; simp
    refine impl_Pool_find_k (ns := ns) (r := []) (n := ⟨7, b, 0⟩) hl rfl (by simp) (by simp) ?_; simp
    first | (refine ck_intro' (by kernel_rfl) ?_; try simp) | skip
    refine impl_prover_has_k (ns := ns) (ks := ks) (x := x) (st := st) (t := a) (.inr (by omega)) hx ox rfl (by simp [hx]) (by simp [ox]) ?_; simp
    refine br_intro' (fun g1 => ?_) (fun g1 => ?_) <;> simp [g1]
    · refine impl_prover_has_k (ns := ns) (ks := ks) (x := x) (st := st) (t := findF ns ⟨7, b, 0⟩ 0) (hxr _) hx ox rfl (by simp [hx]) (by simp [ox]) ?_; simp
      refine br_intro' (fun f1 => ?_) (fun f1 => ?_) <;> simp [f1]
      · have f0 := f1
        simp only [hasSt, Bool.and_eq_true, decide_eq_true_eq] at f0
        obtain ⟨y, ey, hy⟩ := findF_lt f0.1
        have hy' : y < st.length := by omega
        rw [ey] at f1 ⊢
        simp [hal, hy']
        first | (refine ck_intro' (by kernel_rfl) ?_; try simp [hal, hy']) | skip
        exact LeV.ro rfl rfl (by rw [hsh2, ey, sv_nat hy']; simp [optS, g1, f1])
      · have h1 : ¬ (hasSt st a = true ∧ hasSt st (findF ns ⟨7, b, 0⟩ 0) = true) := by simp [f1]
        rw [w1]
        refine WLoop_step' ?_; simp
        refine impl_Pool_find_k (ns := ns) (r := []) (n := ⟨7, a, 0⟩) hl rfl (by simp) (by simp) ?_; simp
        first | (refine ck_intro' (by kernel_rfl) ?_; try simp) | skip
        refine impl_prover_has_k (ns := ns) (ks := ks) (x := x) (st := st) (t := b) (.inr (by omega)) hx ox rfl (by simp [hx]) (by simp [ox]) ?_; simp
        refine br_intro' (fun g2 => ?_) (fun g2 => ?_) <;> simp [g2]
        · refine impl_prover_has_k (ns := ns) (ks := ks) (x := x) (st := st) (t := findF ns ⟨7, a, 0⟩ 0) (hxr _) hx ox rfl (by simp [hx]) (by simp [ox]) ?_; simp
          refine br_intro' (fun f2 => ?_) (fun f2 => ?_) <;> simp [f2]
          · have f0 := f2
            simp only [hasSt, Bool.and_eq_true, decide_eq_true_eq] at f0
            obtain ⟨y, ey, hy⟩ := findF_lt f0.1
            have hy' : y < st.length := by omega
            rw [ey] at f2 ⊢
            simp [hbl, hy']
            first | (refine ck_intro' (by kernel_rfl) ?_; try simp [hbl, hy']) | skip
            exact LeV.ro rfl rfl (by rw [hsh2, if_neg h1, ey, sv_nat hy']; simp [optS, g2, f2])
          · have h2 : ¬ (hasSt st b = true ∧ hasSt st (findF ns ⟨7, a, 0⟩ 0) = true) := by simp [f2]
            rw [w2]
            refine WLoop_step' ?_; simp
            exact LeV.ro rfl rfl (by rw [hsh2, if_neg h1, if_neg h2]; rfl)
        · have h2 : ¬ (hasSt st b = true ∧ hasSt st (findF ns ⟨7, a, 0⟩ 0) = true) := by simp [g2]
          rw [w2]
          refine WLoop_step' ?_; simp
          exact LeV.ro rfl rfl (by rw [hsh2, if_neg h1, if_neg h2]; rfl)
    · have h1 : ¬ (hasSt st a = true ∧ hasSt st (findF ns ⟨7, b, 0⟩ 0) = true) := by simp [g1]
      rw [w1]
      refine WLoop_step' ?_; simp
      refine impl_Pool_find_k (ns := ns) (r := []) (n := ⟨7, a, 0⟩) hl rfl (by simp) (by simp) ?_; simp
      first | (refine ck_intro' (by kernel_rfl) ?_; try simp) | skip
      refine impl_prover_has_k (ns := ns) (ks := ks) (x := x) (st := st) (t := b) (.inr (by omega)) hx ox rfl (by simp [hx]) (by simp [ox]) ?_; simp
      refine br_intro' (fun g2 => ?_) (fun g2 => ?_) <;> simp [g2]
      · refine impl_prover_has_k (ns := ns) (ks := ks) (x := x) (st := st) (t := findF ns ⟨7, a, 0⟩ 0) (hxr _) hx ox rfl (by simp [hx]) (by simp [ox]) ?_; simp
        refine br_intro' (fun f2 => ?_) (fun f2 => ?_) <;> simp [f2]
        · have f0 := f2
          simp only [hasSt, Bool.and_eq_true, decide_eq_true_eq] at f0
          obtain ⟨y, ey, hy⟩ := findF_lt f0.1
          have hy' : y < st.length := by omega
          rw [ey] at f2 ⊢
          simp [hbl, hy']
          first | (refine ck_intro' (by kernel_rfl) ?_; try simp [hbl, hy']) | skip
          exact LeV.ro rfl rfl (by rw [hsh2, if_neg h1, ey, sv_nat hy']; simp [optS, g2, f2])
        · have h2 : ¬ (hasSt st b = true ∧ hasSt st (findF ns ⟨7, a, 0⟩ 0) = true) := by simp [f2]
          rw [w2]
          refine WLoop_step' ?_; simp
          exact LeV.ro rfl rfl (by rw [hsh2, if_neg h1, if_neg h2]; rfl)
      · have h2 : ¬ (hasSt st b = true ∧ hasSt st (findF ns ⟨7, a, 0⟩ 0) = true) := by simp [g2]
        rw [w2]
        refine WLoop_step' ?_; simp
        exact LeV.ro rfl rfl (by rw [hsh2, if_neg h1, if_neg h2]; rfl)
  · exact LeV.ro rfl rfl (by simp [shareF, en, u, optS])
theorem impl_prover_share_k {ns : List Nd} {ks : List Int} {x : A} {st : List Int} {t : Int} (hl : ns.length < 9223372036854775807) (hp : poolF ns = true) (hst : st.length = ns.length) (ht : hasF ns.length t = true) (hx : ∀ n H, viewA (n + 2) H x = some x) (ox : noOwn x = true) {S : FuncId → Bool} {H : List Blk} {K : A → Dl → Prop} {zs : List A} (hS : S 81 = false) (hv : viewL (viewA 8 H) zs = some [aV ns ks x st, i6 t]) (ho : noOwns zs = true ∨ nosl (.tup [aSt (optS (shareF ns st t)), .bool (shareF ns st t).isSome]) = true) (hK : K (.tup [aSt (optS (shareF ns st t)), .bool (shareF ns st t).isSome]) (.news [])) : @WCall' Go.Proofs.Tryz.prog S 81 zs H ⟨K⟩ :=
  WCall_pure hS (impl_prover_share_c ns ks x st t hl hp hst ht hx ox) hv ho (by simp) hK
def madeS (ns : List Nd) (st : List Int) (t : Int) : Sp := if partsF (nodeAt ns t).k = 0 then ⟨3, t, 0, 0⟩ else optS (madeF ns st t)
theorem impl_prover_made_c (ns : List Nd) (ks : List Int) (x : A) (st : List Int) (t : Int) (hl : ns.length < 9223372036854775807) (hp : poolF ns = true) (hst : st.length = ns.length) (ht : hasF ns.length t = true) (hx : ∀ n H, viewA (n + 2) H x = some x) (ox : noOwn x = true) : T 80 [aV ns ks x st, i6 t] [] (.tup [aSt (madeS ns st t), .bool (madeF ns st t).isSome]) ([]) := by
  refine semT' (S := S0) hm impl_prover_made_ok (Nat.le_of_ble_eq_true rfl) ?_
  unfold impl_prover_made; dsimp only
  have hht := ht
  obtain ⟨j, rfl, hj⟩ := hasN ht
  have en := nodeAt_nat hj
  have w1 : IntKind.i64.wrap 1 = 1 := wrap64 (by omega) (by omega)
  have w2 : IntKind.i64.wrap 2 = 2 := wrap64 (by omega) (by omega)
  simp
  refine impl_Pool_parts_k (ns := ns) (r := []) (t := j) hl hht rfl (by simp) (by simp [noslBlks]) ?_; simp [shiftB]
  first | (refine ck_intro' (by kernel_rfl) ?_; try simp) | skip
  rw [en]
  rcases parts_kind hp hj with hpk | hpk | hpk
  · rw [show partsL ns[j] = [] by simp [partsL, hpk]]
    simp
    refine WLoop_step' ?_; simp
    exact LeV.ro rfl rfl (by simp [madeS, madeF, en, hpk, optS])
  · obtain ⟨a, ea, ha⟩ := part_in hp hj hpk
    have hal : a < st.length := by omega
    have esa := sv_nat hal
    have ha0 : (0 : Int) ≤ a := by omega
    rw [show partsL ns[j] = [ns[j].a] by simp [partsL, hpk], ea]
    simp [ints]
    refine WLoop_step' ?_; simp [ints]
    refine impl_prover_has_k (ns := ns) (ks := ks) (x := x) (st := st) (t := a) (.inr (by omega)) hx ox rfl (by simp [hx]) (by simp [ox]) ?_; simp
    refine br_intro' (fun g => ?_) (fun g => ?_) <;> simp [g]
    · have g' := g
      simp [hasSt, esa, ha0] at g'
      simp [hal, w1]
      first | (refine ck_intro' (by kernel_rfl) ?_; try simp [hal, w1]) | skip
      refine WLoop_step' ?_; simp
      exact LeV.ro rfl rfl (by simp [madeS, madeF, en, hpk, ea, esa, g', optS])
    · have g' := g
      simp only [hasSt, esa, ha0, decide_true, Bool.true_and, decide_eq_false_iff_not] at g'
      exact LeV.ro rfl rfl (by simp [madeS, madeF, en, hpk, ea, esa, g', optS])
  · obtain ⟨⟨a, ea, ha⟩, b, eb, hb⟩ := parts_in hp hj hpk
    have hal : a < st.length := by omega
    have hbl : b < st.length := by omega
    have esa := sv_nat hal
    have esb := sv_nat hbl
    have ha0 : (0 : Int) ≤ a := by omega
    have hb0 : (0 : Int) ≤ b := by omega
    rw [show partsL ns[j] = [ns[j].a, ns[j].b] by simp [partsL, hpk], ea, eb]
    simp [ints]
    refine WLoop_step' ?_; simp [ints]
    refine impl_prover_has_k (ns := ns) (ks := ks) (x := x) (st := st) (t := a) (.inr (by omega)) hx ox rfl (by simp [hx]) (by simp [ox]) ?_; simp
    refine br_intro' (fun g => ?_) (fun g => ?_) <;> simp [g]
    · have g' := g
      simp [hasSt, esa, ha0] at g'
      simp [hal, w1]
      first | (refine ck_intro' (by kernel_rfl) ?_; try simp [hal, w1]) | skip
      refine WLoop_step' ?_; simp [ints]
      refine impl_prover_has_k (ns := ns) (ks := ks) (x := x) (st := st) (t := b) (.inr (by omega)) hx ox rfl (by simp [hx]) (by simp [ox]) ?_; simp
      refine br_intro' (fun f => ?_) (fun f => ?_) <;> simp [f]
      · have f' := f
        simp [hasSt, esb, hb0] at f'
        simp [hbl, w2]
        first | (refine ck_intro' (by kernel_rfl) ?_; try simp [hbl, w2]) | skip
        refine WLoop_step' ?_; simp
        exact LeV.ro rfl rfl (by simp [madeS, madeF, en, hpk, ea, eb, esa, esb, g', f', optS])
      · have f' := f
        simp only [hasSt, esb, hb0, decide_true, Bool.true_and, decide_eq_false_iff_not] at f'
        exact LeV.ro rfl rfl (by simp [madeS, madeF, en, hpk, ea, eb, esa, esb, g', f', optS])
    · have g' := g
      simp only [hasSt, esa, ha0, decide_true, Bool.true_and, decide_eq_false_iff_not] at g'
      exact LeV.ro rfl rfl (by simp [madeS, madeF, en, hpk, ea, eb, esa, g', optS])
theorem impl_prover_made_k {ns : List Nd} {ks : List Int} {x : A} {st : List Int} {t : Int} (hl : ns.length < 9223372036854775807) (hp : poolF ns = true) (hst : st.length = ns.length) (ht : hasF ns.length t = true) (hx : ∀ n H, viewA (n + 2) H x = some x) (ox : noOwn x = true) {S : FuncId → Bool} {H : List Blk} {K : A → Dl → Prop} {zs : List A} (hS : S 80 = false) (hv : viewL (viewA 8 H) zs = some [aV ns ks x st, i6 t]) (ho : noOwns zs = true ∨ nosl (.tup [aSt (madeS ns st t), .bool (madeF ns st t).isSome]) = true) (hK : K (.tup [aSt (madeS ns st t), .bool (madeF ns st t).isSome]) (.news [])) : @WCall' Go.Proofs.Tryz.prog S 80 zs H ⟨K⟩ :=
  WCall_pure hS (impl_prover_made_c ns ks x st t hl hp hst ht hx ox) hv ho (by simp) hK
/-- From the first term on it comes to the same: no part stands behind its whole. -/
theorem upGo_lo {ns : List Nd} (hp : poolF ns = true) (st : List Int) (r : Int) (t : Nat) : ∀ (n i m : Nat), i + n = t + 1 → t < ns.length → upGo ns st r t (n + m) i = upGo ns st r t m (t + 1)
  | 0, i, m, h, _ => by rw [show i = t + 1 by omega, Nat.zero_add]
  | n + 1, i, m, h, ht => by
    have hi : i < ns.length := by omega
    have en := nodeAt_nat hi
    have hb : upOk ns st r t i = false := by
      have h2 : partsF ns[i].k = 2 → ns[i].a < i ∧ ns[i].b < i := fun e => by
        obtain ⟨⟨a, e1, e2⟩, b, e3, e4⟩ := parts_in hp hi e
        omega
      simp only [upOk, en]
      rw [Bool.and_eq_false_iff]
      right
      simp only [Bool.or_eq_false_iff, Bool.and_eq_false_iff, decide_eq_false_iff_not]
      refine ⟨⟨⟨?_, ?_⟩, ?_⟩, .inl ?_⟩
      · rintro ⟨_, k, e⟩; have := h2 (by rw [k]; rfl); omega
      · rintro ⟨_, k, e⟩; have := h2 (by rw [k]; rfl); omega
      · rintro ⟨_, k, e⟩; have := h2 (by rw [k]; rfl); omega
      · rintro ⟨_, k, e⟩; have := h2 (by rw [k]; rfl); omega
    rw [show n + 1 + m = (n + m) + 1 by omega, upGo, hb]
    simp only [Bool.false_eq_true, if_false]
    exact upGo_lo hp st r t n (i + 1) m (by omega) ht
theorem upF_lo {ns : List Nd} (hp : poolF ns = true) (st : List Int) (r : Int) {t : Nat} (ht : t < ns.length) : upF ns st r t = upGo ns st r t ns.length 0 := by
  have := upGo_lo hp st r t (t + 1) 0 (ns.length - (t + 1)) (by omega) ht
  rw [show t + 1 + (ns.length - (t + 1)) = ns.length by omega] at this
  rw [this]
  simp [upF]
end Go.Proofs.YtcfgiffgahdlbaaGreat.C

set_option linter.unusedVariables false
set_option linter.unusedSimpArgs false
set_option maxRecDepth 4000
namespace Go.Proofs.YtcfgiffgahdlbaaGreat.C
open Go.Sym Go.Proofs.YtcfgiffgahdlbaaGreat.I
theorem impl_prover_opened_c (ns : List Nd) (ks : List Int) (x : A) (st : List Int) (r t : Int) (hl : ns.length < 9223372036854775807) (hp : poolF ns = true) (hst : st.length = ns.length) (ht : hasF ns.length t = true) (hr : r = 5 ∨ r = 6 ∨ r = 7 ∨ r = 8) (hx : ∀ n H, viewA (n + 2) H x = some x) (ox : noOwn x = true) (hin : ∀ m, inA m x = true) : T 82 [aV ns ks x st, i6 r, i6 t] [] (.tup [aSt (optS (upF ns st r t)), .bool (upF ns st r t).isSome]) ([]) := by
  refine semT' (S := S0) hm impl_prover_opened_ok (Nat.le_of_ble_eq_true rfl) ?_
  unfold impl_prover_opened; dsimp only
  obtain ⟨j, rfl, hj⟩ := hasN ht
  have hu := upF_lo hp st r hj
  simp
  refine WLoop_fam (fun i : Nat => [(0, aV ns ks x st), (1, i6 r), (2, i6 j), (6, A.ptr 0 0 0), (18, A.sl ns.length (enc ns)), (19, i6 ns.length), (20, i6 i)]) (fun _ => [⟨0, false, 1, [i6 0, i6 0, i6 0, i6 0], none⟩]) (fun i => ns.length - i)
    (fun i => i ≤ ns.length ∧ upF ns st r j = upGo ns st r j (ns.length - i) i) ?_ 0 ⟨Nat.zero_le _, by simp [hu]⟩
  intro i ⟨hi, hf⟩ ih
  simp
  refine br_intro' (fun h => ?_) (fun h => ?_) <;> (have h0 := h) <;> (try simp at h) <;> try simp [h0, h]
  · have h' := h
    have his : i < st.length := by omega
    obtain ⟨q, hq⟩ := enc_at h
    have h3 : 3 ≤ ns.length * 3 - i * 3 := by omega
    have hwi := wrap_succ (n := i) (by omega)
    have en := nodeAt_nat h'
    have es := sv_nat his
    have hgo : upGo ns st r j (ns.length - i) i = if upOk ns st r j i = true then some ⟨r, j, sv st i, if r = 7 then sv st (nodeAt ns i).b else 0⟩ else upGo ns st r j (ns.length - (i + 1)) (i + 1) := by
      rw [show ns.length - i = (ns.length - (i + 1)) + 1 by omega]; rfl
    simp [h3, hq, his, h']
    refine impl_prover_has_k (ns := ns) (ks := ks) (x := x) (st := st) (t := i) (.inr (by omega)) hx ox rfl (by simp [hx]) (by simp [ox]) ?_; simp
    refine br_intro' (fun g => ?_) (fun g => ?_) <;> simp [g]
    · have hsi : 0 ≤ st[i] := by
        simp only [hasSt, es, Bool.and_eq_true, decide_eq_true_eq] at g
        exact g.2
      have hbr : ns[i].k = 3 → ∃ b : Nat, ns[i].b = b ∧ b < st.length := fun e => by
        obtain ⟨_, b, e2, e3⟩ := parts_in hp h' (by rw [e]; rfl)
        exact ⟨b, e2, by omega⟩
      simp [his]
      rcases hr with rfl | rfl | rfl | rfl <;> simp
      · refine br_intro' (fun u => ?_) (fun u => ?_) <;> (have u0 := u) <;> (try simp at u) <;> try simp [u0, u, hq, h3, his, h']
        · refine br_intro' (fun v => ?_) (fun v => ?_) <;> (have v0 := v) <;> (try simp at v) <;> try simp [v0, v, hq, h3, his, h']
          · have hb : upOk ns st 5 j i = true := by simp [upOk, es, en, u, v, hsi]
            exact LeV.ro rfl rfl (by rw [hf, hgo, hb]; simp [optS, es])
          · have hb : upOk ns st 5 j i = false := by simp [upOk, es, en, v]
            rw [hwi]
            refine WLoop_drop [⟨0, false, 1, [i6 0, i6 0, i6 0, i6 0], none⟩] [_, _] rfl (by simp) (by simp) (by simp [inE, inA, inAs, hin, inAs_scals _ (enc_scals ns)]) ?_
            exact ih (i + 1) ⟨h', by rw [hf, hgo, hb]; simp⟩ (by omega)
        · have hb : upOk ns st 5 j i = false := by simp [upOk, es, en, u]
          rw [hwi]
          refine WLoop_drop [⟨0, false, 1, [i6 0, i6 0, i6 0, i6 0], none⟩] [_, _] rfl (by simp) (by simp) (by simp [inE, inA, inAs, hin, inAs_scals _ (enc_scals ns)]) ?_
          exact ih (i + 1) ⟨h', by rw [hf, hgo, hb]; simp⟩ (by omega)
      · refine br_intro' (fun u => ?_) (fun u => ?_) <;> (have u0 := u) <;> (try simp at u) <;> try simp [u0, u, hq, h3, his, h']
        · refine br_intro' (fun v => ?_) (fun v => ?_) <;> (have v0 := v) <;> (try simp at v) <;> try simp [v0, v, hq, h3, his, h']
          · have hb : upOk ns st 6 j i = true := by simp [upOk, es, en, u, v, hsi]
            exact LeV.ro rfl rfl (by rw [hf, hgo, hb]; simp [optS, es])
          · have hb : upOk ns st 6 j i = false := by simp [upOk, es, en, v]
            rw [hwi]
            refine WLoop_drop [⟨0, false, 1, [i6 0, i6 0, i6 0, i6 0], none⟩] [_, _] rfl (by simp) (by simp) (by simp [inE, inA, inAs, hin, inAs_scals _ (enc_scals ns)]) ?_
            exact ih (i + 1) ⟨h', by rw [hf, hgo, hb]; simp⟩ (by omega)
        · have hb : upOk ns st 6 j i = false := by simp [upOk, es, en, u]
          rw [hwi]
          refine WLoop_drop [⟨0, false, 1, [i6 0, i6 0, i6 0, i6 0], none⟩] [_, _] rfl (by simp) (by simp) (by simp [inE, inA, inAs, hin, inAs_scals _ (enc_scals ns)]) ?_
          exact ih (i + 1) ⟨h', by rw [hf, hgo, hb]; simp⟩ (by omega)
      · refine br_intro' (fun u => ?_) (fun u => ?_) <;> (have u0 := u) <;> (try simp at u) <;> try simp [u0, u, hq, h3, his, h']
        · refine br_intro' (fun v => ?_) (fun v => ?_) <;> (have v0 := v) <;> (try simp at v) <;> try simp [v0, v, hq, h3, his, h']
          · obtain ⟨b, eb, hb1⟩ := hbr u
            have hb0 : (0 : Int) ≤ b := by omega
            rw [eb]
            have esb := sv_nat hb1
            refine impl_prover_has_k (ns := ns) (ks := ks) (x := x) (st := st) (t := b) (.inr (by omega)) hx ox rfl (by simp [hx]) (by simp [ox]) ?_; simp
            refine br_intro' (fun z => ?_) (fun z => ?_) <;> simp [z]
            · have z' := z
              simp only [hasSt, esb, Bool.and_eq_true, decide_eq_true_eq] at z'
              simp [his, h', eb, hb1]
              first | (refine ck_intro' (by kernel_rfl) ?_; try simp [his, h', hb1, eb]) | skip
              have hb : upOk ns st 7 j i = true := by simp [upOk, es, en, u, v, hsi, eb, esb, z'.2]
              exact LeV.ro rfl rfl (by rw [hf, hgo, hb]; simp [optS, es, en, eb, esb])
            · have z' := z
              simp only [hasSt, esb, hb0, decide_true, Bool.true_and, decide_eq_false_iff_not] at z'
              have hb : upOk ns st 7 j i = false := by simp [upOk, es, en, eb, esb, z']
              rw [hwi]
              refine WLoop_drop [⟨0, false, 1, [i6 0, i6 0, i6 0, i6 0], none⟩] [_, _] rfl (by simp) (by simp) (by simp [inE, inA, inAs, hin, inAs_scals _ (enc_scals ns)]) ?_
              exact ih (i + 1) ⟨h', by rw [hf, hgo, hb]; simp⟩ (by omega)
          · have hb : upOk ns st 7 j i = false := by simp [upOk, es, en, v]
            rw [hwi]
            refine WLoop_drop [⟨0, false, 1, [i6 0, i6 0, i6 0, i6 0], none⟩] [_, _] rfl (by simp) (by simp) (by simp [inE, inA, inAs, hin, inAs_scals _ (enc_scals ns)]) ?_
            exact ih (i + 1) ⟨h', by rw [hf, hgo, hb]; simp⟩ (by omega)
        · have hb : upOk ns st 7 j i = false := by simp [upOk, es, en, u]
          rw [hwi]
          refine WLoop_drop [⟨0, false, 1, [i6 0, i6 0, i6 0, i6 0], none⟩] [_, _] rfl (by simp) (by simp) (by simp [inE, inA, inAs, hin, inAs_scals _ (enc_scals ns)]) ?_
          exact ih (i + 1) ⟨h', by rw [hf, hgo, hb]; simp⟩ (by omega)
      · refine br_intro' (fun u => ?_) (fun u => ?_) <;> (have u0 := u) <;> (try simp at u) <;> try simp [u0, u, hq, h3, his, h']
        · refine br_intro' (fun v => ?_) (fun v => ?_) <;> (have v0 := v) <;> (try simp at v) <;> try simp [v0, v, hq, h3, his, h']
          · have hb : upOk ns st 8 j i = true := by simp [upOk, es, en, u, v, hsi]
            exact LeV.ro rfl rfl (by rw [hf, hgo, hb]; simp [optS, es])
          · have hb : upOk ns st 8 j i = false := by simp [upOk, es, en, v]
            rw [hwi]
            refine WLoop_drop [⟨0, false, 1, [i6 0, i6 0, i6 0, i6 0], none⟩] [_, _] rfl (by simp) (by simp) (by simp [inE, inA, inAs, hin, inAs_scals _ (enc_scals ns)]) ?_
            exact ih (i + 1) ⟨h', by rw [hf, hgo, hb]; simp⟩ (by omega)
        · have hb : upOk ns st 8 j i = false := by simp [upOk, es, en, u]
          rw [hwi]
          refine WLoop_drop [⟨0, false, 1, [i6 0, i6 0, i6 0, i6 0], none⟩] [_, _] rfl (by simp) (by simp) (by simp [inE, inA, inAs, hin, inAs_scals _ (enc_scals ns)]) ?_
          exact ih (i + 1) ⟨h', by rw [hf, hgo, hb]; simp⟩ (by omega)
    · have hb : upOk ns st r j i = false := by
        have hi0 : (0 : Int) ≤ i := by omega
        simp only [hasSt, es, hi0, decide_true, Bool.true_and, decide_eq_false_iff_not] at g
        simp [upOk, es, g]
      rw [hwi]
      refine WLoop_drop [⟨0, false, 1, [i6 0, i6 0, i6 0, i6 0], none⟩] [_] rfl (by simp) (by simp) (by simp [inE, inA, inAs, hin, inAs_scals _ (enc_scals ns)]) ?_
      exact ih (i + 1) ⟨h', by rw [hf, hgo, hb]; simp⟩ (by omega)
  · have hi0 : ns.length - i = 0 := by omega
    exact LeV.ro rfl rfl (by rw [hf, hi0]; simp [upGo, optS])
theorem impl_prover_opened_k {ns : List Nd} {ks : List Int} {x : A} {st : List Int} {r t : Int} (hl : ns.length < 9223372036854775807) (hp : poolF ns = true) (hst : st.length = ns.length) (ht : hasF ns.length t = true) (hr : r = 5 ∨ r = 6 ∨ r = 7 ∨ r = 8) (hx : ∀ n H, viewA (n + 2) H x = some x) (ox : noOwn x = true) (hin : ∀ m, inA m x = true) {S : FuncId → Bool} {H : List Blk} {K : A → Dl → Prop} {zs : List A} (hS : S 82 = false) (hv : viewL (viewA 8 H) zs = some [aV ns ks x st, i6 r, i6 t]) (ho : noOwns zs = true ∨ nosl (.tup [aSt (optS (upF ns st r t)), .bool (upF ns st r t).isSome]) = true) (hK : K (.tup [aSt (optS (upF ns st r t)), .bool (upF ns st r t).isSome]) (.news [])) : @WCall' Go.Proofs.Tryz.prog S 82 zs H ⟨K⟩ :=
  WCall_pure hS (impl_prover_opened_c ns ks x st r t hl hp hst ht hr hx ox hin) hv ho (by simp) hK
end Go.Proofs.YtcfgiffgahdlbaaGreat.C

set_option linter.unusedVariables false
set_option linter.unusedSimpArgs false
set_option maxRecDepth 4000
namespace Go.Proofs.YtcfgiffgahdlbaaGreat.C
open Go.Sym Go.Proofs.YtcfgiffgahdlbaaGreat.I
theorem impl_prover_step_c (ns : List Nd) (ks : List Int) (x : A) (st : List Int) (t : Int) (hl : ns.length < 9223372036854775807) (hk : ks.length < 9223372036854775807) (hp : poolF ns = true) (hst : st.length = ns.length) (ht : hasF ns.length t = true) (hx : ∀ n H, viewA (n + 2) H x = some x) (ox : noOwn x = true) (hin : ∀ m, inA m x = true) : T 55 [aV ns ks x st, i6 t] [] (.tup [aSt (optS (stepF ns ks st t)), .bool (stepF ns ks st t).isSome]) ([]) := by
  refine semT' (S := S0) hm impl_prover_step_ok (Nat.le_of_ble_eq_true rfl) ?_
  unfold impl_prover_step; dsimp only
  have w6 : IntKind.i64.wrap 6 = 6 := wrap64 (by omega) (by omega)
  have w7 : IntKind.i64.wrap 7 = 7 := wrap64 (by omega) (by omega)
  have w8 : IntKind.i64.wrap 8 = 8 := wrap64 (by omega) (by omega)
  have w9 : IntKind.i64.wrap 9 = 9 := wrap64 (by omega) (by omega)
  obtain ⟨j, rfl, hj⟩ := hasN ht
  obtain ⟨q, hq⟩ := enc_at hj
  have h3 : 3 ≤ ns.length * 3 - j * 3 := by omega
  have en := nodeAt_nat hj
  simp [h3, hq, hj]
  refine slices_Contains_int_call (ks := ks) (t := j) hk rfl ?_; simp
  refine br_intro' (fun g => ?_) (fun g => ?_) <;> simp [g]
  · exact LeV.ro rfl rfl (by simp [stepF, g, optS])
  by_cases hpub : ns[j].k = 1 ∧ pubF ns[j].a = true
  · simp [hpub.1]
    refine impl_IsPublic_call rfl ?_; simp [hpub.2]
    exact LeV.ro rfl rfl (by simp [stepF, g, en, hpub, optS])
  · have hs0 : stepF ns ks st j = (madeF ns st j).or (restF ns st j) := by
      unfold stepF
      rw [en, if_neg (by simp [g]), if_neg hpub]
    by_cases hk1 : ns[j].k = 1
    · simp [hk1]
      have hpf : pubF ns[j].a = false := by simpa [hk1] using hpub
      refine impl_IsPublic_call rfl ?_; simp [hpf]
      refine impl_prover_made_k (ns := ns) (ks := ks) (x := x) (st := st) (t := j) hl hp hst ht hx ox rfl (by simp [hx]) (by simp [ox]) ?_; simp
      rcases hmd : madeF ns st j with _ | s
      rotate_left
      · have hm0 : madeS ns st j = s := by
          have : partsF (nodeAt ns j).k ≠ 0 := fun e => by simp [madeF, e] at hmd
          simp [madeS, this, hmd, optS]
        simp [hm0]
        exact LeV.ro rfl rfl (by rw [hs0]; simp [hmd, optS])
      simp
      refine impl_prover_share_k (ns := ns) (ks := ks) (x := x) (st := st) (t := j) hl hp hst ht hx ox rfl (by simp [hx]) (by simp [ox]) ?_; simp
      have he : stepF ns ks st j = restF ns st j := by rw [hs0, hmd]; rfl
      rcases hsh : shareF ns st j with _ | s
      rotate_left
      · simp [optS]
        exact LeV.ro rfl rfl (by rw [he]; simp [restF, hsh, optS])
      simp [optS]
      refine WLoop_step' ?_; simp
      refine impl_prover_opened_k (ns := ns) (ks := ks) (x := x) (st := st) (r := 5) (t := j) hl hp hst ht (by omega) hx ox hin rfl (by simp [hx]) (by simp [ox]) ?_; simp
      rcases h5 : upF ns st 5 j with _ | s
      rotate_left
      · simp [optS]
        exact LeV.ro rfl rfl (by rw [he]; simp [restF, optS, *])
      simp [optS, w6]
      refine WLoop_step' ?_; simp
      refine impl_prover_opened_k (ns := ns) (ks := ks) (x := x) (st := st) (r := 6) (t := j) hl hp hst ht (by omega) hx ox hin rfl (by simp [hx]) (by simp [ox]) ?_; simp
      rcases h6 : upF ns st 6 j with _ | s
      rotate_left
      · simp [optS]
        exact LeV.ro rfl rfl (by rw [he]; simp [restF, optS, *])
      simp [optS, w7]
      refine WLoop_step' ?_; simp
      refine impl_prover_opened_k (ns := ns) (ks := ks) (x := x) (st := st) (r := 7) (t := j) hl hp hst ht (by omega) hx ox hin rfl (by simp [hx]) (by simp [ox]) ?_; simp
      rcases h7 : upF ns st 7 j with _ | s
      rotate_left
      · simp [optS]
        exact LeV.ro rfl rfl (by rw [he]; simp [restF, optS, *])
      simp [optS, w8]
      refine WLoop_step' ?_; simp
      refine impl_prover_opened_k (ns := ns) (ks := ks) (x := x) (st := st) (r := 8) (t := j) hl hp hst ht (by omega) hx ox hin rfl (by simp [hx]) (by simp [ox]) ?_; simp
      rcases h8 : upF ns st 8 j with _ | s
      rotate_left
      · simp [optS]
        exact LeV.ro rfl rfl (by rw [he]; simp [restF, optS, *])
      simp [optS, w9]
      refine WLoop_step' ?_; simp
      exact LeV.ro rfl rfl (by rw [he]; simp [restF, optS, *])
    · simp [hk1]
      refine impl_prover_made_k (ns := ns) (ks := ks) (x := x) (st := st) (t := j) hl hp hst ht hx ox rfl (by simp [hx]) (by simp [ox]) ?_; simp
      rcases hmd : madeF ns st j with _ | s
      rotate_left
      · have hm0 : madeS ns st j = s := by
          have : partsF (nodeAt ns j).k ≠ 0 := fun e => by simp [madeF, e] at hmd
          simp [madeS, this, hmd, optS]
        simp [hm0]
        exact LeV.ro rfl rfl (by rw [hs0]; simp [hmd, optS])
      simp
      refine impl_prover_share_k (ns := ns) (ks := ks) (x := x) (st := st) (t := j) hl hp hst ht hx ox rfl (by simp [hx]) (by simp [ox]) ?_; simp
      have he : stepF ns ks st j = restF ns st j := by rw [hs0, hmd]; rfl
      rcases hsh : shareF ns st j with _ | s
      rotate_left
      · simp [optS]
        exact LeV.ro rfl rfl (by rw [he]; simp [restF, hsh, optS])
      simp [optS]
      refine WLoop_step' ?_; simp
      refine impl_prover_opened_k (ns := ns) (ks := ks) (x := x) (st := st) (r := 5) (t := j) hl hp hst ht (by omega) hx ox hin rfl (by simp [hx]) (by simp [ox]) ?_; simp
      rcases h5 : upF ns st 5 j with _ | s
      rotate_left
      · simp [optS]
        exact LeV.ro rfl rfl (by rw [he]; simp [restF, optS, *])
      simp [optS, w6]
      refine WLoop_step' ?_; simp
      refine impl_prover_opened_k (ns := ns) (ks := ks) (x := x) (st := st) (r := 6) (t := j) hl hp hst ht (by omega) hx ox hin rfl (by simp [hx]) (by simp [ox]) ?_; simp
      rcases h6 : upF ns st 6 j with _ | s
      rotate_left
      · simp [optS]
        exact LeV.ro rfl rfl (by rw [he]; simp [restF, optS, *])
      simp [optS, w7]
      refine WLoop_step' ?_; simp
      refine impl_prover_opened_k (ns := ns) (ks := ks) (x := x) (st := st) (r := 7) (t := j) hl hp hst ht (by omega) hx ox hin rfl (by simp [hx]) (by simp [ox]) ?_; simp
      rcases h7 : upF ns st 7 j with _ | s
      rotate_left
      · simp [optS]
        exact LeV.ro rfl rfl (by rw [he]; simp [restF, optS, *])
      simp [optS, w8]
      refine WLoop_step' ?_; simp
      refine impl_prover_opened_k (ns := ns) (ks := ks) (x := x) (st := st) (r := 8) (t := j) hl hp hst ht (by omega) hx ox hin rfl (by simp [hx]) (by simp [ox]) ?_; simp
      rcases h8 : upF ns st 8 j with _ | s
      rotate_left
      · simp [optS]
        exact LeV.ro rfl rfl (by rw [he]; simp [restF, optS, *])
      simp [optS, w9]
      refine WLoop_step' ?_; simp
      exact LeV.ro rfl rfl (by rw [he]; simp [restF, optS, *])
theorem impl_prover_step_k {ns : List Nd} {ks : List Int} {x : A} {st : List Int} {t : Int} (hl : ns.length < 9223372036854775807) (hk : ks.length < 9223372036854775807) (hp : poolF ns = true) (hst : st.length = ns.length) (ht : hasF ns.length t = true) (hx : ∀ n H, viewA (n + 2) H x = some x) (ox : noOwn x = true) (hin : ∀ m, inA m x = true) {S : FuncId → Bool} {H : List Blk} {K : A → Dl → Prop} {zs : List A} (hS : S 55 = false) (hv : viewL (viewA 8 H) zs = some [aV ns ks x st, i6 t]) (ho : noOwns zs = true ∨ nosl (.tup [aSt (optS (stepF ns ks st t)), .bool (stepF ns ks st t).isSome]) = true) (hK : K (.tup [aSt (optS (stepF ns ks st t)), .bool (stepF ns ks st t).isSome]) (.news [])) : @WCall' Go.Proofs.Tryz.prog S 55 zs H ⟨K⟩ :=
  WCall_pure hS (impl_prover_step_c ns ks x st t hl hk hp hst ht hx ox hin) hv ho (by simp) hK
abbrev vrow (ns : List Nd) (ks : List Int) (x : A) : Blk := ⟨0, false, 1, [A.pt [A.sl ns.length (enc ns)], aI ks, x, A.ref 0 0 0 ns.length], none⟩
theorem impl_Pool_proofAll_c (ns : List Nd) (ks : List Int) (hl : ns.length < 9223372036854775807) (hk : ks.length < 9223372036854775807) (hp : poolF ns = true) : T 32 [.pt [.sl ns.length (enc ns)], aI ks] [] (tref' 0 (allV ns ks)) ([tblk (allV ns ks)]) := by
  refine semT' (S := S0) hm impl_Pool_proofAll_ok (Nat.le_of_ble_eq_true rfl) ?_
  unfold impl_Pool_proofAll; dsimp only
  have h5 := poolF_len hp
  simp
  refine ck_intro' (by omega) ?_; simp
  rw [← ints_rep', show List.replicate ns.length (0 : Int) = fillI ns.length 0 by simp [fillI]]
  refine WLoop_fam (fun i : Nat => [(5, A.ptr 1 0 0), (22, i6 ns.length), (23, i6 i)]) (fun i => [⟨0, false, 1, ints (fillI ns.length i), none⟩, vrow ns ks .nil]) (fun i => ns.length - i)
    (fun i => i ≤ ns.length) ?_ 0 (Nat.zero_le _)
  intro i hi ih
  simp
  refine br_intro' (fun h => ?_) (fun h => ?_) <;> (have h0 := h) <;> (try simp at h) <;> try simp [h0, h]
  · have h' := h
    have hw := wrap_succ (n := i) (by omega)
    have hfl := fillI_len hi
    repeat (refine ck_intro' (by first | omega | (simp; omega) | kernel_rfl) ?_; try simp [h', hfl, ints_set', fillI_set h', hw])
    exact ih (i + 1) h' (by omega)
  have hi0 : i = ns.length := by omega
  subst hi0
  rw [show fillI ns.length ns.length = List.replicate ns.length (-1) by simp [fillI]]
  refine WLoop_virtC 4 (b := 1) (off := 2) (k := vrow ns ks .nil) rfl rfl rfl rfl ?_
  refine WLoop_fam (fun p : List Int × List Sp × Bool => [(5, A.ptr 1 0 0), (7, A.bool p.2.2)]) (fun p => [⟨0, false, 1, ints p.1, none⟩, vrow ns ks (tref' 2 p.2.1), tblk p.2.1]) (fun p => 2 * negs p.1 + p.2.2.toNat)
    (fun p => p.1.length = ns.length ∧ p.2.1.length + negs p.1 = ns.length ∧ (p.2.2 = false → allV ns ks = p.2.1) ∧ ∃ k, negs p.1 ≤ k ∧ (p.2.2 = true → allV ns ks = (allGo ns ks (k + 1) p.1 p.2.1).2)) ?_ (List.replicate ns.length (-1), [], true) ⟨by simp, by simp [negs_rep], by simp, ns.length, by simp [negs_rep], fun _ => rfl⟩
  rintro ⟨st, out, more⟩ ⟨hst, hon, hfin, k, hnk, hgo⟩ ih
  simp only at hst hon hfin hnk hgo
  cases more with
  | false =>
    simp
    rw [hfin rfl]
    first | (refine LeV.tell [none] ?_ ?_ ?_ <;> (simp; done)) | (refine LeV.tell [some 0] ?_ ?_ ?_ <;> (simp; done)) | (refine LeV.tell [some 1] ?_ ?_ ?_ <;> (simp; done)) | (refine LeV.tell [some 2] ?_ ?_ ?_ <;> (simp; done)) | (refine LeV.tell [some 3] ?_ ?_ ?_ <;> (simp; done)) | (refine LeV.tell [some 4] ?_ ?_ ?_ <;> (simp; done)) | (refine LeV.tell [some 5] ?_ ?_ ?_ <;> (simp; done)) | (refine LeV.tell [some 6] ?_ ?_ ?_ <;> (simp; done)) | (refine LeV.tell [some 7] ?_ ?_ ?_ <;> (simp; done)) | (refine LeV.tell [some 8] ?_ ?_ ?_ <;> (simp; done)) | (refine LeV.tell [some 9] ?_ ?_ ?_ <;> (simp; done)) | (refine LeV.tell [some 10] ?_ ?_ ?_ <;> (simp; done)) | (refine LeV.tell [some 11] ?_ ?_ ?_ <;> (simp; done)) | (refine LeV.tell [some 12] ?_ ?_ ?_ <;> (simp; done)) | (refine LeV.tell [some 13] ?_ ?_ ?_ <;> (simp; done)) | (refine LeV.tell [some 14] ?_ ?_ ?_ <;> (simp; done)) | (refine LeV.tell [some 15] ?_ ?_ ?_ <;> (simp; done))
  | true =>
    simp
    refine WLoop_fam (fun p : Nat × List Int × List Sp × Bool => [(5, A.ptr 1 0 0), (7, A.bool p.2.2.2), (34, i6 ns.length), (35, i6 p.1)]) (fun p => [⟨0, false, 1, ints p.2.1, none⟩, vrow ns ks (tref' 2 p.2.2.1), tblk p.2.2.1]) (fun p => ns.length - p.1)
      (fun p => p.1 ≤ ns.length ∧ p.2.1.length = ns.length ∧ p.2.2.1.length + negs p.2.1 = ns.length ∧ negs p.2.1 ≤ negs st ∧ (p.2.2.2 = true → negs p.2.1 < negs st) ∧ passGo ns ks ns.length 0 st out false = passGo ns ks (ns.length - p.1) p.1 p.2.1 p.2.2.1 p.2.2.2) ?_ (0, st, out, false) ⟨Nat.zero_le _, hst, hon, Nat.le_refl _, by simp, rfl⟩
    rintro ⟨t, st1, out1, m1⟩ ⟨htl, hst1, hon1, hle, hlt, hpg⟩ ih2
    simp only at htl hst1 hon1 hle hlt hpg
    simp
    refine br_intro' (fun u => ?_) (fun u => ?_) <;> (have u0 := u) <;> simp at u <;> simp [u0, u]
    · have htn : t < ns.length := by omega
      have hts : t < st1.length := by omega
      have hw := wrap_succ (n := t) (by omega)
      have hpn : passGo ns ks (ns.length - t) t st1 out1 m1 = if 0 ≤ st1[t] then passGo ns ks (ns.length - (t + 1)) (t + 1) st1 out1 m1
        else match stepF ns ks st1 t with
        | some s => passGo ns ks (ns.length - (t + 1)) (t + 1) (st1.set t out1.length) (out1 ++ [s]) true
        | none => passGo ns ks (ns.length - (t + 1)) (t + 1) st1 out1 m1 := by
        rw [show ns.length - t = (ns.length - (t + 1)) + 1 by omega, passGo, sv_nat hts]
        try rfl
      simp [hst1, htn]
      refine br_intro' (fun g => ?_) (fun g => ?_) <;> (have g0 := g) <;> simp only [decide_eq_true_eq, decide_eq_false_iff_not] at g <;> simp [g0, g]
      · rw [hw]
        exact ih2 (t + 1, st1, out1, m1) ⟨by omega, hst1, hon1, hle, hlt, by rw [hpg, hpn, if_pos g]⟩ (by simp; omega)
      · refine impl_prover_step_k (ns := ns) (ks := ks) (x := aSs out1) (st := st1) (t := t) hl hk hp hst1 (hasF_of htn) (by simp) (by simp) (by simp) rfl (by simp [← hst1]) (by simp) ?_; simp
        have hneg : st1[t] < 0 := by omega
        have hns := negs_set hts hneg (v := (out1.length : Int)) (by omega)
        have hlo : out1.length < 500 := by omega
        rcases hs : stepF ns ks st1 t with _ | s
        · simp [optS]
          rw [hw]
          refine WLoop_drop [⟨0, false, 1, ints st1, none⟩, vrow ns ks (tref' 2 out1), tblk out1] [_] rfl (by simp) (by simp [inAs_scals _ (enc_scals ns), inAs_scals _ (ints_scals ks)]) (by simp) ?_
          exact ih2 (t + 1, st1, out1, m1) ⟨by omega, hst1, hon1, hle, hlt, by rw [hpg, hpn, if_neg g, hs]⟩ (by simp; omega)
        · simp [optS, hst1, htn]
          repeat (refine ck_intro' (by first | omega | (simp; omega) | kernel_rfl) ?_; try simp [hst1, htn, ints_set', hw])
          refine WLoop_drop [⟨0, false, 1, ints (st1.set t out1.length), none⟩, vrow ns ks (tref' 2 (out1 ++ [s])), tblk (out1 ++ [s])] [_, _] (by simp [encS_snoc]; exact ⟨rfl, rfl⟩) (by simp) (by simp [inAs_scals _ (enc_scals ns), inAs_scals _ (ints_scals ks)]) (by simp) ?_
          exact ih2 (t + 1, st1.set t out1.length, out1 ++ [s], true) ⟨by omega, by simp [hst1], by simp; omega, by simp; omega, fun _ => by simp; omega, by rw [hpg, hpn, if_neg g, hs]⟩ (by simp; omega)
    · have htn : t = ns.length := by omega
      subst htn
      rw [Nat.sub_self] at hpg
      refine WLoop_env [(5, A.ptr 1 0 0), (7, A.bool m1)] ?_ ?_
      · intro t y hy
        simp [Sym.get] at hy ⊢
        (repeat' split at hy) <;> simp_all
      refine ih (st1, out1, m1) ⟨hst1, hon1, ?_, ?_⟩ ?_
      · intro e
        simp only at e
        subst e
        rw [hgo rfl, allGo_end hpg]
      · cases m1 with
        | false => exact ⟨_, Nat.le_refl _, by simp⟩
        | true =>
          have := hlt rfl
          obtain ⟨k', rfl⟩ : ∃ k', k = k' + 1 := ⟨k - 1, by omega⟩
          exact ⟨k', by simp; omega, fun _ => by rw [hgo rfl, allGo_more hpg]⟩
      · cases m1 with
        | false => simp; omega
        | true => have := hlt rfl; simp; omega
theorem impl_Pool_proofAll_k {ns : List Nd} {ks : List Int} (hl : ns.length < 9223372036854775807) (hk : ks.length < 9223372036854775807) (hp : poolF ns = true) {S : FuncId → Bool} {H : List Blk} {K : A → Dl → Prop} {zs : List A} (hS : S 32 = false) (hv : viewL (viewA 8 H) zs = some [.pt [.sl ns.length (enc ns)], aI ks]) (ho : noOwns zs = true ∨ nosl (tref' 0 (allV ns ks)) = true ∧ noslBlks ([tblk (allV ns ks)]) = true) (hK : K (shiftA H.length (tref' 0 (allV ns ks))) (.news (([tblk (allV ns ks)]).map (shiftB H.length)))) : @WCall' Go.Proofs.Tryz.prog S 32 zs H ⟨K⟩ :=
  WCall_ro' hS hv (impl_Pool_proofAll_c ns ks hl hk hp) rfl ho hK
theorem impl_ProofAll_c (ns : List Nd) (ks : List Int) (hl : ns.length < 9223372036854775807) (hk : ks.length < 9223372036854775807) : T 14 [aP ns, aI ks] [] (tref' 0 (allSt ns ks)) ([tblk (allSt ns ks)]) := by
  refine semT' (S := S0) hm impl_ProofAll_ok (Nat.le_of_ble_eq_true rfl) ?_
  unfold impl_ProofAll; dsimp only
  simp
  refine impl_KnowOk_k (ns := ns) (ks := ks) hl hk rfl (by simp) (by simp [noslBlks]) ?_; simp [shiftB]
  refine br_intro' (fun hkp => ?_) (fun hkp => ?_) <;> simp [hkp]
  · rw [show allSt ns ks = allV ns ks from if_pos hkp]
    refine impl_Pool_proofAll_k (ns := ns) (ks := ks) hl hk (kpF_pool hkp) rfl (by simp) (by simp [noslBlks]) ?_; simp [shiftB]
    first | (refine LeV.tell [none] ?_ ?_ ?_ <;> (simp; done)) | (refine LeV.tell [some 0] ?_ ?_ ?_ <;> (simp; done)) | (refine LeV.tell [some 1] ?_ ?_ ?_ <;> (simp; done)) | (refine LeV.tell [some 2] ?_ ?_ ?_ <;> (simp; done)) | (refine LeV.tell [some 3] ?_ ?_ ?_ <;> (simp; done)) | (refine LeV.tell [some 4] ?_ ?_ ?_ <;> (simp; done)) | (refine LeV.tell [some 5] ?_ ?_ ?_ <;> (simp; done)) | (refine LeV.tell [some 6] ?_ ?_ ?_ <;> (simp; done)) | (refine LeV.tell [some 7] ?_ ?_ ?_ <;> (simp; done)) | (refine LeV.tell [some 8] ?_ ?_ ?_ <;> (simp; done)) | (refine LeV.tell [some 9] ?_ ?_ ?_ <;> (simp; done)) | (refine LeV.tell [some 10] ?_ ?_ ?_ <;> (simp; done)) | (refine LeV.tell [some 11] ?_ ?_ ?_ <;> (simp; done)) | (refine LeV.tell [some 12] ?_ ?_ ?_ <;> (simp; done)) | (refine LeV.tell [some 13] ?_ ?_ ?_ <;> (simp; done)) | (refine LeV.tell [some 14] ?_ ?_ ?_ <;> (simp; done)) | (refine LeV.tell [some 15] ?_ ?_ ?_ <;> (simp; done))
  · rw [show allSt ns ks = [] from if_neg (by simp [hkp])]
    first | (refine LeV.tell [none] ?_ ?_ ?_ <;> (simp; done)) | (refine LeV.tell [some 0] ?_ ?_ ?_ <;> (simp; done)) | (refine LeV.tell [some 1] ?_ ?_ ?_ <;> (simp; done)) | (refine LeV.tell [some 2] ?_ ?_ ?_ <;> (simp; done)) | (refine LeV.tell [some 3] ?_ ?_ ?_ <;> (simp; done)) | (refine LeV.tell [some 4] ?_ ?_ ?_ <;> (simp; done)) | (refine LeV.tell [some 5] ?_ ?_ ?_ <;> (simp; done)) | (refine LeV.tell [some 6] ?_ ?_ ?_ <;> (simp; done)) | (refine LeV.tell [some 7] ?_ ?_ ?_ <;> (simp; done)) | (refine LeV.tell [some 8] ?_ ?_ ?_ <;> (simp; done)) | (refine LeV.tell [some 9] ?_ ?_ ?_ <;> (simp; done)) | (refine LeV.tell [some 10] ?_ ?_ ?_ <;> (simp; done)) | (refine LeV.tell [some 11] ?_ ?_ ?_ <;> (simp; done)) | (refine LeV.tell [some 12] ?_ ?_ ?_ <;> (simp; done)) | (refine LeV.tell [some 13] ?_ ?_ ?_ <;> (simp; done)) | (refine LeV.tell [some 14] ?_ ?_ ?_ <;> (simp; done)) | (refine LeV.tell [some 15] ?_ ?_ ?_ <;> (simp; done))
theorem impl_ProofAll_k {ns : List Nd} {ks : List Int} (hl : ns.length < 9223372036854775807) (hk : ks.length < 9223372036854775807) {S : FuncId → Bool} {H : List Blk} {K : A → Dl → Prop} {zs : List A} (hS : S 14 = false) (hv : viewL (viewA 8 H) zs = some [aP ns, aI ks]) (ho : noOwns zs = true ∨ nosl (tref' 0 (allSt ns ks)) = true ∧ noslBlks ([tblk (allSt ns ks)]) = true) (hK : K (shiftA H.length (tref' 0 (allSt ns ks))) (.news (([tblk (allSt ns ks)]).map (shiftB H.length)))) : @WCall' Go.Proofs.Tryz.prog S 14 zs H ⟨K⟩ :=
  WCall_ro' hS hv (impl_ProofAll_c ns ks hl hk) rfl ho hK
end Go.Proofs.YtcfgiffgahdlbaaGreat.C
