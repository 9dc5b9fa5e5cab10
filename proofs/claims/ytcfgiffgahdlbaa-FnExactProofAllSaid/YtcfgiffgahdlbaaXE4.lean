/- Whether a step holds, in the program. Conditions: those that each theorem names. -/
import Derived.Test.YtcfgiffgahdlbaaXE3
set_option linter.unusedVariables false
set_option linter.unusedSimpArgs false
set_option maxRecDepth 4000
namespace Go.Proofs.Ytcfgiffgahdlbaa.C
open Go.Sym Go.Proofs.Ytcfgiffgahdlbaa.I
def stepOkF (ns : List Nd) (ks : List Int) (ss : List Sp) (s : Sp) : Bool := hasF ns.length s.t && holdsF ns ks s (termAt ss ss.length s.a) (termAt ss ss.length s.b)
theorem impl_Pool_holds_c (ns : List Nd) (r : List A) (ks : List Int) (ss : List Sp) (s : Sp) (hl : ns.length < 9223372036854775807) (hk : ks.length < 9223372036854775807) (hls : ss.length < 9223372036854775807) (hp : poolF ns = true) (hss : ∀ j : Nat, (h : j < ss.length) → hasF ns.length ss[j].t = true) (hv : ∀ n H, viewL (viewA (n + 1) H) r = some r) (ho : noOwns r = true) : T 70 [.pt (.sl ns.length (enc ns) :: r), aI ks, aSs ss, aSt s] [] (.bool (stepOkF ns ks ss s)) ([]) := by
  refine semT' (S := S0) hm impl_Pool_holds_ok (Nat.le_of_ble_eq_true rfl) ?_
  unfold impl_Pool_holds; dsimp only
  simp
  refine WCall_pure rfl (impl_Pool_isTerm_c ns r s.t hl) (by simp [hv]) (by simp [ho]) (by simp) ?_; simp
  refine br_intro' (fun h => ?_) (fun h => ?_) <;> simp [h]
  rotate_left
  · exact LeV.ro rfl rfl (by simp [stepOkF, h])
  refine WCall_pure rfl (impl_Pool_terms_c ns r ss s hl hls hp h hv ho) (by simp [hv]) (by simp [ho]) (by simp) ?_; simp
  have hta := termAt_in (Nat.le_refl _) (fun j hj hj' => hss j hj') s.a
  have htb := termAt_in (Nat.le_refl _) (fun j hj hj' => hss j hj') s.b
  obtain ⟨j, ej, hj⟩ := hasN h
  obtain ⟨q, hr⟩ := enc_at hj
  have h3 : 3 ≤ ns.length * 3 - j * 3 := by omega
  have en := nodeAt_nat hj
  have hpk := parts_kind hp hj
  rcases needsF_in hp h with hn | hn | hn | hn
  · simp [termsV, hn]
    exact LeV.ro rfl rfl (by simp [stepOkF, holdsF, lackF, hn])
  · by_cases hz : s.a = 0 ∧ s.b = 0
    · rw [show termsV ns ss s = (-1, -1, true) by simp [termsV, hn, hz]]
      simp [ej, h3, hr, hj]
      refine ck_intro' (by kernel_rfl) ?_; simp [ej, h3, hr, hj]
      rw [← ej]
      have hst : stepOkF ns ks ss s = ruleF ns ks s (termAt ss ss.length s.a) (termAt ss ss.length s.b) := by simp [stepOkF, h, holdsF, lackF, hn, hz]
      have hpl : s.r = 3 → partsL (nodeAt ns s.t) = [] ∧ ns[j].k = 1 := fun e => by
        have hz0 : partsF ns[j].k = 0 := by rw [← en, ← ej]; simpa [needsF, e] using hn
        exact ⟨by rw [ej, en]; simp [partsL, hz0], partsF_0 hz0⟩
      rcases needs_0 hn with h0 | h0 | h0
      all_goals try simp [h0]
      all_goals simp only [h0, true_implies, reduceCtorEq, false_implies] at hpl
      all_goals repeat (any_goals (first | (refine br_intro' (fun h => ?_) (fun h => ?_) <;> (have k0 := h) <;> (try simp [h0] at h) <;> try simp [k0, h, h0, hn, h3, hr, hj]) | (refine ck_intro' (by first | omega | kernel_rfl) ?_; simp [h0, hn, h3, hr, hj]) | (refine slices_Contains_int_call (ks := ks) (t := s.t) hk rfl ?_; simp) | (refine impl_IsPublic_call rfl ?_; simp) | (refine WCall_ro' rfl (by simp [hv]) (impl_Pool_parts_c ns r s.t hl (by assumption)) rfl (.inr ⟨by simp, by simp [noslBlks]⟩) ?_; simp [shiftB, hpl])))
      all_goals exact LeV.ro rfl rfl (by rw [hst]; first | (simp [ruleF, hn, h0, ej, en, *]; done) | (simp [ruleF, hn, h0, ej, en, *]; omega) | (simp [ruleF, hn, h0, ej, en, *]; grind))
    · rw [show termsV ns ss s = (0, 0, false) by simp [termsV, hn]; omega]
      simp
      exact LeV.ro rfl rfl (by simp [stepOkF, holdsF, lackF, hn]; omega)
  · rcases hta with ⟨h1, h2⟩ | ⟨h1, h2⟩
    · have et : (termsV ns ss s).2.2 = false := by simp only [termsV, hn, h1]; split <;> simp
      rw [et]
      simp
      exact LeV.ro rfl rfl (by simp [stepOkF, holdsF, lackF, hn, h2])
    · by_cases hz : s.b = 0
      · rw [show termsV ns ss s = (termAt ss ss.length s.a, -1, true) by simp [termsV, hn, hz, h1]]
        obtain ⟨ja, eja, hja⟩ := hasN h2
        obtain ⟨qa, hra⟩ := enc_at hja
        have h3a : 3 ≤ ns.length * 3 - ja * 3 := by omega
        have ena := nodeAt_nat hja
        simp [ej, h3, hr, hj]
        refine ck_intro' (by kernel_rfl) ?_; simp [ej, h3, hr, hj]
        rw [← ej]
        have hst : stepOkF ns ks ss s = ruleF ns ks s (termAt ss ss.length s.a) (termAt ss ss.length s.b) := by simp [stepOkF, h, holdsF, lackF, hn, hz, hasF_pos h2]
        rw [hst, eja]
        have hpl : s.r = 3 → partsL (nodeAt ns s.t) = [ns[j].a] ∧ ns[j].k ≠ 1 := fun e => by
          have hz0 : partsF ns[j].k = 1 := by rw [← en, ← ej]; simpa [needsF, e] using hn
          exact ⟨by rw [ej, en]; simp [partsL, hz0], partsF_ne (by omega)⟩
        rcases needs_1 hn with h0 | h0 | h0 | h0
        all_goals try simp [h0]
        all_goals simp only [h0, true_implies, reduceCtorEq, false_implies] at hpl
        all_goals repeat (any_goals (first | (refine br_intro' (fun h => ?_) (fun h => ?_) <;> (have k0 := h) <;> (try simp [h0] at h) <;> try simp [k0, h, h0, hn, h3, hr, hj, h3a, hra, hja]) | (refine ck_intro' (by first | omega | kernel_rfl) ?_; simp [h0, hn, h3, hr, hj, h3a, hra, hja]) | (refine slices_Contains_int_call (ks := ks) (t := s.t) hk rfl ?_; simp) | (refine impl_IsPublic_call rfl ?_; simp) | (refine WCall_ro' rfl (by simp [hv]) (impl_Pool_parts_c ns r s.t hl (by assumption)) rfl (.inr ⟨by simp, by simp [noslBlks]⟩) ?_; simp [shiftB, hpl])))
        all_goals exact LeV.ro rfl rfl (by first | (simp [ruleF, hn, h0, ej, en, *]; done) | (simp [ruleF, hn, h0, ej, en, *]; omega) | (simp [ruleF, hn, h0, ej, en, *]; grind))
      · rw [show (termsV ns ss s).2.2 = false by simp [termsV, hn, hz]]
        simp
        exact LeV.ro rfl rfl (by simp [stepOkF, holdsF, lackF, hn, hz])
  · rcases hta with ⟨h1, h2⟩ | ⟨h1, h2⟩
    · have et : (termsV ns ss s).2.2 = false := by simp only [termsV, hn, h1]; simp
      rw [et]
      simp
      exact LeV.ro rfl rfl (by simp [stepOkF, holdsF, lackF, hn, h2])
    rcases htb with ⟨k1, k2⟩ | ⟨k1, k2⟩
    · have et : (termsV ns ss s).2.2 = false := by simp only [termsV, hn, h1, k1]; simp
      rw [et]
      simp
      exact LeV.ro rfl rfl (by simp [stepOkF, holdsF, lackF, hn, k2])
    · rw [show termsV ns ss s = (termAt ss ss.length s.a, termAt ss ss.length s.b, true) by simp [termsV, hn, h1, k1]]
      obtain ⟨ja, eja, hja⟩ := hasN h2
      obtain ⟨qa, hra⟩ := enc_at hja
      have h3a : 3 ≤ ns.length * 3 - ja * 3 := by omega
      have ena := nodeAt_nat hja
      obtain ⟨jb, ejb, hjb⟩ := hasN k2
      obtain ⟨qb, hrb⟩ := enc_at hjb
      have h3b : 3 ≤ ns.length * 3 - jb * 3 := by omega
      have enb := nodeAt_nat hjb
      simp [ej, h3, hr, hj]
      refine ck_intro' (by kernel_rfl) ?_; simp [ej, h3, hr, hj]
      rw [← ej]
      have hst : stepOkF ns ks ss s = ruleF ns ks s (termAt ss ss.length s.a) (termAt ss ss.length s.b) := by simp [stepOkF, h, holdsF, lackF, hn, hasF_pos h2, hasF_pos k2]
      rw [hst, eja, ejb]
      have hpl : s.r = 3 → partsL (nodeAt ns s.t) = [ns[j].a, ns[j].b] ∧ ns[j].k ≠ 1 := fun e => by
        have hz0 : partsF ns[j].k = 2 := by rw [← en, ← ej]; simpa [needsF, e] using hn
        exact ⟨by rw [ej, en]; simp [partsL, hz0], partsF_ne (by omega)⟩
      rcases needs_2 hn with h0 | h0 | h0
      all_goals try simp [h0]
      all_goals simp only [h0, true_implies, reduceCtorEq, false_implies] at hpl
      all_goals repeat (any_goals (first | (refine br_intro' (fun h => ?_) (fun h => ?_) <;> (have k0 := h) <;> (try simp [h0] at h) <;> try simp [k0, h, h0, hn, h3, hr, hj, h3a, hra, hja, h3b, hrb, hjb]) | (refine ck_intro' (by first | omega | kernel_rfl) ?_; simp [h0, hn, h3, hr, hj, h3a, hra, hja, h3b, hrb, hjb]) | (refine slices_Contains_int_call (ks := ks) (t := s.t) hk rfl ?_; simp) | (refine impl_IsPublic_call rfl ?_; simp) | (refine WCall_ro' rfl (by simp [hv]) (impl_Pool_parts_c ns r s.t hl (by assumption)) rfl (.inr ⟨by simp, by simp [noslBlks]⟩) ?_; simp [shiftB, hpl])))
      all_goals exact LeV.ro rfl rfl (by first | (simp [ruleF, hn, h0, ej, en, *]; done) | (simp [ruleF, hn, h0, ej, en, *]; omega) | (simp [ruleF, hn, h0, ej, en, *]; grind))
end Go.Proofs.Ytcfgiffgahdlbaa.C
