/- Whether a step holds, in the program. Conditions: those that each theorem names. -/
import Derived.Test.YtcfgiffgahdlbaaXE2
set_option linter.unusedVariables false
set_option linter.unusedSimpArgs false
set_option maxRecDepth 4000
namespace Go.Proofs.Ytcfgiffgahdlbaa.C
open Go.Sym Go.Proofs.Ytcfgiffgahdlbaa.I
/-- The terms of the steps that a step names; false: it may not. -/
def termsV (ns : List Nd) (ss : List Sp) (s : Sp) : Int × Int × Bool :=
  if needsF ns s < 0 ∨ (needsF ns s < 1 ∧ s.a ≠ 0) ∨ (needsF ns s < 2 ∧ s.b ≠ 0) then (0, 0, false)
  else if 0 < needsF ns s ∧ inF s.a 0 ((ss.length : Int) - 1) = false then (0, 0, false)
  else if 1 < needsF ns s ∧ inF s.b 0 ((ss.length : Int) - 1) = false then (0, 0, false)
  else (if 0 < needsF ns s then termAt ss ss.length s.a else -1, if 1 < needsF ns s then termAt ss ss.length s.b else -1, true)
theorem impl_Pool_terms_c (ns : List Nd) (r : List A) (ss : List Sp) (s : Sp) (hl : ns.length < 9223372036854775807) (hls : ss.length < 9223372036854775807) (hp : poolF ns = true) (ht : hasF ns.length s.t = true) (hv : ∀ n H, viewL (viewA (n + 1) H) r = some r) (ho : noOwns r = true) : T 91 [.pt (.sl ns.length (enc ns) :: r), aSs ss, aSt s] [] (.tup [i6 (termsV ns ss s).1, i6 (termsV ns ss s).2.1, .bool (termsV ns ss s).2.2]) ([]) := by
  refine semT' (S := S0) hm impl_Pool_terms_ok (Nat.le_of_ble_eq_true rfl) ?_
  unfold impl_Pool_terms; dsimp only
  have hw := wrap_len (n := ss.length) (by omega)
  simp
  refine WCall_pure rfl (impl_Pool_needs_c ns r s hl hp ht hv ho) (by simp [hv]) (by simp [ho]) (by simp) ?_; simp
  rcases needsF_in hp ht with hn | hn | hn | hn <;> simp [hn]
  · exact LeV.ro rfl rfl (by simp [termsV, hn])
  · repeat (any_goals (first | (refine br_intro' (fun h => ?_) (fun h => ?_) <;> (have k0 := h) <;> (try simp at h) <;> try simp [k0, h])))
    all_goals exact LeV.ro rfl rfl (by simp [termsV, hn, *])
  · refine br_intro' (fun h => ?_) (fun h => ?_) <;> (try simp at h) <;> try simp [h]
    · rw [hw]
      refine impl_inRange_call rfl ?_; simp
      refine br_intro' (fun g => ?_) (fun g => ?_) <;> simp [g]
      · have g' := g
        simp [inF] at g'
        obtain ⟨j, e⟩ : ∃ j : Nat, s.a = j := ⟨s.a.toNat, by omega⟩
        have hj : j < ss.length := by omega
        obtain ⟨q, hr⟩ := encS_at hj
        have h4 : 2 ≤ ss.length * 4 - j * 4 := by omega
        rw [e]
        simp [hr, hj]
        rw [e] at g
        exact LeV.ro rfl rfl (by simp [termsV, termAt, hn, e, g, h, hj])
      · exact LeV.ro rfl rfl (by simp [termsV, hn, h, g])
    · exact LeV.ro rfl rfl (by simp [termsV, hn, h])
  · rw [hw]
    refine impl_inRange_call rfl ?_; simp
    refine br_intro' (fun g => ?_) (fun g => ?_) <;> simp [g]
    · have g' := g
      simp [inF] at g'
      obtain ⟨j, e⟩ : ∃ j : Nat, s.a = j := ⟨s.a.toNat, by omega⟩
      have hj : j < ss.length := by omega
      obtain ⟨q, hr⟩ := encS_at hj
      have h4 : 2 ≤ ss.length * 4 - j * 4 := by omega
      rw [e]
      simp [hr, hj]
      rw [hw]
      refine impl_inRange_call rfl ?_; simp
      refine br_intro' (fun f => ?_) (fun f => ?_) <;> simp [f]
      · have f' := f
        simp [inF] at f'
        obtain ⟨i, e2⟩ : ∃ i : Nat, s.b = i := ⟨s.b.toNat, by omega⟩
        have hi : i < ss.length := by omega
        obtain ⟨q2, hr2⟩ := encS_at hi
        have h42 : 2 ≤ ss.length * 4 - i * 4 := by omega
        rw [e2]
        simp [hr2, hi]
        rw [e] at g
        rw [e2] at f
        exact LeV.ro rfl rfl (by simp [termsV, termAt, hn, e, g, e2, f, hj, hi])
      · rw [e] at g
        exact LeV.ro rfl rfl (by simp [termsV, hn, e, g, f])
    · exact LeV.ro rfl rfl (by simp [termsV, hn, g])
theorem termAt_neg {ss : List Sp} {m : Nat} {k : Int} (h : inF k 0 ((m : Int) - 1) = false) : termAt ss m k = -1 := by simp [termAt, h]
theorem termAt_in {ns : List Nd} {ss : List Sp} {m : Nat} (hml : m ≤ ss.length) (hss : ∀ j : Nat, j < m → (h : j < ss.length) → hasF ns.length ss[j].t = true) (k : Int) : (inF k 0 ((m : Int) - 1) = false ∧ termAt ss m k = -1) ∨ inF k 0 ((m : Int) - 1) = true ∧ hasF ns.length (termAt ss m k) = true := by
  cases h : inF k 0 ((m : Int) - 1) with
  | false => exact .inl ⟨rfl, by simp [termAt, h]⟩
  | true =>
    right
    have h' := h
    simp [inF] at h'
    obtain ⟨j, rfl⟩ : ∃ j : Nat, k = j := ⟨k.toNat, by omega⟩
    have hj : j < ss.length := by omega
    have := hss j (by omega) hj
    refine ⟨rfl, ?_⟩
    simp [termAt, h, hj]
    exact this
theorem partsF_0 {k : Int} (h : partsF k = 0) : k = 1 := by
  unfold partsF at h
  split at h
  · assumption
  · split at h
    · omega
    · split at h <;> omega
theorem partsF_ne {k : Int} (h : partsF k ≠ 0) : k ≠ 1 := fun e => h (by simp [partsF, e])
theorem hasF_pos {m : Nat} {t : Int} (h : hasF m t = true) : ¬ t < 0 := by simp [hasF, inF] at h; omega
end Go.Proofs.Ytcfgiffgahdlbaa.C
