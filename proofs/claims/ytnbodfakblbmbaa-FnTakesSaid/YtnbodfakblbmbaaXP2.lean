/- What the parts of a term answer, and likeness of lists of numbers. Conditions: those that each theorem names. -/
import Derived.Test.YtnbodfakblbmbaaXP1
import Derived.Test.YtnbodfakblbmbaaXS1
set_option linter.unusedVariables false
set_option linter.unusedSimpArgs false
namespace Go.Proofs.Ytnbodfakblbmbaa.C
open Go.Sym Go.Proofs.Ytnbodfakblbmbaa.I
def partsL (n : Nd) : List Int := if partsF n.k = 1 then [n.a] else if partsF n.k = 2 then [n.a, n.b] else []
theorem impl_Pool_parts_c (ns : List Nd) (r : List A) (t : Int) (hl : ns.length < 9223372036854775807) (ht : hasF ns.length t = true) : T 95 [.pt (.sl ns.length (enc ns) :: r), i6 t] [] (jref 0 (partsL (nodeAt ns t))) ([jblk (partsL (nodeAt ns t))]) := by
  refine semT' (S := S0) hm impl_Pool_parts_ok (Nat.le_of_ble_eq_true rfl) ?_
  unfold impl_Pool_parts; dsimp only
  obtain ⟨j, rfl, hj⟩ := hasF_nat ht
  obtain ⟨q, hr⟩ := enc_at hj
  have h3 : 3 ≤ ns.length * 3 - j * 3 := by omega
  rw [nodeAt_nat hj]
  simp [h3, hr, hj]
  refine impl_count_call rfl ?_; simp
  refine br_intro' (fun h => ?_) (fun h => ?_) <;> simp at h <;> simp [h]
  · rw [show partsL ns[j] = [ns[j].a] from if_pos h]
    first | (refine LeV.tell [none] ?_ ?_ ?_ <;> (simp [ints]; done)) | (refine LeV.tell [some 0] ?_ ?_ ?_ <;> (simp [ints]; done)) | (refine LeV.tell [some 1] ?_ ?_ ?_ <;> (simp [ints]; done)) | (refine LeV.tell [some 2] ?_ ?_ ?_ <;> (simp [ints]; done)) | (refine LeV.tell [some 3] ?_ ?_ ?_ <;> (simp [ints]; done)) | (refine LeV.tell [some 4] ?_ ?_ ?_ <;> (simp [ints]; done)) | (refine LeV.tell [some 5] ?_ ?_ ?_ <;> (simp [ints]; done)) | (refine LeV.tell [some 6] ?_ ?_ ?_ <;> (simp [ints]; done)) | (refine LeV.tell [some 7] ?_ ?_ ?_ <;> (simp [ints]; done)) | (refine LeV.tell [some 8] ?_ ?_ ?_ <;> (simp [ints]; done)) | (refine LeV.tell [some 9] ?_ ?_ ?_ <;> (simp [ints]; done)) | (refine LeV.tell [some 10] ?_ ?_ ?_ <;> (simp [ints]; done)) | (refine LeV.tell [some 11] ?_ ?_ ?_ <;> (simp [ints]; done)) | (refine LeV.tell [some 12] ?_ ?_ ?_ <;> (simp [ints]; done)) | (refine LeV.tell [some 13] ?_ ?_ ?_ <;> (simp [ints]; done)) | (refine LeV.tell [some 14] ?_ ?_ ?_ <;> (simp [ints]; done)) | (refine LeV.tell [some 15] ?_ ?_ ?_ <;> (simp [ints]; done))
  refine br_intro' (fun h1 => ?_) (fun h1 => ?_) <;> simp at h1 <;> simp [h1]
  · rw [show partsL ns[j] = [ns[j].a, ns[j].b] by simp [partsL, h, h1]]
    first | (refine LeV.tell [none] ?_ ?_ ?_ <;> (simp [ints]; done)) | (refine LeV.tell [some 0] ?_ ?_ ?_ <;> (simp [ints]; done)) | (refine LeV.tell [some 1] ?_ ?_ ?_ <;> (simp [ints]; done)) | (refine LeV.tell [some 2] ?_ ?_ ?_ <;> (simp [ints]; done)) | (refine LeV.tell [some 3] ?_ ?_ ?_ <;> (simp [ints]; done)) | (refine LeV.tell [some 4] ?_ ?_ ?_ <;> (simp [ints]; done)) | (refine LeV.tell [some 5] ?_ ?_ ?_ <;> (simp [ints]; done)) | (refine LeV.tell [some 6] ?_ ?_ ?_ <;> (simp [ints]; done)) | (refine LeV.tell [some 7] ?_ ?_ ?_ <;> (simp [ints]; done)) | (refine LeV.tell [some 8] ?_ ?_ ?_ <;> (simp [ints]; done)) | (refine LeV.tell [some 9] ?_ ?_ ?_ <;> (simp [ints]; done)) | (refine LeV.tell [some 10] ?_ ?_ ?_ <;> (simp [ints]; done)) | (refine LeV.tell [some 11] ?_ ?_ ?_ <;> (simp [ints]; done)) | (refine LeV.tell [some 12] ?_ ?_ ?_ <;> (simp [ints]; done)) | (refine LeV.tell [some 13] ?_ ?_ ?_ <;> (simp [ints]; done)) | (refine LeV.tell [some 14] ?_ ?_ ?_ <;> (simp [ints]; done)) | (refine LeV.tell [some 15] ?_ ?_ ?_ <;> (simp [ints]; done))
  · rw [show partsL ns[j] = [] by simp [partsL, h, h1]]
    first | (refine LeV.tell [none] ?_ ?_ ?_ <;> (simp [ints]; done)) | (refine LeV.tell [some 0] ?_ ?_ ?_ <;> (simp [ints]; done)) | (refine LeV.tell [some 1] ?_ ?_ ?_ <;> (simp [ints]; done)) | (refine LeV.tell [some 2] ?_ ?_ ?_ <;> (simp [ints]; done)) | (refine LeV.tell [some 3] ?_ ?_ ?_ <;> (simp [ints]; done)) | (refine LeV.tell [some 4] ?_ ?_ ?_ <;> (simp [ints]; done)) | (refine LeV.tell [some 5] ?_ ?_ ?_ <;> (simp [ints]; done)) | (refine LeV.tell [some 6] ?_ ?_ ?_ <;> (simp [ints]; done)) | (refine LeV.tell [some 7] ?_ ?_ ?_ <;> (simp [ints]; done)) | (refine LeV.tell [some 8] ?_ ?_ ?_ <;> (simp [ints]; done)) | (refine LeV.tell [some 9] ?_ ?_ ?_ <;> (simp [ints]; done)) | (refine LeV.tell [some 10] ?_ ?_ ?_ <;> (simp [ints]; done)) | (refine LeV.tell [some 11] ?_ ?_ ?_ <;> (simp [ints]; done)) | (refine LeV.tell [some 12] ?_ ?_ ?_ <;> (simp [ints]; done)) | (refine LeV.tell [some 13] ?_ ?_ ?_ <;> (simp [ints]; done)) | (refine LeV.tell [some 14] ?_ ?_ ?_ <;> (simp [ints]; done)) | (refine LeV.tell [some 15] ?_ ?_ ?_ <;> (simp [ints]; done))
def partsOfF (ns : List Nd) (t : Int) : List Int := if hasF ns.length t = true ∧ poolF ns = true then partsL (nodeAt ns t) else []
theorem impl_PartsOf_c (ns : List Nd) (t : Int) (hl : ns.length < 9223372036854775807) : T 44 [aP ns, i6 t] [] (jref 0 (partsOfF ns t)) ([jblk (partsOfF ns t)]) := by
  refine semT' (S := S0) hm impl_PartsOf_ok (Nat.le_of_ble_eq_true rfl) ?_
  unfold impl_PartsOf; dsimp only
  simp
  refine WCall_pure rfl (impl_Pool_isTerm_c ns [] t hl) (by simp) (by simp) (by simp) ?_; simp
  refine br_intro' (fun h => ?_) (fun h => ?_) <;> simp [h]
  · refine impl_PoolOk_k (ns := ns) rfl (by simp) (by simp [noslBlks]) ?_; simp [shiftB]
    refine br_intro' (fun h1 => ?_) (fun h1 => ?_) <;> simp [h1]
    · rw [show partsOfF ns t = partsL (nodeAt ns t) from if_pos ⟨h, h1⟩]
      refine WCall_ro' rfl (by simp) (impl_Pool_parts_c ns [] t hl h) rfl (.inr ⟨by simp, by simp [noslBlks]⟩) ?_; simp [shiftB]
      first | (refine LeV.tell [none] ?_ ?_ ?_ <;> (simp; done)) | (refine LeV.tell [some 0] ?_ ?_ ?_ <;> (simp; done)) | (refine LeV.tell [some 1] ?_ ?_ ?_ <;> (simp; done)) | (refine LeV.tell [some 2] ?_ ?_ ?_ <;> (simp; done)) | (refine LeV.tell [some 3] ?_ ?_ ?_ <;> (simp; done)) | (refine LeV.tell [some 4] ?_ ?_ ?_ <;> (simp; done)) | (refine LeV.tell [some 5] ?_ ?_ ?_ <;> (simp; done)) | (refine LeV.tell [some 6] ?_ ?_ ?_ <;> (simp; done)) | (refine LeV.tell [some 7] ?_ ?_ ?_ <;> (simp; done)) | (refine LeV.tell [some 8] ?_ ?_ ?_ <;> (simp; done)) | (refine LeV.tell [some 9] ?_ ?_ ?_ <;> (simp; done)) | (refine LeV.tell [some 10] ?_ ?_ ?_ <;> (simp; done)) | (refine LeV.tell [some 11] ?_ ?_ ?_ <;> (simp; done)) | (refine LeV.tell [some 12] ?_ ?_ ?_ <;> (simp; done)) | (refine LeV.tell [some 13] ?_ ?_ ?_ <;> (simp; done)) | (refine LeV.tell [some 14] ?_ ?_ ?_ <;> (simp; done)) | (refine LeV.tell [some 15] ?_ ?_ ?_ <;> (simp; done))
    · rw [show partsOfF ns t = [] from if_neg (by simp [h1])]
      first | (refine LeV.tell [none] ?_ ?_ ?_ <;> (simp; done)) | (refine LeV.tell [some 0] ?_ ?_ ?_ <;> (simp; done)) | (refine LeV.tell [some 1] ?_ ?_ ?_ <;> (simp; done)) | (refine LeV.tell [some 2] ?_ ?_ ?_ <;> (simp; done)) | (refine LeV.tell [some 3] ?_ ?_ ?_ <;> (simp; done)) | (refine LeV.tell [some 4] ?_ ?_ ?_ <;> (simp; done)) | (refine LeV.tell [some 5] ?_ ?_ ?_ <;> (simp; done)) | (refine LeV.tell [some 6] ?_ ?_ ?_ <;> (simp; done)) | (refine LeV.tell [some 7] ?_ ?_ ?_ <;> (simp; done)) | (refine LeV.tell [some 8] ?_ ?_ ?_ <;> (simp; done)) | (refine LeV.tell [some 9] ?_ ?_ ?_ <;> (simp; done)) | (refine LeV.tell [some 10] ?_ ?_ ?_ <;> (simp; done)) | (refine LeV.tell [some 11] ?_ ?_ ?_ <;> (simp; done)) | (refine LeV.tell [some 12] ?_ ?_ ?_ <;> (simp; done)) | (refine LeV.tell [some 13] ?_ ?_ ?_ <;> (simp; done)) | (refine LeV.tell [some 14] ?_ ?_ ?_ <;> (simp; done)) | (refine LeV.tell [some 15] ?_ ?_ ?_ <;> (simp; done))
  · rw [show partsOfF ns t = [] from if_neg (by simp [h])]
    first | (refine LeV.tell [none] ?_ ?_ ?_ <;> (simp; done)) | (refine LeV.tell [some 0] ?_ ?_ ?_ <;> (simp; done)) | (refine LeV.tell [some 1] ?_ ?_ ?_ <;> (simp; done)) | (refine LeV.tell [some 2] ?_ ?_ ?_ <;> (simp; done)) | (refine LeV.tell [some 3] ?_ ?_ ?_ <;> (simp; done)) | (refine LeV.tell [some 4] ?_ ?_ ?_ <;> (simp; done)) | (refine LeV.tell [some 5] ?_ ?_ ?_ <;> (simp; done)) | (refine LeV.tell [some 6] ?_ ?_ ?_ <;> (simp; done)) | (refine LeV.tell [some 7] ?_ ?_ ?_ <;> (simp; done)) | (refine LeV.tell [some 8] ?_ ?_ ?_ <;> (simp; done)) | (refine LeV.tell [some 9] ?_ ?_ ?_ <;> (simp; done)) | (refine LeV.tell [some 10] ?_ ?_ ?_ <;> (simp; done)) | (refine LeV.tell [some 11] ?_ ?_ ?_ <;> (simp; done)) | (refine LeV.tell [some 12] ?_ ?_ ?_ <;> (simp; done)) | (refine LeV.tell [some 13] ?_ ?_ ?_ <;> (simp; done)) | (refine LeV.tell [some 14] ?_ ?_ ?_ <;> (simp; done)) | (refine LeV.tell [some 15] ?_ ?_ ?_ <;> (simp; done))
theorem impl_PartsOf_k {ns : List Nd} {t : Int} (hl : ns.length < 9223372036854775807) {S : FuncId → Bool} {H : List Blk} {K : A → Dl → Prop} {zs : List A} (hS : S 44 = false) (hv : viewL (viewA 8 H) zs = some [aP ns, i6 t]) (ho : noOwns zs = true ∨ nosl (jref 0 (partsOfF ns t)) = true ∧ noslBlks ([jblk (partsOfF ns t)]) = true) (hK : K (shiftA H.length (jref 0 (partsOfF ns t))) (.news (([jblk (partsOfF ns t)]).map (shiftB H.length)))) : @WCall' Go.Proofs.Try.prog S 44 zs H ⟨K⟩ :=
  WCall_ro' hS hv (impl_PartsOf_c ns t hl) rfl ho hK
theorem laws_sameInts_c (ns ms : List Int) (hl : ns.length < 9223372036854775807) (hl2 : ms.length < 9223372036854775807) : T 42 [aI ns, aI ms] [] (.bool (decide (ns = ms))) ([]) := by
  refine semT' (S := S0) hm laws_sameInts_ok (Nat.le_of_ble_eq_true rfl) ?_
  unfold laws_sameInts; dsimp only
  simp
  refine br_intro' (fun h => ?_) (fun h => ?_) <;> (try simp at h) <;> (try simp [h])
  · refine WLoop_fam (fun j : Nat => [(0, aI ns), (1, aI ms), (5, i6 j)]) (fun _ => []) (fun j => ns.length - j)
      (fun j => j ≤ ns.length ∧ ns.take j = ms.take j) ?_ 0 ⟨Nat.zero_le _, by simp⟩
    intro j ⟨hj, hf⟩ ih
    simp
    have hq : ns.length = ms.length := by omega
    refine br_intro' (fun h => ?_) (fun h => ?_) <;> (have h0 := h) <;> (try simp at h) <;> try simp [h0, h]
    · have hm : j < ms.length := by omega
      have hw : IntKind.i64.wrap ((j : Int) + 1) = j + 1 := wrap64 (by omega) (by omega)
      have h' := h
      simp [h', hm]
      first | (refine ck_intro' (by kernel_rfl) ?_; try simp) | skip
      refine br_intro' (fun g => ?_) (fun g => ?_) <;> simp at g <;> simp [g]
      · rw [hw]
        exact ih (j + 1) ⟨h', by rw [List.take_succ_eq_append_getElem h', List.take_succ_eq_append_getElem hm, hf, g]⟩ (by omega)
      · exact LeV.ro rfl rfl (by simp; intro e; subst e; exact g rfl)
    · have h0 : j = ns.length := by omega
      exact LeV.ro rfl rfl (by rw [h0, List.take_length, hq, List.take_length] at hf; simp [hf])
  · exact LeV.ro rfl rfl (by simp; intro e; rw [e] at h; exact h rfl)
theorem laws_sameInts_call {ns ms : List Int} (hl : ns.length < 9223372036854775807) (hl2 : ms.length < 9223372036854775807) {S : FuncId → Bool} {H : List Blk} {K : A → Dl → Prop} (hS : S 42 = false) (hK : K (.bool (decide (ns = ms))) (.news [])) : @WCall' Go.Proofs.Try.prog S 42 [aI ns, aI ms] H ⟨K⟩ :=
  WCall_pure hS (laws_sameInts_c ns ms hl hl2) (by simp) (by simp) (by simp) hK
theorem laws_sameInts_k {ns ms : List Int} (hl : ns.length < 9223372036854775807) (hl2 : ms.length < 9223372036854775807) {S : FuncId → Bool} {H : List Blk} {K : A → Dl → Prop} {zs : List A} (hS : S 42 = false) (hv : viewL (viewA 8 H) zs = some [aI ns, aI ms]) (ho : noOwns zs = true ∨ nosl (.bool (decide (ns = ms))) = true) (hK : K (.bool (decide (ns = ms))) (.news [])) : @WCall' Go.Proofs.Try.prog S 42 zs H ⟨K⟩ :=
  WCall_pure hS (laws_sameInts_c ns ms hl hl2) hv ho (by simp) hK
end Go.Proofs.Ytnbodfakblbmbaa.C
