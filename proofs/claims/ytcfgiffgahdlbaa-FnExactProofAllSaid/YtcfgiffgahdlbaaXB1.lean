/- What the parts of a term, and looking for a number, answer. Conditions: those that each theorem names. -/
import Derived.Test.YtcfgiffgahdlbaaXC5
set_option linter.unusedVariables false
set_option linter.unusedSimpArgs false
namespace Go.Proofs.Ytcfgiffgahdlbaa.C
open Go.Sym Go.Proofs.Ytcfgiffgahdlbaa.I
def nodeAt (ns : List Nd) (t : Int) : Nd := ns.getD t.toNat ⟨0, 0, 0⟩
theorem nodeAt_nat {ns : List Nd} {j : Nat} (h : j < ns.length) : nodeAt ns j = ns[j] := by simp [nodeAt, h]
/-- The parts of a node of a right pool stand before it. -/
theorem parts_in {ns : List Nd} (hp : poolF ns = true) {j : Nat} (h : j < ns.length) (hk : partsF ns[j].k = 2) : (∃ a : Nat, ns[j].a = a ∧ a < j) ∧ ∃ b : Nat, ns[j].b = b ∧ b < j := by
  have := (okFrom_all hp h).1
  simp [rightF, hk, inF] at this
  exact ⟨⟨ns[j].a.toNat, by omega, by omega⟩, ns[j].b.toNat, by omega, by omega⟩
theorem part_in {ns : List Nd} (hp : poolF ns = true) {j : Nat} (h : j < ns.length) (hk : partsF ns[j].k = 1) : ∃ a : Nat, ns[j].a = a ∧ a < j := by
  have := (okFrom_all hp h).1
  simp [rightF, hk, inF] at this
  exact ⟨ns[j].a.toNat, by omega, by omega⟩
theorem parts_kind {ns : List Nd} (hp : poolF ns = true) {j : Nat} (h : j < ns.length) : partsF ns[j].k = 0 ∨ partsF ns[j].k = 1 ∨ partsF ns[j].k = 2 := by
  have := (okFrom_all hp h).1
  unfold rightF at this
  split at this
  · exact .inl ‹_›
  · split at this
    · exact .inr (.inl ‹_›)
    · split at this
      · exact .inr (.inr ‹_›)
      · cases this
theorem hasF_of {m j : Nat} (h : j < m) : hasF m j = true := by simp [hasF, inF]; omega
theorem hasN {m : Nat} {t : Int} (h : hasF m t = true) : ∃ j : Nat, t = j ∧ j < m := by
  simp [hasF, inF] at h
  exact ⟨t.toNat, by omega, by omega⟩
abbrev jblk (xs : List Int) : Blk := ⟨xs.length, decide (xs.length = 0), 1, ints xs, none⟩
abbrev jref (b : Nat) (xs : List Int) : A := .ref b xs.length 0 xs.length
@[simp] theorem ints_take' (xs : List Int) : (ints xs).take xs.length = ints xs := List.take_of_length_le (by simp)
@[simp] theorem ints_tells' (H H' : List Blk) (g : List (Option Nat)) (xs : List Int) : Tells H H' g (ints xs) (ints xs) := Tells_scals _ (ints_scals xs)
@[simp] theorem ints_one (xs : List Int) : (ints xs).all A.one = true := one_scals _ (ints_scals xs)
@[simp] theorem ints_inAs (m : Nat) (xs : List Int) : inAs m (ints xs) = true := inAs_scals _ (ints_scals xs)
@[simp] theorem ints_nil : ints [] = [] := rfl
theorem ints_snoc (xs : List Int) (x : Int) : ints (xs ++ [x]) = ints xs ++ [i6 x] := by simp [ints]
/-- The parts of a node. -/
def partsL (n : Nd) : List Int := if partsF n.k = 1 then [n.a] else if partsF n.k = 2 then [n.a, n.b] else []
theorem impl_Pool_parts_c (ns : List Nd) (r : List A) (t : Int) (hl : ns.length < 9223372036854775807) (ht : hasF ns.length t = true) : T 66 [.pt (.sl ns.length (enc ns) :: r), i6 t] [] (jref 0 (partsL (nodeAt ns t))) ([jblk (partsL (nodeAt ns t))]) := by
  refine semT' (S := S0) hm impl_Pool_parts_ok (Nat.le_of_ble_eq_true rfl) ?_
  unfold impl_Pool_parts; dsimp only
  obtain ⟨j, rfl, hj⟩ := hasN ht
  obtain ⟨q, hr⟩ := enc_at hj
  have h3 : 3 ≤ ns.length * 3 - j * 3 := by omega
  rw [nodeAt_nat hj]
  simp [h3, hr, hj]
  refine impl_count_call rfl ?_; simp
  refine br_intro' (fun h => ?_) (fun h => ?_) <;> simp at h <;> simp [h]
  · rw [show partsL ns[j] = [ns[j].a] from if_pos h]
    first | (refine LeV.tell [none] ?_ ?_ ?_ <;> (simp [ints]; done)) | (refine LeV.tell [some 0] ?_ ?_ ?_ <;> (simp [ints]; done)) | (refine LeV.tell [some 1] ?_ ?_ ?_ <;> (simp [ints]; done)) | (refine LeV.tell [some 2] ?_ ?_ ?_ <;> (simp [ints]; done)) | (refine LeV.tell [some 3] ?_ ?_ ?_ <;> (simp [ints]; done)) | (refine LeV.tell [some 4] ?_ ?_ ?_ <;> (simp [ints]; done)) | (refine LeV.tell [some 5] ?_ ?_ ?_ <;> (simp [ints]; done)) | (refine LeV.tell [some 6] ?_ ?_ ?_ <;> (simp [ints]; done)) | (refine LeV.tell [some 7] ?_ ?_ ?_ <;> (simp [ints]; done)) | (refine LeV.tell [some 8] ?_ ?_ ?_ <;> (simp [ints]; done)) | (refine LeV.tell [some 9] ?_ ?_ ?_ <;> (simp [ints]; done)) | (refine LeV.tell [some 10] ?_ ?_ ?_ <;> (simp [ints]; done)) | (refine LeV.tell [some 11] ?_ ?_ ?_ <;> (simp [ints]; done)) | (refine LeV.tell [some 12] ?_ ?_ ?_ <;> (simp [ints]; done)) | (refine LeV.tell [some 13] ?_ ?_ ?_ <;> (simp [ints]; done)) | (refine LeV.tell [some 14] ?_ ?_ ?_ <;> (simp [ints]; done)) | (refine LeV.tell [some 15] ?_ ?_ ?_ <;> (simp [ints]; done))
  refine br_intro' (fun h1 => ?_) (fun h1 => ?_) <;> simp at h1 <;> simp [h1]
  · rw [show partsL ns[j] = [ns[j].a, ns[j].b] by simp [partsL, h, h1]]
    first | (refine LeV.tell [none] ?_ ?_ ?_ <;> (simp [ints]; done)) | (refine LeV.tell [some 0] ?_ ?_ ?_ <;> (simp [ints]; done)) | (refine LeV.tell [some 1] ?_ ?_ ?_ <;> (simp [ints]; done)) | (refine LeV.tell [some 2] ?_ ?_ ?_ <;> (simp [ints]; done)) | (refine LeV.tell [some 3] ?_ ?_ ?_ <;> (simp [ints]; done)) | (refine LeV.tell [some 4] ?_ ?_ ?_ <;> (simp [ints]; done)) | (refine LeV.tell [some 5] ?_ ?_ ?_ <;> (simp [ints]; done)) | (refine LeV.tell [some 6] ?_ ?_ ?_ <;> (simp [ints]; done)) | (refine LeV.tell [some 7] ?_ ?_ ?_ <;> (simp [ints]; done)) | (refine LeV.tell [some 8] ?_ ?_ ?_ <;> (simp [ints]; done)) | (refine LeV.tell [some 9] ?_ ?_ ?_ <;> (simp [ints]; done)) | (refine LeV.tell [some 10] ?_ ?_ ?_ <;> (simp [ints]; done)) | (refine LeV.tell [some 11] ?_ ?_ ?_ <;> (simp [ints]; done)) | (refine LeV.tell [some 12] ?_ ?_ ?_ <;> (simp [ints]; done)) | (refine LeV.tell [some 13] ?_ ?_ ?_ <;> (simp [ints]; done)) | (refine LeV.tell [some 14] ?_ ?_ ?_ <;> (simp [ints]; done)) | (refine LeV.tell [some 15] ?_ ?_ ?_ <;> (simp [ints]; done))
  · rw [show partsL ns[j] = [] by simp [partsL, h, h1]]
    first | (refine LeV.tell [none] ?_ ?_ ?_ <;> (simp [ints]; done)) | (refine LeV.tell [some 0] ?_ ?_ ?_ <;> (simp [ints]; done)) | (refine LeV.tell [some 1] ?_ ?_ ?_ <;> (simp [ints]; done)) | (refine LeV.tell [some 2] ?_ ?_ ?_ <;> (simp [ints]; done)) | (refine LeV.tell [some 3] ?_ ?_ ?_ <;> (simp [ints]; done)) | (refine LeV.tell [some 4] ?_ ?_ ?_ <;> (simp [ints]; done)) | (refine LeV.tell [some 5] ?_ ?_ ?_ <;> (simp [ints]; done)) | (refine LeV.tell [some 6] ?_ ?_ ?_ <;> (simp [ints]; done)) | (refine LeV.tell [some 7] ?_ ?_ ?_ <;> (simp [ints]; done)) | (refine LeV.tell [some 8] ?_ ?_ ?_ <;> (simp [ints]; done)) | (refine LeV.tell [some 9] ?_ ?_ ?_ <;> (simp [ints]; done)) | (refine LeV.tell [some 10] ?_ ?_ ?_ <;> (simp [ints]; done)) | (refine LeV.tell [some 11] ?_ ?_ ?_ <;> (simp [ints]; done)) | (refine LeV.tell [some 12] ?_ ?_ ?_ <;> (simp [ints]; done)) | (refine LeV.tell [some 13] ?_ ?_ ?_ <;> (simp [ints]; done)) | (refine LeV.tell [some 14] ?_ ?_ ?_ <;> (simp [ints]; done)) | (refine LeV.tell [some 15] ?_ ?_ ?_ <;> (simp [ints]; done))
theorem impl_Pool_parts_k {ns : List Nd} {r : List A} {t : Int} (hl : ns.length < 9223372036854775807) (ht : hasF ns.length t = true) {S : FuncId → Bool} {H : List Blk} {K : A → Dl → Prop} {zs : List A} (hS : S 66 = false) (hv : viewL (viewA 8 H) zs = some [.pt (.sl ns.length (enc ns) :: r), i6 t]) (ho : noOwns zs = true ∨ nosl (jref 0 (partsL (nodeAt ns t))) = true ∧ noslBlks ([jblk (partsL (nodeAt ns t))]) = true) (hK : K (shiftA H.length (jref 0 (partsL (nodeAt ns t)))) (.news (([jblk (partsL (nodeAt ns t))]).map (shiftB H.length)))) : @WCall' Go.Proofs.Try.prog S 66 zs H ⟨K⟩ :=
  WCall_ro' hS hv (impl_Pool_parts_c ns r t hl ht) rfl ho hK
theorem spec_l1PartsOf_c (ns : List Nd) (t : Int) (hl : ns.length < 9223372036854775807) (ht : hasF ns.length t = true) : T 72 [aP ns, i6 t] [] (jref 0 (partsL (nodeAt ns t))) ([jblk (partsL (nodeAt ns t))]) := by
  refine semT' (S := S0) hm spec_l1PartsOf_ok (Nat.le_of_ble_eq_true rfl) ?_
  unfold spec_l1PartsOf; dsimp only
  obtain ⟨j, rfl, hj⟩ := hasN ht
  obtain ⟨q, hr⟩ := enc_at hj
  have h3 : 3 ≤ ns.length * 3 - j * 3 := by omega
  rw [nodeAt_nat hj]
  simp [h3, hr, hj]
  refine spec_l1Parts_call rfl ?_; simp
  refine br_intro' (fun h => ?_) (fun h => ?_) <;> simp at h <;> simp [h]
  · rw [show partsL ns[j] = [ns[j].a] from if_pos h]
    first | (refine LeV.tell [none] ?_ ?_ ?_ <;> (simp [ints]; done)) | (refine LeV.tell [some 0] ?_ ?_ ?_ <;> (simp [ints]; done)) | (refine LeV.tell [some 1] ?_ ?_ ?_ <;> (simp [ints]; done)) | (refine LeV.tell [some 2] ?_ ?_ ?_ <;> (simp [ints]; done)) | (refine LeV.tell [some 3] ?_ ?_ ?_ <;> (simp [ints]; done)) | (refine LeV.tell [some 4] ?_ ?_ ?_ <;> (simp [ints]; done)) | (refine LeV.tell [some 5] ?_ ?_ ?_ <;> (simp [ints]; done)) | (refine LeV.tell [some 6] ?_ ?_ ?_ <;> (simp [ints]; done)) | (refine LeV.tell [some 7] ?_ ?_ ?_ <;> (simp [ints]; done)) | (refine LeV.tell [some 8] ?_ ?_ ?_ <;> (simp [ints]; done)) | (refine LeV.tell [some 9] ?_ ?_ ?_ <;> (simp [ints]; done)) | (refine LeV.tell [some 10] ?_ ?_ ?_ <;> (simp [ints]; done)) | (refine LeV.tell [some 11] ?_ ?_ ?_ <;> (simp [ints]; done)) | (refine LeV.tell [some 12] ?_ ?_ ?_ <;> (simp [ints]; done)) | (refine LeV.tell [some 13] ?_ ?_ ?_ <;> (simp [ints]; done)) | (refine LeV.tell [some 14] ?_ ?_ ?_ <;> (simp [ints]; done)) | (refine LeV.tell [some 15] ?_ ?_ ?_ <;> (simp [ints]; done))
  refine br_intro' (fun h1 => ?_) (fun h1 => ?_) <;> simp at h1 <;> simp [h1]
  · rw [show partsL ns[j] = [ns[j].a, ns[j].b] by simp [partsL, h, h1]]
    first | (refine LeV.tell [none] ?_ ?_ ?_ <;> (simp [ints]; done)) | (refine LeV.tell [some 0] ?_ ?_ ?_ <;> (simp [ints]; done)) | (refine LeV.tell [some 1] ?_ ?_ ?_ <;> (simp [ints]; done)) | (refine LeV.tell [some 2] ?_ ?_ ?_ <;> (simp [ints]; done)) | (refine LeV.tell [some 3] ?_ ?_ ?_ <;> (simp [ints]; done)) | (refine LeV.tell [some 4] ?_ ?_ ?_ <;> (simp [ints]; done)) | (refine LeV.tell [some 5] ?_ ?_ ?_ <;> (simp [ints]; done)) | (refine LeV.tell [some 6] ?_ ?_ ?_ <;> (simp [ints]; done)) | (refine LeV.tell [some 7] ?_ ?_ ?_ <;> (simp [ints]; done)) | (refine LeV.tell [some 8] ?_ ?_ ?_ <;> (simp [ints]; done)) | (refine LeV.tell [some 9] ?_ ?_ ?_ <;> (simp [ints]; done)) | (refine LeV.tell [some 10] ?_ ?_ ?_ <;> (simp [ints]; done)) | (refine LeV.tell [some 11] ?_ ?_ ?_ <;> (simp [ints]; done)) | (refine LeV.tell [some 12] ?_ ?_ ?_ <;> (simp [ints]; done)) | (refine LeV.tell [some 13] ?_ ?_ ?_ <;> (simp [ints]; done)) | (refine LeV.tell [some 14] ?_ ?_ ?_ <;> (simp [ints]; done)) | (refine LeV.tell [some 15] ?_ ?_ ?_ <;> (simp [ints]; done))
  · rw [show partsL ns[j] = [] by simp [partsL, h, h1]]
    first | (refine LeV.tell [none] ?_ ?_ ?_ <;> (simp [ints]; done)) | (refine LeV.tell [some 0] ?_ ?_ ?_ <;> (simp [ints]; done)) | (refine LeV.tell [some 1] ?_ ?_ ?_ <;> (simp [ints]; done)) | (refine LeV.tell [some 2] ?_ ?_ ?_ <;> (simp [ints]; done)) | (refine LeV.tell [some 3] ?_ ?_ ?_ <;> (simp [ints]; done)) | (refine LeV.tell [some 4] ?_ ?_ ?_ <;> (simp [ints]; done)) | (refine LeV.tell [some 5] ?_ ?_ ?_ <;> (simp [ints]; done)) | (refine LeV.tell [some 6] ?_ ?_ ?_ <;> (simp [ints]; done)) | (refine LeV.tell [some 7] ?_ ?_ ?_ <;> (simp [ints]; done)) | (refine LeV.tell [some 8] ?_ ?_ ?_ <;> (simp [ints]; done)) | (refine LeV.tell [some 9] ?_ ?_ ?_ <;> (simp [ints]; done)) | (refine LeV.tell [some 10] ?_ ?_ ?_ <;> (simp [ints]; done)) | (refine LeV.tell [some 11] ?_ ?_ ?_ <;> (simp [ints]; done)) | (refine LeV.tell [some 12] ?_ ?_ ?_ <;> (simp [ints]; done)) | (refine LeV.tell [some 13] ?_ ?_ ?_ <;> (simp [ints]; done)) | (refine LeV.tell [some 14] ?_ ?_ ?_ <;> (simp [ints]; done)) | (refine LeV.tell [some 15] ?_ ?_ ?_ <;> (simp [ints]; done))
theorem spec_l1PartsOf_k {ns : List Nd} {t : Int} (hl : ns.length < 9223372036854775807) (ht : hasF ns.length t = true) {S : FuncId → Bool} {H : List Blk} {K : A → Dl → Prop} {zs : List A} (hS : S 72 = false) (hv : viewL (viewA 8 H) zs = some [aP ns, i6 t]) (ho : noOwns zs = true ∨ nosl (jref 0 (partsL (nodeAt ns t))) = true ∧ noslBlks ([jblk (partsL (nodeAt ns t))]) = true) (hK : K (shiftA H.length (jref 0 (partsL (nodeAt ns t)))) (.news (([jblk (partsL (nodeAt ns t))]).map (shiftB H.length)))) : @WCall' Go.Proofs.Try.prog S 72 zs H ⟨K⟩ :=
  WCall_ro' hS hv (spec_l1PartsOf_c ns t hl ht) rfl ho hK
/-- Looking for a number. -/
def idxF : List Int → Int → Int → Int
  | [], _, _ => -1
  | x :: xs, t, i => if x = t then i else idxF xs t (i + 1)
theorem idxF_neg (t : Int) : ∀ (xs : List Int) (i : Int), 0 ≤ i → (0 ≤ idxF xs t i ↔ t ∈ xs)
  | [], i, _ => by simp [idxF]
  | x :: xs, i, hi => by
    unfold idxF
    by_cases e : x = t
    · rw [if_pos e]; simp [e, hi]
    · rw [if_neg e, idxF_neg t xs (i + 1) (by omega)]
      simp only [List.mem_cons]
      exact ⟨.inr, fun h => h.resolve_left fun q => e q.symm⟩
def hasK (ks : List Int) (t : Int) : Bool := decide (t ∈ ks)
theorem slices_Index_int_c (ks : List Int) (t : Int) (hl : ks.length < 9223372036854775807) : T 108 [aI ks, i6 t] [] (i6 (idxF ks t 0)) ([]) := by
  refine semT' (S := S0) hm slices_Index_int_ok (Nat.le_of_ble_eq_true rfl) ?_
  unfold slices_Index_int; dsimp only
  simp
  refine WLoop_fam (fun j : Nat => [(0, aI ks), (1, i6 t), (7, i6 ks.length), (8, i6 j)]) (fun _ => []) (fun j => ks.length - j)
    (fun j => j ≤ ks.length ∧ idxF ks t 0 = idxF (ks.drop j) t j) ?_ 0 ⟨Nat.zero_le _, rfl⟩
  intro j ⟨hj, hf⟩ ih
  simp
  refine br_intro' (fun h => ?_) (fun h => ?_) <;> (have h0 := h) <;> (try simp at h) <;> try simp [h0, h]
  · have hd : ks.drop j = ks[j] :: ks.drop (j + 1) := List.drop_eq_getElem_cons h
    have hw : IntKind.i64.wrap ((j : Int) + 1) = j + 1 := wrap64 (by omega) (by omega)
    have h' := h
    try simp [h']
    refine br_intro' (fun g => ?_) (fun g => ?_) <;> (try simp at g) <;> (try simp [g])
    · have e : ks[j] = t := by first | exact g | exact g.symm
      have hi : idxF ks t 0 = j := by rw [hf, hd, idxF, if_pos e]
      exact LeV.ro rfl rfl (by subst e; rw [hi]; rfl)
    · have e : ¬ ks[j] = t := fun q => by first | exact g q | exact g q.symm
      rw [hw]
      refine ih (j + 1) ⟨h', ?_⟩ (by omega)
      rw [hf, hd, idxF, if_neg e]
      rfl
  · have hi : idxF ks t 0 = -1 := by rw [hf, List.drop_of_length_le h]; rfl
    exact LeV.ro rfl rfl (by rw [hi]; rfl)
theorem slices_Index_int_call {ks : List Int} {t : Int} (hl : ks.length < 9223372036854775807) {S : FuncId → Bool} {H : List Blk} {K : A → Dl → Prop} (hS : S 108 = false) (hK : K (i6 (idxF ks t 0)) (.news [])) : @WCall' Go.Proofs.Try.prog S 108 [aI ks, i6 t] H ⟨K⟩ :=
  WCall_pure hS (slices_Index_int_c ks t hl) (by simp) (by simp) (by simp) hK
theorem slices_Index_int_k {ks : List Int} {t : Int} (hl : ks.length < 9223372036854775807) {S : FuncId → Bool} {H : List Blk} {K : A → Dl → Prop} {zs : List A} (hS : S 108 = false) (hv : viewL (viewA 8 H) zs = some [aI ks, i6 t]) (ho : noOwns zs = true ∨ nosl (i6 (idxF ks t 0)) = true) (hK : K (i6 (idxF ks t 0)) (.news [])) : @WCall' Go.Proofs.Try.prog S 108 zs H ⟨K⟩ :=
  WCall_pure hS (slices_Index_int_c ks t hl) hv ho (by simp) hK
theorem slices_Contains_int_c (ks : List Int) (t : Int) (hl : ks.length < 9223372036854775807) : T 92 [aI ks, i6 t] [] (.bool (hasK ks t)) ([]) := by
  refine semT' (S := S0) hm slices_Contains_int_ok (Nat.le_of_ble_eq_true rfl) ?_
  unfold slices_Contains_int; dsimp only
  simp
  refine slices_Index_int_call (ks := ks) (t := t) hl rfl ?_; simp
  have := idxF_neg t ks 0 (Int.le_refl 0)
  exact LeV.ro rfl rfl (by simp [hasK, this])
theorem slices_Contains_int_call {ks : List Int} {t : Int} (hl : ks.length < 9223372036854775807) {S : FuncId → Bool} {H : List Blk} {K : A → Dl → Prop} (hS : S 92 = false) (hK : K (.bool (hasK ks t)) (.news [])) : @WCall' Go.Proofs.Try.prog S 92 [aI ks, i6 t] H ⟨K⟩ :=
  WCall_pure hS (slices_Contains_int_c ks t hl) (by simp) (by simp) (by simp) hK
theorem slices_Contains_int_k {ks : List Int} {t : Int} (hl : ks.length < 9223372036854775807) {S : FuncId → Bool} {H : List Blk} {K : A → Dl → Prop} {zs : List A} (hS : S 92 = false) (hv : viewL (viewA 8 H) zs = some [aI ks, i6 t]) (ho : noOwns zs = true ∨ nosl (.bool (hasK ks t)) = true) (hK : K (.bool (hasK ks t)) (.news [])) : @WCall' Go.Proofs.Try.prog S 92 zs H ⟨K⟩ :=
  WCall_pure hS (slices_Contains_int_c ks t hl) hv ho (by simp) hK
theorem spec_KnowHas_c (ks : List Int) (t : Int) (hl : ks.length < 9223372036854775807) : T 73 [aI ks, i6 t] [] (.bool (hasK ks t)) ([]) := by
  refine semT' (S := S0) hm spec_KnowHas_ok (Nat.le_of_ble_eq_true rfl) ?_
  unfold spec_KnowHas; dsimp only
  have hk := idxF_neg t ks 0 (Int.le_refl 0)
  simp
  refine WLoop_fam (fun j : Nat => [(0, aI ks), (1, i6 t), (5, i6 j)]) (fun _ => []) (fun j => ks.length - j)
    (fun j => j ≤ ks.length ∧ idxF ks t 0 = idxF (ks.drop j) t j) ?_ 0 ⟨Nat.zero_le _, rfl⟩
  intro j ⟨hj, hf⟩ ih
  simp
  refine br_intro' (fun h => ?_) (fun h => ?_) <;> (have h0 := h) <;> (try simp at h) <;> try simp [h0, h]
  · have hd : ks.drop j = ks[j] :: ks.drop (j + 1) := List.drop_eq_getElem_cons h
    have hw : IntKind.i64.wrap ((j : Int) + 1) = j + 1 := wrap64 (by omega) (by omega)
    have h' := h
    try simp [h']
    refine br_intro' (fun g => ?_) (fun g => ?_) <;> (try simp at g) <;> (try simp [g])
    · have e : ks[j] = t := by first | exact g | exact g.symm
      have hi : idxF ks t 0 = j := by rw [hf, hd, idxF, if_pos e]
      exact LeV.ro rfl rfl (by subst e; simp [hasK])
    · have e : ¬ ks[j] = t := fun q => by first | exact g q | exact g q.symm
      rw [hw]
      refine ih (j + 1) ⟨h', ?_⟩ (by omega)
      rw [hf, hd, idxF, if_neg e]
      rfl
  · have hi : idxF ks t 0 = -1 := by rw [hf, List.drop_of_length_le h]; rfl
    exact LeV.ro rfl rfl (by rw [hi] at hk; simp [hasK]; exact fun q => by have := hk.2 q; omega)
theorem spec_KnowHas_call {ks : List Int} {t : Int} (hl : ks.length < 9223372036854775807) {S : FuncId → Bool} {H : List Blk} {K : A → Dl → Prop} (hS : S 73 = false) (hK : K (.bool (hasK ks t)) (.news [])) : @WCall' Go.Proofs.Try.prog S 73 [aI ks, i6 t] H ⟨K⟩ :=
  WCall_pure hS (spec_KnowHas_c ks t hl) (by simp) (by simp) (by simp) hK
theorem spec_KnowHas_k {ks : List Int} {t : Int} (hl : ks.length < 9223372036854775807) {S : FuncId → Bool} {H : List Blk} {K : A → Dl → Prop} {zs : List A} (hS : S 73 = false) (hv : viewL (viewA 8 H) zs = some [aI ks, i6 t]) (ho : noOwns zs = true ∨ nosl (.bool (hasK ks t)) = true) (hK : K (.bool (hasK ks t)) (.news [])) : @WCall' Go.Proofs.Try.prog S 73 zs H ⟨K⟩ :=
  WCall_pure hS (spec_KnowHas_c ks t hl) hv ho (by simp) hK
def pubF (x : Int) : Bool := inF x 0 49
theorem spec_IsPublic_c (x : Int)  : T 74 [i6 x] [] (.bool (pubF x)) ([]) := by
  refine semT' (S := S0) hm spec_IsPublic_ok (Nat.le_of_ble_eq_true rfl) ?_
  unfold spec_IsPublic; dsimp only
  simp
  refine spec_l1In_call rfl ?_; simp
  exact LeV.ro rfl rfl (by simp [pubF])
theorem spec_IsPublic_call {x : Int}  {S : FuncId → Bool} {H : List Blk} {K : A → Dl → Prop} (hS : S 74 = false) (hK : K (.bool (pubF x)) (.news [])) : @WCall' Go.Proofs.Try.prog S 74 [i6 x] H ⟨K⟩ :=
  WCall_pure hS (spec_IsPublic_c x) (by simp) (by simp) (by simp) hK
theorem spec_IsPublic_k {x : Int}  {S : FuncId → Bool} {H : List Blk} {K : A → Dl → Prop} {zs : List A} (hS : S 74 = false) (hv : viewL (viewA 8 H) zs = some [i6 x]) (ho : noOwns zs = true ∨ nosl (.bool (pubF x)) = true) (hK : K (.bool (pubF x)) (.news [])) : @WCall' Go.Proofs.Try.prog S 74 zs H ⟨K⟩ :=
  WCall_pure hS (spec_IsPublic_c x) hv ho (by simp) hK
theorem impl_IsPublic_c (x : Int)  : T 93 [i6 x] [] (.bool (pubF x)) ([]) := by
  refine semT' (S := S0) hm impl_IsPublic_ok (Nat.le_of_ble_eq_true rfl) ?_
  unfold impl_IsPublic; dsimp only
  simp
  refine impl_inRange_call rfl ?_; simp
  exact LeV.ro rfl rfl (by simp [pubF])
theorem impl_IsPublic_call {x : Int}  {S : FuncId → Bool} {H : List Blk} {K : A → Dl → Prop} (hS : S 93 = false) (hK : K (.bool (pubF x)) (.news [])) : @WCall' Go.Proofs.Try.prog S 93 [i6 x] H ⟨K⟩ :=
  WCall_pure hS (impl_IsPublic_c x) (by simp) (by simp) (by simp) hK
theorem impl_IsPublic_k {x : Int}  {S : FuncId → Bool} {H : List Blk} {K : A → Dl → Prop} {zs : List A} (hS : S 93 = false) (hv : viewL (viewA 8 H) zs = some [i6 x]) (ho : noOwns zs = true ∨ nosl (.bool (pubF x)) = true) (hK : K (.bool (pubF x)) (.news [])) : @WCall' Go.Proofs.Try.prog S 93 zs H ⟨K⟩ :=
  WCall_pure hS (impl_IsPublic_c x) hv ho (by simp) hK
end Go.Proofs.Ytcfgiffgahdlbaa.C
