/- What the parts of a term, and looking for a number, answer. Conditions: those that each theorem names. -/
import Derived.Test.YtcfgiffgahdlbaaGreatXC1D4
import Derived.Test.YtcfgiffgahdlbaaGreatXSymW
import Derived.Test.YtcfgiffgahdlbaaGreatXSymX
set_option linter.unusedVariables false
set_option linter.unusedSimpArgs false
namespace Go.Proofs.YtcfgiffgahdlbaaGreat.C
open Go.Sym Go.Proofs.YtcfgiffgahdlbaaGreat.I
def nodeAt (ns : List Nd) (t : Int) : Nd := ns.getD t.toNat ⟨0, 0, 0⟩
theorem nodeAt_nat {ns : List Nd} {j : Nat} (h : j < ns.length) : nodeAt ns j = ns[j] := by simp [nodeAt, h]
/-- The parts of a node of a right pool stand before it. -/
theorem parts_in {ns : List Nd} (hp : poolF ns = true) {j : Nat} (h : j < ns.length) (hk : partsF ns[j].k = 2) : (∃ a : Nat, ns[j].a = a ∧ a < j) ∧ ∃ b : Nat, ns[j].b = b ∧ b < j := by
  have := (okFrom_all hp h).1
  simp [rightF, hk, inF] at this
  exact ⟨⟨ns[j].a.toNat, by omega, by omega⟩, ns[j].b.toNat, by omega, by omega⟩
theorem part_in {ns : List Nd} (hp : poolF ns = true) {j : Nat} (h : j < ns.length) (hk : partsF ns[j].k = 1) : ∃ a : Nat, ns[j].a = a ∧ a < j := by
  have := (okFrom_all hp h).1
  simp [rightF, hk, inF] at this
  exact ⟨ns[j].a.toNat, by omega, by omega⟩
theorem parts_kind {ns : List Nd} (hp : poolF ns = true) {j : Nat} (h : j < ns.length) : partsF ns[j].k = 0 ∨ partsF ns[j].k = 1 ∨ partsF ns[j].k = 2 := by
  have := (okFrom_all hp h).1
  unfold rightF at this
  split at this
  · exact .inl ‹_›
  · split at this
    · exact .inr (.inl ‹_›)
    · split at this
      · exact .inr (.inr ‹_›)
      · cases this
theorem hasF_of {m j : Nat} (h : j < m) : hasF m j = true := by simp [hasF, inF]; omega
theorem hasN {m : Nat} {t : Int} (h : hasF m t = true) : ∃ j : Nat, t = j ∧ j < m := by
  simp [hasF, inF] at h
  exact ⟨t.toNat, by omega, by omega⟩
abbrev jblk (xs : List Int) : Blk := ⟨xs.length, decide (xs.length = 0), 1, ints xs, none⟩
abbrev jref (b : Nat) (xs : List Int) : A := .ref b xs.length 0 xs.length
@[simp] theorem ints_take' (xs : List Int) : (ints xs).take xs.length = ints xs := List.take_of_length_le (by simp)
@[simp] theorem ints_tells' (H H' : List Blk) (g : List (Option Nat)) (xs : List Int) : Tells H H' g (ints xs) (ints xs) := Tells_scals _ (ints_scals xs)
@[simp] theorem ints_one (xs : List Int) : (ints xs).all A.one = true := one_scals _ (ints_scals xs)
@[simp] theorem ints_inAs (m : Nat) (xs : List Int) : inAs m (ints xs) = true := inAs_scals _ (ints_scals xs)
@[simp] theorem ints_nil : ints [] = [] := rfl
theorem ints_snoc (xs : List Int) (x : Int) : ints (xs ++ [x]) = ints xs ++ [i6 x] := by simp [ints]
/-- The parts of a node. -/
def partsL (n : Nd) : List Int := if partsF n.k = 1 then [n.a] else if partsF n.k = 2 then [n.a, n.b] else []
theorem impl_Pool_parts_c (ns : List Nd) (r : List A) (t : Int) (hl : ns.length < 9223372036854775807) (ht : hasF ns.length t = true) : T 56 [.pt (.sl ns.length (enc ns) :: r), i6 t] [] (jref 0 (partsL (nodeAt ns t))) ([jblk (partsL (nodeAt ns t))]) := by
  refine semT' (S := S0) hm impl_Pool_parts_ok (Nat.le_of_ble_eq_true rfl) ?_
  unfold impl_Pool_parts; dsimp only
  obtain ⟨j, rfl, hj⟩ := hasN ht
  obtain ⟨q, hr⟩ := enc_at hj
  have h3 : 3 ≤ ns.length * 3 - j * 3 := by omega
  rw [nodeAt_nat hj]
  simp [h3, hr, hj]
  refine impl_count_call rfl ?_; simp
  refine br_intro' (fun h => ?_) (fun h => ?_) <;> simp at h <;> simp [h]
  · rw [show partsL ns[j] = [ns[j].a] from if_pos h]
    first | (refine LeV.tell [none] ?_ ?_ ?_ <;> (simp [ints]; done)) | (refine LeV.tell [some 0] ?_ ?_ ?_ <;> (simp [ints]; done)) | (refine LeV.tell [some 1] ?_ ?_ ?_ <;> (simp [ints]; done)) | (refine LeV.tell [some 2] ?_ ?_ ?_ <;> (simp [ints]; done)) | (refine LeV.tell [some 3] ?_ ?_ ?_ <;> (simp [ints]; done)) | (refine LeV.tell [some 4] ?_ ?_ ?_ <;> (simp [ints]; done)) | (refine LeV.tell [some 5] ?_ ?_ ?_ <;> (simp [ints]; done)) | (refine LeV.tell [some 6] ?_ ?_ ?_ <;> (simp [ints]; done)) | (refine LeV.tell [some 7] ?_ ?_ ?_ <;> (simp [ints]; done)) | (refine LeV.tell [some 8] ?_ ?_ ?_ <;> (simp [ints]; done)) | (refine LeV.tell [some 9] ?_ ?_ ?_ <;> (simp [ints]; done)) | (refine LeV.tell [some 10] ?_ ?_ ?_ <;> (simp [ints]; done)) | (refine LeV.tell [some 11] ?_ ?_ ?_ <;> (simp [ints]; done)) | (refine LeV.tell [some 12] ?_ ?_ ?_ <;> (simp [ints]; done)) | (refine LeV.tell [some 13] ?_ ?_ ?_ <;> (simp [ints]; done)) | (refine LeV.tell [some 14] ?_ ?_ ?_ <;> (simp [ints]; done)) | (refine LeV.tell [some 15] ?_ ?_ ?_ <;> (simp [ints]; done))
  refine br_intro' (fun h1 => ?_) (fun h1 => ?_) <;> simp at h1 <;> simp [h1]
  · rw [show partsL ns[j] = [ns[j].a, ns[j].b] by simp [partsL, h, h1]]
    first | (refine LeV.tell [none] ?_ ?_ ?_ <;> (simp [ints]; done)) | (refine LeV.tell [some 0] ?_ ?_ ?_ <;> (simp [ints]; done)) | (refine LeV.tell [some 1] ?_ ?_ ?_ <;> (simp [ints]; done)) | (refine LeV.tell [some 2] ?_ ?_ ?_ <;> (simp [ints]; done)) | (refine LeV.tell [some 3] ?_ ?_ ?_ <;> (simp [ints]; done)) | (refine LeV.tell [some 4] ?_ ?_ ?_ <;> (simp [ints]; done)) | (refine LeV.tell [some 5] ?_ ?_ ?_ <;> (simp [ints]; done)) | (refine LeV.tell [some 6] ?_ ?_ ?_ <;> (simp [ints]; done)) | (refine LeV.tell [some 7] ?_ ?_ ?_ <;> (simp [ints]; done)) | (refine LeV.tell [some 8] ?_ ?_ ?_ <;> (simp [ints]; done)) | (refine LeV.tell [some 9] ?_ ?_ ?_ <;> (simp [ints]; done)) | (refine LeV.tell [some 10] ?_ ?_ ?_ <;> (simp [ints]; done)) | (refine LeV.tell [some 11] ?_ ?_ ?_ <;> (simp [ints]; done)) | (refine LeV.tell [some 12] ?_ ?_ ?_ <;> (simp [ints]; done)) | (refine LeV.tell [some 13] ?_ ?_ ?_ <;> (simp [ints]; done)) | (refine LeV.tell [some 14] ?_ ?_ ?_ <;> (simp [ints]; done)) | (refine LeV.tell [some 15] ?_ ?_ ?_ <;> (simp [ints]; done))
  · rw [show partsL ns[j] = [] by simp [partsL, h, h1]]
    first | (refine LeV.tell [none] ?_ ?_ ?_ <;> (simp [ints]; done)) | (refine LeV.tell [some 0] ?_ ?_ ?_ <;> (simp [ints]; done)) | (refine LeV.tell [some 1] ?_ ?_ ?_ <;> (simp [ints]; done)) | (refine LeV.tell [some 2] ?_ ?_ ?_ <;> (simp [ints]; done)) | (refine LeV.tell [some 3] ?_ ?_ ?_ <;> (simp [ints]; done)) | (refine LeV.tell [some 4] ?_ ?_ ?_ <;> (simp [ints]; done)) | (refine LeV.tell [some 5] ?_ ?_ ?_ <;> (simp [ints]; done)) | (refine LeV.tell [some 6] ?_ ?_ ?_ <;> (simp [ints]; done)) | (refine LeV.tell [some 7] ?_ ?_ ?_ <;> (simp [ints]; done)) | (refine LeV.tell [some 8] ?_ ?_ ?_ <;> (simp [ints]; done)) | (refine LeV.tell [some 9] ?_ ?_ ?_ <;> (simp [ints]; done)) | (refine LeV.tell [some 10] ?_ ?_ ?_ <;> (simp [ints]; done)) | (refine LeV.tell [some 11] ?_ ?_ ?_ <;> (simp [ints]; done)) | (refine LeV.tell [some 12] ?_ ?_ ?_ <;> (simp [ints]; done)) | (refine LeV.tell [some 13] ?_ ?_ ?_ <;> (simp [ints]; done)) | (refine LeV.tell [some 14] ?_ ?_ ?_ <;> (simp [ints]; done)) | (refine LeV.tell [some 15] ?_ ?_ ?_ <;> (simp [ints]; done))
theorem impl_Pool_parts_k {ns : List Nd} {r : List A} {t : Int} (hl : ns.length < 9223372036854775807) (ht : hasF ns.length t = true) {S : FuncId → Bool} {H : List Blk} {K : A → Dl → Prop} {zs : List A} (hS : S 56 = false) (hv : viewL (viewA 8 H) zs = some [.pt (.sl ns.length (enc ns) :: r), i6 t]) (ho : noOwns zs = true ∨ nosl (jref 0 (partsL (nodeAt ns t))) = true ∧ noslBlks ([jblk (partsL (nodeAt ns t))]) = true) (hK : K (shiftA H.length (jref 0 (partsL (nodeAt ns t)))) (.news (([jblk (partsL (nodeAt ns t))]).map (shiftB H.length)))) : @WCall' Go.Proofs.Tryz.prog S 56 zs H ⟨K⟩ :=
  WCall_ro' hS hv (impl_Pool_parts_c ns r t hl ht) rfl ho hK
theorem spec_l1PartsOf_c (ns : List Nd) (t : Int) (hl : ns.length < 9223372036854775807) (ht : hasF ns.length t = true) : T 59 [aP ns, i6 t] [] (jref 0 (partsL (nodeAt ns t))) ([jblk (partsL (nodeAt ns t))]) := by
  refine semT' (S := S0) hm spec_l1PartsOf_ok (Nat.le_of_ble_eq_true rfl) ?_
  unfold spec_l1PartsOf; dsimp only
  obtain ⟨j, rfl, hj⟩ := hasN ht
  obtain ⟨q, hr⟩ := enc_at hj
  have h3 : 3 ≤ ns.length * 3 - j * 3 := by omega
  rw [nodeAt_nat hj]
  simp [h3, hr, hj]
  refine spec_l1Parts_call rfl ?_; simp
  refine br_intro' (fun h => ?_) (fun h => ?_) <;> simp at h <;> simp [h]
  · rw [show partsL ns[j] = [ns[j].a] from if_pos h]
    first | (refine LeV.tell [none] ?_ ?_ ?_ <;> (simp [ints]; done)) | (refine LeV.tell [some 0] ?_ ?_ ?_ <;> (simp [ints]; done)) | (refine LeV.tell [some 1] ?_ ?_ ?_ <;> (simp [ints]; done)) | (refine LeV.tell [some 2] ?_ ?_ ?_ <;> (simp [ints]; done)) | (refine LeV.tell [some 3] ?_ ?_ ?_ <;> (simp [ints]; done)) | (refine LeV.tell [some 4] ?_ ?_ ?_ <;> (simp [ints]; done)) | (refine LeV.tell [some 5] ?_ ?_ ?_ <;> (simp [ints]; done)) | (refine LeV.tell [some 6] ?_ ?_ ?_ <;> (simp [ints]; done)) | (refine LeV.tell [some 7] ?_ ?_ ?_ <;> (simp [ints]; done)) | (refine LeV.tell [some 8] ?_ ?_ ?_ <;> (simp [ints]; done)) | (refine LeV.tell [some 9] ?_ ?_ ?_ <;> (simp [ints]; done)) | (refine LeV.tell [some 10] ?_ ?_ ?_ <;> (simp [ints]; done)) | (refine LeV.tell [some 11] ?_ ?_ ?_ <;> (simp [ints]; done)) | (refine LeV.tell [some 12] ?_ ?_ ?_ <;> (simp [ints]; done)) | (refine LeV.tell [some 13] ?_ ?_ ?_ <;> (simp [ints]; done)) | (refine LeV.tell [some 14] ?_ ?_ ?_ <;> (simp [ints]; done)) | (refine LeV.tell [some 15] ?_ ?_ ?_ <;> (simp [ints]; done))
  refine br_intro' (fun h1 => ?_) (fun h1 => ?_) <;> simp at h1 <;> simp [h1]
  · rw [show partsL ns[j] = [ns[j].a, ns[j].b] by simp [partsL, h, h1]]
    first | (refine LeV.tell [none] ?_ ?_ ?_ <;> (simp [ints]; done)) | (refine LeV.tell [some 0] ?_ ?_ ?_ <;> (simp [ints]; done)) | (refine LeV.tell [some 1] ?_ ?_ ?_ <;> (simp [ints]; done)) | (refine LeV.tell [some 2] ?_ ?_ ?_ <;> (simp [ints]; done)) | (refine LeV.tell [some 3] ?_ ?_ ?_ <;> (simp [ints]; done)) | (refine LeV.tell [some 4] ?_ ?_ ?_ <;> (simp [ints]; done)) | (refine LeV.tell [some 5] ?_ ?_ ?_ <;> (simp [ints]; done)) | (refine LeV.tell [some 6] ?_ ?_ ?_ <;> (simp [ints]; done)) | (refine LeV.tell [some 7] ?_ ?_ ?_ <;> (simp [ints]; done)) | (refine LeV.tell [some 8] ?_ ?_ ?_ <;> (simp [ints]; done)) | (refine LeV.tell [some 9] ?_ ?_ ?_ <;> (simp [ints]; done)) | (refine LeV.tell [some 10] ?_ ?_ ?_ <;> (simp [ints]; done)) | (refine LeV.tell [some 11] ?_ ?_ ?_ <;> (simp [ints]; done)) | (refine LeV.tell [some 12] ?_ ?_ ?_ <;> (simp [ints]; done)) | (refine LeV.tell [some 13] ?_ ?_ ?_ <;> (simp [ints]; done)) | (refine LeV.tell [some 14] ?_ ?_ ?_ <;> (simp [ints]; done)) | (refine LeV.tell [some 15] ?_ ?_ ?_ <;> (simp [ints]; done))
  · rw [show partsL ns[j] = [] by simp [partsL, h, h1]]
    first | (refine LeV.tell [none] ?_ ?_ ?_ <;> (simp [ints]; done)) | (refine LeV.tell [some 0] ?_ ?_ ?_ <;> (simp [ints]; done)) | (refine LeV.tell [some 1] ?_ ?_ ?_ <;> (simp [ints]; done)) | (refine LeV.tell [some 2] ?_ ?_ ?_ <;> (simp [ints]; done)) | (refine LeV.tell [some 3] ?_ ?_ ?_ <;> (simp [ints]; done)) | (refine LeV.tell [some 4] ?_ ?_ ?_ <;> (simp [ints]; done)) | (refine LeV.tell [some 5] ?_ ?_ ?_ <;> (simp [ints]; done)) | (refine LeV.tell [some 6] ?_ ?_ ?_ <;> (simp [ints]; done)) | (refine LeV.tell [some 7] ?_ ?_ ?_ <;> (simp [ints]; done)) | (refine LeV.tell [some 8] ?_ ?_ ?_ <;> (simp [ints]; done)) | (refine LeV.tell [some 9] ?_ ?_ ?_ <;> (simp [ints]; done)) | (refine LeV.tell [some 10] ?_ ?_ ?_ <;> (simp [ints]; done)) | (refine LeV.tell [some 11] ?_ ?_ ?_ <;> (simp [ints]; done)) | (refine LeV.tell [some 12] ?_ ?_ ?_ <;> (simp [ints]; done)) | (refine LeV.tell [some 13] ?_ ?_ ?_ <;> (simp [ints]; done)) | (refine LeV.tell [some 14] ?_ ?_ ?_ <;> (simp [ints]; done)) | (refine LeV.tell [some 15] ?_ ?_ ?_ <;> (simp [ints]; done))
theorem spec_l1PartsOf_k {ns : List Nd} {t : Int} (hl : ns.length < 9223372036854775807) (ht : hasF ns.length t = true) {S : FuncId → Bool} {H : List Blk} {K : A → Dl → Prop} {zs : List A} (hS : S 59 = false) (hv : viewL (viewA 8 H) zs = some [aP ns, i6 t]) (ho : noOwns zs = true ∨ nosl (jref 0 (partsL (nodeAt ns t))) = true ∧ noslBlks ([jblk (partsL (nodeAt ns t))]) = true) (hK : K (shiftA H.length (jref 0 (partsL (nodeAt ns t)))) (.news (([jblk (partsL (nodeAt ns t))]).map (shiftB H.length)))) : @WCall' Go.Proofs.Tryz.prog S 59 zs H ⟨K⟩ :=
  WCall_ro' hS hv (spec_l1PartsOf_c ns t hl ht) rfl ho hK
/-- Looking for a number. -/
def idxF : List Int → Int → Int → Int
  | [], _, _ => -1
  | x :: xs, t, i => if x = t then i else idxF xs t (i + 1)
theorem idxF_neg (t : Int) : ∀ (xs : List Int) (i : Int), 0 ≤ i → (0 ≤ idxF xs t i ↔ t ∈ xs)
  | [], i, _ => by simp [idxF]
  | x :: xs, i, hi => by
    unfold idxF
    by_cases e : x = t
    · rw [if_pos e]; simp [e, hi]
    · rw [if_neg e, idxF_neg t xs (i + 1) (by omega)]
      simp only [List.mem_cons]
      exact ⟨.inr, fun h => h.resolve_left fun q => e q.symm⟩
def hasK (ks : List Int) (t : Int) : Bool := decide (t ∈ ks)
theorem slices_Index_int_c (ks : List Int) (t : Int) (hl : ks.length < 9223372036854775807) : T 91 [aI ks, i6 t] [] (i6 (idxF ks t 0)) ([]) := by
  refine semT' (S := S0) hm slices_Index_int_ok (Nat.le_of_ble_eq_true rfl) ?_
  unfold slices_Index_int; dsimp only
  simp
  refine WLoop_fam (fun j : Nat => [(0, aI ks), (1, i6 t), (7, i6 ks.length), (8, i6 j)]) (fun _ => []) (fun j => ks.length - j)
    (fun j => j ≤ ks.length ∧ idxF ks t 0 = idxF (ks.drop j) t j) ?_ 0 ⟨Nat.zero_le _, rfl⟩
  intro j ⟨hj, hf⟩ ih
  simp
  refine br_intro' (fun h => ?_) (fun h => ?_) <;> (have h0 := h) <;> (try simp at h) <;> try simp [h0, h]
  · have hd : ks.drop j = ks[j] :: ks.drop (j + 1) := List.drop_eq_getElem_cons h
    have hw : IntKind.i64.wrap ((j : Int) + 1) = j + 1 := wrap64 (by omega) (by omega)
    have h' := h
    try simp [h']
    refine br_intro' (fun g => ?_) (fun g => ?_) <;> (try simp at g) <;> (try simp [g])
    · have e : ks[j] = t := by first | exact g | exact g.symm
      have hi : idxF ks t 0 = j := by rw [hf, hd, idxF, if_pos e]
      exact LeV.ro rfl rfl (by subst e; rw [hi]; rfl)
    · have e : ¬ ks[j] = t := fun q => by first | exact g q | exact g q.symm
      rw [hw]
      refine ih (j + 1) ⟨h', ?_⟩ (by omega)
      rw [hf, hd, idxF, if_neg e]
      rfl
  · have hi : idxF ks t 0 = -1 := by rw [hf, List.drop_of_length_le h]; rfl
    exact LeV.ro rfl rfl (by rw [hi]; rfl)
theorem slices_Index_int_call {ks : List Int} {t : Int} (hl : ks.length < 9223372036854775807) {S : FuncId → Bool} {H : List Blk} {K : A → Dl → Prop} (hS : S 91 = false) (hK : K (i6 (idxF ks t 0)) (.news [])) : @WCall' Go.Proofs.Tryz.prog S 91 [aI ks, i6 t] H ⟨K⟩ :=
  WCall_pure hS (slices_Index_int_c ks t hl) (by simp) (by simp) (by simp) hK
theorem slices_Index_int_k {ks : List Int} {t : Int} (hl : ks.length < 9223372036854775807) {S : FuncId → Bool} {H : List Blk} {K : A → Dl → Prop} {zs : List A} (hS : S 91 = false) (hv : viewL (viewA 8 H) zs = some [aI ks, i6 t]) (ho : noOwns zs = true ∨ nosl (i6 (idxF ks t 0)) = true) (hK : K (i6 (idxF ks t 0)) (.news [])) : @WCall' Go.Proofs.Tryz.prog S 91 zs H ⟨K⟩ :=
  WCall_pure hS (slices_Index_int_c ks t hl) hv ho (by simp) hK
theorem slices_Contains_int_c (ks : List Int) (t : Int) (hl : ks.length < 9223372036854775807) : T 69 [aI ks, i6 t] [] (.bool (hasK ks t)) ([]) := by
  refine semT' (S := S0) hm slices_Contains_int_ok (Nat.le_of_ble_eq_true rfl) ?_
  unfold slices_Contains_int; dsimp only
  simp
  refine slices_Index_int_call (ks := ks) (t := t) hl rfl ?_; simp
  have := idxF_neg t ks 0 (Int.le_refl 0)
  exact LeV.ro rfl rfl (by simp [hasK, this])
theorem slices_Contains_int_call {ks : List Int} {t : Int} (hl : ks.length < 9223372036854775807) {S : FuncId → Bool} {H : List Blk} {K : A → Dl → Prop} (hS : S 69 = false) (hK : K (.bool (hasK ks t)) (.news [])) : @WCall' Go.Proofs.Tryz.prog S 69 [aI ks, i6 t] H ⟨K⟩ :=
  WCall_pure hS (slices_Contains_int_c ks t hl) (by simp) (by simp) (by simp) hK
theorem slices_Contains_int_k {ks : List Int} {t : Int} (hl : ks.length < 9223372036854775807) {S : FuncId → Bool} {H : List Blk} {K : A → Dl → Prop} {zs : List A} (hS : S 69 = false) (hv : viewL (viewA 8 H) zs = some [aI ks, i6 t]) (ho : noOwns zs = true ∨ nosl (.bool (hasK ks t)) = true) (hK : K (.bool (hasK ks t)) (.news [])) : @WCall' Go.Proofs.Tryz.prog S 69 zs H ⟨K⟩ :=
  WCall_pure hS (slices_Contains_int_c ks t hl) hv ho (by simp) hK
theorem spec_KnowHas_c (ks : List Int) (t : Int) (hl : ks.length < 9223372036854775807) : T 60 [aI ks, i6 t] [] (.bool (hasK ks t)) ([]) := by
  refine semT' (S := S0) hm spec_KnowHas_ok (Nat.le_of_ble_eq_true rfl) ?_
  unfold spec_KnowHas; dsimp only
  have hk := idxF_neg t ks 0 (Int.le_refl 0)
  simp
  refine WLoop_fam (fun j : Nat => [(0, aI ks), (1, i6 t), (5, i6 j)]) (fun _ => []) (fun j => ks.length - j)
    (fun j => j ≤ ks.length ∧ idxF ks t 0 = idxF (ks.drop j) t j) ?_ 0 ⟨Nat.zero_le _, rfl⟩
  intro j ⟨hj, hf⟩ ih
  simp
  refine br_intro' (fun h => ?_) (fun h => ?_) <;> (have h0 := h) <;> (try simp at h) <;> try simp [h0, h]
  · have hd : ks.drop j = ks[j] :: ks.drop (j + 1) := List.drop_eq_getElem_cons h
    have hw : IntKind.i64.wrap ((j : Int) + 1) = j + 1 := wrap64 (by omega) (by omega)
    have h' := h
    try simp [h']
    refine br_intro' (fun g => ?_) (fun g => ?_) <;> (try simp at g) <;> (try simp [g])
    · have e : ks[j] = t := by first | exact g | exact g.symm
      have hi : idxF ks t 0 = j := by rw [hf, hd, idxF, if_pos e]
      exact LeV.ro rfl rfl (by subst e; simp [hasK])
    · have e : ¬ ks[j] = t := fun q => by first | exact g q | exact g q.symm
      rw [hw]
      refine ih (j + 1) ⟨h', ?_⟩ (by omega)
      rw [hf, hd, idxF, if_neg e]
      rfl
  · have hi : idxF ks t 0 = -1 := by rw [hf, List.drop_of_length_le h]; rfl
    exact LeV.ro rfl rfl (by rw [hi] at hk; simp [hasK]; exact fun q => by have := hk.2 q; omega)
theorem spec_KnowHas_call {ks : List Int} {t : Int} (hl : ks.length < 9223372036854775807) {S : FuncId → Bool} {H : List Blk} {K : A → Dl → Prop} (hS : S 60 = false) (hK : K (.bool (hasK ks t)) (.news [])) : @WCall' Go.Proofs.Tryz.prog S 60 [aI ks, i6 t] H ⟨K⟩ :=
  WCall_pure hS (spec_KnowHas_c ks t hl) (by simp) (by simp) (by simp) hK
theorem spec_KnowHas_k {ks : List Int} {t : Int} (hl : ks.length < 9223372036854775807) {S : FuncId → Bool} {H : List Blk} {K : A → Dl → Prop} {zs : List A} (hS : S 60 = false) (hv : viewL (viewA 8 H) zs = some [aI ks, i6 t]) (ho : noOwns zs = true ∨ nosl (.bool (hasK ks t)) = true) (hK : K (.bool (hasK ks t)) (.news [])) : @WCall' Go.Proofs.Tryz.prog S 60 zs H ⟨K⟩ :=
  WCall_pure hS (spec_KnowHas_c ks t hl) hv ho (by simp) hK
def pubF (x : Int) : Bool := inF x 0 49
theorem spec_IsPublic_c (x : Int)  : T 61 [i6 x] [] (.bool (pubF x)) ([]) := by
  refine semT' (S := S0) hm spec_IsPublic_ok (Nat.le_of_ble_eq_true rfl) ?_
  unfold spec_IsPublic; dsimp only
  simp
  refine spec_l1In_call rfl ?_; simp
  exact LeV.ro rfl rfl (by simp [pubF])
theorem spec_IsPublic_call {x : Int}  {S : FuncId → Bool} {H : List Blk} {K : A → Dl → Prop} (hS : S 61 = false) (hK : K (.bool (pubF x)) (.news [])) : @WCall' Go.Proofs.Tryz.prog S 61 [i6 x] H ⟨K⟩ :=
  WCall_pure hS (spec_IsPublic_c x) (by simp) (by simp) (by simp) hK
theorem spec_IsPublic_k {x : Int}  {S : FuncId → Bool} {H : List Blk} {K : A → Dl → Prop} {zs : List A} (hS : S 61 = false) (hv : viewL (viewA 8 H) zs = some [i6 x]) (ho : noOwns zs = true ∨ nosl (.bool (pubF x)) = true) (hK : K (.bool (pubF x)) (.news [])) : @WCall' Go.Proofs.Tryz.prog S 61 zs H ⟨K⟩ :=
  WCall_pure hS (spec_IsPublic_c x) hv ho (by simp) hK
theorem impl_IsPublic_c (x : Int)  : T 70 [i6 x] [] (.bool (pubF x)) ([]) := by
  refine semT' (S := S0) hm impl_IsPublic_ok (Nat.le_of_ble_eq_true rfl) ?_
  unfold impl_IsPublic; dsimp only
  simp
  refine impl_inRange_call rfl ?_; simp
  exact LeV.ro rfl rfl (by simp [pubF])
theorem impl_IsPublic_call {x : Int}  {S : FuncId → Bool} {H : List Blk} {K : A → Dl → Prop} (hS : S 70 = false) (hK : K (.bool (pubF x)) (.news [])) : @WCall' Go.Proofs.Tryz.prog S 70 [i6 x] H ⟨K⟩ :=
  WCall_pure hS (impl_IsPublic_c x) (by simp) (by simp) (by simp) hK
theorem impl_IsPublic_k {x : Int}  {S : FuncId → Bool} {H : List Blk} {K : A → Dl → Prop} {zs : List A} (hS : S 70 = false) (hv : viewL (viewA 8 H) zs = some [i6 x]) (ho : noOwns zs = true ∨ nosl (.bool (pubF x)) = true) (hK : K (.bool (pubF x)) (.news [])) : @WCall' Go.Proofs.Tryz.prog S 70 zs H ⟨K⟩ :=
  WCall_pure hS (impl_IsPublic_c x) hv ho (by simp) hK
theorem kpF_pool {ns : List Nd} {ks : List Int} (h : kpF ns ks = true) : poolF ns = true := by simp [kpF] at h; exact h.1
end Go.Proofs.YtcfgiffgahdlbaaGreat.C

set_option linter.unusedVariables false
set_option linter.unusedSimpArgs false
set_option maxRecDepth 4000
namespace Go.Proofs.YtcfgiffgahdlbaaGreat.C
open Go.Sym Go.Proofs.YtcfgiffgahdlbaaGreat.I
/-- Rows of bools. -/
def bls (kb : List Bool) : List A := kb.map A.bool
@[simp] theorem bls_len (xs : List Bool) : (bls xs).length = xs.length := List.length_map ..
@[simp] theorem bls_scals (xs : List Bool) : scals (bls xs) = true := scals_map _ (fun _ => rfl) xs
@[simp] theorem bls_view (n : Nat) (H : List Blk) (xs : List Bool) : viewL (viewA (n + 1) H) (bls xs) = some (bls xs) := viewL_scals _ (bls_scals xs)
@[simp] theorem bls_noOwns (xs : List Bool) : noOwns (bls xs) = true := noOwns_scals _ (bls_scals xs)
@[simp] theorem bls_nosls (xs : List Bool) : nosls (bls xs) = true := nosls_scals _ (bls_scals xs)
@[simp] theorem bls_shift (n : Nat) (xs : List Bool) : shiftAs n (bls xs) = bls xs := shiftAs_scals _ (bls_scals xs)
@[simp] theorem bls_inAs (m : Nat) (xs : List Bool) : inAs m (bls xs) = true := inAs_scals _ (bls_scals xs)
@[simp] theorem bls_tells (H H' : List Blk) (g : List (Option Nat)) (xs : List Bool) : Tells H H' g (bls xs) (bls xs) := Tells_scals _ (bls_scals xs)
@[simp] theorem bls_one (xs : List Bool) : (bls xs).all A.one = true := one_scals _ (bls_scals xs)
@[simp] theorem bls_take (xs : List Bool) : (bls xs).take xs.length = bls xs := List.take_of_length_le (by simp)
@[simp] theorem bls_nil : bls [] = [] := rfl
@[simp] theorem bls_get (xs : List Bool) (j : Nat) (h : j < (bls xs).length) : (bls xs)[j] = .bool (xs[j]'(by simpa using h)) := by simp [bls]
theorem bls_at {xs : List Bool} {j : Nat} (h : j < xs.length) : (bls xs)[j]? = some (.bool xs[j]) := by simp [bls, h]
theorem bls_set (xs : List Bool) (j : Nat) (b : Bool) : (bls xs).set j (.bool b) = bls (xs.set j b) := by simp [bls, List.map_set]
theorem bls_rep (n : Nat) : bls (List.replicate n false) = List.replicate n (.bool false) := by simp [bls]
theorem bls_snoc (xs : List Bool) (x : Bool) : bls (xs ++ [x]) = bls xs ++ [.bool x] := by simp [bls]
theorem ints_set' (xs : List Int) (j : Nat) (n : Int) : (ints xs).set j (i6 n) = ints (xs.set j n) := by simp [ints, List.map_set]
theorem ints_rep' (n : Nat) : ints (List.replicate n 0) = List.replicate n (i6 0) := by simp [ints]
abbrev aBl (xs : List Bool) : A := .sl xs.length (bls xs)
abbrev bblk (xs : List Bool) : Blk := ⟨xs.length, decide (xs.length = 0), 1, bls xs, none⟩
abbrev bref (b : Nat) (xs : List Bool) : A := .ref b xs.length 0 xs.length
def bv (mk : List Bool) (t : Int) : Bool := mk.getD t.toNat false
theorem bv_nat {mk : List Bool} {j : Nat} (h : j < mk.length) : bv mk j = mk[j] := by simp [bv, h]
/-- A number at its place among others. -/
def putGo (t : Int) : List Int → Bool → List Int
  | [], put => if put then [] else [t]
  | x :: xs, put => if put = false ∧ t < x then t :: x :: putGo t xs true else x :: putGo t xs put
def putF (ks : List Int) (t : Int) : List Int := putGo t ks (hasK ks t)
theorem putGo_len (t : Int) : ∀ (ks : List Int) (put : Bool), ks.length ≤ (putGo t ks put).length ∧ (putGo t ks put).length ≤ ks.length + 1 ∧ (put = true → (putGo t ks put).length = ks.length)
  | [], put => by cases put <;> simp [putGo]
  | x :: xs, put => by
    unfold putGo
    split
    · rename_i h
      have := (putGo_len t xs true).2.2 rfl
      simp [this, h.1]
    · have := putGo_len t xs put
      refine ⟨by simp; omega, by simp; omega, fun h => by simp [this.2.2 h]⟩
theorem spec_l6Put_c (ks : List Int) (t : Int) (hk : ks.length ≤ 4294960000) : T 76 [aI ks, i6 t] [] (jref 0 (putF ks t)) ([jblk (putF ks t)]) := by
  refine semT' (S := S0) hm spec_l6Put_ok (Nat.le_of_ble_eq_true rfl) ?_
  unfold spec_l6Put; dsimp only
  simp
  refine spec_KnowHas_call (ks := ks) (t := t) (by omega) rfl ?_; simp
  refine WLoop_virt 1 [(0, aI ks), (1, i6 t), (5, A.ref 0 0 0 0), (6, A.bool (hasK ks t)), (7, i6 0)] ?_ ?_
  · intro s y hy
    simp [Sym.get] at hy ⊢
    (repeat' split at hy) <;> simp_all
  refine WLoop_fam (fun p : Nat × List Int × Bool => [(0, aI ks), (1, i6 t), (5, jref 0 p.2.1), (6, A.bool p.2.2), (7, i6 p.1)]) (fun p => [jblk p.2.1]) (fun p => ks.length - p.1)
    (fun p => p.1 ≤ ks.length ∧ p.2.1.length ≤ p.1 + 1 ∧ (p.2.2 = false → p.2.1.length ≤ p.1) ∧ putF ks t = p.2.1 ++ putGo t (ks.drop p.1) p.2.2) ?_ (0, [], hasK ks t) ⟨Nat.zero_le _, by simp, by simp, by simp [putF]⟩
  rintro ⟨j, out, put⟩ ⟨hj, hol, hol2, hpf⟩ ih
  simp only at hj hol hol2 hpf
  simp
  refine br_intro' (fun u => ?_) (fun u => ?_) <;> (have u0 := u) <;> simp at u <;> simp [u0, u]
  · have hd : ks.drop j = ks[j] :: ks.drop (j + 1) := List.drop_eq_getElem_cons u
    have hw := wrap_succ (n := j) (by omega)
    cases put with
    | true =>
      simp [u]
      repeat (refine ck_intro' (by first | omega | (simp; omega) | kernel_rfl) ?_; try simp [u])
      rw [hw]
      rw [show A.ref 0 (out.length + 1) 0 (out.length + 1) = jref 0 (out ++ [ks[j]]) by simp]
      refine WLoop_drop [jblk (out ++ [ks[j]])] [_] (by simp [ints_snoc]; exact rfl) (by simp) (by simp) (by simp) ?_
      exact ih (j + 1, out ++ [ks[j]], true) ⟨u, by simp; omega, by simp, by rw [hpf, hd]; simp [putGo]⟩ (by simp; omega)
    | false =>
      simp [u]
      refine br_intro' (fun g => ?_) (fun g => ?_) <;> (have g0 := g) <;> simp only [decide_eq_true_eq, decide_eq_false_iff_not] at g <;> simp [g0, g]
      · have := hol2 rfl
        repeat (refine ck_intro' (by first | omega | (simp; omega) | kernel_rfl) ?_; try simp [u])
        rw [hw]
        rw [show A.ref 0 (out.length + 1 + 1) 0 (out.length + 1 + 1) = jref 0 (out ++ [t, ks[j]]) by simp]
        refine WLoop_drop [jblk (out ++ [t, ks[j]])] [_, _] (by simp [ints]; exact ⟨rfl, rfl⟩) (by simp) (by simp) (by simp) ?_
        exact ih (j + 1, out ++ [t, ks[j]], true) ⟨u, by simp; omega, by simp, by rw [hpf, hd]; simp [putGo, g]⟩ (by simp; omega)
      · have := hol2 rfl
        repeat (refine ck_intro' (by first | omega | (simp; omega) | kernel_rfl) ?_; try simp [u])
        rw [hw]
        rw [show A.ref 0 (out.length + 1) 0 (out.length + 1) = jref 0 (out ++ [ks[j]]) by simp]
        refine WLoop_drop [jblk (out ++ [ks[j]])] [_] (by simp [ints_snoc]; exact rfl) (by simp) (by simp) (by simp) ?_
        exact ih (j + 1, out ++ [ks[j]], false) ⟨u, by simp; omega, by simp; omega, by rw [hpf, hd]; simp [putGo, g]⟩ (by simp; omega)
  · have hd : ks.drop j = [] := List.drop_of_length_le (by omega)
    rw [hd] at hpf
    cases put with
    | true =>
      simp
      rw [show putF ks t = out by rw [hpf]; simp [putGo]]
      first | (refine LeV.tell [none] ?_ ?_ ?_ <;> (simp; done)) | (refine LeV.tell [some 0] ?_ ?_ ?_ <;> (simp; done)) | (refine LeV.tell [some 1] ?_ ?_ ?_ <;> (simp; done)) | (refine LeV.tell [some 2] ?_ ?_ ?_ <;> (simp; done)) | (refine LeV.tell [some 3] ?_ ?_ ?_ <;> (simp; done)) | (refine LeV.tell [some 4] ?_ ?_ ?_ <;> (simp; done)) | (refine LeV.tell [some 5] ?_ ?_ ?_ <;> (simp; done)) | (refine LeV.tell [some 6] ?_ ?_ ?_ <;> (simp; done)) | (refine LeV.tell [some 7] ?_ ?_ ?_ <;> (simp; done)) | (refine LeV.tell [some 8] ?_ ?_ ?_ <;> (simp; done)) | (refine LeV.tell [some 9] ?_ ?_ ?_ <;> (simp; done)) | (refine LeV.tell [some 10] ?_ ?_ ?_ <;> (simp; done)) | (refine LeV.tell [some 11] ?_ ?_ ?_ <;> (simp; done)) | (refine LeV.tell [some 12] ?_ ?_ ?_ <;> (simp; done)) | (refine LeV.tell [some 13] ?_ ?_ ?_ <;> (simp; done)) | (refine LeV.tell [some 14] ?_ ?_ ?_ <;> (simp; done)) | (refine LeV.tell [some 15] ?_ ?_ ?_ <;> (simp; done))
    | false =>
      simp
      repeat (refine ck_intro' (by first | omega | (simp; omega) | kernel_rfl) ?_; try simp [u])
      rw [show putF ks t = out ++ [t] by rw [hpf]; simp [putGo]]
      exact LeV.tell [some 0] (by simp) (by simp [ints_snoc]; exact Tells_scals _ (by simp [scals_app, scals, scal])) (by simp)
theorem spec_l6Put_k {ks : List Int} {t : Int} (hk : ks.length ≤ 4294960000) {S : FuncId → Bool} {H : List Blk} {K : A → Dl → Prop} {zs : List A} (hS : S 76 = false) (hv : viewL (viewA 8 H) zs = some [aI ks, i6 t]) (ho : noOwns zs = true ∨ nosl (jref 0 (putF ks t)) = true ∧ noslBlks ([jblk (putF ks t)]) = true) (hK : K (shiftA H.length (jref 0 (putF ks t))) (.news (([jblk (putF ks t)]).map (shiftB H.length)))) : @WCall' Go.Proofs.Tryz.prog S 76 zs H ⟨K⟩ :=
  WCall_ro' hS hv (spec_l6Put_c ks t hk) rfl ho hK
theorem putF_len (ks : List Int) (t : Int) : ks.length ≤ (putF ks t).length ∧ (putF ks t).length ≤ ks.length + 1 := ⟨(putGo_len t ks _).1, (putGo_len t ks _).2.1⟩
theorem partsF_0' {k : Int} (h : partsF k = 0) : k = 1 := by
  unfold partsF at h
  split at h
  · assumption
  · split at h
    · omega
    · split at h <;> omega
/-- Whether the power of a term is one that can be made. -/
def powF (ns : List Nd) (mk : List Bool) (ks : List Int) (x : Int) : Bool := decide (0 ≤ findF ns ⟨7, x, 0⟩ 0) && (bv mk x || hasK ks (findF ns ⟨7, x, 0⟩ 0))
theorem spec_l7Power_c (ns : List Nd) (mk : List Bool) (ks : List Int) (x : Int) (hl : ns.length < 9223372036854775807) (hk : ks.length < 9223372036854775807) (hx : hasF mk.length x = true) : T 110 [aP ns, aBl mk, aI ks, i6 x] [] (.bool (powF ns mk ks x)) ([]) := by
  refine semT' (S := S0) hm spec_l7Power_ok (Nat.le_of_ble_eq_true rfl) ?_
  unfold spec_l7Power; dsimp only
  obtain ⟨j, rfl, hj⟩ := hasN hx
  simp
  refine spec_l1Find_call (ns := ns) (n := ⟨7, j, 0⟩) hl rfl ?_; simp
  have eb := bv_nat hj
  refine br_intro' (fun g => ?_) (fun g => ?_) <;> (have g0 := g) <;> simp only [decide_eq_true_eq, decide_eq_false_iff_not] at g <;> simp [g0, g]
  · simp [hj]
    refine br_intro' (fun f => ?_) (fun f => ?_) <;> simp [f]
    · exact LeV.ro rfl rfl (by simp [powF, g, eb, f])
    · refine spec_KnowHas_call (ks := ks) (t := findF ns ⟨7, j, 0⟩ 0) hk rfl ?_; simp
      exact LeV.ro rfl rfl (by simp [powF, g, eb, f])
  · exact LeV.ro rfl rfl (by simp [powF, g])
theorem spec_l7Power_call {ns : List Nd} {mk : List Bool} {ks : List Int} {x : Int} (hl : ns.length < 9223372036854775807) (hk : ks.length < 9223372036854775807) (hx : hasF mk.length x = true) {S : FuncId → Bool} {H : List Blk} {K : A → Dl → Prop} (hS : S 110 = false) (hK : K (.bool (powF ns mk ks x)) (.news [])) : @WCall' Go.Proofs.Tryz.prog S 110 [aP ns, aBl mk, aI ks, i6 x] H ⟨K⟩ :=
  WCall_pure hS (spec_l7Power_c ns mk ks x hl hk hx) (by simp) (by simp) (by simp) hK
theorem spec_l7Power_k {ns : List Nd} {mk : List Bool} {ks : List Int} {x : Int} (hl : ns.length < 9223372036854775807) (hk : ks.length < 9223372036854775807) (hx : hasF mk.length x = true) {S : FuncId → Bool} {H : List Blk} {K : A → Dl → Prop} {zs : List A} (hS : S 110 = false) (hv : viewL (viewA 8 H) zs = some [aP ns, aBl mk, aI ks, i6 x]) (ho : noOwns zs = true ∨ nosl (.bool (powF ns mk ks x)) = true) (hK : K (.bool (powF ns mk ks x)) (.news [])) : @WCall' Go.Proofs.Tryz.prog S 110 zs H ⟨K⟩ :=
  WCall_pure hS (spec_l7Power_c ns mk ks x hl hk hx) hv ho (by simp) hK
/-- Whether a term is public, or can be made of its parts. -/
def madeB (ns : List Nd) (mk : List Bool) (t : Int) (ks : List Int) : Bool :=
  if (nodeAt ns t).k = 1 then pubF (nodeAt ns t).a
  else if partsF (nodeAt ns t).k = 1 then bv mk (nodeAt ns t).a
  else if bv mk (nodeAt ns t).a = true ∧ bv mk (nodeAt ns t).b = true then true
  else if (nodeAt ns t).k = 8 then (bv mk (nodeAt ns t).a && powF ns mk ks (nodeAt ns t).b) || (bv mk (nodeAt ns t).b && powF ns mk ks (nodeAt ns t).a)
  else false
theorem spec_l7Made_c (ns : List Nd) (mk : List Bool) (t : Int) (ks : List Int) (hl : ns.length < 9223372036854775807) (hk : ks.length < 9223372036854775807) (hp : poolF ns = true) (ht : hasF ns.length t = true) (hml : t ≤ mk.length) : T 97 [aP ns, aBl mk, i6 t, aI ks] [] (.bool (madeB ns mk t ks)) ([]) := by
  refine semT' (S := S0) hm spec_l7Made_ok (Nat.le_of_ble_eq_true rfl) ?_
  unfold spec_l7Made; dsimp only
  obtain ⟨j, rfl, hj⟩ := hasN ht
  obtain ⟨q, hq⟩ := enc_at hj
  have h3 : 3 ≤ ns.length * 3 - j * 3 := by omega
  have en := nodeAt_nat hj
  have hjm : j ≤ mk.length := by omega
  simp [h3, hq, hj]
  rcases parts_kind hp hj with hpk | hpk | hpk
  · have hk1 := partsF_0' hpk
    simp [hk1]
    refine spec_IsPublic_call rfl ?_; simp
    exact LeV.ro rfl rfl (by simp [madeB, en, hk1])
  · have hk1 : ns[j].k ≠ 1 := by intro e; rw [e] at hpk; simp [partsF] at hpk
    obtain ⟨a, ea, hal⟩ := part_in hp hj hpk
    have ham : a < mk.length := by omega
    have eb := bv_nat ham
    simp [hk1]
    refine spec_l1Parts_call rfl ?_; simp [hpk, ea, ham]
    exact LeV.ro rfl rfl (by simp [madeB, en, hk1, hpk, ea, eb])
  · have hk1 : ns[j].k ≠ 1 := by intro e; rw [e] at hpk; simp [partsF] at hpk
    obtain ⟨⟨a, ea, hal⟩, b, eb, hbl⟩ := parts_in hp hj hpk
    have ham : a < mk.length := by omega
    have hbm : b < mk.length := by omega
    have ba := bv_nat ham
    have bb := bv_nat hbm
    have hE : madeB ns mk j ks = if mk[a] = true ∧ mk[b] = true then true else if ns[j].k = 8 then (mk[a] && powF ns mk ks b) || (mk[b] && powF ns mk ks a) else false := by
      simp only [madeB, en]
      rw [if_neg hk1, if_neg (by omega), ea, eb, ba, bb]
    simp [hk1]
    refine spec_l1Parts_call rfl ?_; simp [hpk, ea, eb, ham, hbm]
    rcases hA : mk[a] with _ | _
    · rcases hB : mk[b] with _ | _
      · simp
        refine br_intro' (fun h => ?_) (fun h => ?_) <;> (have k0 := h) <;> simp only [decide_eq_true_eq, decide_eq_false_iff_not] at h <;> simp [k0, h, hA, hB, ham, hbm, ea, eb]
        all_goals exact LeV.ro rfl rfl (by rw [hE]; simp [hA, hB, h])
      · simp
        refine br_intro' (fun h => ?_) (fun h => ?_) <;> (have k0 := h) <;> simp only [decide_eq_true_eq, decide_eq_false_iff_not] at h <;> simp [k0, h, hA, hB, ham, hbm, ea, eb]
        · refine spec_l7Power_k (ns := ns) (mk := mk) (ks := ks) (x := a) hl hk (hasF_of ham) rfl (by simp) (by simp) ?_; simp
          exact LeV.ro rfl rfl (by rw [hE]; simp [hA, hB, h])
        · exact LeV.ro rfl rfl (by rw [hE]; simp [hA, hB, h])
    · simp
      refine ck_intro' hbm ?_; simp [hbm]
      rcases hB : mk[b] with _ | _
      · try simp [hB]
        refine br_intro' (fun h => ?_) (fun h => ?_) <;> (have k0 := h) <;> simp only [decide_eq_true_eq, decide_eq_false_iff_not] at h <;> simp [k0, h, hA, hB, ham, hbm, ea, eb]
        · refine spec_l7Power_k (ns := ns) (mk := mk) (ks := ks) (x := b) hl hk (hasF_of hbm) rfl (by simp) (by simp) ?_; simp
          refine br_intro' (fun f => ?_) (fun f => ?_) <;> simp [f, hA, hB, ham, hbm, ea, eb]
          all_goals exact LeV.ro rfl rfl (by rw [hE]; simp [hA, hB, h, f])
        · exact LeV.ro rfl rfl (by rw [hE]; simp [hA, hB, h])
      · try simp [hB]
        exact LeV.ro rfl rfl (by rw [hE]; simp [hA, hB])
theorem spec_l7Made_call {ns : List Nd} {mk : List Bool} {t : Int} {ks : List Int} (hl : ns.length < 9223372036854775807) (hk : ks.length < 9223372036854775807) (hp : poolF ns = true) (ht : hasF ns.length t = true) (hml : t ≤ mk.length) {S : FuncId → Bool} {H : List Blk} {K : A → Dl → Prop} (hS : S 97 = false) (hK : K (.bool (madeB ns mk t ks)) (.news [])) : @WCall' Go.Proofs.Tryz.prog S 97 [aP ns, aBl mk, i6 t, aI ks] H ⟨K⟩ :=
  WCall_pure hS (spec_l7Made_c ns mk t ks hl hk hp ht hml) (by simp) (by simp) (by simp) hK
theorem spec_l7Made_k {ns : List Nd} {mk : List Bool} {t : Int} {ks : List Int} (hl : ns.length < 9223372036854775807) (hk : ks.length < 9223372036854775807) (hp : poolF ns = true) (ht : hasF ns.length t = true) (hml : t ≤ mk.length) {S : FuncId → Bool} {H : List Blk} {K : A → Dl → Prop} {zs : List A} (hS : S 97 = false) (hv : viewL (viewA 8 H) zs = some [aP ns, aBl mk, i6 t, aI ks]) (ho : noOwns zs = true ∨ nosl (.bool (madeB ns mk t ks)) = true) (hK : K (.bool (madeB ns mk t ks)) (.news [])) : @WCall' Go.Proofs.Tryz.prog S 97 zs H ⟨K⟩ :=
  WCall_pure hS (spec_l7Made_c ns mk t ks hl hk hp ht hml) hv ho (by simp) hK
end Go.Proofs.YtcfgiffgahdlbaaGreat.C

set_option linter.unusedVariables false
set_option linter.unusedSimpArgs false
set_option maxRecDepth 4000
namespace Go.Proofs.YtcfgiffgahdlbaaGreat.C
open Go.Sym Go.Proofs.YtcfgiffgahdlbaaGreat.I
@[simp] theorem ints_pks (n : Nat) (g : List Nat) (xs : List Int) : Pks n g (ints xs) (ints xs) := Pks_self _ (inAs_scals _ (ints_scals xs))
@[simp] theorem enc_pks (n : Nat) (g : List Nat) (xs : List Nd) : Pks n g (enc xs) (enc xs) := Pks_self _ (inAs_scals _ (enc_scals xs))
@[simp] theorem bls_pks (n : Nat) (g : List Nat) (xs : List Bool) : Pks n g (bls xs) (bls xs) := Pks_self _ (inAs_scals _ (bls_scals xs))
/-- A call that moves the cursor and makes rows, over rows of its caller's own. -/
theorem cur_callN {f : FuncId} {S : FuncId → Bool} {H T : List Blk} {K : A → Dl → Prop} (hS : S f = true) (cb : Nat) (bs : List Int) (s s' : Cu) (N : List Blk) {zs : List A} {r : A} (hc : cb < H.length)
    (hf : SemT Go.Proofs.Tryz.prog f zs (cur (cur H cb bs s ++ T) cb bs s) r (cur (cur H cb bs s ++ T) cb bs s' ++ N)) (hK : K r (.full [cb] (cur H cb bs s' ++ T ++ N))) : @WCall' Go.Proofs.Tryz.prog S f zs (cur H cb bs s ++ T) ⟨K⟩ := by
  rw [cur_mid hc, cur_mid hc] at hf
  refine WCall_t' hS [cb] hf (by simp) (fun q hq hl => ?_) hK
  simp at hq
  rw [List.getElem?_append_left (by simpa using hl)]
  rcases Nat.lt_or_ge q (cur H cb bs s).length with h | h
  · rw [List.getElem?_append_left (by simpa using h), List.getElem?_append_left h]
    simp only [cur]
    rw [List.getElem?_set_ne (Ne.symm hq), List.getElem?_set_ne (Ne.symm hq)]
  · rw [List.getElem?_append_right (by simpa using h), List.getElem?_append_right h]
    simp
/-- What is known that is drawn. -/
def knowGo (bs : List Int) (m : Nat) : Nat → List Int → Cu → List Int × Cu
  | 0, out, s => (out, s)
  | n + 1, out, s => if 0 < m then knowGo bs m n (putF out (drawF bs s m).1) (drawF bs s m).2 else (out, s)
def knowD (bs : List Int) (m : Nat) (s : Cu) : List Int × Cu := knowGo bs m (belowF bs s 8).1.toNat [] (belowF bs s 8).2
theorem spec_l6DrawKnow_m (H : List Blk) (cb : Nat) (bs : List Int) (s : Cu) (ns : List Nd) (hc : cb < H.length) (hb : bs.length < 9223372036854775807) (hcl : Closed1 H.length H = true) (hl : ns.length < 9223372036854775807) : T 75 [.ptr cb 0 0, aP ns] (cur H cb bs s) (jref H.length (knowD bs ns.length s).1) (cur H cb bs (knowD bs ns.length s).2 ++ [jblk (knowD bs ns.length s).1]) := by
  refine semT' (S := (fun f => [51, 29, 28, 53].contains f)) hm spec_l6DrawKnow_ok (Nat.le_of_ble_eq_true rfl) ?_
  unfold spec_l6DrawKnow; dsimp only
  simp
  have hi := belowF_in bs s 8
  have hi2 := hi.2.1 (by omega)
  refine cur_call' rfl cb bs s (belowF bs s 8).2 hc (spec_l1Below_m _ cb bs s 8 (cur_lt _ _ hc) hb) ?_; simp
  have e : knowD bs ns.length s = knowGo bs ns.length (belowF bs s 8).1.toNat [] (belowF bs s 8).2 := rfl
  rw [e]
  generalize belowF bs s 8 = t at hi hi2 ⊢
  obtain ⟨n, hn⟩ : ∃ n : Nat, t.1 = n := ⟨t.1.toNat, by omega⟩
  rw [hn]
  refine WLoop_virt 1 [(0, A.ptr cb 0 0), (3, A.ptr H.length 0 0), (5, A.ref (H.length + 1) 0 0 0), (6, i6 n), (7, i6 0)] ?_ ?_
  · intro s y hy
    simp [Sym.get] at hy ⊢
    (repeat' split at hy) <;> simp_all
  refine WLoop_fam (fun p : Nat × List Int × Cu => [(0, A.ptr cb 0 0), (3, A.ptr H.length 0 0), (5, jref (H.length + 1) p.2.1), (6, i6 n), (7, i6 p.1)])
    (fun p => cur H cb bs p.2.2 ++ [⟨0, false, 1, [A.sl ns.length (enc ns)], none⟩] ++ [jblk p.2.1]) (fun p => n - p.1)
    (fun p => p.1 ≤ n ∧ p.2.1.length ≤ p.1 ∧ knowGo bs ns.length n [] t.2 = knowGo bs ns.length (n - p.1) p.2.1 p.2.2) ?_ (0, [], t.2) ⟨Nat.zero_le _, by simp, rfl⟩
  rintro ⟨j, out, s1⟩ ⟨hj, hol, hgo⟩ ih
  simp only at hj hol hgo
  have hn8 : n < 8 := by omega
  have hne : cb ≠ H.length := by omega
  have hne1 : cb ≠ H.length + 1 := by omega
  have hfin : ¬ (j < n ∧ 0 < ns.length) → knowGo bs ns.length n [] t.2 = (out, s1) := fun h => by
    rw [hgo]
    rcases Nat.lt_or_ge j n with g | g
    · rw [show n - j = (n - (j + 1)) + 1 by omega, knowGo, if_neg (by omega)]
    · rw [show n - j = 0 by omega]; rfl
  have hcl1 : ∀ s2, Closed1 (cur H cb bs s2 ++ ([⟨0, false, 1, [A.sl ns.length (enc ns)], none⟩] : List Blk)).length (cur H cb bs s2 ++ ([⟨0, false, 1, [A.sl ns.length (enc ns)], none⟩] : List Blk)) = true := fun s2 => Closed1_more (by simpa using cur_closed bs s2 hcl) (by simp)
  have hend : LeV H.length (jref (H.length + 1) out) (cur H cb bs s1 ++ [⟨0, false, 1, [A.sl ns.length (enc ns)], none⟩] ++ [jblk out]) (jref H.length out) (cur H cb bs s1 ++ [jblk out]) := by
    rw [List.append_assoc]
    exact LeV.pick [H.length + 1] (by simp) (by simpa using cur_closed bs s1 hcl) (by simp) (by simp) (by simp)
  simp
  refine br_intro' (fun u => ?_) (fun u => ?_) <;> (have u0 := u) <;> simp at u <;> simp [u0, u]
  · refine br_intro' (fun v => ?_) (fun v => ?_) <;> (have v0 := v) <;> simp only [decide_eq_true_eq, decide_eq_false_iff_not] at v <;> simp [v0, v]
    · have hw := wrap_succ (n := j) (by omega)
      have hdr := drawF_in bs s1 ns.length
      have hcl2 : Closed1 (cur H cb bs s1 ++ ([⟨0, false, 1, [A.sl ns.length (enc ns)], none⟩, jblk out] : List Blk)).length (cur H cb bs s1 ++ ([⟨0, false, 1, [A.sl ns.length (enc ns)], none⟩, jblk out] : List Blk)) = true := Closed1_more (by simpa using cur_closed bs s1 hcl) (by simp)
      refine cur_call' rfl cb bs s1 (drawF bs s1 ns.length).2 hc (spec_l1Draw_m _ cb bs s1 ns.length (cur_lt _ _ hc) hb ⟨by omega, by omega⟩) ?_; simp
      refine spec_l6Put_k (ks := out) (t := (drawF bs s1 ns.length).1) (by omega) rfl (by simp) (by simp [noslBlks]) ?_; simp [shiftB]
      have hpl := putF_len out (drawF bs s1 ns.length).1
      have hgn : knowGo bs ns.length (n - j) out s1 = knowGo bs ns.length (n - (j + 1)) (putF out (drawF bs s1 ns.length).1) (drawF bs s1 ns.length).2 := by
        rw [show n - j = (n - (j + 1)) + 1 by omega, knowGo, if_pos v]
      generalize drawF bs s1 ns.length = d at hdr hpl hgn ⊢
      rw [hw]
      refine WLoop_pick [H.length + 2] [(0, A.ptr cb 0 0), (3, A.ptr H.length 0 0), (5, jref (H.length + 1) (putF out d.1)), (6, i6 n), (7, i6 ((j + 1 : Nat) : Int))] (cur H cb bs d.2 ++ [⟨0, false, 1, [A.sl ns.length (enc ns)], none⟩]) [jblk out, jblk (putF out d.1)] [jblk (putF out d.1)] (by simp) (by simp) (hcl1 _) (by simp) (by simp) (by simp; omega) ?_
      exact ih (j + 1, putF out d.1, d.2) ⟨by omega, by simp; omega, by rw [hgo, hgn]⟩ (by simp; omega)
    · rw [hfin (by omega)]
      simpa using hend
  · rw [hfin (by omega)]
    simpa using hend
theorem knowGo_len (bs : List Int) (m : Nat) : ∀ (n : Nat) (out : List Int) (s : Cu), (knowGo bs m n out s).1.length ≤ out.length + n
  | 0, out, s => Nat.le_refl _
  | n + 1, out, s => by
    unfold knowGo
    split
    · have h1 := knowGo_len bs m n (putF out (drawF bs s m).1) (drawF bs s m).2
      have h2 := putF_len out (drawF bs s m).1
      omega
    · simp only; omega
theorem knowD_len (bs : List Int) (m : Nat) (s : Cu) : (knowD bs m s).1.length ≤ 8 := by
  have h := knowGo_len bs m (belowF bs s 8).1.toNat [] (belowF bs s 8).2
  have hi := belowF_in bs s 8
  have := hi.2.1 (by omega)
  unfold knowD
  simp only [List.length_nil] at h
  omega
def anyKGo (bs : List Int) : Nat → Nat → List Int → Cu → List Int × Cu
  | 0, _, out, s => (out, s)
  | n + 1, i, out, s => if (i : Int) < 200 + (belowF bs s 2).1 then anyKGo bs n (i + 1) (putF out i) (belowF bs s 2).2 else (out, (belowF bs s 2).2)
def anyK1 (bs : List Int) (m : Nat) (out : List Int) (b : Int × Cu) : List Int × Cu :=
  if b.1 = 0 then (out ++ [(m : Int)], b.2) else if b.1 = 1 then (out ++ out, b.2) else if b.1 = 2 then anyKGo bs 202 0 out b.2 else (out, b.2)
/-- What is known that is drawn, now and then not rightly. -/
def anyK (bs : List Int) (m : Nat) (s : Cu) : List Int × Cu := anyK1 bs m (knowD bs m s).1 (belowF bs (knowD bs m s).2 30)
theorem frzI {B : Nat} {H1 T : List Blk} {b : Nat} {xs : List Int} {v : Nat} {ro : Bool} (hlen : B ≤ H1.length) (hcl : Closed1 H1.length H1 = true) (hb : H1.length ≤ b) (hk : (H1 ++ T)[b]? = some ⟨v, ro, 1, ints xs, none⟩) : LeV B (.ref b v 0 xs.length) (H1 ++ T) (aI xs) H1 := by
  have := LeV.frz (B := B) hlen hcl (m := xs.length) hb hk (by simp) (by simp)
  simpa using this
theorem spec_l6DrawAny_m (H : List Blk) (cb : Nat) (bs : List Int) (s : Cu) (ns : List Nd) (hc : cb < H.length) (hb : bs.length < 9223372036854775807) (hcl : Closed1 H.length H = true) (hl : ns.length < 9223372036854775807) : T 48 [.ptr cb 0 0, aP ns] (cur H cb bs s) (aI (anyK bs ns.length s).1) (cur H cb bs (anyK bs ns.length s).2) := by
  refine semT' (S := (fun f => [51, 29, 28, 53, 75].contains f)) hm spec_l6DrawAny_ok (Nat.le_of_ble_eq_true rfl) ?_
  unfold spec_l6DrawAny; dsimp only
  simp
  refine cur_callN rfl cb bs s (knowD bs ns.length s).2 [jblk (knowD bs ns.length s).1] hc (spec_l6DrawKnow_m _ cb bs s ns (cur_lt _ _ hc) hb (Closed1_more (by simpa using cur_closed bs s hcl) (by simp)) hl) ?_; simp
  have hkl := knowD_len bs ns.length s
  have e : anyK bs ns.length s = anyK1 bs ns.length (knowD bs ns.length s).1 (belowF bs (knowD bs ns.length s).2 30) := rfl
  rw [e]
  generalize knowD bs ns.length s = k at hkl ⊢
  refine cur_call' rfl cb bs k.2 (belowF bs k.2 30).2 hc (spec_l1Below_m _ cb bs k.2 30 (cur_lt _ _ hc) hb) ?_; simp
  generalize belowF bs k.2 30 = b
  generalize k.1 = out at hkl ⊢
  have hne : cb ≠ H.length := by omega
  have hne1 : cb ≠ H.length + 1 := by omega
  refine br_intro' (fun g => ?_) (fun g => ?_) <;> (have g0 := g) <;> simp only [decide_eq_true_eq, decide_eq_false_iff_not] at g <;> simp [g0, g]
  · rw [show anyK1 bs ns.length out b = (out ++ [(ns.length : Int)], b.2) from if_pos g]
    repeat (refine ck_intro' (by first | omega | (simp; omega) | kernel_rfl) ?_; try simp [g])
    have := frzI (B := H.length) (H1 := cur H cb bs b.2) (T := [⟨0, false, 1, [A.sl ns.length (enc ns)], none⟩, ⟨out.length + 1, false, 1, ints (out ++ [(ns.length : Int)]), none⟩, ⟨0, false, 1, [i6 ns.length], none⟩]) (b := H.length + 1) (xs := out ++ [(ns.length : Int)]) (v := out.length + 1) (ro := false) (by simp) (by simpa using cur_closed bs b.2 hcl) (by simp) (by simp)
    simpa [ints_snoc] using this
  refine br_intro' (fun g1 => ?_) (fun g1 => ?_) <;> (have g10 := g1) <;> simp only [decide_eq_true_eq, decide_eq_false_iff_not] at g1 <;> simp [g10, g1]
  · rw [show anyK1 bs ns.length out b = (out ++ out, b.2) by simp [anyK1, g1]]
    repeat (refine ck_intro' (by first | omega | (simp; omega) | kernel_rfl) ?_; try simp [g1])
    have := frzI (B := H.length) (H1 := cur H cb bs b.2) (T := [⟨0, false, 1, [A.sl ns.length (enc ns)], none⟩, ⟨out.length + 1, decide (out = []), 1, ints (out ++ out), none⟩]) (b := H.length + 1) (xs := out ++ out) (v := out.length + 1) (ro := decide (out = [])) (by simp) (by simpa using cur_closed bs b.2 hcl) (by simp) (by simp)
    simpa [ints] using this
  refine br_intro' (fun g2 => ?_) (fun g2 => ?_) <;> (have g20 := g2) <;> simp only [decide_eq_true_eq, decide_eq_false_iff_not] at g2 <;> simp [g20, g2]
  · rw [show anyK1 bs ns.length out b = anyKGo bs 202 0 out b.2 by simp [anyK1, g2]]
    refine WLoop_fam (fun p : Nat × List Int × Cu => [(0, A.ptr cb 0 0), (5, jref (H.length + 1) p.2.1), (6, i6 p.1)])
      (fun p => cur H cb bs p.2.2 ++ [⟨0, false, 1, [A.sl ns.length (enc ns)], none⟩, jblk p.2.1]) (fun p => 202 - p.1)
      (fun p => p.1 ≤ 201 ∧ p.2.1.length ≤ 8 + p.1 ∧ anyKGo bs 202 0 out b.2 = anyKGo bs (202 - p.1) p.1 p.2.1 p.2.2) ?_ (0, out, b.2) ⟨by simp, by simpa using hkl, rfl⟩
    rintro ⟨i, o1, s1⟩ ⟨hi, hol, hgo⟩ ih
    simp only at hi hol hgo
    simp
    have hbi := belowF_in bs s1 2
    have hbi2 := hbi.2.1 (by omega)
    have hgn : anyKGo bs (202 - i) i o1 s1 = if (i : Int) < 200 + (belowF bs s1 2).1 then anyKGo bs (202 - (i + 1)) (i + 1) (putF o1 i) (belowF bs s1 2).2 else (o1, (belowF bs s1 2).2) := by
      rw [show 202 - i = (202 - (i + 1)) + 1 by omega]; rfl
    refine cur_call' rfl cb bs s1 (belowF bs s1 2).2 hc (spec_l1Below_m _ cb bs s1 2 (cur_lt _ _ hc) hb) ?_; simp
    generalize belowF bs s1 2 = d at hbi hbi2 hgn ⊢
    have hw2 : IntKind.i64.wrap (200 + d.1) = 200 + d.1 := wrap64 (by omega) (by omega)
    have hw := wrap_succ (n := i) (by omega)
    rw [hw2]
    refine br_intro' (fun u => ?_) (fun u => ?_) <;> (have u0 := u) <;> simp only [decide_eq_true_eq, decide_eq_false_iff_not] at u <;> simp [u0, u]
    · refine spec_l6Put_k (ks := o1) (t := i) (by omega) rfl (by simp) (by simp [noslBlks]) ?_; simp [shiftB]
      have hpl := putF_len o1 i
      rw [hw]
      refine WLoop_pick [H.length, H.length + 2] [(0, A.ptr cb 0 0), (5, jref (H.length + 1) (putF o1 i)), (6, i6 ((i + 1 : Nat) : Int))] (cur H cb bs d.2) [⟨0, false, 1, [A.sl ns.length (enc ns)], none⟩, jblk o1, jblk (putF o1 i)] [⟨0, false, 1, [A.sl ns.length (enc ns)], none⟩, jblk (putF o1 i)] (by simp) (by simp) (by simpa using cur_closed bs d.2 hcl) (by simp) (by simp [inAs_scals _ (enc_scals ns)]) (by simp; omega) ?_
      exact ih (i + 1, putF o1 i, d.2) ⟨by omega, by simp; omega, by rw [hgo, hgn, if_pos u]⟩ (by simp; omega)
    · rw [show anyKGo bs 202 0 out b.2 = (o1, d.2) by rw [hgo, hgn, if_neg u]]
      have := frzI (B := H.length) (H1 := cur H cb bs d.2) (T := [⟨0, false, 1, [A.sl ns.length (enc ns)], none⟩, jblk o1]) (b := H.length + 1) (xs := o1) (v := o1.length) (ro := decide (o1.length = 0)) (by simp) (by simpa using cur_closed bs d.2 hcl) (by simp) (by simp)
      simpa using this
  · rw [show anyK1 bs ns.length out b = (out, b.2) by simp [anyK1, g, g1, g2]]
    have := frzI (B := H.length) (H1 := cur H cb bs b.2) (T := [⟨0, false, 1, [A.sl ns.length (enc ns)], none⟩, jblk out]) (b := H.length + 1) (xs := out) (v := out.length) (ro := decide (out.length = 0)) (by simp) (by simpa using cur_closed bs b.2 hcl) (by simp) (by simp)
    simpa using this
end Go.Proofs.YtcfgiffgahdlbaaGreat.C

set_option linter.unusedVariables false
set_option linter.unusedSimpArgs false
set_option maxRecDepth 40000
namespace Go.Proofs.YtcfgiffgahdlbaaGreat.C
open Go.Sym Go.Proofs.YtcfgiffgahdlbaaGreat.I
/-- A pool, what is known, and a term. -/
def d6c (bs : List Int) (p : List Nd) (k : List Int × Cu) : List Nd × List Int × Int := (p, k.1, (termF bs k.2 p.length).1)
def d6b (bs : List Int) (a : List Nd × Cu) : List Nd × List Int × Int := d6c bs a.1 (anyK bs a.1.length a.2)
def d6 (bs : List Int) : List Nd × List Int × Int := d6b bs (anyF bs ⟨0, newH bs⟩)
theorem spec_l6Draw_c (bs : List Int) (hb : bs.length < 9223372036854775807) : T 25 [aB bs] [] (.tup [aP (d6 bs).1, aI (d6 bs).2.1, i6 (d6 bs).2.2]) ([]) := by
  refine semT' (S := (fun f => [51, 29, 28, 52, 53, 73, 71, 47, 31, 75, 48].contains f)) hm spec_l6Draw_ok (Nat.le_of_ble_eq_true rfl) ?_
  unfold spec_l6Draw; dsimp only
  simp
  refine spec_l1New_k (bs := bs) hb rfl (by simp) (by simp [noslBlks]) ?_; simp [shiftB]
  refine cur_callR rfl 1 bs ⟨0, newH bs⟩ _ rfl (spec_l1DrawAny_m _ 1 bs _ (by simp) hb (by simp)) ?_; simp [cur]
  rw [show d6 bs = d6b bs (anyF bs ⟨0, newH bs⟩) from rfl]
  have hal := anyF_len bs ⟨0, newH bs⟩
  generalize anyF bs ⟨0, newH bs⟩ = a at hal ⊢
  refine cur_callR rfl 1 bs _ _ rfl (spec_l6DrawAny_m _ 1 bs _ a.1 (by simp) hb (by simp [inAs_scals _ (enc_scals a.1)]) (by omega)) ?_; simp [cur]
  rw [show d6b bs a = d6c bs a.1 (anyK bs a.1.length a.2) from rfl]
  generalize anyK bs a.1.length a.2 = k
  refine cur_callR rfl 1 bs _ _ rfl (spec_l1DrawTerm_m _ 1 bs _ a.1 (by simp) hb (by simp [inAs_scals _ (enc_scals a.1)]) (by omega)) ?_; simp [cur]
  rw [show d6c bs a.1 k = (a.1, k.1, (termF bs k.2 a.1.length).1) from rfl]
  generalize termF bs k.2 a.1.length = t
  first | (refine ck_intro' (by kernel_rfl) ?_; try simp) | skip
  exact LeV.ro rfl rfl (by simp)
theorem spec_l6Draw_call {bs : List Int} (hb : bs.length < 9223372036854775807) {S : FuncId → Bool} {H : List Blk} {K : A → Dl → Prop} (hS : S 25 = false) (hK : K (.tup [aP (d6 bs).1, aI (d6 bs).2.1, i6 (d6 bs).2.2]) (.news [])) : @WCall' Go.Proofs.Tryz.prog S 25 [aB bs] H ⟨K⟩ :=
  WCall_pure hS (spec_l6Draw_c bs hb) (by simp) (by simp) (by simp) hK
theorem spec_l6Draw_k {bs : List Int} (hb : bs.length < 9223372036854775807) {S : FuncId → Bool} {H : List Blk} {K : A → Dl → Prop} {zs : List A} (hS : S 25 = false) (hv : viewL (viewA 8 H) zs = some [aB bs]) (ho : noOwns zs = true ∨ nosl (.tup [aP (d6 bs).1, aI (d6 bs).2.1, i6 (d6 bs).2.2]) = true) (hK : K (.tup [aP (d6 bs).1, aI (d6 bs).2.1, i6 (d6 bs).2.2]) (.news [])) : @WCall' Go.Proofs.Tryz.prog S 25 zs H ⟨K⟩ :=
  WCall_pure hS (spec_l6Draw_c bs hb) hv ho (by simp) hK
theorem anyKGo_len (bs : List Int) : ∀ (n i : Nat) (out : List Int) (s : Cu), (anyKGo bs n i out s).1.length ≤ out.length + n
  | 0, i, out, s => Nat.le_refl _
  | n + 1, i, out, s => by
    unfold anyKGo
    split
    · have h1 := anyKGo_len bs n (i + 1) (putF out i) (belowF bs s 2).2
      have h2 := putF_len out i
      omega
    · simp only; omega
theorem anyK_len (bs : List Int) (m : Nat) (s : Cu) : (anyK bs m s).1.length ≤ 300 := by
  have h := knowD_len bs m s
  unfold anyK anyK1
  split
  · simp; omega
  · split
    · simp; omega
    · split
      · have := anyKGo_len bs 202 0 (knowD bs m s).1 (belowF bs (knowD bs m s).2 30).2
        omega
      · simp only; omega
theorem d6_len (bs : List Int) : (d6 bs).1.length ≤ 501 ∧ (d6 bs).2.1.length ≤ 300 := ⟨anyF_len _ _, anyK_len _ _ _⟩
end Go.Proofs.YtcfgiffgahdlbaaGreat.C

set_option linter.unusedVariables false
set_option linter.unusedSimpArgs false
set_option maxRecDepth 4000
namespace Go.Proofs.YtcfgiffgahdlbaaGreat.C
open Go.Sym Go.Proofs.YtcfgiffgahdlbaaGreat.I
structure Sp where
  r : Int
  t : Int
  a : Int
  b : Int
deriving DecidableEq
theorem Sp_eq {x y : Sp} : x = y ↔ x.r = y.r ∧ x.t = y.t ∧ x.a = y.a ∧ x.b = y.b := by cases x; cases y; simp
def encT (s : Sp) : List A := [i6 s.r, i6 s.t, i6 s.a, i6 s.b]
def encS (ss : List Sp) : List A := ss.flatMap encT
theorem encT_len (n : Sp) : (encT n).length = 4 := rfl
@[simp] theorem encS_len (ns : List Sp) : (encS ns).length = ns.length * 4 := flat_len encT_len ns
@[simp] theorem encS_scals (ns : List Sp) : scals (encS ns) = true := scals_flat _ (fun _ => rfl) ns
theorem encS_at {ns : List Sp} {j : Nat} (h : j < ns.length) : ∃ r, (encS ns).drop (j * 4) = i6 ns[j].r :: i6 ns[j].t :: i6 ns[j].a :: i6 ns[j].b :: r := flat_at encT_len (List.getElem?_eq_getElem h)
@[simp] theorem encS_view (n : Nat) (H : List Blk) (ns : List Sp) : viewL (viewA (n + 1) H) (encS ns) = some (encS ns) := viewL_scals _ (encS_scals ns)
@[simp] theorem encS_noOwns (ns : List Sp) : noOwns (encS ns) = true := noOwns_scals _ (encS_scals ns)
@[simp] theorem encS_nosls (ns : List Sp) : nosls (encS ns) = true := nosls_scals _ (encS_scals ns)
@[simp] theorem encS_shift (n : Nat) (ns : List Sp) : shiftAs n (encS ns) = encS ns := shiftAs_scals _ (encS_scals ns)
@[simp] theorem encS_inAs (m : Nat) (ns : List Sp) : inAs m (encS ns) = true := inAs_scals _ (encS_scals ns)
@[simp] theorem encS_tells (H H' : List Blk) (g : List (Option Nat)) (ns : List Sp) : Tells H H' g (encS ns) (encS ns) := Tells_scals _ (encS_scals ns)
@[simp] theorem encS_one (ns : List Sp) : (encS ns).all A.one = true := one_scals _ (encS_scals ns)
@[simp] theorem encS_take (ns : List Sp) : (encS ns).take (ns.length * 4) = encS ns := List.take_of_length_le (by simp)
@[simp] theorem encS_nil : encS [] = [] := rfl
theorem encS_snoc (ns : List Sp) (n : Sp) : encS (ns ++ [n]) = encS ns ++ [i6 n.r, i6 n.t, i6 n.a, i6 n.b] := by simp [encS, encT]
theorem encS_takes (ns : List Sp) (j : Nat) : (encS ns).take (j * 4) = encS (ns.take j) := flat_take encT_len ns j
theorem encS_drops (ns : List Sp) (j : Nat) : (encS ns).drop (j * 4) = encS (ns.drop j) := flat_drop encT_len ns j
abbrev aSt (n : Sp) : A := .agg [i6 n.r, i6 n.t, i6 n.a, i6 n.b]
abbrev aSs (ss : List Sp) : A := .sl ss.length (encS ss)
/-- How many steps a step needs. -/
def needsF (ns : List Nd) (s : Sp) : Int :=
  if s.r = 1 ∨ s.r = 2 then 0 else if s.r = 3 then partsF (nodeAt ns s.t).k else if s.r = 4 ∨ s.r = 7 then 2 else if s.r = 5 ∨ s.r = 6 ∨ s.r = 8 then 1 else -1
theorem partsL_len {ns : List Nd} (hp : poolF ns = true) {t : Int} (ht : hasF ns.length t = true) : ((partsL (nodeAt ns t)).length : Int) = partsF (nodeAt ns t).k := by
  obtain ⟨j, rfl, hj⟩ := hasN ht
  rw [nodeAt_nat hj]
  rcases parts_kind hp hj with h | h | h <;> simp [partsL, h]
theorem spec_l9Needs_c (ns : List Nd) (s : Sp) (hl : ns.length < 9223372036854775807) (ht : hasF ns.length s.t = true) : T 38 [aP ns, aSt s] [] (i6 (needsF ns s)) ([]) := by
  refine semT' (S := S0) hm spec_l9Needs_ok (Nat.le_of_ble_eq_true rfl) ?_
  unfold spec_l9Needs; dsimp only
  obtain ⟨j, ej, hj⟩ := hasN ht
  obtain ⟨q, hr⟩ := enc_at hj
  have h3 : 3 ≤ ns.length * 3 - j * 3 := by omega
  have en : nodeAt ns s.t = ns[j] := by rw [ej, nodeAt_nat hj]
  have en2 := nodeAt_nat hj
  simp [ej]
  repeat (any_goals (first | (refine br_intro' (fun h => ?_) (fun h => ?_) <;> (try simp at h) <;> try simp [h, h3, hr, hj]) | (refine spec_l1Parts_call rfl ?_; simp)))
  all_goals exact LeV.ro rfl rfl (by simp [needsF, en, en2, *])
theorem spec_l9Needs_call {ns : List Nd} {s : Sp} (hl : ns.length < 9223372036854775807) (ht : hasF ns.length s.t = true) {S : FuncId → Bool} {H : List Blk} {K : A → Dl → Prop} (hS : S 38 = false) (hK : K (i6 (needsF ns s)) (.news [])) : @WCall' Go.Proofs.Tryz.prog S 38 [aP ns, aSt s] H ⟨K⟩ :=
  WCall_pure hS (spec_l9Needs_c ns s hl ht) (by simp) (by simp) (by simp) hK
theorem spec_l9Needs_k {ns : List Nd} {s : Sp} (hl : ns.length < 9223372036854775807) (ht : hasF ns.length s.t = true) {S : FuncId → Bool} {H : List Blk} {K : A → Dl → Prop} {zs : List A} (hS : S 38 = false) (hv : viewL (viewA 8 H) zs = some [aP ns, aSt s]) (ho : noOwns zs = true ∨ nosl (i6 (needsF ns s)) = true) (hK : K (i6 (needsF ns s)) (.news [])) : @WCall' Go.Proofs.Tryz.prog S 38 zs H ⟨K⟩ :=
  WCall_pure hS (spec_l9Needs_c ns s hl ht) hv ho (by simp) hK
theorem impl_Pool_needs_c (ns : List Nd) (r : List A) (s : Sp) (hl : ns.length < 9223372036854775807) (hp : poolF ns = true) (ht : hasF ns.length s.t = true) (hv : ∀ n H, viewL (viewA (n + 1) H) r = some r) (ho : noOwns r = true) : T 33 [.pt (.sl ns.length (enc ns) :: r), aSt s] [] (i6 (needsF ns s)) ([]) := by
  refine semT' (S := S0) hm impl_Pool_needs_ok (Nat.le_of_ble_eq_true rfl) ?_
  unfold impl_Pool_needs; dsimp only
  have hq := partsL_len hp ht
  simp
  repeat (any_goals (first | (refine br_intro' (fun h => ?_) (fun h => ?_) <;> (try simp at h) <;> try simp [h]) | (refine WCall_ro' rfl (by simp [hv]) (impl_Pool_parts_c ns r s.t hl ht) rfl (.inr ⟨by simp, by simp [noslBlks]⟩) ?_; simp [shiftB])))
  all_goals exact LeV.ro rfl rfl (by simp [needsF, *])
def stepNeedsF (ns : List Nd) (s : Sp) : Int := if poolF ns = true ∧ hasF ns.length s.t = true then needsF ns s else -1
theorem spec_StepNeeds_c (ns : List Nd) (s : Sp) (hl : ns.length < 9223372036854775807) : T 36 [aP ns, aSt s] [] (i6 (stepNeedsF ns s)) ([]) := by
  refine semT' (S := S0) hm spec_StepNeeds_ok (Nat.le_of_ble_eq_true rfl) ?_
  unfold spec_StepNeeds; dsimp only
  simp
  refine spec_PoolOk_call rfl ?_; simp
  refine br_intro' (fun h => ?_) (fun h => ?_) <;> simp [h]
  · refine spec_l1Has_call (t := s.t) hl rfl ?_; simp
    refine br_intro' (fun h1 => ?_) (fun h1 => ?_) <;> simp [h1]
    · refine spec_l9Needs_call (s := s) hl h1 rfl ?_; simp
      exact LeV.ro rfl rfl (by simp [stepNeedsF, h, h1])
    · exact LeV.ro rfl rfl (by simp [stepNeedsF, h1])
  · exact LeV.ro rfl rfl (by simp [stepNeedsF, h])
theorem spec_StepNeeds_call {ns : List Nd} {s : Sp} (hl : ns.length < 9223372036854775807) {S : FuncId → Bool} {H : List Blk} {K : A → Dl → Prop} (hS : S 36 = false) (hK : K (i6 (stepNeedsF ns s)) (.news [])) : @WCall' Go.Proofs.Tryz.prog S 36 [aP ns, aSt s] H ⟨K⟩ :=
  WCall_pure hS (spec_StepNeeds_c ns s hl) (by simp) (by simp) (by simp) hK
theorem spec_StepNeeds_k {ns : List Nd} {s : Sp} (hl : ns.length < 9223372036854775807) {S : FuncId → Bool} {H : List Blk} {K : A → Dl → Prop} {zs : List A} (hS : S 36 = false) (hv : viewL (viewA 8 H) zs = some [aP ns, aSt s]) (ho : noOwns zs = true ∨ nosl (i6 (stepNeedsF ns s)) = true) (hK : K (i6 (stepNeedsF ns s)) (.news [])) : @WCall' Go.Proofs.Tryz.prog S 36 zs H ⟨K⟩ :=
  WCall_pure hS (spec_StepNeeds_c ns s hl) hv ho (by simp) hK
/-- The term of a step ahead of place m; -1: there's none. -/
def termAt (ss : List Sp) (m : Nat) (k : Int) : Int := if inF k 0 ((m : Int) - 1) then (ss.getD k.toNat ⟨0, 0, 0, 0⟩).t else -1
theorem spec_l9Term_c (ss : List Sp) (m : Nat) (k : Int) (hl : ss.length < 9223372036854775807) (hml : m ≤ ss.length) : T 46 [aSs ss, i6 m, i6 k] [] (i6 (termAt ss m k)) ([]) := by
  refine semT' (S := S0) hm spec_l9Term_ok (Nat.le_of_ble_eq_true rfl) ?_
  unfold spec_l9Term; dsimp only
  simp [wrap_len (n := m) (by omega)]
  refine spec_l1In_call rfl ?_; simp
  refine br_intro' (fun h => ?_) (fun h => ?_) <;> simp [h]
  · have h' := h
    simp [inF] at h'
    obtain ⟨j, rfl⟩ : ∃ j : Nat, k = j := ⟨k.toNat, by omega⟩
    have hj : j < ss.length := by omega
    obtain ⟨q, hr⟩ := encS_at hj
    have h4 : 2 ≤ ss.length * 4 - j * 4 := by omega
    simp [hr, hj]
    exact LeV.ro rfl rfl (by simp [termAt, h, hj])
  · exact LeV.ro rfl rfl (by simp [termAt, h])
theorem spec_l9Term_call {ss : List Sp} {m : Nat} {k : Int} (hl : ss.length < 9223372036854775807) (hml : m ≤ ss.length) {S : FuncId → Bool} {H : List Blk} {K : A → Dl → Prop} (hS : S 46 = false) (hK : K (i6 (termAt ss m k)) (.news [])) : @WCall' Go.Proofs.Tryz.prog S 46 [aSs ss, i6 m, i6 k] H ⟨K⟩ :=
  WCall_pure hS (spec_l9Term_c ss m k hl hml) (by simp) (by simp) (by simp) hK
theorem spec_l9Term_k {ss : List Sp} {m : Nat} {k : Int} (hl : ss.length < 9223372036854775807) (hml : m ≤ ss.length) {S : FuncId → Bool} {H : List Blk} {K : A → Dl → Prop} {zs : List A} (hS : S 46 = false) (hv : viewL (viewA 8 H) zs = some [aSs ss, i6 m, i6 k]) (ho : noOwns zs = true ∨ nosl (i6 (termAt ss m k)) = true) (hK : K (i6 (termAt ss m k)) (.news [])) : @WCall' Go.Proofs.Tryz.prog S 46 zs H ⟨K⟩ :=
  WCall_pure hS (spec_l9Term_c ss m k hl hml) hv ho (by simp) hK
end Go.Proofs.YtcfgiffgahdlbaaGreat.C

set_option linter.unusedVariables false
set_option linter.unusedSimpArgs false
set_option maxRecDepth 4000
namespace Go.Proofs.YtcfgiffgahdlbaaGreat.C
open Go.Sym Go.Proofs.YtcfgiffgahdlbaaGreat.I
theorem needsF_in {ns : List Nd} (hp : poolF ns = true) {s : Sp} (ht : hasF ns.length s.t = true) : needsF ns s = -1 ∨ needsF ns s = 0 ∨ needsF ns s = 1 ∨ needsF ns s = 2 := by
  obtain ⟨j, ej, hj⟩ := hasN ht
  have := parts_kind hp hj
  rw [← nodeAt_nat hj, ← ej] at this
  unfold needsF
  split
  · simp
  · split
    · rcases this with h | h | h <;> simp [h]
    · split
      · simp
      · split <;> simp
/-- Whether a rule holds, by the terms of the steps that are named. -/
def ruleF (ns : List Nd) (ks : List Int) (s : Sp) (a b : Int) : Bool :=
  if s.r = 1 then hasK ks s.t
  else if s.r = 2 then decide ((nodeAt ns s.t).k = 1) && pubF (nodeAt ns s.t).a
  else if s.r = 3 then decide ((nodeAt ns s.t).k ≠ 1) && decide (a = (nodeAt ns s.t).a) && (decide (needsF ns s < 2) || decide (b = (nodeAt ns s.t).b))
  else if s.r = 4 then decide ((nodeAt ns s.t).k = 8) && decide ((nodeAt ns b).k = 7) && (decide (a = (nodeAt ns s.t).a) && decide ((nodeAt ns b).a = (nodeAt ns s.t).b) || decide (a = (nodeAt ns s.t).b) && decide ((nodeAt ns b).a = (nodeAt ns s.t).a))
  else if s.r = 5 then decide ((nodeAt ns a).k = 2) && decide ((nodeAt ns a).a = s.t)
  else if s.r = 6 then decide ((nodeAt ns a).k = 2) && decide ((nodeAt ns a).b = s.t)
  else if s.r = 7 then decide ((nodeAt ns a).k = 3) && decide ((nodeAt ns a).a = s.t) && decide ((nodeAt ns a).b = b)
  else decide ((nodeAt ns a).k = 4) && decide ((nodeAt ns a).a = s.t)
def lackF (n a b sa sb : Int) : Bool := decide (n < 0 ∨ (0 < n ∧ a < 0) ∨ (1 < n ∧ b < 0) ∨ (n < 1 ∧ sa ≠ 0) ∨ (n < 2 ∧ sb ≠ 0))
def holdsF (ns : List Nd) (ks : List Int) (s : Sp) (a b : Int) : Bool := !lackF (needsF ns s) a b s.a s.b && ruleF ns ks s a b
theorem needs_0 {ns : List Nd} {s : Sp} (h : needsF ns s = 0) : s.r = 1 ∨ s.r = 2 ∨ s.r = 3 := by
  unfold needsF at h
  split at h
  · omega
  · split at h
    · omega
    · split at h
      · omega
      · split at h <;> omega
theorem needs_1 {ns : List Nd} {s : Sp} (h : needsF ns s = 1) : s.r = 3 ∨ s.r = 5 ∨ s.r = 6 ∨ s.r = 8 := by
  unfold needsF at h
  split at h
  · omega
  · split at h
    · omega
    · split at h
      · omega
      · split at h <;> omega
theorem needs_2 {ns : List Nd} {s : Sp} (h : needsF ns s = 2) : s.r = 3 ∨ s.r = 4 ∨ s.r = 7 := by
  unfold needsF at h
  split at h
  · omega
  · split at h
    · omega
    · split at h
      · omega
      · split at h <;> omega
theorem spec_l9Holds_c (ns : List Nd) (ks : List Int) (s : Sp) (a b : Int) (hl : ns.length < 9223372036854775807) (hk : ks.length < 9223372036854775807) (hp : poolF ns = true) (ht : hasF ns.length s.t = true) (ha : a < 0 ∨ hasF ns.length a = true) (hb : b < 0 ∨ hasF ns.length b = true) : T 45 [aP ns, aI ks, aSt s, i6 a, i6 b] [] (.bool (holdsF ns ks s a b)) ([]) := by
  refine semT' (S := S0) hm spec_l9Holds_ok (Nat.le_of_ble_eq_true rfl) ?_
  unfold spec_l9Holds; dsimp only
  obtain ⟨j, ej, hj⟩ := hasN ht
  obtain ⟨q, hr⟩ := enc_at hj
  have h3 : 3 ≤ ns.length * 3 - j * 3 := by omega
  have en := nodeAt_nat hj
  simp [ej, h3, hr, hj]
  rw [← ej]
  refine spec_l9Needs_call (s := s) hl ht rfl ?_; simp
  rcases needsF_in hp ht with hn | hn | hn | hn <;> simp [hn]
  · exact LeV.ro rfl rfl (by simp [holdsF, lackF, hn])
  · rcases needs_0 hn with h0 | h0 | h0
    all_goals repeat (any_goals (first | (refine br_intro' (fun h => ?_) (fun h => ?_) <;> (try simp at h) <;> try simp [h, h0, hn, h3, hr, hj]) | (refine spec_KnowHas_call (t := s.t) hk rfl ?_; simp) | (refine spec_IsPublic_call rfl ?_; simp)))
    all_goals exact LeV.ro rfl rfl (by simp [holdsF, lackF, ruleF, hn, h0, ej, en, *])
  · refine br_intro' (fun g => ?_) (fun g => ?_) <;> (have g0 := g) <;> simp at g <;> simp [g0, g]
    · exact LeV.ro rfl rfl (by simp [holdsF, lackF, hn, g])
    · obtain ⟨ja, rfl, hja⟩ := hasN (ha.resolve_left (by omega))
      obtain ⟨qa, hra⟩ := enc_at hja
      have h3a : 3 ≤ ns.length * 3 - ja * 3 := by omega
      have ena := nodeAt_nat hja
      rcases needs_1 hn with h0 | h0 | h0 | h0
      all_goals repeat (any_goals (first | (refine br_intro' (fun h => ?_) (fun h => ?_) <;> (have k0 := h) <;> (try simp [h0] at h) <;> try simp [k0, h, h0, hn, h3, hr, hj, h3a, hra, hja]) | (refine ck_intro' (by first | omega | kernel_rfl) ?_; simp [h0, hn, h3, hr, hj, h3a, hra, hja])))
      all_goals exact LeV.ro rfl rfl (by first | (simp [holdsF, lackF, ruleF, hn, h0, ej, en, ena, *]; done) | (simp [holdsF, lackF, ruleF, hn, h0, ej, en, ena, *]; omega))
  · refine br_intro' (fun g => ?_) (fun g => ?_) <;> (have g0 := g) <;> simp at g <;> simp [g0, g]
    · exact LeV.ro rfl rfl (by simp [holdsF, lackF, hn, g])
    obtain ⟨ja, rfl, hja⟩ := hasN (ha.resolve_left (by omega))
    refine br_intro' (fun g2 => ?_) (fun g2 => ?_) <;> (have g02 := g2) <;> simp at g2 <;> simp [g02, g2]
    · exact LeV.ro rfl rfl (by simp [holdsF, lackF, hn, g2])
    · obtain ⟨jb, rfl, hjb⟩ := hasN (hb.resolve_left (by omega))
      obtain ⟨qa, hra⟩ := enc_at hja
      have h3a : 3 ≤ ns.length * 3 - ja * 3 := by omega
      have ena := nodeAt_nat hja
      obtain ⟨qb, hrb⟩ := enc_at hjb
      have h3b : 3 ≤ ns.length * 3 - jb * 3 := by omega
      have enb := nodeAt_nat hjb
      rcases needs_2 hn with h0 | h0 | h0
      all_goals try simp [h0]
      all_goals repeat (any_goals (first | (refine br_intro' (fun h => ?_) (fun h => ?_) <;> (have k0 := h) <;> (try simp [h0] at h) <;> try simp [k0, h, h0, hn, h3, hr, hj, h3a, hra, hja, h3b, hrb, hjb]) | (refine ck_intro' (by first | omega | kernel_rfl) ?_; simp [h0, hn, h3, hr, hj, h3a, hra, hja, h3b, hrb, hjb])))
      all_goals exact LeV.ro rfl rfl (by first | (simp [holdsF, lackF, ruleF, hn, h0, ej, en, ena, enb, *]; done) | (simp [holdsF, lackF, ruleF, hn, h0, ej, en, ena, enb, *]; omega) | (simp [holdsF, lackF, ruleF, hn, h0, ej, en, ena, enb, *]; grind))
theorem spec_l9Holds_call {ns : List Nd} {ks : List Int} {s : Sp} {a b : Int} (hl : ns.length < 9223372036854775807) (hk : ks.length < 9223372036854775807) (hp : poolF ns = true) (ht : hasF ns.length s.t = true) (ha : a < 0 ∨ hasF ns.length a = true) (hb : b < 0 ∨ hasF ns.length b = true) {S : FuncId → Bool} {H : List Blk} {K : A → Dl → Prop} (hS : S 45 = false) (hK : K (.bool (holdsF ns ks s a b)) (.news [])) : @WCall' Go.Proofs.Tryz.prog S 45 [aP ns, aI ks, aSt s, i6 a, i6 b] H ⟨K⟩ :=
  WCall_pure hS (spec_l9Holds_c ns ks s a b hl hk hp ht ha hb) (by simp) (by simp) (by simp) hK
theorem spec_l9Holds_k {ns : List Nd} {ks : List Int} {s : Sp} {a b : Int} (hl : ns.length < 9223372036854775807) (hk : ks.length < 9223372036854775807) (hp : poolF ns = true) (ht : hasF ns.length s.t = true) (ha : a < 0 ∨ hasF ns.length a = true) (hb : b < 0 ∨ hasF ns.length b = true) {S : FuncId → Bool} {H : List Blk} {K : A → Dl → Prop} {zs : List A} (hS : S 45 = false) (hv : viewL (viewA 8 H) zs = some [aP ns, aI ks, aSt s, i6 a, i6 b]) (ho : noOwns zs = true ∨ nosl (.bool (holdsF ns ks s a b)) = true) (hK : K (.bool (holdsF ns ks s a b)) (.news [])) : @WCall' Go.Proofs.Tryz.prog S 45 zs H ⟨K⟩ :=
  WCall_pure hS (spec_l9Holds_c ns ks s a b hl hk hp ht ha hb) hv ho (by simp) hK
end Go.Proofs.YtcfgiffgahdlbaaGreat.C

set_option linter.unusedVariables false
set_option linter.unusedSimpArgs false
set_option maxRecDepth 4000
namespace Go.Proofs.YtcfgiffgahdlbaaGreat.C
open Go.Sym Go.Proofs.YtcfgiffgahdlbaaGreat.I
/-- The terms of the steps that a step names; false: it may not. -/
def termsV (ns : List Nd) (ss : List Sp) (s : Sp) : Int × Int × Bool :=
  if needsF ns s < 0 ∨ (needsF ns s < 1 ∧ s.a ≠ 0) ∨ (needsF ns s < 2 ∧ s.b ≠ 0) then (0, 0, false)
  else if 0 < needsF ns s ∧ inF s.a 0 ((ss.length : Int) - 1) = false then (0, 0, false)
  else if 1 < needsF ns s ∧ inF s.b 0 ((ss.length : Int) - 1) = false then (0, 0, false)
  else (if 0 < needsF ns s then termAt ss ss.length s.a else -1, if 1 < needsF ns s then termAt ss ss.length s.b else -1, true)
theorem impl_Pool_terms_c (ns : List Nd) (r : List A) (ss : List Sp) (s : Sp) (hl : ns.length < 9223372036854775807) (hls : ss.length < 9223372036854775807) (hp : poolF ns = true) (ht : hasF ns.length s.t = true) (hv : ∀ n H, viewL (viewA (n + 1) H) r = some r) (ho : noOwns r = true) : T 68 [.pt (.sl ns.length (enc ns) :: r), aSs ss, aSt s] [] (.tup [i6 (termsV ns ss s).1, i6 (termsV ns ss s).2.1, .bool (termsV ns ss s).2.2]) ([]) := by
  refine semT' (S := S0) hm impl_Pool_terms_ok (Nat.le_of_ble_eq_true rfl) ?_
  unfold impl_Pool_terms; dsimp only
  have hw := wrap_len (n := ss.length) (by omega)
  simp
  refine WCall_pure rfl (impl_Pool_needs_c ns r s hl hp ht hv ho) (by simp [hv]) (by simp [ho]) (by simp) ?_; simp
  rcases needsF_in hp ht with hn | hn | hn | hn <;> simp [hn]
  · exact LeV.ro rfl rfl (by simp [termsV, hn])
  · repeat (any_goals (first | (refine br_intro' (fun h => ?_) (fun h => ?_) <;> (have k0 := h) <;> (try simp at h) <;> try simp [k0, h])))
    all_goals exact LeV.ro rfl rfl (by simp [termsV, hn, *])
  · refine br_intro' (fun h => ?_) (fun h => ?_) <;> (try simp at h) <;> try simp [h]
    · rw [hw]
      refine impl_inRange_call rfl ?_; simp
      refine br_intro' (fun g => ?_) (fun g => ?_) <;> simp [g]
      · have g' := g
        simp [inF] at g'
        obtain ⟨j, e⟩ : ∃ j : Nat, s.a = j := ⟨s.a.toNat, by omega⟩
        have hj : j < ss.length := by omega
        obtain ⟨q, hr⟩ := encS_at hj
        have h4 : 2 ≤ ss.length * 4 - j * 4 := by omega
        rw [e]
        simp [hr, hj]
        rw [e] at g
        exact LeV.ro rfl rfl (by simp [termsV, termAt, hn, e, g, h, hj])
      · exact LeV.ro rfl rfl (by simp [termsV, hn, h, g])
    · exact LeV.ro rfl rfl (by simp [termsV, hn, h])
  · rw [hw]
    refine impl_inRange_call rfl ?_; simp
    refine br_intro' (fun g => ?_) (fun g => ?_) <;> simp [g]
    · have g' := g
      simp [inF] at g'
      obtain ⟨j, e⟩ : ∃ j : Nat, s.a = j := ⟨s.a.toNat, by omega⟩
      have hj : j < ss.length := by omega
      obtain ⟨q, hr⟩ := encS_at hj
      have h4 : 2 ≤ ss.length * 4 - j * 4 := by omega
      rw [e]
      simp [hr, hj]
      rw [hw]
      refine impl_inRange_call rfl ?_; simp
      refine br_intro' (fun f => ?_) (fun f => ?_) <;> simp [f]
      · have f' := f
        simp [inF] at f'
        obtain ⟨i, e2⟩ : ∃ i : Nat, s.b = i := ⟨s.b.toNat, by omega⟩
        have hi : i < ss.length := by omega
        obtain ⟨q2, hr2⟩ := encS_at hi
        have h42 : 2 ≤ ss.length * 4 - i * 4 := by omega
        rw [e2]
        simp [hr2, hi]
        rw [e] at g
        rw [e2] at f
        exact LeV.ro rfl rfl (by simp [termsV, termAt, hn, e, g, e2, f, hj, hi])
      · rw [e] at g
        exact LeV.ro rfl rfl (by simp [termsV, hn, e, g, f])
    · exact LeV.ro rfl rfl (by simp [termsV, hn, g])
theorem termAt_neg {ss : List Sp} {m : Nat} {k : Int} (h : inF k 0 ((m : Int) - 1) = false) : termAt ss m k = -1 := by simp [termAt, h]
theorem termAt_in {ns : List Nd} {ss : List Sp} {m : Nat} (hml : m ≤ ss.length) (hss : ∀ j : Nat, j < m → (h : j < ss.length) → hasF ns.length ss[j].t = true) (k : Int) : (inF k 0 ((m : Int) - 1) = false ∧ termAt ss m k = -1) ∨ inF k 0 ((m : Int) - 1) = true ∧ hasF ns.length (termAt ss m k) = true := by
  cases h : inF k 0 ((m : Int) - 1) with
  | false => exact .inl ⟨rfl, by simp [termAt, h]⟩
  | true =>
    right
    have h' := h
    simp [inF] at h'
    obtain ⟨j, rfl⟩ : ∃ j : Nat, k = j := ⟨k.toNat, by omega⟩
    have hj : j < ss.length := by omega
    have := hss j (by omega) hj
    refine ⟨rfl, ?_⟩
    simp [termAt, h, hj]
    exact this
theorem partsF_0 {k : Int} (h : partsF k = 0) : k = 1 := by
  unfold partsF at h
  split at h
  · assumption
  · split at h
    · omega
    · split at h <;> omega
theorem partsF_ne {k : Int} (h : partsF k ≠ 0) : k ≠ 1 := fun e => h (by simp [partsF, e])
theorem hasF_pos {m : Nat} {t : Int} (h : hasF m t = true) : ¬ t < 0 := by simp [hasF, inF] at h; omega
end Go.Proofs.YtcfgiffgahdlbaaGreat.C

set_option linter.unusedVariables false
set_option linter.unusedSimpArgs false
set_option maxRecDepth 4000
namespace Go.Proofs.YtcfgiffgahdlbaaGreat.C
open Go.Sym Go.Proofs.YtcfgiffgahdlbaaGreat.I
def stepOkF (ns : List Nd) (ks : List Int) (ss : List Sp) (s : Sp) : Bool := hasF ns.length s.t && holdsF ns ks s (termAt ss ss.length s.a) (termAt ss ss.length s.b)
theorem impl_Pool_holds_c (ns : List Nd) (r : List A) (ks : List Int) (ss : List Sp) (s : Sp) (hl : ns.length < 9223372036854775807) (hk : ks.length < 9223372036854775807) (hls : ss.length < 9223372036854775807) (hp : poolF ns = true) (hss : ∀ j : Nat, (h : j < ss.length) → hasF ns.length ss[j].t = true) (hv : ∀ n H, viewL (viewA (n + 1) H) r = some r) (ho : noOwns r = true) : T 43 [.pt (.sl ns.length (enc ns) :: r), aI ks, aSs ss, aSt s] [] (.bool (stepOkF ns ks ss s)) ([]) := by
  refine semT' (S := S0) hm impl_Pool_holds_ok (Nat.le_of_ble_eq_true rfl) ?_
  unfold impl_Pool_holds; dsimp only
  simp
  refine WCall_pure rfl (impl_Pool_isTerm_c ns r s.t hl) (by simp [hv]) (by simp [ho]) (by simp) ?_; simp
  refine br_intro' (fun h => ?_) (fun h => ?_) <;> simp [h]
  rotate_left
  · exact LeV.ro rfl rfl (by simp [stepOkF, h])
  refine WCall_pure rfl (impl_Pool_terms_c ns r ss s hl hls hp h hv ho) (by simp [hv]) (by simp [ho]) (by simp) ?_; simp
  have hta := termAt_in (Nat.le_refl _) (fun j hj hj' => hss j hj') s.a
  have htb := termAt_in (Nat.le_refl _) (fun j hj hj' => hss j hj') s.b
  obtain ⟨j, ej, hj⟩ := hasN h
  obtain ⟨q, hr⟩ := enc_at hj
  have h3 : 3 ≤ ns.length * 3 - j * 3 := by omega
  have en := nodeAt_nat hj
  have hpk := parts_kind hp hj
  rcases needsF_in hp h with hn | hn | hn | hn
  · simp [termsV, hn]
    exact LeV.ro rfl rfl (by simp [stepOkF, holdsF, lackF, hn])
  · by_cases hz : s.a = 0 ∧ s.b = 0
    · rw [show termsV ns ss s = (-1, -1, true) by simp [termsV, hn, hz]]
      simp [ej, h3, hr, hj]
      refine ck_intro' (by kernel_rfl) ?_; simp [ej, h3, hr, hj]
      rw [← ej]
      have hst : stepOkF ns ks ss s = ruleF ns ks s (termAt ss ss.length s.a) (termAt ss ss.length s.b) := by simp [stepOkF, h, holdsF, lackF, hn, hz]
      have hpl : s.r = 3 → partsL (nodeAt ns s.t) = [] ∧ ns[j].k = 1 := fun e => by
        have hz0 : partsF ns[j].k = 0 := by rw [← en, ← ej]; simpa [needsF, e] using hn
        exact ⟨by rw [ej, en]; simp [partsL, hz0], partsF_0 hz0⟩
      rcases needs_0 hn with h0 | h0 | h0
      all_goals try simp [h0]
      all_goals simp only [h0, true_implies, reduceCtorEq, false_implies] at hpl
      all_goals repeat (any_goals (first | (refine br_intro' (fun h => ?_) (fun h => ?_) <;> (have k0 := h) <;> (try simp [h0] at h) <;> try simp [k0, h, h0, hn, h3, hr, hj]) | (refine ck_intro' (by first | omega | kernel_rfl) ?_; simp [h0, hn, h3, hr, hj]) | (refine slices_Contains_int_call (ks := ks) (t := s.t) hk rfl ?_; simp) | (refine impl_IsPublic_call rfl ?_; simp) | (refine WCall_ro' rfl (by simp [hv]) (impl_Pool_parts_c ns r s.t hl (by assumption)) rfl (.inr ⟨by simp, by simp [noslBlks]⟩) ?_; simp [shiftB, hpl])))
      all_goals exact LeV.ro rfl rfl (by rw [hst]; first | (simp [ruleF, hn, h0, ej, en, *]; done) | (simp [ruleF, hn, h0, ej, en, *]; omega) | (simp [ruleF, hn, h0, ej, en, *]; grind))
    · rw [show termsV ns ss s = (0, 0, false) by simp [termsV, hn]; omega]
      simp
      exact LeV.ro rfl rfl (by simp [stepOkF, holdsF, lackF, hn]; omega)
  · rcases hta with ⟨h1, h2⟩ | ⟨h1, h2⟩
    · have et : (termsV ns ss s).2.2 = false := by simp only [termsV, hn, h1]; split <;> simp
      rw [et]
      simp
      exact LeV.ro rfl rfl (by simp [stepOkF, holdsF, lackF, hn, h2])
    · by_cases hz : s.b = 0
      · rw [show termsV ns ss s = (termAt ss ss.length s.a, -1, true) by simp [termsV, hn, hz, h1]]
        obtain ⟨ja, eja, hja⟩ := hasN h2
        obtain ⟨qa, hra⟩ := enc_at hja
        have h3a : 3 ≤ ns.length * 3 - ja * 3 := by omega
        have ena := nodeAt_nat hja
        simp [ej, h3, hr, hj]
        refine ck_intro' (by kernel_rfl) ?_; simp [ej, h3, hr, hj]
        rw [← ej]
        have hst : stepOkF ns ks ss s = ruleF ns ks s (termAt ss ss.length s.a) (termAt ss ss.length s.b) := by simp [stepOkF, h, holdsF, lackF, hn, hz, hasF_pos h2]
        rw [hst, eja]
        have hpl : s.r = 3 → partsL (nodeAt ns s.t) = [ns[j].a] ∧ ns[j].k ≠ 1 := fun e => by
          have hz0 : partsF ns[j].k = 1 := by rw [← en, ← ej]; simpa [needsF, e] using hn
          exact ⟨by rw [ej, en]; simp [partsL, hz0], partsF_ne (by omega)⟩
        rcases needs_1 hn with h0 | h0 | h0 | h0
        all_goals try simp [h0]
        all_goals simp only [h0, true_implies, reduceCtorEq, false_implies] at hpl
        all_goals repeat (any_goals (first | (refine br_intro' (fun h => ?_) (fun h => ?_) <;> (have k0 := h) <;> (try simp [h0] at h) <;> try simp [k0, h, h0, hn, h3, hr, hj, h3a, hra, hja]) | (refine ck_intro' (by first | omega | kernel_rfl) ?_; simp [h0, hn, h3, hr, hj, h3a, hra, hja]) | (refine slices_Contains_int_call (ks := ks) (t := s.t) hk rfl ?_; simp) | (refine impl_IsPublic_call rfl ?_; simp) | (refine WCall_ro' rfl (by simp [hv]) (impl_Pool_parts_c ns r s.t hl (by assumption)) rfl (.inr ⟨by simp, by simp [noslBlks]⟩) ?_; simp [shiftB, hpl])))
        all_goals exact LeV.ro rfl rfl (by first | (simp [ruleF, hn, h0, ej, en, *]; done) | (simp [ruleF, hn, h0, ej, en, *]; omega) | (simp [ruleF, hn, h0, ej, en, *]; grind))
      · rw [show (termsV ns ss s).2.2 = false by simp [termsV, hn, hz]]
        simp
        exact LeV.ro rfl rfl (by simp [stepOkF, holdsF, lackF, hn, hz])
  · rcases hta with ⟨h1, h2⟩ | ⟨h1, h2⟩
    · have et : (termsV ns ss s).2.2 = false := by simp only [termsV, hn, h1]; simp
      rw [et]
      simp
      exact LeV.ro rfl rfl (by simp [stepOkF, holdsF, lackF, hn, h2])
    rcases htb with ⟨k1, k2⟩ | ⟨k1, k2⟩
    · have et : (termsV ns ss s).2.2 = false := by simp only [termsV, hn, h1, k1]; simp
      rw [et]
      simp
      exact LeV.ro rfl rfl (by simp [stepOkF, holdsF, lackF, hn, k2])
    · rw [show termsV ns ss s = (termAt ss ss.length s.a, termAt ss ss.length s.b, true) by simp [termsV, hn, h1, k1]]
      obtain ⟨ja, eja, hja⟩ := hasN h2
      obtain ⟨qa, hra⟩ := enc_at hja
      have h3a : 3 ≤ ns.length * 3 - ja * 3 := by omega
      have ena := nodeAt_nat hja
      obtain ⟨jb, ejb, hjb⟩ := hasN k2
      obtain ⟨qb, hrb⟩ := enc_at hjb
      have h3b : 3 ≤ ns.length * 3 - jb * 3 := by omega
      have enb := nodeAt_nat hjb
      simp [ej, h3, hr, hj]
      refine ck_intro' (by kernel_rfl) ?_; simp [ej, h3, hr, hj]
      rw [← ej]
      have hst : stepOkF ns ks ss s = ruleF ns ks s (termAt ss ss.length s.a) (termAt ss ss.length s.b) := by simp [stepOkF, h, holdsF, lackF, hn, hasF_pos h2, hasF_pos k2]
      rw [hst, eja, ejb]
      have hpl : s.r = 3 → partsL (nodeAt ns s.t) = [ns[j].a, ns[j].b] ∧ ns[j].k ≠ 1 := fun e => by
        have hz0 : partsF ns[j].k = 2 := by rw [← en, ← ej]; simpa [needsF, e] using hn
        exact ⟨by rw [ej, en]; simp [partsL, hz0], partsF_ne (by omega)⟩
      rcases needs_2 hn with h0 | h0 | h0
      all_goals try simp [h0]
      all_goals simp only [h0, true_implies, reduceCtorEq, false_implies] at hpl
      all_goals repeat (any_goals (first | (refine br_intro' (fun h => ?_) (fun h => ?_) <;> (have k0 := h) <;> (try simp [h0] at h) <;> try simp [k0, h, h0, hn, h3, hr, hj, h3a, hra, hja, h3b, hrb, hjb]) | (refine ck_intro' (by first | omega | kernel_rfl) ?_; simp [h0, hn, h3, hr, hj, h3a, hra, hja, h3b, hrb, hjb]) | (refine slices_Contains_int_call (ks := ks) (t := s.t) hk rfl ?_; simp) | (refine impl_IsPublic_call rfl ?_; simp) | (refine WCall_ro' rfl (by simp [hv]) (impl_Pool_parts_c ns r s.t hl (by assumption)) rfl (.inr ⟨by simp, by simp [noslBlks]⟩) ?_; simp [shiftB, hpl])))
      all_goals exact LeV.ro rfl rfl (by first | (simp [ruleF, hn, h0, ej, en, *]; done) | (simp [ruleF, hn, h0, ej, en, *]; omega) | (simp [ruleF, hn, h0, ej, en, *]; grind))
end Go.Proofs.YtcfgiffgahdlbaaGreat.C

set_option linter.unusedVariables false
set_option linter.unusedSimpArgs false
set_option maxRecDepth 4000
namespace Go.Proofs.YtcfgiffgahdlbaaGreat.C
open Go.Sym Go.Proofs.YtcfgiffgahdlbaaGreat.I
abbrev spAt (ss : List Sp) (i : Nat) : Sp := ss.getD i ⟨0, 0, 0, 0⟩
theorem spAt_lt {ss : List Sp} {i : Nat} (h : i < ss.length) : spAt ss i = ss[i] := by simp [spAt, h]
def freshF (ss : List Sp) (i : Nat) : Bool := decide (∀ x ∈ ss.take i, x.t ≠ (spAt ss i).t)
def prF (ns : List Nd) (ks : List Int) (ss : List Sp) (i : Nat) : Bool := stepOkF ns ks (ss.take i) (spAt ss i) && freshF ss i
/-- A list of steps that is a proof. -/
def proofF (ns : List Nd) (ks : List Int) (ss : List Sp) : Bool := kpF ns ks && decide (ss.length ≤ 500) && allF (prF ns ks ss) ss.length 0
theorem termAt_take {ss : List Sp} {i : Nat} (h : i ≤ ss.length) (k : Int) : termAt (ss.take i) (ss.take i).length k = termAt ss i k := by
  have e : (ss.take i).length = i := by simp; omega
  rw [e]
  unfold termAt
  split
  · rename_i g
    simp [inF] at g
    have : k.toNat < i := by omega
    simp [List.getElem?_take, this]
  · rfl
theorem spec_l9Proof_c (ns : List Nd) (ks : List Int) (ss : List Sp) (hl : ns.length < 9223372036854775807) (hk : ks.length < 9223372036854775807) (hls : ss.length < 9223372036854775807) : T 24 [aP ns, aI ks, aSs ss] [] (.bool (proofF ns ks ss)) ([]) := by
  refine semT' (S := S0) hm spec_l9Proof_ok (Nat.le_of_ble_eq_true rfl) ?_
  unfold spec_l9Proof; dsimp only
  simp
  refine spec_KnowOk_call hl rfl ?_; simp
  refine br_intro' (fun hkp => ?_) (fun hkp => ?_) <;> simp [hkp]
  rotate_left
  · exact LeV.ro rfl rfl (by simp [proofF, hkp])
  have hp := kpF_pool hkp
  refine br_intro' (fun h5 => ?_) (fun h5 => ?_) <;> simp at h5 <;> simp [h5]
  · exact LeV.ro rfl rfl (by simp [proofF]; omega)
  have h500 : ss.length ≤ 500 := by omega
  have hP : proofF ns ks ss = allF (prF ns ks ss) ss.length 0 := by simp [proofF, hkp, h500]
  rw [hP]
  refine WLoop_fam (fun j : Nat => [(1, aI ks), (2, aSs ss), (3, A.ptr 0 0 0), (7, i6 j)]) (fun _ => [⟨0, false, 1, [A.sl ns.length (enc ns)], none⟩]) (fun j => ss.length - j)
    (fun j => j ≤ ss.length ∧ allF (prF ns ks ss) ss.length 0 = allF (prF ns ks ss) ss.length j ∧ ∀ i : Nat, i < j → (h : i < ss.length) → hasF ns.length ss[i].t = true) ?_ 0 ⟨Nat.zero_le _, rfl, fun i h => by omega⟩
  intro j ⟨hj, hf, hss⟩ ih
  simp
  refine br_intro' (fun h => ?_) (fun h => ?_) <;> (have h0 := h) <;> (try simp at h) <;> try simp [h0, h]
  · have h' := h
    obtain ⟨q, hr⟩ := encS_at h
    have h4 : 4 ≤ ss.length * 4 - j * 4 := by omega
    have hw := wrap_succ (n := j) (by omega)
    simp [h4, hr]
    refine spec_l1Has_call (t := ss[j].t) hl rfl ?_; simp
    have hfj : allF (prF ns ks ss) ss.length j = (prF ns ks ss j && allF (prF ns ks ss) ss.length (j + 1)) := allF_at h'
    have hprj : prF ns ks ss j = (hasF ns.length ss[j].t && holdsF ns ks ss[j] (termAt ss j ss[j].a) (termAt ss j ss[j].b) && freshF ss j) := by
      simp only [prF, spAt_lt h', stepOkF, termAt_take hj]
    refine br_intro' (fun g => ?_) (fun g => ?_) <;> simp [g]
    · refine spec_l9Term_call (ss := ss) (m := j) (k := ss[j].a) (by omega) hj rfl ?_; simp
      refine spec_l9Term_call (ss := ss) (m := j) (k := ss[j].b) (by omega) hj rfl ?_; simp
      have hta := termAt_in hj hss ss[j].a
      have htb := termAt_in hj hss ss[j].b
      refine spec_l9Holds_k (ns := ns) (ks := ks) (s := ss[j]) (a := termAt ss j ss[j].a) (b := termAt ss j ss[j].b) hl hk hp g (hta.imp (fun z => by omega) (fun z => z.2)) (htb.imp (fun z => by omega) (fun z => z.2)) rfl (by simp) (by simp) ?_; simp
      refine ck_intro' (by kernel_rfl) ?_; simp
      refine br_intro' (fun f => ?_) (fun f => ?_) <;> simp [f]
      · refine WLoop_fam (fun k : Nat => [(1, aI ks), (2, aSs ss), (3, A.ptr 0 0 0), (7, i6 j), (8, A.ptr 1 0 0), (9, i6 k)]) (fun _ => [⟨0, false, 1, [A.sl ns.length (enc ns)], none⟩, ⟨0, false, 1, [i6 ss[j].r, i6 ss[j].t, i6 ss[j].a, i6 ss[j].b], none⟩]) (fun k => j - k)
          (fun k => k ≤ j ∧ ∀ x ∈ ss.take k, x.t ≠ ss[j].t) ?_ 0 ⟨Nat.zero_le _, by simp⟩
        intro k ⟨hkj, hfr⟩ ih2
        simp
        refine br_intro' (fun u => ?_) (fun u => ?_) <;> (have u0 := u) <;> simp at u <;> simp [u0, u]
        · have hkl : k < ss.length := by omega
          obtain ⟨q2, hr2⟩ := encS_at hkl
          have h42 : 2 ≤ ss.length * 4 - k * 4 := by omega
          have hw2 := wrap_succ (n := k) (by omega)
          simp [hkl, hr2]
          refine ck_intro' (by kernel_rfl) ?_; simp
          refine br_intro' (fun v => ?_) (fun v => ?_) <;> simp at v <;> simp [v]
          · exact LeV.ro rfl rfl (by
              have : freshF ss j = false := by
                simp only [freshF, spAt_lt h', decide_eq_false_iff_not]
                intro e
                exact e ss[k] (List.mem_take_iff_getElem.2 ⟨k, by omega, rfl⟩) v
              rw [hf, hfj, hprj]; simp [this])
          · rw [hw2]
            refine ih2 (k + 1) ⟨u, fun x hx => ?_⟩ (by omega)
            rw [List.take_succ_eq_append_getElem hkl] at hx
            rcases List.mem_append.1 hx with hx | hx
            · exact hfr x hx
            · simp at hx; subst hx; exact v
        · have hkj' : k = j := by omega
          subst hkj'
          rw [hw]
          have hfre : freshF ss k = true := by simp only [freshF, spAt_lt h', decide_eq_true_eq]; exact hfr
          refine WLoop_drop [⟨0, false, 1, [A.sl ns.length (enc ns)], none⟩] [_] rfl (by simp) (by simp) (by simp) ?_
          refine ih (k + 1) ⟨h', by rw [hf, hfj, hprj, g, f, hfre]; simp, fun i hi hil => ?_⟩ (by omega)
          rcases Nat.lt_or_ge i k with z | z
          · exact hss i z hil
          · have : i = k := by omega
            subst this; exact g
      · exact LeV.ro rfl rfl (by rw [hf, hfj, hprj]; simp [f])
    · first | (refine ck_intro' (by kernel_rfl) ?_; try simp) | skip
      exact LeV.ro rfl rfl (by rw [hf, hfj, hprj]; simp [g])
  · have e := allF_end (p := prF ns ks ss) h
    exact LeV.ro rfl rfl (by rw [hf, e]; rfl)
theorem spec_l9Proof_call {ns : List Nd} {ks : List Int} {ss : List Sp} (hl : ns.length < 9223372036854775807) (hk : ks.length < 9223372036854775807) (hls : ss.length < 9223372036854775807) {S : FuncId → Bool} {H : List Blk} {K : A → Dl → Prop} (hS : S 24 = false) (hK : K (.bool (proofF ns ks ss)) (.news [])) : @WCall' Go.Proofs.Tryz.prog S 24 [aP ns, aI ks, aSs ss] H ⟨K⟩ :=
  WCall_pure hS (spec_l9Proof_c ns ks ss hl hk hls) (by simp) (by simp) (by simp) hK
theorem spec_l9Proof_k {ns : List Nd} {ks : List Int} {ss : List Sp} (hl : ns.length < 9223372036854775807) (hk : ks.length < 9223372036854775807) (hls : ss.length < 9223372036854775807) {S : FuncId → Bool} {H : List Blk} {K : A → Dl → Prop} {zs : List A} (hS : S 24 = false) (hv : viewL (viewA 8 H) zs = some [aP ns, aI ks, aSs ss]) (ho : noOwns zs = true ∨ nosl (.bool (proofF ns ks ss)) = true) (hK : K (.bool (proofF ns ks ss)) (.news [])) : @WCall' Go.Proofs.Tryz.prog S 24 zs H ⟨K⟩ :=
  WCall_pure hS (spec_l9Proof_c ns ks ss hl hk hls) hv ho (by simp) hK
def mkT (xs : List Sp) : List (List Int × Int) := xs.map fun n => ([n.t], 1)
theorem mcnt_mkT (t : Int) : ∀ (xs : List Sp), mcnt (mkT xs) [t] = if ∃ x ∈ xs, x.t = t then 1 else 0
  | [] => by simp [mkT]
  | x :: xs => by
    by_cases h : t = x.t
    · subst h; simp [mkT, mcnt]
    · have := mcnt_mkT t xs
      simp only [mkT] at this
      have h' : ¬ x.t = t := fun e => h e.symm
      simp [mkT, mcnt, h, h', this]
theorem mcnt_c (ks : List Int) (v : Int) (l : List (List Int × Int)) : mcnt ((ks, v) :: l) ks = v := by simp [mcnt]
def proofI (ns : List Nd) (ks : List Int) (ss : List Sp) : Bool := inF ss.length 1 500 && allF (prF ns ks ss) ss.length 0
theorem impl_Pool_isProof_c (ns : List Nd) (ks : List Int) (ss : List Sp) (hl : ns.length < 9223372036854775807) (hk : ks.length < 9223372036854775807) (hls : ss.length < 9223372036854775807) (hp : poolF ns = true) : T 23 [.pt [.sl ns.length (enc ns)], aI ks, aSs ss] [] (.bool (proofI ns ks ss)) ([]) := by
  refine semT' (S := S0) hm impl_Pool_isProof_ok (Nat.le_of_ble_eq_true rfl) ?_
  unfold impl_Pool_isProof; dsimp only
  simp
  refine impl_inRange_call rfl ?_; simp
  refine br_intro' (fun h5 => ?_) (fun h5 => ?_) <;> simp [h5]
  rotate_left
  · exact LeV.ro rfl rfl (by simp [proofI, h5])
  have h50 := h5
  simp [inF] at h50
  have h500 : ss.length ≤ 500 := by omega
  have hP : proofI ns ks ss = allF (prF ns ks ss) ss.length 0 := by simp [proofI, h5]
  refine WLoop_fam (fun j : Nat => [(0, A.pt [.sl ns.length (enc ns)]), (1, aI ks), (2, aSs ss), (7, A.mref 0 0), (15, aSs ss), (16, i6 ss.length), (17, i6 j)]) (fun j => [⟨0, false, 1, [], some (false, mkT (ss.take j).reverse)⟩]) (fun j => ss.length - j)
    (fun j => j ≤ ss.length ∧ allF (prF ns ks ss) ss.length 0 = allF (prF ns ks ss) ss.length j ∧ ∀ i : Nat, i < j → (h : i < ss.length) → hasF ns.length ss[i].t = true) ?_ 0 ⟨Nat.zero_le _, rfl, fun i h => by omega⟩
  intro j ⟨hj, hf, hss⟩ ih
  simp
  refine br_intro' (fun h => ?_) (fun h => ?_) <;> (have h0 := h) <;> (try simp at h) <;> try simp [h0, h]
  · have h' := h
    obtain ⟨q, hr⟩ := encS_at h
    have h4 : 4 ≤ ss.length * 4 - j * 4 := by omega
    have hw := wrap_succ (n := j) (by omega)
    have w1 : IntKind.i64.wrap 1 = 1 := wrap64 (by omega) (by omega)
    have w2 : IntKind.i64.wrap 2 = 2 := wrap64 (by omega) (by omega)
    simp [h4, hr, h', mcnt_c]
    have hfj : allF (prF ns ks ss) ss.length j = (prF ns ks ss j && allF (prF ns ks ss) ss.length (j + 1)) := allF_at h'
    have hprj : prF ns ks ss j = (stepOkF ns ks (ss.take j) ss[j] && freshF ss j) := by
      simp only [prF, spAt_lt h']
    by_cases hm : ∃ x ∈ (ss.take j).reverse, x.t = ss[j].t
    · have hc : mcnt (mkT (ss.take j).reverse) [ss[j].t] = 1 := by rw [mcnt_mkT, if_pos hm]
      have hfre : freshF ss j = false := by
        simp only [freshF, spAt_lt h', decide_eq_false_iff_not]
        intro e
        obtain ⟨x, hx, hx2⟩ := hm
        exact e x (by simpa using hx) hx2
      simp [hc, w2, mcnt_c]
      refine ck_intro' (by kernel_rfl) ?_; simp
      exact LeV.ro rfl rfl (by rw [hP, hf, hfj, hprj, hfre]; simp)
    · have hc : mcnt (mkT (ss.take j).reverse) [ss[j].t] = 0 := by rw [mcnt_mkT, if_neg hm]
      have hfre : freshF ss j = true := by
        simp only [freshF, spAt_lt h', decide_eq_true_eq]
        intro x hx e
        exact hm ⟨x, by simpa using hx, e⟩
      simp [hc, w1, mcnt_c]
      refine ck_intro' hj ?_; simp
      refine WCall_pure rfl (impl_Pool_holds_c ns [] ks (ss.take j) ss[j] hl hk (by simp; omega) hp (fun i hi => by simp at hi; simp; exact hss i (by omega) (by omega)) (by simp) (by simp)) (by simp [encS_takes, Nat.min_eq_left hj]) (by simp) (by simp) ?_; simp
      refine ck_intro' (by kernel_rfl) ?_; simp
      refine br_intro' (fun g => ?_) (fun g => ?_) <;> simp [g]
      · rw [hw]
        have hk2 : ([ss[j].t], (1 : Int)) :: mkT (ss.take j).reverse = mkT (ss.take (j + 1)).reverse := by
          rw [List.take_succ_eq_append_getElem h', List.reverse_append]; rfl
        refine WLoop_drop [⟨0, false, 1, [], some (false, mkT (ss.take (j + 1)).reverse)⟩] [_] (by rw [← hk2]; rfl) (by simp) (by simp) (by simp) ?_
        refine ih (j + 1) ⟨h', by rw [hf, hfj, hprj, g, hfre]; simp, fun i hi hil => ?_⟩ (by omega)
        rcases Nat.lt_or_ge i j with z | z
        · exact hss i z hil
        · have : i = j := by omega
          subst this
          simp only [stepOkF, Bool.and_eq_true] at g
          exact g.1
      · exact LeV.ro rfl rfl (by rw [hP, hf, hfj, hprj, g]; simp)
  · have e := allF_end (p := prF ns ks ss) h
    exact LeV.ro rfl rfl (by rw [hP, hf, e]; rfl)
/-- What ProofCheck answers. -/
def checkF (ns : List Nd) (ks : List Int) (ss : List Sp) (t : Int) : Bool := decide (ss ≠ []) && proofF ns ks ss && decide ((spAt ss (ss.length - 1)).t = t)
theorem spec_ProofCheck_c (ns : List Nd) (ks : List Int) (ss : List Sp) (t : Int) (hl : ns.length < 9223372036854775807) (hk : ks.length < 9223372036854775807) (hls : ss.length < 9223372036854775807) : T 12 [aP ns, aI ks, aSs ss, i6 t] [] (.bool (checkF ns ks ss t)) ([]) := by
  refine semT' (S := S0) hm spec_ProofCheck_ok (Nat.le_of_ble_eq_true rfl) ?_
  unfold spec_ProofCheck; dsimp only
  simp
  refine br_intro' (fun h => ?_) (fun h => ?_) <;> (have h0 := h) <;> simp at h <;> simp [h0, h]
  · have hw := wrap_len (n := ss.length) (by omega)
    obtain ⟨m, hm⟩ : ∃ m : Nat, (ss.length : Int) - 1 = m := ⟨ss.length - 1, by omega⟩
    have hml : m < ss.length := by omega
    obtain ⟨q, hr⟩ := encS_at hml
    have h42 : 2 ≤ ss.length * 4 - m * 4 := by omega
    have hm2 : ss.length - 1 = m := by omega
    have hne : ss ≠ [] := by intro e; rw [e] at hml; exact absurd hml (Nat.not_lt_zero _)
    have hge : (1 : Int) ≤ ss.length := by omega
    have hc5 : (ss.length : Int) ≤ 500 ↔ ss.length ≤ 500 := by omega
    refine spec_l9Proof_k (ns := ns) (ks := ks) (ss := ss) hl hk hls rfl (by simp) (by simp) ?_; simp
    refine br_intro' (fun g => ?_) (fun g => ?_) <;> simp [g]
    · rw [hw, hm]
      simp [hml, hr]
      exact LeV.ro rfl rfl (by simp [checkF, g, hm2, hml, hne])
    · exact LeV.ro rfl rfl (by simp [checkF, g])
  · exact LeV.ro rfl rfl (by simp [checkF, h])
theorem spec_ProofCheck_call {ns : List Nd} {ks : List Int} {ss : List Sp} {t : Int} (hl : ns.length < 9223372036854775807) (hk : ks.length < 9223372036854775807) (hls : ss.length < 9223372036854775807) {S : FuncId → Bool} {H : List Blk} {K : A → Dl → Prop} (hS : S 12 = false) (hK : K (.bool (checkF ns ks ss t)) (.news [])) : @WCall' Go.Proofs.Tryz.prog S 12 [aP ns, aI ks, aSs ss, i6 t] H ⟨K⟩ :=
  WCall_pure hS (spec_ProofCheck_c ns ks ss t hl hk hls) (by simp) (by simp) (by simp) hK
theorem spec_ProofCheck_k {ns : List Nd} {ks : List Int} {ss : List Sp} {t : Int} (hl : ns.length < 9223372036854775807) (hk : ks.length < 9223372036854775807) (hls : ss.length < 9223372036854775807) {S : FuncId → Bool} {H : List Blk} {K : A → Dl → Prop} {zs : List A} (hS : S 12 = false) (hv : viewL (viewA 8 H) zs = some [aP ns, aI ks, aSs ss, i6 t]) (ho : noOwns zs = true ∨ nosl (.bool (checkF ns ks ss t)) = true) (hK : K (.bool (checkF ns ks ss t)) (.news [])) : @WCall' Go.Proofs.Tryz.prog S 12 zs H ⟨K⟩ :=
  WCall_pure hS (spec_ProofCheck_c ns ks ss t hl hk hls) hv ho (by simp) hK
theorem impl_ProofCheck_c (ns : List Nd) (ks : List Int) (ss : List Sp) (t : Int) (hl : ns.length < 9223372036854775807) (hk : ks.length < 9223372036854775807) (hls : ss.length < 9223372036854775807) : T 10 [aP ns, aI ks, aSs ss, i6 t] [] (.bool (checkF ns ks ss t)) ([]) := by
  refine semT' (S := S0) hm impl_ProofCheck_ok (Nat.le_of_ble_eq_true rfl) ?_
  unfold impl_ProofCheck; dsimp only
  simp
  refine br_intro' (fun h => ?_) (fun h => ?_) <;> (have h0 := h) <;> simp at h <;> simp [h0, h]
  · have hw := wrap_len (n := ss.length) (by omega)
    obtain ⟨m, hm⟩ : ∃ m : Nat, (ss.length : Int) - 1 = m := ⟨ss.length - 1, by omega⟩
    have hml : m < ss.length := by omega
    obtain ⟨q, hr⟩ := encS_at hml
    have h42 : 2 ≤ ss.length * 4 - m * 4 := by omega
    have hm2 : ss.length - 1 = m := by omega
    have hne : ss ≠ [] := by intro e; rw [e] at hml; exact absurd hml (Nat.not_lt_zero _)
    have hge : (1 : Int) ≤ ss.length := by omega
    have hc5 : (ss.length : Int) ≤ 500 ↔ ss.length ≤ 500 := by omega
    rw [hw, hm]
    simp [hml, hr]
    refine br_intro' (fun g => ?_) (fun g => ?_) <;> (have g0 := g) <;> simp at g <;> simp [g0, g]
    · refine impl_KnowOk_k (ns := ns) (ks := ks) hl hk rfl (by simp) (by simp) ?_; simp
      refine br_intro' (fun f => ?_) (fun f => ?_) <;> simp [f]
      · refine WCall_pure rfl (impl_Pool_isProof_c ns ks ss hl hk hls (kpF_pool f)) (by simp) (by simp) (by simp) ?_; simp
        exact LeV.ro rfl rfl (by simp [checkF, proofF, proofI, f, hm2, hml, hne, g, inF, hge, hc5])
      · exact LeV.ro rfl rfl (by simp [checkF, proofF, f])
    · exact LeV.ro rfl rfl (by simp [checkF, hm2, hml, g])
  · exact LeV.ro rfl rfl (by simp [checkF, h])
theorem impl_ProofCheck_call {ns : List Nd} {ks : List Int} {ss : List Sp} {t : Int} (hl : ns.length < 9223372036854775807) (hk : ks.length < 9223372036854775807) (hls : ss.length < 9223372036854775807) {S : FuncId → Bool} {H : List Blk} {K : A → Dl → Prop} (hS : S 10 = false) (hK : K (.bool (checkF ns ks ss t)) (.news [])) : @WCall' Go.Proofs.Tryz.prog S 10 [aP ns, aI ks, aSs ss, i6 t] H ⟨K⟩ :=
  WCall_pure hS (impl_ProofCheck_c ns ks ss t hl hk hls) (by simp) (by simp) (by simp) hK
theorem impl_ProofCheck_k {ns : List Nd} {ks : List Int} {ss : List Sp} {t : Int} (hl : ns.length < 9223372036854775807) (hk : ks.length < 9223372036854775807) (hls : ss.length < 9223372036854775807) {S : FuncId → Bool} {H : List Blk} {K : A → Dl → Prop} {zs : List A} (hS : S 10 = false) (hv : viewL (viewA 8 H) zs = some [aP ns, aI ks, aSs ss, i6 t]) (ho : noOwns zs = true ∨ nosl (.bool (checkF ns ks ss t)) = true) (hK : K (.bool (checkF ns ks ss t)) (.news [])) : @WCall' Go.Proofs.Tryz.prog S 10 zs H ⟨K⟩ :=
  WCall_pure hS (impl_ProofCheck_c ns ks ss t hl hk hls) hv ho (by simp) hK
end Go.Proofs.YtcfgiffgahdlbaaGreat.C

set_option linter.unusedVariables false
set_option linter.unusedSimpArgs false
set_option maxRecDepth 4000
namespace Go.Proofs.YtcfgiffgahdlbaaGreat.C
open Go.Sym Go.Proofs.YtcfgiffgahdlbaaGreat.I
abbrev tblk (ss : List Sp) : Blk := ⟨ss.length, decide (ss.length = 0), 4, encS ss, none⟩
abbrev tref' (b : Nat) (ss : List Sp) : A := .ref b ss.length 0 ss.length
/-- What a step asks of those ahead of it. -/
def wellF (ns : List Nd) (ss : List Sp) (i : Nat) : Bool :=
  hasF ns.length (spAt ss i).t && decide (0 ≤ needsF ns (spAt ss i)) && (decide (needsF ns (spAt ss i) < 1) || inF (spAt ss i).a 0 ((i : Int) - 1)) && (decide (needsF ns (spAt ss i) < 2) || inF (spAt ss i).b 0 ((i : Int) - 1))
def keepStep (ns : List Nd) (ss : List Sp) (kb : List Bool) (i : Nat) : List Bool :=
  if kb.getD i false = true then
    if 0 < needsF ns (spAt ss i) then
      if 1 < needsF ns (spAt ss i) then (kb.set (spAt ss i).a.toNat true).set (spAt ss i).b.toNat true else kb.set (spAt ss i).a.toNat true
    else kb
  else kb
def keepGo (ns : List Nd) (ss : List Sp) : Nat → List Bool → List Bool
  | 0, kb => kb
  | n + 1, kb => keepGo ns ss n (keepStep ns ss kb n)
def keepV (ns : List Nd) (ss : List Sp) : List Bool := keepGo ns ss ss.length ((List.replicate ss.length false).set (ss.length - 1) true)
theorem keepStep_len (ns : List Nd) (ss : List Sp) (kb : List Bool) (i : Nat) : (keepStep ns ss kb i).length = kb.length := by
  unfold keepStep
  split
  · split
    · split <;> simp
    · rfl
  · rfl
/-- A step, its places told anew. -/
def moveF (ns : List Nd) (now : List Int) (s : Sp) : Sp := ⟨s.r, s.t, if 0 < needsF ns s then now.getD s.a.toNat 0 else s.a, if 1 < needsF ns s then now.getD s.b.toNat 0 else s.b⟩
def trimGo (ns : List Nd) (ss : List Sp) (kb : List Bool) : Nat → Nat → List Int → List Sp → List Sp
  | 0, _, _, out => out
  | n + 1, j, now, out => if kb.getD j false = true then trimGo ns ss kb n (j + 1) (now.set j out.length) (out ++ [moveF ns now (spAt ss j)]) else trimGo ns ss kb n (j + 1) now out
def trimV (ns : List Nd) (ss : List Sp) : List Sp := trimGo ns ss (keepV ns ss) ss.length 0 (List.replicate ss.length 0) []
/-- What ProofTrim answers. -/
def trimF (ns : List Nd) (ss : List Sp) : List Sp := if ss ≠ [] ∧ ss.length ≤ 500 ∧ poolF ns = true ∧ allF (wellF ns ss) ss.length 0 = true then trimV ns ss else []
theorem allF_all {p : Nat → Bool} {n : Nat} (h : allF p n 0 = true) {i : Nat} (hi : i < n) : p i = true := by
  simp only [allF, List.all_eq_true] at h
  exact h i (by simp [List.mem_range']; omega)
theorem well_at {ns : List Nd} {ss : List Sp} {i : Nat} (h : wellF ns ss i = true) (hi : i < ss.length) : hasF ns.length ss[i].t = true ∧ (needsF ns ss[i] = 0 ∨ (needsF ns ss[i] = 1 ∧ ∃ a : Nat, ss[i].a = a ∧ a < i) ∨ (needsF ns ss[i] = 2 ∧ (∃ a : Nat, ss[i].a = a ∧ a < i) ∧ ∃ b : Nat, ss[i].b = b ∧ b < i) ∨ 2 < needsF ns ss[i]) := by
  simp only [wellF, spAt_lt hi, Bool.and_eq_true, Bool.or_eq_true, decide_eq_true_eq] at h
  obtain ⟨⟨⟨h1, h2⟩, h3⟩, h4⟩ := h
  refine ⟨h1, ?_⟩
  rcases Int.lt_or_le (needsF ns ss[i]) 1 with g | g
  · left; omega
  · right
    have ha := h3.resolve_left (by omega)
    simp [inF] at ha
    have e1 : ∃ a : Nat, ss[i].a = a ∧ a < i := ⟨ss[i].a.toNat, by omega, by omega⟩
    rcases Int.lt_or_le (needsF ns ss[i]) 2 with f | f
    · left; exact ⟨by omega, e1⟩
    · right
      rcases Int.lt_or_le 2 (needsF ns ss[i]) with u | u
      · right; exact u
      · left
        have hb := h4.resolve_left (by omega)
        simp [inF] at hb
        exact ⟨by omega, e1, ss[i].b.toNat, by omega, by omega⟩
theorem impl_Pool_trimmed_c (ns : List Nd) (ss : List Sp) (hl : ns.length < 9223372036854775807) (hp : poolF ns = true) (hne : ss ≠ []) (h5 : ss.length ≤ 500) (hwl : ∀ i : Nat, i < ss.length → wellF ns ss i = true) : T 17 [.pt [.sl ns.length (enc ns)], aSs ss] [] (tref' 0 (trimV ns ss)) ([tblk (trimV ns ss)]) := by
  refine semT' (S := S0) hm impl_Pool_trimmed_ok (Nat.le_of_ble_eq_true rfl) ?_
  unfold impl_Pool_trimmed; dsimp only
  have h0 : 0 < ss.length := List.length_pos_iff.2 hne
  have hw := wrap_len (n := ss.length) (by omega)
  obtain ⟨m, hm⟩ : ∃ m : Nat, (ss.length : Int) - 1 = m := ⟨ss.length - 1, by omega⟩
  have hml : m < ss.length := by omega
  have hm2 : ss.length - 1 = m := by omega
  have hB : ((ss.length : Int)) * 8 ≤ 17592186044416 := by omega
  have h2 : (ss.length : Int) ≤ 4294967296 := by omega
  simp [hw]
  refine ck_intro' (by omega) ?_; simp [hw]
  refine ck_intro' (by omega) ?_; simp [hw]
  refine ck_intro' (by omega) ?_; simp [hw]
  rw [← bls_rep, bls_set]
  have hkv : keepV ns ss = keepGo ns ss ss.length ((List.replicate ss.length false).set (ss.length - 1) true) := rfl
  refine WLoop_fam (fun p : Nat × List Bool => [(0, A.pt [.sl ns.length (enc ns)]), (1, aSs ss), (5, A.ref 0 0 0 ss.length), (6, i6 ((p.1 : Int) - 1))]) (fun p => [⟨0, false, 1, bls p.2, none⟩]) (fun p => p.1)
    (fun p => p.1 ≤ ss.length ∧ p.2.length = ss.length ∧ keepV ns ss = keepGo ns ss p.1 p.2) ?_ (ss.length, (List.replicate ss.length false).set (ss.length - 1) true) ⟨Nat.le_refl _, by simp, hkv⟩
  rintro ⟨k, kb⟩ ⟨hk, hkl, hkg⟩ ih
  simp only at hk hkl hkg
  simp
  refine br_intro' (fun h => ?_) (fun h => ?_) <;> (have hc0 := h) <;> simp at h <;> simp [hc0, h]
  · obtain ⟨i, rfl⟩ : ∃ i, k = i + 1 := ⟨k - 1, by omega⟩
    have e1 : ((i + 1 : Nat) : Int) - 1 = i := by omega
    have hil : i < ss.length := by omega
    have hik : i < kb.length := by omega
    have hw2 : IntKind.i64.wrap ((i : Int) - 1) = i - 1 := wrap64 (by omega) (by omega)
    obtain ⟨q, hr⟩ := encS_at hil
    have h4 : 4 ≤ ss.length * 4 - i * 4 := by omega
    have hst : keepGo ns ss (i + 1) kb = keepGo ns ss i (keepStep ns ss kb i) := rfl
    have hks : keepStep ns ss kb i = if kb[i] = true then
      if 0 < needsF ns ss[i] then
        if 1 < needsF ns ss[i] then (kb.set ss[i].a.toNat true).set ss[i].b.toNat true else kb.set ss[i].a.toNat true
      else kb
      else kb := by simp only [keepStep, spAt_lt hil]; simp [hik]
    obtain ⟨ht, hn⟩ := well_at (hwl i hil) hil
    simp [e1, hil, hik, hkl]
    refine br_intro' (fun g => ?_) (fun g => ?_) <;> simp [g]
    · refine ck_intro' hil ?_; simp [h4, hr]
      refine WCall_pure rfl (impl_Pool_needs_c ns [] ss[i] hl hp ht (by simp) (by simp)) (by simp) (by simp) (by simp) ?_; simp
      rcases hn with hn | ⟨hn, a, ea, hla⟩ | ⟨hn, ⟨a, ea, hla⟩, b, eb, hlb⟩ | hn
      · simp [hn, hw2]
        exact ih (i, kb) ⟨by omega, hkl, by rw [hkg, hst, hks]; simp [g, hn]⟩ (by simp)
      · have hal : a < kb.length := by omega
        simp [hn, ea, h4, hr, hil, hw2]
        repeat (refine ck_intro' (by first | omega | (simp; omega) | kernel_rfl) ?_; try simp [hn, ea, h4, hr, hil, hw2, bls_set])
        exact ih (i, kb.set a true) ⟨by omega, by simp [hkl], by rw [hkg, hst, hks]; simp [g, hn, ea]⟩ (by simp)
      · have hal : a < kb.length := by omega
        have hbl : b < kb.length := by omega
        simp [hn, ea, eb, h4, hr, hil, hw2]
        repeat (refine ck_intro' (by first | omega | (simp; omega) | kernel_rfl) ?_; try simp [hn, ea, eb, h4, hr, hil, hw2, bls_set])
        exact ih (i, (kb.set a true).set b true) ⟨by omega, by simp [hkl], by rw [hkg, hst, hks]; simp [g, hn, ea, eb]⟩ (by simp)
      · rcases needsF_in hp ht with z | z | z | z <;> omega
    · simp [hw2]
      exact ih (i, kb) ⟨by omega, hkl, by rw [hkg, hst, hks]; simp [g]⟩ (by simp)
  · have hk0 : k = 0 := by omega
    subst hk0
    have hkv2 : keepV ns ss = kb := hkg
    refine ck_intro' (by omega) ?_; simp
    rw [← ints_rep']
    refine WLoop_virt 4 [(0, A.pt [.sl ns.length (enc ns)]), (5, A.ref 0 0 0 ss.length), (8, A.ref 2 0 0 0), (9, A.ref 1 0 0 ss.length), (60, aSs ss), (61, i6 ss.length), (62, i6 0)] ?_ ?_
    · intro t y hy
      simp [Sym.get] at hy ⊢
      (repeat' split at hy) <;> simp_all
    refine WLoop_fam (fun p : Nat × List Int × List Sp => [(0, A.pt [.sl ns.length (enc ns)]), (5, A.ref 0 0 0 ss.length), (8, tref' 2 p.2.2), (9, A.ref 1 0 0 ss.length), (60, aSs ss), (61, i6 ss.length), (62, i6 p.1)]) (fun p => [⟨0, false, 1, bls kb, none⟩, ⟨0, false, 1, ints p.2.1, none⟩, tblk p.2.2]) (fun p => ss.length - p.1)
      (fun p => p.1 ≤ ss.length ∧ p.2.1.length = ss.length ∧ p.2.2.length ≤ p.1 ∧ trimV ns ss = trimGo ns ss kb (ss.length - p.1) p.1 p.2.1 p.2.2) ?_ (0, List.replicate ss.length 0, []) ⟨Nat.zero_le _, by simp, by simp, by simp [trimV, hkv2]⟩
    rintro ⟨j, now, out⟩ ⟨hj, hnl, hol, htg⟩ ih2
    simp only at hj hnl hol htg
    simp
    refine br_intro' (fun u => ?_) (fun u => ?_) <;> (have u0 := u) <;> simp at u <;> simp [u0, u]
    · obtain ⟨q, hr⟩ := encS_at u
      have h4 : 4 ≤ ss.length * 4 - j * 4 := by omega
      have hjk : j < kb.length := by omega
      have hw3 := wrap_succ (n := j) (by omega)
      obtain ⟨ht, hn⟩ := well_at (hwl j u) u
      have hst : trimGo ns ss kb (ss.length - j) j now out = if kb[j] = true then trimGo ns ss kb (ss.length - (j + 1)) (j + 1) (now.set j out.length) (out ++ [moveF ns now ss[j]]) else trimGo ns ss kb (ss.length - (j + 1)) (j + 1) now out := by
        rw [show ss.length - j = (ss.length - (j + 1)) + 1 by omega, trimGo, spAt_lt u]
        simp [hjk]
      simp [h4, hr, hjk, u]
      refine br_intro' (fun g => ?_) (fun g => ?_) <;> simp [g]
      · refine WCall_pure rfl (impl_Pool_needs_c ns [] ss[j] hl hp ht (by simp) (by simp)) (by simp) (by simp) (by simp) ?_; simp
        have hlo : out.length < 500 := by omega
        rcases hn with hn | ⟨hn, a, ea, hla⟩ | ⟨hn, ⟨a, ea, hla⟩, b, eb, hlb⟩ | hn
        · have hmv : moveF ns now ss[j] = ss[j] := by simp [moveF, hn]
          simp [hn, hnl, u, ints_set']
          repeat (refine ck_intro' (by first | omega | (simp; omega) | kernel_rfl) ?_; try simp [hn, hnl, u, ints_set', hw3])
          refine WLoop_drop [⟨0, false, 1, bls kb, none⟩, ⟨0, false, 1, ints (now.set j out.length), none⟩, tblk (out ++ [ss[j]])] [_, _] (by simp [encS_snoc]; exact ⟨rfl, rfl⟩) (by simp) (by simp) (by simp) ?_
          rw [show A.ref 2 (out.length + 1) 0 (out.length + 1) = tref' 2 (out ++ [ss[j]]) by simp]
          exact ih2 (j + 1, now.set j out.length, out ++ [ss[j]]) ⟨u, by simp [hnl], by simp; omega, by rw [htg, hst]; simp [g, hmv]⟩ (by simp; omega)
        · have hal : a < now.length := by omega
          have hmv : moveF ns now ss[j] = ⟨ss[j].r, ss[j].t, now[a], ss[j].b⟩ := by simp [moveF, hn, ea, hal]
          simp [hn, ea, hal, ints_at hal, hnl, u, ints_set']
          repeat (refine ck_intro' (by first | omega | (simp; omega) | kernel_rfl) ?_; try simp [hn, ea, hal, ints_at hal, hnl, u, ints_set', hw3])
          refine WLoop_drop [⟨0, false, 1, bls kb, none⟩, ⟨0, false, 1, ints (now.set j out.length), none⟩, tblk (out ++ [⟨ss[j].r, ss[j].t, now[a], ss[j].b⟩])] [_, _] (by simp [encS_snoc]; exact ⟨rfl, rfl⟩) (by simp) (by simp) (by simp) ?_
          rw [show A.ref 2 (out.length + 1) 0 (out.length + 1) = tref' 2 (out ++ [⟨ss[j].r, ss[j].t, now[a], ss[j].b⟩]) by simp]
          exact ih2 (j + 1, now.set j out.length, out ++ [⟨ss[j].r, ss[j].t, now[a], ss[j].b⟩]) ⟨u, by simp [hnl], by simp; omega, by rw [htg, hst]; simp [g, hmv]⟩ (by simp; omega)
        · have hal : a < now.length := by omega
          have hbl : b < now.length := by omega
          have hmv : moveF ns now ss[j] = ⟨ss[j].r, ss[j].t, now[a], now[b]⟩ := by simp [moveF, hn, ea, eb, hal, hbl]
          simp [hn, ea, eb, hal, hbl, ints_at hal, ints_at hbl, hnl, u, ints_set']
          repeat (refine ck_intro' (by first | omega | (simp; omega) | kernel_rfl) ?_; try simp [hn, ea, eb, hal, hbl, ints_at hal, ints_at hbl, hnl, u, ints_set', hw3])
          refine WLoop_drop [⟨0, false, 1, bls kb, none⟩, ⟨0, false, 1, ints (now.set j out.length), none⟩, tblk (out ++ [⟨ss[j].r, ss[j].t, now[a], now[b]⟩])] [_, _] (by simp [encS_snoc]; exact ⟨rfl, rfl⟩) (by simp) (by simp) (by simp) ?_
          rw [show A.ref 2 (out.length + 1) 0 (out.length + 1) = tref' 2 (out ++ [⟨ss[j].r, ss[j].t, now[a], now[b]⟩]) by simp]
          exact ih2 (j + 1, now.set j out.length, out ++ [⟨ss[j].r, ss[j].t, now[a], now[b]⟩]) ⟨u, by simp [hnl], by simp; omega, by rw [htg, hst]; simp [g, hmv]⟩ (by simp; omega)
        · rcases needsF_in hp ht with z | z | z | z <;> omega
      · rw [hw3]
        refine WLoop_drop [⟨0, false, 1, bls kb, none⟩, ⟨0, false, 1, ints now, none⟩, tblk out] [_] rfl (by simp) (by simp) (by simp) ?_
        exact ih2 (j + 1, now, out) ⟨u, hnl, by simp; omega, by rw [htg, hst]; simp [g]⟩ (by simp; omega)
    · have hjn : j = ss.length := by omega
      have e : trimV ns ss = out := by rw [htg, hjn, Nat.sub_self]; rfl
      rw [e]
      first | (refine LeV.tell [none] ?_ ?_ ?_ <;> (simp; done)) | (refine LeV.tell [some 0] ?_ ?_ ?_ <;> (simp; done)) | (refine LeV.tell [some 1] ?_ ?_ ?_ <;> (simp; done)) | (refine LeV.tell [some 2] ?_ ?_ ?_ <;> (simp; done)) | (refine LeV.tell [some 3] ?_ ?_ ?_ <;> (simp; done)) | (refine LeV.tell [some 4] ?_ ?_ ?_ <;> (simp; done)) | (refine LeV.tell [some 5] ?_ ?_ ?_ <;> (simp; done)) | (refine LeV.tell [some 6] ?_ ?_ ?_ <;> (simp; done)) | (refine LeV.tell [some 7] ?_ ?_ ?_ <;> (simp; done)) | (refine LeV.tell [some 8] ?_ ?_ ?_ <;> (simp; done)) | (refine LeV.tell [some 9] ?_ ?_ ?_ <;> (simp; done)) | (refine LeV.tell [some 10] ?_ ?_ ?_ <;> (simp; done)) | (refine LeV.tell [some 11] ?_ ?_ ?_ <;> (simp; done)) | (refine LeV.tell [some 12] ?_ ?_ ?_ <;> (simp; done)) | (refine LeV.tell [some 13] ?_ ?_ ?_ <;> (simp; done)) | (refine LeV.tell [some 14] ?_ ?_ ?_ <;> (simp; done)) | (refine LeV.tell [some 15] ?_ ?_ ?_ <;> (simp; done))
theorem impl_Pool_trimmed_k {ns : List Nd} {ss : List Sp} (hl : ns.length < 9223372036854775807) (hp : poolF ns = true) (hne : ss ≠ []) (h5 : ss.length ≤ 500) (hwl : ∀ i : Nat, i < ss.length → wellF ns ss i = true) {S : FuncId → Bool} {H : List Blk} {K : A → Dl → Prop} {zs : List A} (hS : S 17 = false) (hv : viewL (viewA 8 H) zs = some [.pt [.sl ns.length (enc ns)], aSs ss]) (ho : noOwns zs = true ∨ nosl (tref' 0 (trimV ns ss)) = true ∧ noslBlks ([tblk (trimV ns ss)]) = true) (hK : K (shiftA H.length (tref' 0 (trimV ns ss))) (.news (([tblk (trimV ns ss)]).map (shiftB H.length)))) : @WCall' Go.Proofs.Tryz.prog S 17 zs H ⟨K⟩ :=
  WCall_ro' hS hv (impl_Pool_trimmed_c ns ss hl hp hne h5 hwl) rfl ho hK
end Go.Proofs.YtcfgiffgahdlbaaGreat.C
