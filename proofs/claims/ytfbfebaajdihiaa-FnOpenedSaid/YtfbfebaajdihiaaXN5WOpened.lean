/- What is derived, in the program. Conditions: those that each theorem names. -/
import Derived.Test.YtfbfebaajdihiaaXQ3N4
import Derived.Shelf.Slices.Reverse
import Derived.Test.YtfbfebaajdihiaaXC1D2
import Derived.Test.YtfbfebaajdihiaaXD3E2
set_option linter.unusedVariables false
set_option linter.unusedSimpArgs false
set_option maxRecDepth 4000
namespace Go.Proofs.Ytfbfebaajdihiaa.C
open Go.Sym Go.Proofs.Ytfbfebaajdihiaa.I
theorem impl_Pool_openAll_k {ns : List Nd} {ks : List Int} (hkp : kpF ns ks = true) {S : FuncId → Bool} {H : List Blk} {K : A → Dl → Prop} {zs : List A} (hS : S 52 = false) (hv : viewL (viewA 8 H) zs = some [.pt [.sl ns.length (enc ns)], aI ks]) (ho : noOwns zs = true ∨ nosl (.tup [jref 0 (openV ns ks).1, i6 (openV ns ks).2]) = true ∧ noslBlks ([jblk (openV ns ks).1]) = true) (hK : K (shiftA H.length (.tup [jref 0 (openV ns ks).1, i6 (openV ns ks).2])) (.news (([jblk (openV ns ks).1]).map (shiftB H.length)))) : @WCall' Go.Proofs.Try.prog S 52 zs H ⟨K⟩ :=
  WCall_ro' hS hv (impl_Pool_openAll_c ns ks hkp) rfl ho hK
def opAllF (ns : List Nd) (ks : List Int) : List Int × Nat := if kpF ns ks = true then openV ns ks else ([], 0)
theorem openV_len {ns : List Nd} {ks : List Int} (h : kpF ns ks = true) : (openV ns ks).1.length ≤ 200 := allO_len ns 201 ks 0 (kpF_len h)
theorem opAllF_len (ns : List Nd) (ks : List Int) : (opAllF ns ks).1.length ≤ 200 := by
  unfold opAllF
  split
  · exact openV_len ‹_›
  · simp
theorem impl_OpenAll_c (ns : List Nd) (ks : List Int) (hl : ns.length < 9223372036854775807) (hk : ks.length < 9223372036854775807) : T 23 [aP ns, aI ks] [] (.tup [jref 0 (opAllF ns ks).1, i6 (opAllF ns ks).2]) ([jblk (opAllF ns ks).1]) := by
  refine semT' (S := S0) hm impl_OpenAll_ok (Nat.le_of_ble_eq_true rfl) ?_
  unfold impl_OpenAll; dsimp only
  simp
  refine impl_KnowOk_k (ns := ns) (ks := ks) hl hk rfl (by simp) (by simp [noslBlks]) ?_; simp [shiftB]
  refine br_intro' (fun g => ?_) (fun g => ?_) <;> (have g0 := g) <;> simp [g0]
  · rw [show opAllF ns ks = openV ns ks from if_pos g]
    refine impl_Pool_openAll_k (ns := ns) (ks := ks) g rfl (by simp) (by simp [noslBlks]) ?_; simp [shiftB]
    first | (refine LeV.tell [none] ?_ ?_ ?_ <;> (simp; done)) | (refine LeV.tell [some 0] ?_ ?_ ?_ <;> (simp; done)) | (refine LeV.tell [some 1] ?_ ?_ ?_ <;> (simp; done)) | (refine LeV.tell [some 2] ?_ ?_ ?_ <;> (simp; done)) | (refine LeV.tell [some 3] ?_ ?_ ?_ <;> (simp; done)) | (refine LeV.tell [some 4] ?_ ?_ ?_ <;> (simp; done)) | (refine LeV.tell [some 5] ?_ ?_ ?_ <;> (simp; done)) | (refine LeV.tell [some 6] ?_ ?_ ?_ <;> (simp; done)) | (refine LeV.tell [some 7] ?_ ?_ ?_ <;> (simp; done)) | (refine LeV.tell [some 8] ?_ ?_ ?_ <;> (simp; done)) | (refine LeV.tell [some 9] ?_ ?_ ?_ <;> (simp; done)) | (refine LeV.tell [some 10] ?_ ?_ ?_ <;> (simp; done)) | (refine LeV.tell [some 11] ?_ ?_ ?_ <;> (simp; done)) | (refine LeV.tell [some 12] ?_ ?_ ?_ <;> (simp; done)) | (refine LeV.tell [some 13] ?_ ?_ ?_ <;> (simp; done)) | (refine LeV.tell [some 14] ?_ ?_ ?_ <;> (simp; done)) | (refine LeV.tell [some 15] ?_ ?_ ?_ <;> (simp; done))
  · rw [show opAllF ns ks = ([], 0) from if_neg (by simp [g])]
    first | (refine LeV.tell [none] ?_ ?_ ?_ <;> (simp; done)) | (refine LeV.tell [some 0] ?_ ?_ ?_ <;> (simp; done)) | (refine LeV.tell [some 1] ?_ ?_ ?_ <;> (simp; done)) | (refine LeV.tell [some 2] ?_ ?_ ?_ <;> (simp; done)) | (refine LeV.tell [some 3] ?_ ?_ ?_ <;> (simp; done)) | (refine LeV.tell [some 4] ?_ ?_ ?_ <;> (simp; done)) | (refine LeV.tell [some 5] ?_ ?_ ?_ <;> (simp; done)) | (refine LeV.tell [some 6] ?_ ?_ ?_ <;> (simp; done)) | (refine LeV.tell [some 7] ?_ ?_ ?_ <;> (simp; done)) | (refine LeV.tell [some 8] ?_ ?_ ?_ <;> (simp; done)) | (refine LeV.tell [some 9] ?_ ?_ ?_ <;> (simp; done)) | (refine LeV.tell [some 10] ?_ ?_ ?_ <;> (simp; done)) | (refine LeV.tell [some 11] ?_ ?_ ?_ <;> (simp; done)) | (refine LeV.tell [some 12] ?_ ?_ ?_ <;> (simp; done)) | (refine LeV.tell [some 13] ?_ ?_ ?_ <;> (simp; done)) | (refine LeV.tell [some 14] ?_ ?_ ?_ <;> (simp; done)) | (refine LeV.tell [some 15] ?_ ?_ ?_ <;> (simp; done))
theorem impl_OpenAll_k {ns : List Nd} {ks : List Int} (hl : ns.length < 9223372036854775807) (hk : ks.length < 9223372036854775807) {S : FuncId → Bool} {H : List Blk} {K : A → Dl → Prop} {zs : List A} (hS : S 23 = false) (hv : viewL (viewA 8 H) zs = some [aP ns, aI ks]) (ho : noOwns zs = true ∨ nosl (.tup [jref 0 (opAllF ns ks).1, i6 (opAllF ns ks).2]) = true ∧ noslBlks ([jblk (opAllF ns ks).1]) = true) (hK : K (shiftA H.length (.tup [jref 0 (opAllF ns ks).1, i6 (opAllF ns ks).2])) (.news (([jblk (opAllF ns ks).1]).map (shiftB H.length)))) : @WCall' Go.Proofs.Try.prog S 23 zs H ⟨K⟩ :=
  WCall_ro' hS hv (impl_OpenAll_c ns ks hl hk) rfl ho hK
theorem spec_OpenAll_c (ns : List Nd) (ks : List Int) (hl : ns.length < 9223372036854775807) (hk : ks.length < 9223372036854775807) : T 22 [aP ns, aI ks] [] (.tup [jref 0 (opAllF ns ks).1, i6 (opAllF ns ks).2]) ([jblk (opAllF ns ks).1]) := by
  refine semT' (S := S0) hm spec_OpenAll_ok (Nat.le_of_ble_eq_true rfl) ?_
  unfold spec_OpenAll; dsimp only
  simp
  refine spec_KnowOk_k (ns := ns) (ks := ks) hl rfl (by simp) (by simp [noslBlks]) ?_; simp [shiftB]
  refine br_intro' (fun g => ?_) (fun g => ?_) <;> (have g0 := g) <;> simp [g0]
  · rw [show opAllF ns ks = openV ns ks from if_pos g]
    obtain ⟨hp, hks, hsr, hkl⟩ := kpF_iff.1 g
    refine spec_l8All_k (ns := ns) (ks := ks) (poolF_len hp) hkl hp hks rfl (by simp) (by simp [noslBlks]) ?_; simp [shiftB]
    first | (refine LeV.tell [none] ?_ ?_ ?_ <;> (simp; done)) | (refine LeV.tell [some 0] ?_ ?_ ?_ <;> (simp; done)) | (refine LeV.tell [some 1] ?_ ?_ ?_ <;> (simp; done)) | (refine LeV.tell [some 2] ?_ ?_ ?_ <;> (simp; done)) | (refine LeV.tell [some 3] ?_ ?_ ?_ <;> (simp; done)) | (refine LeV.tell [some 4] ?_ ?_ ?_ <;> (simp; done)) | (refine LeV.tell [some 5] ?_ ?_ ?_ <;> (simp; done)) | (refine LeV.tell [some 6] ?_ ?_ ?_ <;> (simp; done)) | (refine LeV.tell [some 7] ?_ ?_ ?_ <;> (simp; done)) | (refine LeV.tell [some 8] ?_ ?_ ?_ <;> (simp; done)) | (refine LeV.tell [some 9] ?_ ?_ ?_ <;> (simp; done)) | (refine LeV.tell [some 10] ?_ ?_ ?_ <;> (simp; done)) | (refine LeV.tell [some 11] ?_ ?_ ?_ <;> (simp; done)) | (refine LeV.tell [some 12] ?_ ?_ ?_ <;> (simp; done)) | (refine LeV.tell [some 13] ?_ ?_ ?_ <;> (simp; done)) | (refine LeV.tell [some 14] ?_ ?_ ?_ <;> (simp; done)) | (refine LeV.tell [some 15] ?_ ?_ ?_ <;> (simp; done))
  · rw [show opAllF ns ks = ([], 0) from if_neg (by simp [g])]
    first | (refine LeV.tell [none] ?_ ?_ ?_ <;> (simp; done)) | (refine LeV.tell [some 0] ?_ ?_ ?_ <;> (simp; done)) | (refine LeV.tell [some 1] ?_ ?_ ?_ <;> (simp; done)) | (refine LeV.tell [some 2] ?_ ?_ ?_ <;> (simp; done)) | (refine LeV.tell [some 3] ?_ ?_ ?_ <;> (simp; done)) | (refine LeV.tell [some 4] ?_ ?_ ?_ <;> (simp; done)) | (refine LeV.tell [some 5] ?_ ?_ ?_ <;> (simp; done)) | (refine LeV.tell [some 6] ?_ ?_ ?_ <;> (simp; done)) | (refine LeV.tell [some 7] ?_ ?_ ?_ <;> (simp; done)) | (refine LeV.tell [some 8] ?_ ?_ ?_ <;> (simp; done)) | (refine LeV.tell [some 9] ?_ ?_ ?_ <;> (simp; done)) | (refine LeV.tell [some 10] ?_ ?_ ?_ <;> (simp; done)) | (refine LeV.tell [some 11] ?_ ?_ ?_ <;> (simp; done)) | (refine LeV.tell [some 12] ?_ ?_ ?_ <;> (simp; done)) | (refine LeV.tell [some 13] ?_ ?_ ?_ <;> (simp; done)) | (refine LeV.tell [some 14] ?_ ?_ ?_ <;> (simp; done)) | (refine LeV.tell [some 15] ?_ ?_ ?_ <;> (simp; done))
theorem spec_OpenAll_k {ns : List Nd} {ks : List Int} (hl : ns.length < 9223372036854775807) (hk : ks.length < 9223372036854775807) {S : FuncId → Bool} {H : List Blk} {K : A → Dl → Prop} {zs : List A} (hS : S 22 = false) (hv : viewL (viewA 8 H) zs = some [aP ns, aI ks]) (ho : noOwns zs = true ∨ nosl (.tup [jref 0 (opAllF ns ks).1, i6 (opAllF ns ks).2]) = true ∧ noslBlks ([jblk (opAllF ns ks).1]) = true) (hK : K (shiftA H.length (.tup [jref 0 (opAllF ns ks).1, i6 (opAllF ns ks).2])) (.news (([jblk (opAllF ns ks).1]).map (shiftB H.length)))) : @WCall' Go.Proofs.Try.prog S 22 zs H ⟨K⟩ :=
  WCall_ro' hS hv (spec_OpenAll_c ns ks hl hk) rfl ho hK
theorem impl_MakesAll_c (ns : List Nd) (ks : List Int) (hl : ns.length < 9223372036854775807) (hk : ks.length < 9223372036854775807) : T 59 [aP ns, aI ks] [] (aBl (makesF ns ks)) ([]) := by
  refine semT' (S := S0) hm impl_MakesAll_ok (Nat.le_of_ble_eq_true rfl) ?_
  unfold impl_MakesAll; dsimp only
  simp
  refine impl_KnowOk_k (ns := ns) (ks := ks) hl hk rfl (by simp) (by simp [noslBlks]) ?_; simp [shiftB]
  refine br_intro' (fun g => ?_) (fun g => ?_) <;> (have g0 := g) <;> simp [g0]
  · rw [show makesF ns ks = mkUp ns ks ns.length from if_pos g]
    obtain ⟨hp, hks, hsr, hkl⟩ := kpF_iff.1 g
    refine impl_Pool_makes_k (ns := ns) (ks := ks) hp hks (by omega) rfl (by simp) (by simp [noslBlks]) ?_; simp [shiftB]
    exact LeV.ro rfl rfl (by simp)
  · rw [show makesF ns ks = [] from if_neg (by simp [g])]
    exact LeV.ro rfl rfl (by simp)
theorem impl_MakesAll_call {ns : List Nd} {ks : List Int} (hl : ns.length < 9223372036854775807) (hk : ks.length < 9223372036854775807) {S : FuncId → Bool} {H : List Blk} {K : A → Dl → Prop} (hS : S 59 = false) (hK : K (aBl (makesF ns ks)) (.news [])) : @WCall' Go.Proofs.Try.prog S 59 [aP ns, aI ks] H ⟨K⟩ :=
  WCall_pure hS (impl_MakesAll_c ns ks hl hk) (by simp) (by simp) (by simp) hK
theorem impl_MakesAll_k {ns : List Nd} {ks : List Int} (hl : ns.length < 9223372036854775807) (hk : ks.length < 9223372036854775807) {S : FuncId → Bool} {H : List Blk} {K : A → Dl → Prop} {zs : List A} (hS : S 59 = false) (hv : viewL (viewA 8 H) zs = some [aP ns, aI ks]) (ho : noOwns zs = true ∨ nosl (aBl (makesF ns ks)) = true) (hK : K (aBl (makesF ns ks)) (.news [])) : @WCall' Go.Proofs.Try.prog S 59 zs H ⟨K⟩ :=
  WCall_pure hS (impl_MakesAll_c ns ks hl hk) hv ho (by simp) hK
theorem impl_MakesList_c (ns : List Nd) (ks : List Int) (hl : ns.length < 9223372036854775807) (hk : ks.length < 9223372036854775807) : T 34 [aP ns, aI ks] [] (jref 0 (mlistF ns ks)) ([jblk (mlistF ns ks)]) := by
  refine semT' (S := S0) hm impl_MakesList_ok (Nat.le_of_ble_eq_true rfl) ?_
  unfold impl_MakesList; dsimp only
  simp
  refine impl_MakesAll_k (ns := ns) (ks := ks) hl hk rfl (by simp) (by simp [noslBlks]) ?_; simp [shiftB]
  have hml := makesF_len ns ks
  rw [show mlistF ns ks = listF (makesF ns ks) from rfl]
  generalize makesF ns ks = mk at hml ⊢
  refine WLoop_virt 1 [(5, A.ref 1 0 0 0), (10, aBl mk), (11, i6 mk.length), (12, i6 0)] ?_ ?_
  · intro s y hy
    simp [Sym.get] at hy ⊢
    (repeat' split at hy) <;> simp_all
  refine WLoop_fam (fun p : Nat × List Int => [(5, jref 1 p.2), (10, aBl mk), (11, i6 mk.length), (12, i6 p.1)]) (fun p => [⟨0, false, 1, [A.sl ns.length (enc ns)], none⟩, jblk p.2]) (fun p => mk.length - p.1)
    (fun p => p.1 ≤ mk.length ∧ p.2.length ≤ p.1 ∧ listF mk = p.2 ++ listGo p.1 (mk.drop p.1)) ?_ (0, []) ⟨Nat.zero_le _, by simp, by simp [listF]⟩
  rintro ⟨j, out⟩ ⟨hj, hol, hf⟩ ih
  simp only at hj hol hf
  simp
  refine br_intro' (fun u => ?_) (fun u => ?_) <;> (have u0 := u) <;> simp at u <;> simp [u0, u]
  · have hd : mk.drop j = mk[j] :: mk.drop (j + 1) := List.drop_eq_getElem_cons u
    have hw := wrap_succ (n := j) (by omega)
    have eb := bls_at u
    repeat (refine ck_intro' (by first | omega | (simp; omega) | kernel_rfl) ?_; try simp [u])
    try simp [eb]
    refine br_intro' (fun g => ?_) (fun g => ?_) <;> (have g0 := g) <;> simp [g0]
    · repeat (refine ck_intro' (by first | omega | (simp; omega) | kernel_rfl) ?_; try simp [hw])
      rw [show A.ref 1 (out.length + 1) 0 (out.length + 1) = jref 1 (out ++ [(j : Int)]) by simp]
      refine WLoop_drop [⟨0, false, 1, [A.sl ns.length (enc ns)], none⟩, jblk (out ++ [(j : Int)])] [_] (by simp [ints_snoc]; exact rfl) (by simp) (by simp) (by simp) ?_
      exact ih (j + 1, out ++ [(j : Int)]) ⟨u, by simp; omega, by rw [hf, hd]; simp [listGo, g]⟩ (by simp; omega)
    · rw [hw]
      exact ih (j + 1, out) ⟨u, by simp; omega, by rw [hf, hd]; simp [listGo, g]⟩ (by simp; omega)
  · have hd : mk.drop j = [] := List.drop_of_length_le (by omega)
    rw [show listF mk = out by rw [hf, hd]; simp [listGo]]
    first | (refine LeV.tell [none] ?_ ?_ ?_ <;> (simp; done)) | (refine LeV.tell [some 0] ?_ ?_ ?_ <;> (simp; done)) | (refine LeV.tell [some 1] ?_ ?_ ?_ <;> (simp; done)) | (refine LeV.tell [some 2] ?_ ?_ ?_ <;> (simp; done)) | (refine LeV.tell [some 3] ?_ ?_ ?_ <;> (simp; done)) | (refine LeV.tell [some 4] ?_ ?_ ?_ <;> (simp; done)) | (refine LeV.tell [some 5] ?_ ?_ ?_ <;> (simp; done)) | (refine LeV.tell [some 6] ?_ ?_ ?_ <;> (simp; done)) | (refine LeV.tell [some 7] ?_ ?_ ?_ <;> (simp; done)) | (refine LeV.tell [some 8] ?_ ?_ ?_ <;> (simp; done)) | (refine LeV.tell [some 9] ?_ ?_ ?_ <;> (simp; done)) | (refine LeV.tell [some 10] ?_ ?_ ?_ <;> (simp; done)) | (refine LeV.tell [some 11] ?_ ?_ ?_ <;> (simp; done)) | (refine LeV.tell [some 12] ?_ ?_ ?_ <;> (simp; done)) | (refine LeV.tell [some 13] ?_ ?_ ?_ <;> (simp; done)) | (refine LeV.tell [some 14] ?_ ?_ ?_ <;> (simp; done)) | (refine LeV.tell [some 15] ?_ ?_ ?_ <;> (simp; done))
theorem impl_MakesList_k {ns : List Nd} {ks : List Int} (hl : ns.length < 9223372036854775807) (hk : ks.length < 9223372036854775807) {S : FuncId → Bool} {H : List Blk} {K : A → Dl → Prop} {zs : List A} (hS : S 34 = false) (hv : viewL (viewA 8 H) zs = some [aP ns, aI ks]) (ho : noOwns zs = true ∨ nosl (jref 0 (mlistF ns ks)) = true ∧ noslBlks ([jblk (mlistF ns ks)]) = true) (hK : K (shiftA H.length (jref 0 (mlistF ns ks))) (.news (([jblk (mlistF ns ks)]).map (shiftB H.length)))) : @WCall' Go.Proofs.Try.prog S 34 zs H ⟨K⟩ :=
  WCall_ro' hS hv (impl_MakesList_c ns ks hl hk) rfl ho hK
theorem impl_DerivesList_c (ns : List Nd) (ks : List Int) (hl : ns.length < 9223372036854775807) (hk : ks.length < 9223372036854775807) : T 25 [aP ns, aI ks] [] (jref 0 (derF ns ks)) ([jblk (derF ns ks)]) := by
  refine semT' (S := S0) hm impl_DerivesList_ok (Nat.le_of_ble_eq_true rfl) ?_
  unfold impl_DerivesList; dsimp only
  simp
  refine impl_KnowOk_k (ns := ns) (ks := ks) hl hk rfl (by simp) (by simp [noslBlks]) ?_; simp [shiftB]
  refine br_intro' (fun g => ?_) (fun g => ?_) <;> (have g0 := g) <;> simp [g0]
  · rw [show derF ns ks = mlistF ns (openV ns ks).1 from if_pos g]
    have hol := openV_len g
    refine impl_Pool_openAll_k (ns := ns) (ks := ks) g rfl (by simp) (by simp [noslBlks]) ?_; simp [shiftB]
    refine impl_MakesList_k (ns := ns) (ks := (openV ns ks).1) hl (by omega) rfl (by simp) (by simp [noslBlks]) ?_; simp [shiftB]
    first | (refine LeV.tell [none] ?_ ?_ ?_ <;> (simp; done)) | (refine LeV.tell [some 0] ?_ ?_ ?_ <;> (simp; done)) | (refine LeV.tell [some 1] ?_ ?_ ?_ <;> (simp; done)) | (refine LeV.tell [some 2] ?_ ?_ ?_ <;> (simp; done)) | (refine LeV.tell [some 3] ?_ ?_ ?_ <;> (simp; done)) | (refine LeV.tell [some 4] ?_ ?_ ?_ <;> (simp; done)) | (refine LeV.tell [some 5] ?_ ?_ ?_ <;> (simp; done)) | (refine LeV.tell [some 6] ?_ ?_ ?_ <;> (simp; done)) | (refine LeV.tell [some 7] ?_ ?_ ?_ <;> (simp; done)) | (refine LeV.tell [some 8] ?_ ?_ ?_ <;> (simp; done)) | (refine LeV.tell [some 9] ?_ ?_ ?_ <;> (simp; done)) | (refine LeV.tell [some 10] ?_ ?_ ?_ <;> (simp; done)) | (refine LeV.tell [some 11] ?_ ?_ ?_ <;> (simp; done)) | (refine LeV.tell [some 12] ?_ ?_ ?_ <;> (simp; done)) | (refine LeV.tell [some 13] ?_ ?_ ?_ <;> (simp; done)) | (refine LeV.tell [some 14] ?_ ?_ ?_ <;> (simp; done)) | (refine LeV.tell [some 15] ?_ ?_ ?_ <;> (simp; done))
  · rw [show derF ns ks = [] from if_neg (by simp [g])]
    first | (refine LeV.tell [none] ?_ ?_ ?_ <;> (simp; done)) | (refine LeV.tell [some 0] ?_ ?_ ?_ <;> (simp; done)) | (refine LeV.tell [some 1] ?_ ?_ ?_ <;> (simp; done)) | (refine LeV.tell [some 2] ?_ ?_ ?_ <;> (simp; done)) | (refine LeV.tell [some 3] ?_ ?_ ?_ <;> (simp; done)) | (refine LeV.tell [some 4] ?_ ?_ ?_ <;> (simp; done)) | (refine LeV.tell [some 5] ?_ ?_ ?_ <;> (simp; done)) | (refine LeV.tell [some 6] ?_ ?_ ?_ <;> (simp; done)) | (refine LeV.tell [some 7] ?_ ?_ ?_ <;> (simp; done)) | (refine LeV.tell [some 8] ?_ ?_ ?_ <;> (simp; done)) | (refine LeV.tell [some 9] ?_ ?_ ?_ <;> (simp; done)) | (refine LeV.tell [some 10] ?_ ?_ ?_ <;> (simp; done)) | (refine LeV.tell [some 11] ?_ ?_ ?_ <;> (simp; done)) | (refine LeV.tell [some 12] ?_ ?_ ?_ <;> (simp; done)) | (refine LeV.tell [some 13] ?_ ?_ ?_ <;> (simp; done)) | (refine LeV.tell [some 14] ?_ ?_ ?_ <;> (simp; done)) | (refine LeV.tell [some 15] ?_ ?_ ?_ <;> (simp; done))
theorem impl_DerivesList_k {ns : List Nd} {ks : List Int} (hl : ns.length < 9223372036854775807) (hk : ks.length < 9223372036854775807) {S : FuncId → Bool} {H : List Blk} {K : A → Dl → Prop} {zs : List A} (hS : S 25 = false) (hv : viewL (viewA 8 H) zs = some [aP ns, aI ks]) (ho : noOwns zs = true ∨ nosl (jref 0 (derF ns ks)) = true ∧ noslBlks ([jblk (derF ns ks)]) = true) (hK : K (shiftA H.length (jref 0 (derF ns ks))) (.news (([jblk (derF ns ks)]).map (shiftB H.length)))) : @WCall' Go.Proofs.Try.prog S 25 zs H ⟨K⟩ :=
  WCall_ro' hS hv (impl_DerivesList_c ns ks hl hk) rfl ho hK
/-- Whether a term can be derived, as the program says. -/
def derT (ns : List Nd) (ks : List Int) (t : Int) : Bool := hasF ns.length t && kpF ns ks && bv (mkUp ns (openV ns ks).1 ns.length) t
theorem impl_Pool_derives_c (ns : List Nd) (ks : List Int) (hkp : kpF ns ks = true) (hop : ∀ x ∈ (openV ns ks).1, hasF ns.length x = true) : T 62 [.pt [.sl ns.length (enc ns)], aI ks] [] (bref 0 (mkUp ns (openV ns ks).1 ns.length)) ([⟨(mkUp ns (openV ns ks).1 ns.length).length, false, 1, bls (mkUp ns (openV ns ks).1 ns.length), none⟩]) := by
  refine semT' (S := S0) hm impl_Pool_derives_ok (Nat.le_of_ble_eq_true rfl) ?_
  unfold impl_Pool_derives; dsimp only
  obtain ⟨hp, hks, hsr, hkl⟩ := kpF_iff.1 hkp
  have hol := openV_len hkp
  simp
  refine impl_Pool_openAll_k (ns := ns) (ks := ks) hkp rfl (by simp) (by simp [noslBlks]) ?_; simp [shiftB]
  refine impl_Pool_makes_k (ns := ns) (ks := (openV ns ks).1) hp hop (by omega) rfl (by simp) (by simp [noslBlks]) ?_; simp [shiftB]
  first | (refine LeV.tell [none] ?_ ?_ ?_ <;> (simp; done)) | (refine LeV.tell [some 0] ?_ ?_ ?_ <;> (simp; done)) | (refine LeV.tell [some 1] ?_ ?_ ?_ <;> (simp; done)) | (refine LeV.tell [some 2] ?_ ?_ ?_ <;> (simp; done)) | (refine LeV.tell [some 3] ?_ ?_ ?_ <;> (simp; done)) | (refine LeV.tell [some 4] ?_ ?_ ?_ <;> (simp; done)) | (refine LeV.tell [some 5] ?_ ?_ ?_ <;> (simp; done)) | (refine LeV.tell [some 6] ?_ ?_ ?_ <;> (simp; done)) | (refine LeV.tell [some 7] ?_ ?_ ?_ <;> (simp; done)) | (refine LeV.tell [some 8] ?_ ?_ ?_ <;> (simp; done)) | (refine LeV.tell [some 9] ?_ ?_ ?_ <;> (simp; done)) | (refine LeV.tell [some 10] ?_ ?_ ?_ <;> (simp; done)) | (refine LeV.tell [some 11] ?_ ?_ ?_ <;> (simp; done)) | (refine LeV.tell [some 12] ?_ ?_ ?_ <;> (simp; done)) | (refine LeV.tell [some 13] ?_ ?_ ?_ <;> (simp; done)) | (refine LeV.tell [some 14] ?_ ?_ ?_ <;> (simp; done)) | (refine LeV.tell [some 15] ?_ ?_ ?_ <;> (simp; done))
theorem impl_Pool_derives_k {ns : List Nd} {ks : List Int} (hkp : kpF ns ks = true) (hop : ∀ x ∈ (openV ns ks).1, hasF ns.length x = true) {S : FuncId → Bool} {H : List Blk} {K : A → Dl → Prop} {zs : List A} (hS : S 62 = false) (hv : viewL (viewA 8 H) zs = some [.pt [.sl ns.length (enc ns)], aI ks]) (ho : noOwns zs = true ∨ nosl (bref 0 (mkUp ns (openV ns ks).1 ns.length)) = true ∧ noslBlks ([⟨(mkUp ns (openV ns ks).1 ns.length).length, false, 1, bls (mkUp ns (openV ns ks).1 ns.length), none⟩]) = true) (hK : K (shiftA H.length (bref 0 (mkUp ns (openV ns ks).1 ns.length))) (.news (([⟨(mkUp ns (openV ns ks).1 ns.length).length, false, 1, bls (mkUp ns (openV ns ks).1 ns.length), none⟩]).map (shiftB H.length)))) : @WCall' Go.Proofs.Try.prog S 62 zs H ⟨K⟩ :=
  WCall_ro' hS hv (impl_Pool_derives_c ns ks hkp hop) rfl ho hK
theorem openV_has {ns : List Nd} {ks : List Int} (h : kpF ns ks = true) : ∀ x ∈ (openV ns ks).1, hasF ns.length x = true := by
  obtain ⟨hp, hks, _, _⟩ := kpF_iff.1 h
  have key : ∀ (n : Nat) (out : List Int) (t : Nat), (∀ x ∈ out, hasF ns.length x = true) → ∀ x ∈ (allO ns n out t).1, hasF ns.length x = true := by
    intro n
    induction n with
    | zero => intro out t ho; exact ho
    | succ n ih =>
      intro out t ho
      unfold allO
      split
      · exact ih _ _ (onceV_mem hp ho)
      · exact ho
  exact key 201 ks 0 hks
theorem impl_Derives_c (ns : List Nd) (ks : List Int) (t : Int) (hl : ns.length < 9223372036854775807) (hk : ks.length < 9223372036854775807) : T 38 [aP ns, aI ks, i6 t] [] (.bool (derT ns ks t)) ([]) := by
  refine semT' (S := S0) hm impl_Derives_ok (Nat.le_of_ble_eq_true rfl) ?_
  unfold impl_Derives; dsimp only
  simp
  refine WCall_pure rfl (impl_Pool_isTerm_c ns [] t hl) (by simp) (by simp) (by simp) ?_; simp
  refine br_intro' (fun g => ?_) (fun g => ?_) <;> (have g0 := g) <;> simp [g0]
  · refine impl_KnowOk_k (ns := ns) (ks := ks) hl hk rfl (by simp) (by simp [noslBlks]) ?_; simp [shiftB]
    refine br_intro' (fun u => ?_) (fun u => ?_) <;> (have u0 := u) <;> simp [u0]
    · obtain ⟨j, rfl, hj⟩ := hasN g
      have hmm := mkUp_len ns (openV ns ks).1 ns.length
      have hjm : j < (mkUp ns (openV ns ks).1 ns.length).length := by omega
      have eb := bls_at hjm
      have ebv := bv_nat hjm
      refine impl_Pool_derives_k (ns := ns) (ks := ks) u (openV_has u) rfl (by simp) (by simp [noslBlks]) ?_; simp [shiftB]
      repeat (refine ck_intro' (by first | omega | (simp; omega) | kernel_rfl) ?_; try simp [hjm])
      try simp [eb]
      repeat (refine ck_intro' (by first | omega | (simp; omega) | kernel_rfl) ?_; try simp [hjm])
      exact LeV.ro rfl rfl (by simp [derT, g, u, ebv])
    · repeat (refine ck_intro' (by first | omega | (simp; omega) | kernel_rfl) ?_; try simp [g0])
      exact LeV.ro rfl rfl (by simp [derT, u])
  · repeat (refine ck_intro' (by first | omega | (simp; omega) | kernel_rfl) ?_; try simp [g0])
    exact LeV.ro rfl rfl (by simp [derT, g])
theorem impl_Derives_call {ns : List Nd} {ks : List Int} {t : Int} (hl : ns.length < 9223372036854775807) (hk : ks.length < 9223372036854775807) {S : FuncId → Bool} {H : List Blk} {K : A → Dl → Prop} (hS : S 38 = false) (hK : K (.bool (derT ns ks t)) (.news [])) : @WCall' Go.Proofs.Try.prog S 38 [aP ns, aI ks, i6 t] H ⟨K⟩ :=
  WCall_pure hS (impl_Derives_c ns ks t hl hk) (by simp) (by simp) (by simp) hK
theorem impl_Derives_k {ns : List Nd} {ks : List Int} {t : Int} (hl : ns.length < 9223372036854775807) (hk : ks.length < 9223372036854775807) {S : FuncId → Bool} {H : List Blk} {K : A → Dl → Prop} {zs : List A} (hS : S 38 = false) (hv : viewL (viewA 8 H) zs = some [aP ns, aI ks, i6 t]) (ho : noOwns zs = true ∨ nosl (.bool (derT ns ks t)) = true) (hK : K (.bool (derT ns ks t)) (.news [])) : @WCall' Go.Proofs.Try.prog S 38 zs H ⟨K⟩ :=
  WCall_pure hS (impl_Derives_c ns ks t hl hk) hv ho (by simp) hK
end Go.Proofs.Ytfbfebaajdihiaa.C

set_option linter.unusedVariables false
set_option linter.unusedSimpArgs false
set_option maxRecDepth 4000
namespace Go.Proofs
open Go.Shelf
def Try.laysReverse_ren : Go.Shelf.Ren := ⟨fun | 112 => 111 | n => n, fun | 28 => 25 | 3 => 3 | 4 => 4 | 0 => 0 | n => n, fun | n => n⟩
theorem Try.laysReverse : Go.Proofs.Lays.n112 Try.prog Try.laysReverse_ren := {
  mixed := by kernel_rfl
  f112 := Try.func111.trans (congrArg some (by kernel_rfl))
  t0 := Try.underlying0
  a0 := Try.isAgg0
  z0 := Try.sizeOf0
  v0 := Try.zeroValue0
  t3 := Try.underlying3
  a3 := Try.isAgg3
  z3 := Try.sizeOf3
  v3 := Try.zeroValue3
  t4 := Try.underlying4
  a4 := Try.isAgg4
  z4 := Try.sizeOf4
  v4 := Try.zeroValue4
  t28 := Try.underlying25
  a28 := Try.isAgg25
  z28 := Try.sizeOf25
  v28 := Try.zeroValue25 }
end Go.Proofs
namespace Go.Proofs.Ytfbfebaajdihiaa.C
open Go.Sym Go.Proofs.Ytfbfebaajdihiaa.I
theorem reverse_t {H : List Blk} {b v : Nat} {ro : Bool} {xs : List Int} (hk : H[b]? = some ⟨v, ro, 1, ints xs, none⟩) (hro : ro = true → xs = []) (hsz : xs.length ≤ 9223372036854775807) :
    T 111 [.ref b v 0 xs.length] H (.tup []) (H.set b ⟨v, ro, 1, ints xs.reverse, none⟩) := by
  by_cases hne : xs = []
  · subst hne
    have e : H.set b ⟨v, ro, 1, ints ([] : List Int).reverse, none⟩ = H := set_same hk
    rw [e]
    exact semT_row0 fun a cap w => Any.slices_Reverse_int_empty Try.laysReverse a cap w
  · have hro' : ro = false := by cases ro with | false => rfl | true => exact absurd (hro rfl) hne
    subst hro'
    exact semT_row (ys := xs.reverse) hk rfl rfl rfl rfl (by simp) hne fun B off cap w hH hB => (Any.slices_Reverse_int Try.laysReverse B off cap xs w hH hsz).mono fun e w' ⟨h1, n, h2⟩ => ⟨h1, n, #[], by rw [Sort.grow_empty]; exact h2⟩
/-- The parts of a term, marked. -/
def mkP (ns : List Nd) (is : List Bool) (n : Nat) : List Bool := (partsL (nodeAt ns n)).foldl (fun is p => is.set p.toNat true) is
def belGo (ns : List Nd) : Nat → List Bool → List Int → List Int
  | 0, _, out => out
  | n + 1, is, out => if is.getD n false = true then belGo ns n (mkP ns is n) (out ++ [(n : Int)]) else belGo ns n is out
def belF (ns : List Nd) (t : Nat) : List Int := (belGo ns (t + 1) ((List.replicate (t + 1) false).set t true) []).reverse
/-- What stands in a term. -/
inductive Sub (ns : List Nd) : Nat → Nat → Prop
  | refl (t : Nat) : Sub ns t t
  | part {t i j : Nat} (h : Sub ns t i) (hj : (j : Int) ∈ partsL (nodeAt ns i)) : Sub ns t j
theorem mkP_len (ns : List Nd) (is : List Bool) (n : Nat) : (mkP ns is n).length = is.length := seed_len _ _
theorem part_lt {ns : List Nd} (hp : poolF ns = true) {i : Nat} (hi : i < ns.length) {x : Int} (hx : x ∈ partsL (nodeAt ns i)) : ∃ j : Nat, x = j ∧ j < i := by
  have en := nodeAt_nat hi
  rw [en] at hx
  unfold partsL at hx
  split at hx
  · rename_i k
    obtain ⟨a, ea, ha⟩ := part_in hp hi k
    simp at hx
    exact ⟨a, by rw [hx, ea], ha⟩
  · split at hx
    · rename_i k
      obtain ⟨⟨a, ea, ha⟩, b, eb, hb⟩ := parts_in hp hi k
      simp at hx
      rcases hx with hx | hx
      · exact ⟨a, by rw [hx, ea], ha⟩
      · exact ⟨b, by rw [hx, eb], hb⟩
    · simp at hx
theorem mkP_get {ns : List Nd} (hp : poolF ns = true) {is : List Bool} {n : Nat} (hn : n < ns.length) (hl : n ≤ is.length) (i : Nat) : (mkP ns is n).getD i false = true ↔ (i : Int) ∈ partsL (nodeAt ns n) ∨ is.getD i false = true :=
  seed_get _ is rfl (fun x hx => by obtain ⟨j, rfl, hj⟩ := part_lt hp hn hx; exact hasF_of (by omega)) i
theorem belGo_out {ns : List Nd} : ∀ (n : Nat) (is : List Bool) (out : List Int) {x : Int}, x ∈ out → x ∈ belGo ns n is out
  | 0, is, out, x, h => h
  | n + 1, is, out, x, h => by
    unfold belGo
    split
    · exact belGo_out n _ _ (by simp [h])
    · exact belGo_out n _ _ h
/-- All that stands in a marked term is listed. -/
theorem belGo_sub {ns : List Nd} (hp : poolF ns = true) : ∀ (n : Nat) (is : List Bool) (out : List Int), n ≤ ns.length → n ≤ is.length → ∀ i : Nat, i < n → is.getD i false = true → ∀ j : Nat, Sub ns i j → (j : Int) ∈ belGo ns n is out
  | 0, is, out, _, _, i, hi, _, _, _ => absurd hi (Nat.not_lt_zero _)
  | n + 1, is, out, hn, hl, i, hi, hm', j, hs => by
    have head : ∀ {i j : Nat}, Sub ns i j → i = j ∨ ∃ k : Nat, (k : Int) ∈ partsL (nodeAt ns i) ∧ Sub ns k j := fun {i j} h => by
      induction h with
      | refl => exact .inl rfl
      | @part k j h hj ih =>
        rcases ih with e | ⟨q, hq, hs⟩
        · subst e; exact .inr ⟨j, hj, .refl j⟩
        · exact .inr ⟨q, hq, .part hs hj⟩
    unfold belGo
    split
    · rename_i g
      have key := fun k => mkP_get hp (is := is) (n := n) (by omega) (by omega) k
      rcases Nat.lt_or_ge i n with u | u
      · exact belGo_sub hp n _ _ (by omega) (by rw [mkP_len]; omega) i u ((key i).2 (.inr hm')) j hs
      · have : i = n := by omega
        subst this
        rcases head hs with e | ⟨k, hk, hsk⟩
        · subst e; exact belGo_out i _ _ (by simp)
        · obtain ⟨k', e, hk'⟩ := part_lt hp (by omega) hk
          obtain rfl : k = k' := by omega
          exact belGo_sub hp i _ _ (by omega) (by rw [mkP_len]; omega) k hk' ((key k).2 (.inl hk)) j hsk
    · rename_i g
      rcases Nat.lt_or_ge i n with u | u
      · exact belGo_sub hp n _ _ (by omega) (by omega) i u hm' j hs
      · have : i = n := by omega
        subst this
        exact absurd hm' g
theorem belF_sub {ns : List Nd} (hp : poolF ns = true) {t : Nat} (ht : t < ns.length) {j : Nat} (h : Sub ns t j) : (j : Int) ∈ belF ns t := by
  unfold belF
  rw [List.mem_reverse]
  exact belGo_sub hp (t + 1) _ _ (by omega) (by simp) t (by omega) (by simp) j h
theorem belGo_len (ns : List Nd) : ∀ (n : Nat) (is : List Bool) (out : List Int), (belGo ns n is out).length ≤ out.length + n
  | 0, is, out => Nat.le_refl _
  | n + 1, is, out => by
    unfold belGo
    split
    · have := belGo_len ns n (mkP ns is n) (out ++ [(n : Int)])
      simp only [List.length_append, List.length_singleton] at this
      omega
    · have := belGo_len ns n is out
      omega
theorem impl_Pool_below_c (ns : List Nd) (t : Int) (hp : poolF ns = true) (ht : hasF ns.length t = true) : T 86 [.pt [.sl ns.length (enc ns)], i6 t] [] (jref 0 (belF ns t.toNat)) ([jblk (belF ns t.toNat)]) := by
  refine semT' (S := (fun f => [111].contains f)) hm impl_Pool_below_ok (Nat.le_of_ble_eq_true rfl) ?_
  unfold impl_Pool_below; dsimp only
  obtain ⟨j, rfl, hj⟩ := hasN ht
  have hl5 := poolF_len hp
  have hw0 := wrap_succ (n := j) (by omega)
  simp
  rw [hw0]
  repeat (refine ck_intro' (by first | omega | (simp; omega) | kernel_rfl) ?_; try simp [hw0])
  have hb0 : (List.replicate (j + 1) (A.bool false)).set j (A.bool true) = bls ((List.replicate (j + 1) false).set j true) := by rw [← bls_rep, bls_set]
  rw [hb0]
  have hbf : belF ns j = (belGo ns (j + 1) ((List.replicate (j + 1) false).set j true) []).reverse := rfl
  have hbl : ((List.replicate (j + 1) false).set j true).length = j + 1 := by simp
  generalize (List.replicate (j + 1) false).set j true = is0 at hbl hbf ⊢
  refine WLoop_virt 1 [(0, A.pt [A.sl ns.length (enc ns)]), (5, A.ref 0 0 0 (j + 1)), (6, A.ref 1 0 0 0), (7, i6 (((j + 1 : Nat) : Int) - 1))] ?_ ?_
  · intro s y hy
    simp [Sym.get] at hy ⊢
    (repeat' split at hy) <;> simp_all
  refine WLoop_fam (fun p : Nat × List Bool × List Int => [(0, A.pt [A.sl ns.length (enc ns)]), (5, A.ref 0 0 0 (j + 1)), (6, jref 1 p.2.2), (7, i6 ((p.1 : Int) - 1))]) (fun p => [⟨0, false, 1, bls p.2.1, none⟩, jblk p.2.2]) (fun p => p.1)
    (fun p => p.1 ≤ j + 1 ∧ p.2.1.length = j + 1 ∧ p.2.2.length + p.1 ≤ j + 1 ∧ belGo ns (j + 1) is0 [] = belGo ns p.1 p.2.1 p.2.2) ?_ (j + 1, is0, []) ⟨Nat.le_refl _, hbl, by simp, rfl⟩
  rintro ⟨n1, is, out⟩ ⟨hn, hil, hol, hgo⟩ ih
  simp only at hn hil hol hgo
  cases n1 with
  | zero =>
    simp
    refine row_call (b := 1) rfl (reverse_t (b := 1) (v := out.length) (ro := decide (out.length = 0)) (xs := out) rfl (by simp) (by omega)) ?_; simp
    have hbe : belF ns j = out.reverse := by rw [hbf, hgo]; rfl
    rw [hbe]
    exact LeV.tell [some 1] (by simp) (by simp) (by simp)
  | succ n =>
    have hnl : n < ns.length := by omega
    have hni : n < is.length := by omega
    have hgn : belGo ns (n + 1) is out = if is.getD n false = true then belGo ns n (mkP ns is n) (out ++ [(n : Int)]) else belGo ns n is out := rfl
    have ee : ((n + 1 : Nat) : Int) - 1 = n := by omega
    have hwn : IntKind.i64.wrap ((n : Int) - 1) = (n : Int) - 1 := wrap64 (by omega) (by omega)
    have eb := bls_at hni
    simp only [ee]
    simp
    repeat (refine ck_intro' (by first | omega | (simp; omega) | kernel_rfl) ?_; try simp [hni])
    refine br_intro' (fun g => ?_) (fun g => ?_) <;> (have g0 := g) <;> simp [g0]
    · have hgt : is.getD n false = true := by simp [hni, g]
      have hgg : belGo ns (j + 1) is0 [] = belGo ns n (mkP ns is n) (out ++ [(n : Int)]) := by rw [hgo, hgn, if_pos hgt]
      have hml := mkP_len ns is n
      have en := nodeAt_nat hnl
      repeat (refine ck_intro' (by first | omega | (simp; omega) | kernel_rfl) ?_; try simp [hni])
      refine impl_Pool_parts_k (ns := ns) (r := []) (t := n) (by omega) (hasF_of hnl) rfl (by simp) (by simp [noslBlks]) ?_; simp [shiftB]
      rw [en]
      have w1 : IntKind.i64.wrap 1 = 1 := wrap64 (by omega) (by omega)
      have w2 : IntKind.i64.wrap 2 = 2 := wrap64 (by omega) (by omega)
      rcases parts_kind hp hnl with hpk | hpk | hpk
      · have hmk : mkP ns is n = is := by simp [mkP, en, partsL, hpk]
        rw [show partsL ns[n] = [] by simp [partsL, hpk]]
        simp
        refine WLoop_step' ?_; simp
        rw [hwn]
        rw [show A.ref 1 (out.length + 1) 0 (out.length + 1) = jref 1 (out ++ [(n : Int)]) by simp]
        refine WLoop_drop [⟨0, false, 1, bls (mkP ns is n), none⟩, jblk (out ++ [(n : Int)])] [_, _] (by rw [hmk]; simp [ints_snoc, bls_set]; first | exact ⟨rfl, rfl⟩ | exact ⟨rfl, rfl, rfl⟩ | exact ⟨by omega, rfl, rfl⟩ | fail) (by simp) (by simp) (by simp) ?_
        exact ih (n, mkP ns is n, out ++ [(n : Int)]) ⟨by omega, by rw [hml]; exact hil, by simp; omega, hgg⟩ (by simp)
      · obtain ⟨a, ea, ha⟩ := part_in hp hnl hpk
        have hmk : mkP ns is n = is.set a true := by simp [mkP, en, partsL, hpk, ea]
        rw [show partsL ns[n] = [ns[n].a] by simp [partsL, hpk], ea]
        simp [ints]
        refine WLoop_step' ?_; simp [ints]
        have haj : a < j + 1 := by omega
        have hai : a < is.length := by omega
        repeat (refine ck_intro' (by first | omega | (simp; omega) | kernel_rfl) ?_; try simp [haj, hai, w1])
        refine WLoop_step' ?_; simp
        rw [hwn]
        rw [show A.ref 1 (out.length + 1) 0 (out.length + 1) = jref 1 (out ++ [(n : Int)]) by simp]
        refine WLoop_drop [⟨0, false, 1, bls (mkP ns is n), none⟩, jblk (out ++ [(n : Int)])] [_, _] (by rw [hmk]; simp [ints_snoc, bls_set]; first | exact ⟨rfl, rfl⟩ | exact ⟨rfl, rfl, rfl⟩ | exact ⟨by omega, rfl, rfl⟩ | fail) (by simp) (by simp) (by simp) ?_
        exact ih (n, mkP ns is n, out ++ [(n : Int)]) ⟨by omega, by rw [hml]; exact hil, by simp; omega, hgg⟩ (by simp)
      · obtain ⟨⟨a, ea, ha⟩, b, eb2, hb2⟩ := parts_in hp hnl hpk
        have hmk : mkP ns is n = (is.set a true).set b true := by simp [mkP, en, partsL, hpk, ea, eb2]
        rw [show partsL ns[n] = [ns[n].a, ns[n].b] by simp [partsL, hpk], ea, eb2]
        simp [ints]
        refine WLoop_step' ?_; simp [ints]
        have haj : a < j + 1 := by omega
        have hai : a < is.length := by omega
        have hbj : b < j + 1 := by omega
        have hbi : b < is.length := by omega
        repeat (refine ck_intro' (by first | omega | (simp; omega) | kernel_rfl) ?_; try simp [haj, hai, w1])
        refine WLoop_step' ?_; simp [ints]
        repeat (refine ck_intro' (by first | omega | (simp; omega) | kernel_rfl) ?_; try simp [hbj, hbi, w2])
        refine WLoop_step' ?_; simp
        rw [hwn]
        rw [show A.ref 1 (out.length + 1) 0 (out.length + 1) = jref 1 (out ++ [(n : Int)]) by simp]
        refine WLoop_drop [⟨0, false, 1, bls (mkP ns is n), none⟩, jblk (out ++ [(n : Int)])] [_, _] (by rw [hmk]; simp [ints_snoc, bls_set]; first | exact ⟨rfl, rfl⟩ | exact ⟨rfl, rfl, rfl⟩ | exact ⟨by omega, rfl, rfl⟩ | fail) (by simp) (by simp) (by simp) ?_
        exact ih (n, mkP ns is n, out ++ [(n : Int)]) ⟨by omega, by rw [hml]; exact hil, by simp; omega, hgg⟩ (by simp)
    · rw [hwn]
      exact ih (n, is, out) ⟨by omega, hil, by simp only; omega, by rw [hgo, hgn, if_neg (by simp [hni, g])]⟩ (by simp)
theorem impl_Pool_below_k {ns : List Nd} {t : Int} (hp : poolF ns = true) (ht : hasF ns.length t = true) {S : FuncId → Bool} {H : List Blk} {K : A → Dl → Prop} {zs : List A} (hS : S 86 = false) (hv : viewL (viewA 8 H) zs = some [.pt [.sl ns.length (enc ns)], i6 t]) (ho : noOwns zs = true ∨ nosl (jref 0 (belF ns t.toNat)) = true ∧ noslBlks ([jblk (belF ns t.toNat)]) = true) (hK : K (shiftA H.length (jref 0 (belF ns t.toNat))) (.news (([jblk (belF ns t.toNat)]).map (shiftB H.length)))) : @WCall' Go.Proofs.Try.prog S 86 zs H ⟨K⟩ :=
  WCall_ro' hS hv (impl_Pool_below_c ns t hp ht) rfl ho hK
theorem belF_len (ns : List Nd) (t : Nat) : (belF ns t).length ≤ t + 1 := by
  unfold belF
  rw [List.length_reverse]
  have := belGo_len ns (t + 1) ((List.replicate (t + 1) false).set t true) []
  simpa using this
def tbF (ns : List Nd) (t : Int) : List Int := if hasF ns.length t = true ∧ poolF ns = true then belF ns t.toNat else []
theorem impl_TermBelow_c (ns : List Nd) (t : Int) (hl : ns.length < 9223372036854775807) : T 58 [aP ns, i6 t] [] (aI (tbF ns t)) ([]) := by
  refine semT' (S := S0) hm impl_TermBelow_ok (Nat.le_of_ble_eq_true rfl) ?_
  unfold impl_TermBelow; dsimp only
  simp
  refine WCall_pure rfl (impl_Pool_isTerm_c ns [] t hl) (by simp) (by simp) (by simp) ?_; simp
  refine br_intro' (fun g => ?_) (fun g => ?_) <;> (have g0 := g) <;> simp [g0]
  · refine impl_PoolOk_k (ns := ns) rfl (by simp) (by simp [noslBlks]) ?_; simp [shiftB]
    refine br_intro' (fun u => ?_) (fun u => ?_) <;> (have u0 := u) <;> simp [u0]
    · rw [show tbF ns t = belF ns t.toNat from if_pos ⟨g, u⟩]
      refine impl_Pool_below_k (ns := ns) (t := t) u g rfl (by simp) (by simp [noslBlks]) ?_; simp [shiftB]
      exact LeV.ro rfl rfl (by simp)
    · rw [show tbF ns t = [] from if_neg (by simp [u])]
      exact LeV.ro rfl rfl (by simp)
  · rw [show tbF ns t = [] from if_neg (by simp [g])]
    exact LeV.ro rfl rfl (by simp)
theorem impl_TermBelow_call {ns : List Nd} {t : Int} (hl : ns.length < 9223372036854775807) {S : FuncId → Bool} {H : List Blk} {K : A → Dl → Prop} (hS : S 58 = false) (hK : K (aI (tbF ns t)) (.news [])) : @WCall' Go.Proofs.Try.prog S 58 [aP ns, i6 t] H ⟨K⟩ :=
  WCall_pure hS (impl_TermBelow_c ns t hl) (by simp) (by simp) (by simp) hK
theorem impl_TermBelow_k {ns : List Nd} {t : Int} (hl : ns.length < 9223372036854775807) {S : FuncId → Bool} {H : List Blk} {K : A → Dl → Prop} {zs : List A} (hS : S 58 = false) (hv : viewL (viewA 8 H) zs = some [aP ns, i6 t]) (ho : noOwns zs = true ∨ nosl (aI (tbF ns t)) = true) (hK : K (aI (tbF ns t)) (.news [])) : @WCall' Go.Proofs.Try.prog S 58 zs H ⟨K⟩ :=
  WCall_pure hS (impl_TermBelow_c ns t hl) hv ho (by simp) hK
theorem tbF_len (ns : List Nd) (t : Int) : (tbF ns t).length ≤ 501 := by
  unfold tbF
  split
  · rename_i h
    obtain ⟨j, rfl, hj⟩ := hasN h.1
    have h5 := poolF_len h.2
    have := belF_len ns ((j : Int)).toNat
    have e : ((j : Nat) : Int).toNat = j := rfl
    omega
  · simp
theorem impl_TermHas_c (ns : List Nd) (t s : Int) (hl : ns.length < 9223372036854775807) : T 32 [aP ns, i6 t, i6 s] [] (.bool (hasK (tbF ns t) s)) ([]) := by
  refine semT' (S := S0) hm impl_TermHas_ok (Nat.le_of_ble_eq_true rfl) ?_
  unfold impl_TermHas; dsimp only
  simp
  refine impl_TermBelow_k (ns := ns) (t := t) hl rfl (by simp) (by simp [noslBlks]) ?_; simp [shiftB]
  have h5 := tbF_len ns t
  refine slices_Contains_int_k (ks := tbF ns t) (t := s) (by omega) rfl (by simp) (by simp) ?_; simp
  exact LeV.ro rfl rfl (by simp)
theorem impl_TermHas_call {ns : List Nd} {t s : Int} (hl : ns.length < 9223372036854775807) {S : FuncId → Bool} {H : List Blk} {K : A → Dl → Prop} (hS : S 32 = false) (hK : K (.bool (hasK (tbF ns t) s)) (.news [])) : @WCall' Go.Proofs.Try.prog S 32 [aP ns, i6 t, i6 s] H ⟨K⟩ :=
  WCall_pure hS (impl_TermHas_c ns t s hl) (by simp) (by simp) (by simp) hK
theorem impl_TermHas_k {ns : List Nd} {t s : Int} (hl : ns.length < 9223372036854775807) {S : FuncId → Bool} {H : List Blk} {K : A → Dl → Prop} {zs : List A} (hS : S 32 = false) (hv : viewL (viewA 8 H) zs = some [aP ns, i6 t, i6 s]) (ho : noOwns zs = true ∨ nosl (.bool (hasK (tbF ns t) s)) = true) (hK : K (.bool (hasK (tbF ns t) s)) (.news [])) : @WCall' Go.Proofs.Try.prog S 32 zs H ⟨K⟩ :=
  WCall_pure hS (impl_TermHas_c ns t s hl) hv ho (by simp) hK
end Go.Proofs.Ytfbfebaajdihiaa.C

set_option linter.unusedVariables false
set_option linter.unusedSimpArgs false
namespace Go.Proofs.Ytfbfebaajdihiaa.C
/-- It stands in something that is known. -/
def InK (ns : List Nd) (ks : List Int) (x : Int) : Prop := ∃ k j : Nat, x = j ∧ (k : Int) ∈ ks ∧ Sub ns k j
theorem InK.part {ns : List Nd} (hp : poolF ns = true) {ks : List Int} {i : Nat} (hi : i < ns.length) (h : InK ns ks i) {x : Int} (hx : x ∈ partsL (nodeAt ns i)) : InK ns ks x := by
  obtain ⟨k, j, e, hk, hs⟩ := h
  obtain ⟨q, rfl, hq⟩ := part_lt hp hi hx
  obtain rfl : i = j := by omega
  exact ⟨k, q, rfl, hk, .part hs hx⟩
theorem stepO_in {ns : List Nd} (hp : poolF ns = true) {k0 out : List Int} {mk : List Bool} {i : Nat} (hi : i < ns.length) (hx : InK ns k0 i) (ho : ∀ x ∈ out, InK ns k0 x) : ∀ x ∈ stepO ns mk out i, InK ns k0 x := by
  intro x hxm
  have two : partsF (nodeAt ns i).k = 2 → partsL (nodeAt ns i) = [(nodeAt ns i).a, (nodeAt ns i).b] := fun h => by simp [partsL, h]
  rcases stepO_mem'.1 hxm with h | h
  · exact ho x h
  · unfold addO at h
    split at h
    · rename_i k
      refine hx.part hp hi ?_
      rw [two (by rw [k]; rfl)]
      exact h
    · split at h
      · rename_i k
        refine hx.part hp hi ?_
        rw [two (by rcases k with k | ⟨k, _⟩ <;> rw [k] <;> rfl)]
        simp at h
        simp [h]
      · simp at h
theorem foldO_in {ns : List Nd} (hp : poolF ns = true) {k0 : List Int} {mk : List Bool} : ∀ {xs out : List Int}, (∀ x ∈ xs, hasF ns.length x = true ∧ InK ns k0 x) → (∀ x ∈ out, InK ns k0 x) → ∀ x ∈ xs.foldl (stepO ns mk) out, InK ns k0 x
  | [], out, _, ho => ho
  | y :: ys, out, hx, ho => by
    obtain ⟨h1, h2⟩ := hx y (by simp)
    obtain ⟨j, rfl, hj⟩ := hasN h1
    exact foldO_in hp (xs := ys) (fun z hz => hx z (by simp [hz])) (stepO_in hp hj h2 ho)
theorem allO_in {ns : List Nd} (hp : poolF ns = true) {k0 : List Int} : ∀ (n : Nat) (out : List Int) (t : Nat), (∀ x ∈ out, hasF ns.length x = true ∧ InK ns k0 x) → (∀ x ∈ (allO ns n out t).1, InK ns k0 x) ∧ (allO ns n out t).2 + out.length ≤ (allO ns n out t).1.length + t
  | 0, out, t, h => ⟨fun x hx => (h x hx).2, by simp only [allO]; omega⟩
  | n + 1, out, t, h => by
    unfold allO
    split
    · rename_i g
      have hge := onceV_len ns out
      have h1 := onceV_mem hp fun x hx => (h x hx).1
      have h2 : ∀ x ∈ onceV ns out, InK ns k0 x := foldO_in hp h fun x hx => (h x hx).2
      obtain ⟨a, b⟩ := allO_in hp n (onceV ns out) (t + 1) fun x hx => ⟨h1 x hx, h2 x hx⟩
      exact ⟨a, by omega⟩
    · exact ⟨fun x hx => (h x hx).2, by simp only; omega⟩
theorem open_in {ns : List Nd} (hme : Meek ns) {ks : List Int} (h : kpF ns ks = true) : (∀ x ∈ (openV ns ks).1, InK ns ks x) ∧ (openV ns ks).2 ≤ ns.length := by
  obtain ⟨hp, hks, _, _⟩ := kpF_iff.1 h
  obtain ⟨O, _⟩ := openV_spec hme h
  obtain ⟨_, o2, o3, _⟩ := kpF_iff.1 O.kp
  have hl := srt_len o3 o2
  obtain ⟨a, b⟩ := allO_in hp 201 ks 0 fun x hx => ⟨hks x hx, by
    obtain ⟨j, e, hj⟩ := hasN (hks x hx)
    exact ⟨j, j, e, by rw [← e]; exact hx, .refl j⟩⟩
  exact ⟨a, by unfold openV at hl ⊢; omega⟩
theorem shut_once {ns : List Nd} {os : List Int} (S : Shut ns os os) : onceV ns os = os := by
  refine foldO_id fun x hx => ?_
  obtain ⟨h1, h2, h3⟩ := S x hx
  unfold stepO
  split
  · rename_i k
    rw [putF_in (h1 k).1, putF_in (h1 k).2]
  · split
    · rename_i k
      rcases k with k | ⟨k, b⟩
      · exact putF_in (h2 k)
      · exact putF_in (h3 k b)
    · rfl
/-- Opened twice it is opened once. -/
theorem open_again {ns : List Nd} (hme : Meek ns) {ks : List Int} (h : kpF ns ks = true) : kpF ns (openV ns ks).1 = true ∧ openV ns (openV ns ks).1 = ((openV ns ks).1, 0) ∧ openF ns (openV ns ks).1 = (openV ns ks).1 ∧ ∀ x ∈ ks, x ∈ (openV ns ks).1 := by
  obtain ⟨O, S⟩ := openV_spec hme h
  have e := shut_once S
  have hl := openV_len h
  generalize (openV ns ks).1 = os at O S e hl ⊢
  have key : ∀ n : Nat, allO ns (n + 1) os 0 = (os, 0) := fun n => by
    rw [allO, if_neg (by rw [e]; exact fun q => q.2 rfl)]
  refine ⟨O.kp, key 200, ?_, O.sub⟩
  unfold openF
  rw [e, if_neg (by omega)]
end Go.Proofs.Ytfbfebaajdihiaa.C

set_option linter.unusedVariables false
set_option linter.unusedSimpArgs false
set_option maxRecDepth 4000
namespace Go.Proofs.Ytfbfebaajdihiaa.C
open Go.Sym Go.Proofs.Ytfbfebaajdihiaa.I
theorem laws_FnOpened_c (bs : List Int) (ha : bs.length < 9223372036854775808) : T 7 [aB bs] [] (.bool true) ([]) := by
  refine semT' (S := S0) hm laws_FnOpened_ok (Nat.le_of_ble_eq_true rfl) ?_
  unfold laws_FnOpened; dsimp only
  simp
  refine laws_big_k (bs := bs) rfl (by simp) (by simp) ?_; simp
  refine br_intro' (fun g => ?_) (fun g => ?_) <;> simp only [decide_eq_true_eq, decide_eq_false_iff_not] at g <;> simp [g]
  · exact LeV.ro rfl rfl rfl
  have hb : bs.length < 9223372036854775807 := by omega
  have hl := d6_len bs
  have hme := d6_meek bs
  refine spec_DrawOpenAll_k (bs := bs) hb rfl (by simp) (by simp [noslBlks]) ?_; simp [shiftB]
  generalize d6 bs = d at hl hme ⊢
  obtain ⟨ns, ks, t0⟩ := d
  simp only at hl hme
  simp
  have hol := opAllF_len ns ks
  refine impl_OpenAll_k (ns := ns) (ks := ks) (by omega) (by omega) rfl (by simp) (by simp [noslBlks]) ?_; simp [shiftB]
  refine spec_OpenAll_k (ns := ns) (ks := ks) (by omega) (by omega) rfl (by simp) (by simp [noslBlks]) ?_; simp [shiftB]
  refine laws_sameInts_k (ns := (opAllF ns ks).1) (ms := (opAllF ns ks).1) (by omega) (by omega) rfl (by simp) (by simp [noslBlks]) ?_; simp [shiftB]
  refine spec_KnowOk_k (ns := ns) (ks := ks) (by omega) rfl (by simp) (by simp [noslBlks]) ?_; simp [shiftB]
  refine br_intro' (fun c => ?_) (fun c => ?_) <;> (have c0 := c) <;> simp [c0]
  · obtain ⟨o1, o2, o3, o4⟩ := open_again hme c
    obtain ⟨p1, p2⟩ := open_in hme c
    have e2 : opAllF ns ks = openV ns ks := if_pos c
    rw [e2] at hol ⊢
    have e3 : opAllF ns (openV ns ks).1 = ((openV ns ks).1, 0) := by rw [show opAllF ns (openV ns ks).1 = openV ns (openV ns ks).1 from if_pos o1, o2]
    have e4 : opOnceF ns (openV ns ks).1 = (openV ns ks).1 := by rw [show opOnceF ns (openV ns ks).1 = openF ns (openV ns ks).1 from if_pos o1, o3]
    generalize openV ns ks = ov at hol o1 o2 o3 o4 p1 p2 e3 e4 ⊢
    obtain ⟨os, tm⟩ := ov
    simp only at hol o1 o2 o3 o4 p1 p2 e3 e4
    simp
    obtain ⟨hp, hks, _, hkl⟩ := kpF_iff.1 c
    have hl5 := poolF_len hp
    refine WLoop_fam (fun j : Nat => [(3, A.ptr 0 0 0), (4, aI ks), (5, A.ref 1 os.length 0 os.length), (6, i6 tm), (9, i6 j)]) (fun _ => [⟨0, false, 1, [A.sl ns.length (enc ns)], none⟩, ⟨os.length, decide (os = []), 1, ints os, none⟩, ⟨os.length, decide (os = []), 1, ints os, none⟩]) (fun j => ks.length - j) (fun j => j ≤ ks.length) ?_ 0 (Nat.zero_le _)
    intro j hj ih
    simp
    refine br_intro' (fun u => ?_) (fun u => ?_) <;> (have u0 := u) <;> simp only [decide_eq_true_eq, decide_eq_false_iff_not] at u <;> simp [u0, u]
    · have hw := wrap_succ (n := j) (by omega)
      repeat (refine ck_intro' (by first | omega | (simp; omega) | kernel_rfl) ?_; try simp [u])
      refine impl_KnowHas_k (ks := os) (t := ks[j]) (by omega) rfl (by simp) (by simp) ?_; simp
      have hin := o4 _ (List.getElem_mem u)
      rw [show hasK os ks[j] = true by simpa [hasK] using hin]
      simp
      rw [hw]
      exact ih (j + 1) (by omega) (by omega)
    clear ih
    refine WLoop_fam (fun j : Nat => [(3, A.ptr 0 0 0), (4, aI ks), (5, A.ref 1 os.length 0 os.length), (6, i6 tm), (10, i6 j)]) (fun _ => [⟨0, false, 1, [A.sl ns.length (enc ns)], none⟩, ⟨os.length, decide (os = []), 1, ints os, none⟩, ⟨os.length, decide (os = []), 1, ints os, none⟩]) (fun j => os.length - j) (fun j => j ≤ os.length) ?_ 0 (Nat.zero_le _)
    intro i hi ih
    simp
    refine br_intro' (fun v => ?_) (fun v => ?_) <;> (have v0 := v) <;> simp only [decide_eq_true_eq, decide_eq_false_iff_not] at v <;> simp [v0, v]
    · have hw := wrap_succ (n := i) (by omega)
      have hall : (ks.any fun q => hasK (tbF ns q) os[i]) = true := by
        obtain ⟨k, q, e, hk, hs⟩ := p1 _ (List.getElem_mem v)
        obtain ⟨k', ek, hk'⟩ := hasN (hks _ hk)
        obtain rfl : k = k' := by omega
        refine List.any_eq_true.2 ⟨k, hk, ?_⟩
        rw [show tbF ns k = belF ns k from if_pos ⟨hasF_of hk', hp⟩, e]
        simpa [hasK] using belF_sub hp hk' hs
      refine WLoop_fam (fun p : Nat × Bool => [(3, A.ptr 0 0 0), (4, aI ks), (5, A.ref 1 os.length 0 os.length), (6, i6 tm), (10, i6 i), (11, A.bool p.2), (12, i6 p.1)]) (fun _ => [⟨0, false, 1, [A.sl ns.length (enc ns)], none⟩, ⟨os.length, decide (os = []), 1, ints os, none⟩, ⟨os.length, decide (os = []), 1, ints os, none⟩]) (fun p => ks.length - p.1) (fun p => p.1 ≤ ks.length ∧ p.2 = (ks.take p.1).any fun q => hasK (tbF ns q) os[i]) ?_ (0, false) ⟨Nat.zero_le _, by simp⟩
      rintro ⟨k, b⟩ ⟨hk, hb⟩ ih2
      simp only at hk hb
      simp
      refine br_intro' (fun z => ?_) (fun z => ?_) <;> (have z0 := z) <;> simp only [decide_eq_true_eq, decide_eq_false_iff_not] at z <;> simp [z0, z]
      · have hwk := wrap_succ (n := k) (by omega)
        have hnx : (ks.take (k + 1)).any (fun q => hasK (tbF ns q) os[i]) = (b || hasK (tbF ns ks[k]) os[i]) := by
          rw [List.take_succ_eq_append_getElem z, List.any_append, ← hb]
          simp
        refine br_intro' (fun y => ?_) (fun y => ?_) <;> (have y0 := y) <;> simp [y0]
        · repeat (refine ck_intro' (by first | omega | (simp; omega) | kernel_rfl) ?_; try simp [y0])
          rw [hwk]
          exact ih2 (k + 1, true) ⟨z, by simp only; rw [hnx, y]; rfl⟩ (by simp; omega)
        · repeat (refine ck_intro' (by first | omega | (simp; omega) | kernel_rfl) ?_; try simp [z, v])
          refine impl_TermHas_k (ns := ns) (t := ks[k]) (s := os[i]) (by omega) rfl (by simp) (by simp) ?_; simp
          repeat (refine ck_intro' (by first | omega | (simp; omega) | kernel_rfl) ?_; try simp [y0])
          rw [hwk]
          exact ih2 (k + 1, hasK (tbF ns ks[k]) os[i]) ⟨z, by simp only; rw [hnx, y]; rfl⟩ (by simp; omega)
      · have hbt : b = true := by rw [hb, List.take_of_length_le (by omega)]; exact hall
        subst hbt
        simp
        rw [hw]
        exact ih (i + 1) (by omega) (by omega)
    · refine impl_OpenAll_k (ns := ns) (ks := os) (by omega) (by omega) rfl (by simp) (by simp [noslBlks]) ?_; simp [shiftB]
      rw [e3]
      simp
      refine laws_sameInts_k (ns := os) (ms := os) (by omega) (by omega) rfl (by simp) (by simp [noslBlks]) ?_; simp [shiftB]
      refine br_intro' (fun w => ?_) (fun w => ?_) <;> (have w0 := w) <;> simp only [decide_eq_true_eq, decide_eq_false_iff_not] at w
      · simp [w0]
        refine impl_OpenOnce_k (ns := ns) (ks := os) (by omega) (by omega) rfl (by simp) (by simp [noslBlks]) ?_; simp [shiftB]
        rw [e4]
        refine laws_sameInts_k (ns := os) (ms := os) (by omega) (by omega) rfl (by simp) (by simp [noslBlks]) ?_; simp [shiftB]
        repeat (refine ck_intro' (by first | omega | (simp; omega) | kernel_rfl) ?_; try simp [v])
        exact LeV.ro rfl rfl (by simp)
      · exact absurd p2 w
  · have e1 : opAllF ns ks = ([], 0) := if_neg (by simp [c])
    rw [e1]
    simp
    exact LeV.ro rfl rfl rfl
end Go.Proofs.Ytfbfebaajdihiaa.C
