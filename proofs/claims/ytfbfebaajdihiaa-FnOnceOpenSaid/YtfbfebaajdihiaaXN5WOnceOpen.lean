/- What is derived, in the program. Conditions: those that each theorem names. -/
import Derived.Test.YtfbfebaajdihiaaXQ3N4
import Derived.Test.YtfbfebaajdihiaaXC1D2
import Derived.Test.YtfbfebaajdihiaaXD3E2
set_option linter.unusedVariables false
set_option linter.unusedSimpArgs false
set_option maxRecDepth 4000
namespace Go.Proofs.Ytfbfebaajdihiaa.C
open Go.Sym Go.Proofs.Ytfbfebaajdihiaa.I
theorem impl_Pool_openAll_k {ns : List Nd} {ks : List Int} (hkp : kpF ns ks = true) {S : FuncId → Bool} {H : List Blk} {K : A → Dl → Prop} {zs : List A} (hS : S 52 = false) (hv : viewL (viewA 8 H) zs = some [.pt [.sl ns.length (enc ns)], aI ks]) (ho : noOwns zs = true ∨ nosl (.tup [jref 0 (openV ns ks).1, i6 (openV ns ks).2]) = true ∧ noslBlks ([jblk (openV ns ks).1]) = true) (hK : K (shiftA H.length (.tup [jref 0 (openV ns ks).1, i6 (openV ns ks).2])) (.news (([jblk (openV ns ks).1]).map (shiftB H.length)))) : @WCall' Go.Proofs.Try.prog S 52 zs H ⟨K⟩ :=
  WCall_ro' hS hv (impl_Pool_openAll_c ns ks hkp) rfl ho hK
def opAllF (ns : List Nd) (ks : List Int) : List Int × Nat := if kpF ns ks = true then openV ns ks else ([], 0)
theorem openV_len {ns : List Nd} {ks : List Int} (h : kpF ns ks = true) : (openV ns ks).1.length ≤ 200 := allO_len ns 201 ks 0 (kpF_len h)
theorem opAllF_len (ns : List Nd) (ks : List Int) : (opAllF ns ks).1.length ≤ 200 := by
  unfold opAllF
  split
  · exact openV_len ‹_›
  · simp
theorem impl_OpenAll_c (ns : List Nd) (ks : List Int) (hl : ns.length < 9223372036854775807) (hk : ks.length < 9223372036854775807) : T 23 [aP ns, aI ks] [] (.tup [jref 0 (opAllF ns ks).1, i6 (opAllF ns ks).2]) ([jblk (opAllF ns ks).1]) := by
  refine semT' (S := S0) hm impl_OpenAll_ok (Nat.le_of_ble_eq_true rfl) ?_
  unfold impl_OpenAll; dsimp only
  simp
  refine impl_KnowOk_k (ns := ns) (ks := ks) hl hk rfl (by simp) (by simp [noslBlks]) ?_; simp [shiftB]
  refine br_intro' (fun g => ?_) (fun g => ?_) <;> (have g0 := g) <;> simp [g0]
  · rw [show opAllF ns ks = openV ns ks from if_pos g]
    refine impl_Pool_openAll_k (ns := ns) (ks := ks) g rfl (by simp) (by simp [noslBlks]) ?_; simp [shiftB]
    first | (refine LeV.tell [none] ?_ ?_ ?_ <;> (simp; done)) | (refine LeV.tell [some 0] ?_ ?_ ?_ <;> (simp; done)) | (refine LeV.tell [some 1] ?_ ?_ ?_ <;> (simp; done)) | (refine LeV.tell [some 2] ?_ ?_ ?_ <;> (simp; done)) | (refine LeV.tell [some 3] ?_ ?_ ?_ <;> (simp; done)) | (refine LeV.tell [some 4] ?_ ?_ ?_ <;> (simp; done)) | (refine LeV.tell [some 5] ?_ ?_ ?_ <;> (simp; done)) | (refine LeV.tell [some 6] ?_ ?_ ?_ <;> (simp; done)) | (refine LeV.tell [some 7] ?_ ?_ ?_ <;> (simp; done)) | (refine LeV.tell [some 8] ?_ ?_ ?_ <;> (simp; done)) | (refine LeV.tell [some 9] ?_ ?_ ?_ <;> (simp; done)) | (refine LeV.tell [some 10] ?_ ?_ ?_ <;> (simp; done)) | (refine LeV.tell [some 11] ?_ ?_ ?_ <;> (simp; done)) | (refine LeV.tell [some 12] ?_ ?_ ?_ <;> (simp; done)) | (refine LeV.tell [some 13] ?_ ?_ ?_ <;> (simp; done)) | (refine LeV.tell [some 14] ?_ ?_ ?_ <;> (simp; done)) | (refine LeV.tell [some 15] ?_ ?_ ?_ <;> (simp; done))
  · rw [show opAllF ns ks = ([], 0) from if_neg (by simp [g])]
    first | (refine LeV.tell [none] ?_ ?_ ?_ <;> (simp; done)) | (refine LeV.tell [some 0] ?_ ?_ ?_ <;> (simp; done)) | (refine LeV.tell [some 1] ?_ ?_ ?_ <;> (simp; done)) | (refine LeV.tell [some 2] ?_ ?_ ?_ <;> (simp; done)) | (refine LeV.tell [some 3] ?_ ?_ ?_ <;> (simp; done)) | (refine LeV.tell [some 4] ?_ ?_ ?_ <;> (simp; done)) | (refine LeV.tell [some 5] ?_ ?_ ?_ <;> (simp; done)) | (refine LeV.tell [some 6] ?_ ?_ ?_ <;> (simp; done)) | (refine LeV.tell [some 7] ?_ ?_ ?_ <;> (simp; done)) | (refine LeV.tell [some 8] ?_ ?_ ?_ <;> (simp; done)) | (refine LeV.tell [some 9] ?_ ?_ ?_ <;> (simp; done)) | (refine LeV.tell [some 10] ?_ ?_ ?_ <;> (simp; done)) | (refine LeV.tell [some 11] ?_ ?_ ?_ <;> (simp; done)) | (refine LeV.tell [some 12] ?_ ?_ ?_ <;> (simp; done)) | (refine LeV.tell [some 13] ?_ ?_ ?_ <;> (simp; done)) | (refine LeV.tell [some 14] ?_ ?_ ?_ <;> (simp; done)) | (refine LeV.tell [some 15] ?_ ?_ ?_ <;> (simp; done))
theorem impl_OpenAll_k {ns : List Nd} {ks : List Int} (hl : ns.length < 9223372036854775807) (hk : ks.length < 9223372036854775807) {S : FuncId → Bool} {H : List Blk} {K : A → Dl → Prop} {zs : List A} (hS : S 23 = false) (hv : viewL (viewA 8 H) zs = some [aP ns, aI ks]) (ho : noOwns zs = true ∨ nosl (.tup [jref 0 (opAllF ns ks).1, i6 (opAllF ns ks).2]) = true ∧ noslBlks ([jblk (opAllF ns ks).1]) = true) (hK : K (shiftA H.length (.tup [jref 0 (opAllF ns ks).1, i6 (opAllF ns ks).2])) (.news (([jblk (opAllF ns ks).1]).map (shiftB H.length)))) : @WCall' Go.Proofs.Try.prog S 23 zs H ⟨K⟩ :=
  WCall_ro' hS hv (impl_OpenAll_c ns ks hl hk) rfl ho hK
theorem spec_OpenAll_c (ns : List Nd) (ks : List Int) (hl : ns.length < 9223372036854775807) (hk : ks.length < 9223372036854775807) : T 22 [aP ns, aI ks] [] (.tup [jref 0 (opAllF ns ks).1, i6 (opAllF ns ks).2]) ([jblk (opAllF ns ks).1]) := by
  refine semT' (S := S0) hm spec_OpenAll_ok (Nat.le_of_ble_eq_true rfl) ?_
  unfold spec_OpenAll; dsimp only
  simp
  refine spec_KnowOk_k (ns := ns) (ks := ks) hl rfl (by simp) (by simp [noslBlks]) ?_; simp [shiftB]
  refine br_intro' (fun g => ?_) (fun g => ?_) <;> (have g0 := g) <;> simp [g0]
  · rw [show opAllF ns ks = openV ns ks from if_pos g]
    obtain ⟨hp, hks, hsr, hkl⟩ := kpF_iff.1 g
    refine spec_l8All_k (ns := ns) (ks := ks) (poolF_len hp) hkl hp hks rfl (by simp) (by simp [noslBlks]) ?_; simp [shiftB]
    first | (refine LeV.tell [none] ?_ ?_ ?_ <;> (simp; done)) | (refine LeV.tell [some 0] ?_ ?_ ?_ <;> (simp; done)) | (refine LeV.tell [some 1] ?_ ?_ ?_ <;> (simp; done)) | (refine LeV.tell [some 2] ?_ ?_ ?_ <;> (simp; done)) | (refine LeV.tell [some 3] ?_ ?_ ?_ <;> (simp; done)) | (refine LeV.tell [some 4] ?_ ?_ ?_ <;> (simp; done)) | (refine LeV.tell [some 5] ?_ ?_ ?_ <;> (simp; done)) | (refine LeV.tell [some 6] ?_ ?_ ?_ <;> (simp; done)) | (refine LeV.tell [some 7] ?_ ?_ ?_ <;> (simp; done)) | (refine LeV.tell [some 8] ?_ ?_ ?_ <;> (simp; done)) | (refine LeV.tell [some 9] ?_ ?_ ?_ <;> (simp; done)) | (refine LeV.tell [some 10] ?_ ?_ ?_ <;> (simp; done)) | (refine LeV.tell [some 11] ?_ ?_ ?_ <;> (simp; done)) | (refine LeV.tell [some 12] ?_ ?_ ?_ <;> (simp; done)) | (refine LeV.tell [some 13] ?_ ?_ ?_ <;> (simp; done)) | (refine LeV.tell [some 14] ?_ ?_ ?_ <;> (simp; done)) | (refine LeV.tell [some 15] ?_ ?_ ?_ <;> (simp; done))
  · rw [show opAllF ns ks = ([], 0) from if_neg (by simp [g])]
    first | (refine LeV.tell [none] ?_ ?_ ?_ <;> (simp; done)) | (refine LeV.tell [some 0] ?_ ?_ ?_ <;> (simp; done)) | (refine LeV.tell [some 1] ?_ ?_ ?_ <;> (simp; done)) | (refine LeV.tell [some 2] ?_ ?_ ?_ <;> (simp; done)) | (refine LeV.tell [some 3] ?_ ?_ ?_ <;> (simp; done)) | (refine LeV.tell [some 4] ?_ ?_ ?_ <;> (simp; done)) | (refine LeV.tell [some 5] ?_ ?_ ?_ <;> (simp; done)) | (refine LeV.tell [some 6] ?_ ?_ ?_ <;> (simp; done)) | (refine LeV.tell [some 7] ?_ ?_ ?_ <;> (simp; done)) | (refine LeV.tell [some 8] ?_ ?_ ?_ <;> (simp; done)) | (refine LeV.tell [some 9] ?_ ?_ ?_ <;> (simp; done)) | (refine LeV.tell [some 10] ?_ ?_ ?_ <;> (simp; done)) | (refine LeV.tell [some 11] ?_ ?_ ?_ <;> (simp; done)) | (refine LeV.tell [some 12] ?_ ?_ ?_ <;> (simp; done)) | (refine LeV.tell [some 13] ?_ ?_ ?_ <;> (simp; done)) | (refine LeV.tell [some 14] ?_ ?_ ?_ <;> (simp; done)) | (refine LeV.tell [some 15] ?_ ?_ ?_ <;> (simp; done))
theorem spec_OpenAll_k {ns : List Nd} {ks : List Int} (hl : ns.length < 9223372036854775807) (hk : ks.length < 9223372036854775807) {S : FuncId → Bool} {H : List Blk} {K : A → Dl → Prop} {zs : List A} (hS : S 22 = false) (hv : viewL (viewA 8 H) zs = some [aP ns, aI ks]) (ho : noOwns zs = true ∨ nosl (.tup [jref 0 (opAllF ns ks).1, i6 (opAllF ns ks).2]) = true ∧ noslBlks ([jblk (opAllF ns ks).1]) = true) (hK : K (shiftA H.length (.tup [jref 0 (opAllF ns ks).1, i6 (opAllF ns ks).2])) (.news (([jblk (opAllF ns ks).1]).map (shiftB H.length)))) : @WCall' Go.Proofs.Try.prog S 22 zs H ⟨K⟩ :=
  WCall_ro' hS hv (spec_OpenAll_c ns ks hl hk) rfl ho hK
theorem impl_MakesAll_c (ns : List Nd) (ks : List Int) (hl : ns.length < 9223372036854775807) (hk : ks.length < 9223372036854775807) : T 59 [aP ns, aI ks] [] (aBl (makesF ns ks)) ([]) := by
  refine semT' (S := S0) hm impl_MakesAll_ok (Nat.le_of_ble_eq_true rfl) ?_
  unfold impl_MakesAll; dsimp only
  simp
  refine impl_KnowOk_k (ns := ns) (ks := ks) hl hk rfl (by simp) (by simp [noslBlks]) ?_; simp [shiftB]
  refine br_intro' (fun g => ?_) (fun g => ?_) <;> (have g0 := g) <;> simp [g0]
  · rw [show makesF ns ks = mkUp ns ks ns.length from if_pos g]
    obtain ⟨hp, hks, hsr, hkl⟩ := kpF_iff.1 g
    refine impl_Pool_makes_k (ns := ns) (ks := ks) hp hks (by omega) rfl (by simp) (by simp [noslBlks]) ?_; simp [shiftB]
    exact LeV.ro rfl rfl (by simp)
  · rw [show makesF ns ks = [] from if_neg (by simp [g])]
    exact LeV.ro rfl rfl (by simp)
theorem impl_MakesAll_call {ns : List Nd} {ks : List Int} (hl : ns.length < 9223372036854775807) (hk : ks.length < 9223372036854775807) {S : FuncId → Bool} {H : List Blk} {K : A → Dl → Prop} (hS : S 59 = false) (hK : K (aBl (makesF ns ks)) (.news [])) : @WCall' Go.Proofs.Try.prog S 59 [aP ns, aI ks] H ⟨K⟩ :=
  WCall_pure hS (impl_MakesAll_c ns ks hl hk) (by simp) (by simp) (by simp) hK
theorem impl_MakesAll_k {ns : List Nd} {ks : List Int} (hl : ns.length < 9223372036854775807) (hk : ks.length < 9223372036854775807) {S : FuncId → Bool} {H : List Blk} {K : A → Dl → Prop} {zs : List A} (hS : S 59 = false) (hv : viewL (viewA 8 H) zs = some [aP ns, aI ks]) (ho : noOwns zs = true ∨ nosl (aBl (makesF ns ks)) = true) (hK : K (aBl (makesF ns ks)) (.news [])) : @WCall' Go.Proofs.Try.prog S 59 zs H ⟨K⟩ :=
  WCall_pure hS (impl_MakesAll_c ns ks hl hk) hv ho (by simp) hK
theorem impl_MakesList_c (ns : List Nd) (ks : List Int) (hl : ns.length < 9223372036854775807) (hk : ks.length < 9223372036854775807) : T 34 [aP ns, aI ks] [] (jref 0 (mlistF ns ks)) ([jblk (mlistF ns ks)]) := by
  refine semT' (S := S0) hm impl_MakesList_ok (Nat.le_of_ble_eq_true rfl) ?_
  unfold impl_MakesList; dsimp only
  simp
  refine impl_MakesAll_k (ns := ns) (ks := ks) hl hk rfl (by simp) (by simp [noslBlks]) ?_; simp [shiftB]
  have hml := makesF_len ns ks
  rw [show mlistF ns ks = listF (makesF ns ks) from rfl]
  generalize makesF ns ks = mk at hml ⊢
  refine WLoop_virt 1 [(5, A.ref 1 0 0 0), (10, aBl mk), (11, i6 mk.length), (12, i6 0)] ?_ ?_
  · intro s y hy
    simp [Sym.get] at hy ⊢
    (repeat' split at hy) <;> simp_all
  refine WLoop_fam (fun p : Nat × List Int => [(5, jref 1 p.2), (10, aBl mk), (11, i6 mk.length), (12, i6 p.1)]) (fun p => [⟨0, false, 1, [A.sl ns.length (enc ns)], none⟩, jblk p.2]) (fun p => mk.length - p.1)
    (fun p => p.1 ≤ mk.length ∧ p.2.length ≤ p.1 ∧ listF mk = p.2 ++ listGo p.1 (mk.drop p.1)) ?_ (0, []) ⟨Nat.zero_le _, by simp, by simp [listF]⟩
  rintro ⟨j, out⟩ ⟨hj, hol, hf⟩ ih
  simp only at hj hol hf
  simp
  refine br_intro' (fun u => ?_) (fun u => ?_) <;> (have u0 := u) <;> simp at u <;> simp [u0, u]
  · have hd : mk.drop j = mk[j] :: mk.drop (j + 1) := List.drop_eq_getElem_cons u
    have hw := wrap_succ (n := j) (by omega)
    have eb := bls_at u
    repeat (refine ck_intro' (by first | omega | (simp; omega) | kernel_rfl) ?_; try simp [u])
    try simp [eb]
    refine br_intro' (fun g => ?_) (fun g => ?_) <;> (have g0 := g) <;> simp [g0]
    · repeat (refine ck_intro' (by first | omega | (simp; omega) | kernel_rfl) ?_; try simp [hw])
      rw [show A.ref 1 (out.length + 1) 0 (out.length + 1) = jref 1 (out ++ [(j : Int)]) by simp]
      refine WLoop_drop [⟨0, false, 1, [A.sl ns.length (enc ns)], none⟩, jblk (out ++ [(j : Int)])] [_] (by simp [ints_snoc]; exact rfl) (by simp) (by simp) (by simp) ?_
      exact ih (j + 1, out ++ [(j : Int)]) ⟨u, by simp; omega, by rw [hf, hd]; simp [listGo, g]⟩ (by simp; omega)
    · rw [hw]
      exact ih (j + 1, out) ⟨u, by simp; omega, by rw [hf, hd]; simp [listGo, g]⟩ (by simp; omega)
  · have hd : mk.drop j = [] := List.drop_of_length_le (by omega)
    rw [show listF mk = out by rw [hf, hd]; simp [listGo]]
    first | (refine LeV.tell [none] ?_ ?_ ?_ <;> (simp; done)) | (refine LeV.tell [some 0] ?_ ?_ ?_ <;> (simp; done)) | (refine LeV.tell [some 1] ?_ ?_ ?_ <;> (simp; done)) | (refine LeV.tell [some 2] ?_ ?_ ?_ <;> (simp; done)) | (refine LeV.tell [some 3] ?_ ?_ ?_ <;> (simp; done)) | (refine LeV.tell [some 4] ?_ ?_ ?_ <;> (simp; done)) | (refine LeV.tell [some 5] ?_ ?_ ?_ <;> (simp; done)) | (refine LeV.tell [some 6] ?_ ?_ ?_ <;> (simp; done)) | (refine LeV.tell [some 7] ?_ ?_ ?_ <;> (simp; done)) | (refine LeV.tell [some 8] ?_ ?_ ?_ <;> (simp; done)) | (refine LeV.tell [some 9] ?_ ?_ ?_ <;> (simp; done)) | (refine LeV.tell [some 10] ?_ ?_ ?_ <;> (simp; done)) | (refine LeV.tell [some 11] ?_ ?_ ?_ <;> (simp; done)) | (refine LeV.tell [some 12] ?_ ?_ ?_ <;> (simp; done)) | (refine LeV.tell [some 13] ?_ ?_ ?_ <;> (simp; done)) | (refine LeV.tell [some 14] ?_ ?_ ?_ <;> (simp; done)) | (refine LeV.tell [some 15] ?_ ?_ ?_ <;> (simp; done))
theorem impl_MakesList_k {ns : List Nd} {ks : List Int} (hl : ns.length < 9223372036854775807) (hk : ks.length < 9223372036854775807) {S : FuncId → Bool} {H : List Blk} {K : A → Dl → Prop} {zs : List A} (hS : S 34 = false) (hv : viewL (viewA 8 H) zs = some [aP ns, aI ks]) (ho : noOwns zs = true ∨ nosl (jref 0 (mlistF ns ks)) = true ∧ noslBlks ([jblk (mlistF ns ks)]) = true) (hK : K (shiftA H.length (jref 0 (mlistF ns ks))) (.news (([jblk (mlistF ns ks)]).map (shiftB H.length)))) : @WCall' Go.Proofs.Try.prog S 34 zs H ⟨K⟩ :=
  WCall_ro' hS hv (impl_MakesList_c ns ks hl hk) rfl ho hK
theorem impl_DerivesList_c (ns : List Nd) (ks : List Int) (hl : ns.length < 9223372036854775807) (hk : ks.length < 9223372036854775807) : T 25 [aP ns, aI ks] [] (jref 0 (derF ns ks)) ([jblk (derF ns ks)]) := by
  refine semT' (S := S0) hm impl_DerivesList_ok (Nat.le_of_ble_eq_true rfl) ?_
  unfold impl_DerivesList; dsimp only
  simp
  refine impl_KnowOk_k (ns := ns) (ks := ks) hl hk rfl (by simp) (by simp [noslBlks]) ?_; simp [shiftB]
  refine br_intro' (fun g => ?_) (fun g => ?_) <;> (have g0 := g) <;> simp [g0]
  · rw [show derF ns ks = mlistF ns (openV ns ks).1 from if_pos g]
    have hol := openV_len g
    refine impl_Pool_openAll_k (ns := ns) (ks := ks) g rfl (by simp) (by simp [noslBlks]) ?_; simp [shiftB]
    refine impl_MakesList_k (ns := ns) (ks := (openV ns ks).1) hl (by omega) rfl (by simp) (by simp [noslBlks]) ?_; simp [shiftB]
    first | (refine LeV.tell [none] ?_ ?_ ?_ <;> (simp; done)) | (refine LeV.tell [some 0] ?_ ?_ ?_ <;> (simp; done)) | (refine LeV.tell [some 1] ?_ ?_ ?_ <;> (simp; done)) | (refine LeV.tell [some 2] ?_ ?_ ?_ <;> (simp; done)) | (refine LeV.tell [some 3] ?_ ?_ ?_ <;> (simp; done)) | (refine LeV.tell [some 4] ?_ ?_ ?_ <;> (simp; done)) | (refine LeV.tell [some 5] ?_ ?_ ?_ <;> (simp; done)) | (refine LeV.tell [some 6] ?_ ?_ ?_ <;> (simp; done)) | (refine LeV.tell [some 7] ?_ ?_ ?_ <;> (simp; done)) | (refine LeV.tell [some 8] ?_ ?_ ?_ <;> (simp; done)) | (refine LeV.tell [some 9] ?_ ?_ ?_ <;> (simp; done)) | (refine LeV.tell [some 10] ?_ ?_ ?_ <;> (simp; done)) | (refine LeV.tell [some 11] ?_ ?_ ?_ <;> (simp; done)) | (refine LeV.tell [some 12] ?_ ?_ ?_ <;> (simp; done)) | (refine LeV.tell [some 13] ?_ ?_ ?_ <;> (simp; done)) | (refine LeV.tell [some 14] ?_ ?_ ?_ <;> (simp; done)) | (refine LeV.tell [some 15] ?_ ?_ ?_ <;> (simp; done))
  · rw [show derF ns ks = [] from if_neg (by simp [g])]
    first | (refine LeV.tell [none] ?_ ?_ ?_ <;> (simp; done)) | (refine LeV.tell [some 0] ?_ ?_ ?_ <;> (simp; done)) | (refine LeV.tell [some 1] ?_ ?_ ?_ <;> (simp; done)) | (refine LeV.tell [some 2] ?_ ?_ ?_ <;> (simp; done)) | (refine LeV.tell [some 3] ?_ ?_ ?_ <;> (simp; done)) | (refine LeV.tell [some 4] ?_ ?_ ?_ <;> (simp; done)) | (refine LeV.tell [some 5] ?_ ?_ ?_ <;> (simp; done)) | (refine LeV.tell [some 6] ?_ ?_ ?_ <;> (simp; done)) | (refine LeV.tell [some 7] ?_ ?_ ?_ <;> (simp; done)) | (refine LeV.tell [some 8] ?_ ?_ ?_ <;> (simp; done)) | (refine LeV.tell [some 9] ?_ ?_ ?_ <;> (simp; done)) | (refine LeV.tell [some 10] ?_ ?_ ?_ <;> (simp; done)) | (refine LeV.tell [some 11] ?_ ?_ ?_ <;> (simp; done)) | (refine LeV.tell [some 12] ?_ ?_ ?_ <;> (simp; done)) | (refine LeV.tell [some 13] ?_ ?_ ?_ <;> (simp; done)) | (refine LeV.tell [some 14] ?_ ?_ ?_ <;> (simp; done)) | (refine LeV.tell [some 15] ?_ ?_ ?_ <;> (simp; done))
theorem impl_DerivesList_k {ns : List Nd} {ks : List Int} (hl : ns.length < 9223372036854775807) (hk : ks.length < 9223372036854775807) {S : FuncId → Bool} {H : List Blk} {K : A → Dl → Prop} {zs : List A} (hS : S 25 = false) (hv : viewL (viewA 8 H) zs = some [aP ns, aI ks]) (ho : noOwns zs = true ∨ nosl (jref 0 (derF ns ks)) = true ∧ noslBlks ([jblk (derF ns ks)]) = true) (hK : K (shiftA H.length (jref 0 (derF ns ks))) (.news (([jblk (derF ns ks)]).map (shiftB H.length)))) : @WCall' Go.Proofs.Try.prog S 25 zs H ⟨K⟩ :=
  WCall_ro' hS hv (impl_DerivesList_c ns ks hl hk) rfl ho hK
/-- Whether a term can be derived, as the program says. -/
def derT (ns : List Nd) (ks : List Int) (t : Int) : Bool := hasF ns.length t && kpF ns ks && bv (mkUp ns (openV ns ks).1 ns.length) t
theorem impl_Pool_derives_c (ns : List Nd) (ks : List Int) (hkp : kpF ns ks = true) (hop : ∀ x ∈ (openV ns ks).1, hasF ns.length x = true) : T 62 [.pt [.sl ns.length (enc ns)], aI ks] [] (bref 0 (mkUp ns (openV ns ks).1 ns.length)) ([⟨(mkUp ns (openV ns ks).1 ns.length).length, false, 1, bls (mkUp ns (openV ns ks).1 ns.length), none⟩]) := by
  refine semT' (S := S0) hm impl_Pool_derives_ok (Nat.le_of_ble_eq_true rfl) ?_
  unfold impl_Pool_derives; dsimp only
  obtain ⟨hp, hks, hsr, hkl⟩ := kpF_iff.1 hkp
  have hol := openV_len hkp
  simp
  refine impl_Pool_openAll_k (ns := ns) (ks := ks) hkp rfl (by simp) (by simp [noslBlks]) ?_; simp [shiftB]
  refine impl_Pool_makes_k (ns := ns) (ks := (openV ns ks).1) hp hop (by omega) rfl (by simp) (by simp [noslBlks]) ?_; simp [shiftB]
  first | (refine LeV.tell [none] ?_ ?_ ?_ <;> (simp; done)) | (refine LeV.tell [some 0] ?_ ?_ ?_ <;> (simp; done)) | (refine LeV.tell [some 1] ?_ ?_ ?_ <;> (simp; done)) | (refine LeV.tell [some 2] ?_ ?_ ?_ <;> (simp; done)) | (refine LeV.tell [some 3] ?_ ?_ ?_ <;> (simp; done)) | (refine LeV.tell [some 4] ?_ ?_ ?_ <;> (simp; done)) | (refine LeV.tell [some 5] ?_ ?_ ?_ <;> (simp; done)) | (refine LeV.tell [some 6] ?_ ?_ ?_ <;> (simp; done)) | (refine LeV.tell [some 7] ?_ ?_ ?_ <;> (simp; done)) | (refine LeV.tell [some 8] ?_ ?_ ?_ <;> (simp; done)) | (refine LeV.tell [some 9] ?_ ?_ ?_ <;> (simp; done)) | (refine LeV.tell [some 10] ?_ ?_ ?_ <;> (simp; done)) | (refine LeV.tell [some 11] ?_ ?_ ?_ <;> (simp; done)) | (refine LeV.tell [some 12] ?_ ?_ ?_ <;> (simp; done)) | (refine LeV.tell [some 13] ?_ ?_ ?_ <;> (simp; done)) | (refine LeV.tell [some 14] ?_ ?_ ?_ <;> (simp; done)) | (refine LeV.tell [some 15] ?_ ?_ ?_ <;> (simp; done))
theorem impl_Pool_derives_k {ns : List Nd} {ks : List Int} (hkp : kpF ns ks = true) (hop : ∀ x ∈ (openV ns ks).1, hasF ns.length x = true) {S : FuncId → Bool} {H : List Blk} {K : A → Dl → Prop} {zs : List A} (hS : S 62 = false) (hv : viewL (viewA 8 H) zs = some [.pt [.sl ns.length (enc ns)], aI ks]) (ho : noOwns zs = true ∨ nosl (bref 0 (mkUp ns (openV ns ks).1 ns.length)) = true ∧ noslBlks ([⟨(mkUp ns (openV ns ks).1 ns.length).length, false, 1, bls (mkUp ns (openV ns ks).1 ns.length), none⟩]) = true) (hK : K (shiftA H.length (bref 0 (mkUp ns (openV ns ks).1 ns.length))) (.news (([⟨(mkUp ns (openV ns ks).1 ns.length).length, false, 1, bls (mkUp ns (openV ns ks).1 ns.length), none⟩]).map (shiftB H.length)))) : @WCall' Go.Proofs.Try.prog S 62 zs H ⟨K⟩ :=
  WCall_ro' hS hv (impl_Pool_derives_c ns ks hkp hop) rfl ho hK
theorem openV_has {ns : List Nd} {ks : List Int} (h : kpF ns ks = true) : ∀ x ∈ (openV ns ks).1, hasF ns.length x = true := by
  obtain ⟨hp, hks, _, _⟩ := kpF_iff.1 h
  have key : ∀ (n : Nat) (out : List Int) (t : Nat), (∀ x ∈ out, hasF ns.length x = true) → ∀ x ∈ (allO ns n out t).1, hasF ns.length x = true := by
    intro n
    induction n with
    | zero => intro out t ho; exact ho
    | succ n ih =>
      intro out t ho
      unfold allO
      split
      · exact ih _ _ (onceV_mem hp ho)
      · exact ho
  exact key 201 ks 0 hks
theorem impl_Derives_c (ns : List Nd) (ks : List Int) (t : Int) (hl : ns.length < 9223372036854775807) (hk : ks.length < 9223372036854775807) : T 38 [aP ns, aI ks, i6 t] [] (.bool (derT ns ks t)) ([]) := by
  refine semT' (S := S0) hm impl_Derives_ok (Nat.le_of_ble_eq_true rfl) ?_
  unfold impl_Derives; dsimp only
  simp
  refine WCall_pure rfl (impl_Pool_isTerm_c ns [] t hl) (by simp) (by simp) (by simp) ?_; simp
  refine br_intro' (fun g => ?_) (fun g => ?_) <;> (have g0 := g) <;> simp [g0]
  · refine impl_KnowOk_k (ns := ns) (ks := ks) hl hk rfl (by simp) (by simp [noslBlks]) ?_; simp [shiftB]
    refine br_intro' (fun u => ?_) (fun u => ?_) <;> (have u0 := u) <;> simp [u0]
    · obtain ⟨j, rfl, hj⟩ := hasN g
      have hmm := mkUp_len ns (openV ns ks).1 ns.length
      have hjm : j < (mkUp ns (openV ns ks).1 ns.length).length := by omega
      have eb := bls_at hjm
      have ebv := bv_nat hjm
      refine impl_Pool_derives_k (ns := ns) (ks := ks) u (openV_has u) rfl (by simp) (by simp [noslBlks]) ?_; simp [shiftB]
      repeat (refine ck_intro' (by first | omega | (simp; omega) | kernel_rfl) ?_; try simp [hjm])
      try simp [eb]
      repeat (refine ck_intro' (by first | omega | (simp; omega) | kernel_rfl) ?_; try simp [hjm])
      exact LeV.ro rfl rfl (by simp [derT, g, u, ebv])
    · repeat (refine ck_intro' (by first | omega | (simp; omega) | kernel_rfl) ?_; try simp [g0])
      exact LeV.ro rfl rfl (by simp [derT, u])
  · repeat (refine ck_intro' (by first | omega | (simp; omega) | kernel_rfl) ?_; try simp [g0])
    exact LeV.ro rfl rfl (by simp [derT, g])
theorem impl_Derives_call {ns : List Nd} {ks : List Int} {t : Int} (hl : ns.length < 9223372036854775807) (hk : ks.length < 9223372036854775807) {S : FuncId → Bool} {H : List Blk} {K : A → Dl → Prop} (hS : S 38 = false) (hK : K (.bool (derT ns ks t)) (.news [])) : @WCall' Go.Proofs.Try.prog S 38 [aP ns, aI ks, i6 t] H ⟨K⟩ :=
  WCall_pure hS (impl_Derives_c ns ks t hl hk) (by simp) (by simp) (by simp) hK
theorem impl_Derives_k {ns : List Nd} {ks : List Int} {t : Int} (hl : ns.length < 9223372036854775807) (hk : ks.length < 9223372036854775807) {S : FuncId → Bool} {H : List Blk} {K : A → Dl → Prop} {zs : List A} (hS : S 38 = false) (hv : viewL (viewA 8 H) zs = some [aP ns, aI ks, i6 t]) (ho : noOwns zs = true ∨ nosl (.bool (derT ns ks t)) = true) (hK : K (.bool (derT ns ks t)) (.news [])) : @WCall' Go.Proofs.Try.prog S 38 zs H ⟨K⟩ :=
  WCall_pure hS (impl_Derives_c ns ks t hl hk) hv ho (by simp) hK
end Go.Proofs.Ytfbfebaajdihiaa.C

set_option linter.unusedVariables false
set_option linter.unusedSimpArgs false
set_option maxRecDepth 4000
namespace Go.Proofs.Ytfbfebaajdihiaa.C
open Go.Sym Go.Proofs.Ytfbfebaajdihiaa.I
/-- However often it is asked to open. -/
theorem allO_fuel {ns : List Nd} (hme : Meek ns) : ∀ (n m : Nat) (out : List Int) (t s : Nat), kpF ns out = true → 201 ≤ out.length + n → 201 ≤ out.length + m → (allO ns n out t).1 = (allO ns m out s).1
  | 0, m, out, t, s, h, h1, h2 => by have := kpF_len h; omega
  | n + 1, 0, out, t, s, h, h1, h2 => by have := kpF_len h; omega
  | n + 1, m + 1, out, t, s, h, h1, h2 => by
    have hge := onceV_len ns out
    unfold allO
    split
    · rename_i g
      exact allO_fuel hme n m _ _ _ (onceV_kp h g.1) (by omega) (by omega)
    · rfl
theorem once_all {ns : List Nd} (hme : Meek ns) {ks : List Int} (h : kpF ns ks = true) : kpF ns (openF ns ks) = true ∧ (openV ns (openF ns ks)).1 = (openV ns ks).1 ∧ (∀ x ∈ openF ns ks, x ∈ (openV ns ks).1) ∧ ks.length ≤ (openF ns ks).length := by
  have hl := onceV_meek hme h
  have e : openF ns ks = onceV ns ks := if_neg (by omega)
  have hk := onceV_kp h hl
  have hge := onceV_len ns ks
  rw [e]
  have e2 : (openV ns (onceV ns ks)).1 = (openV ns ks).1 := by
    by_cases g : (onceV ns ks).length = ks.length
    · rw [once_same g]
    · have key : ∀ n m a b : Nat, n = m + 1 → 201 ≤ (onceV ns ks).length + a → 201 ≤ (onceV ns ks).length + m → (allO ns a (onceV ns ks) b).1 = (allO ns n ks 0).1 := fun n m a b e h1 h2 => by
        subst e
        rw [show allO ns (m + 1) ks 0 = allO ns m (onceV ns ks) 1 from if_pos ⟨hl, g⟩]
        exact allO_fuel hme a m _ b 1 hk h1 h2
      exact key 201 200 201 0 rfl (by omega) (by omega)
  refine ⟨hk, e2, fun x hx => ?_, hge⟩
  rw [← e2]
  exact (openV_spec hme hk).1.sub x hx
theorem laws_FnOnceOpen_c (bs : List Int) (ha : bs.length < 9223372036854775808) : T 6 [aB bs] [] (.bool true) ([]) := by
  refine semT' (S := S0) hm laws_FnOnceOpen_ok (Nat.le_of_ble_eq_true rfl) ?_
  unfold laws_FnOnceOpen; dsimp only
  simp
  refine laws_big_k (bs := bs) rfl (by simp) (by simp) ?_; simp
  refine br_intro' (fun g => ?_) (fun g => ?_) <;> simp only [decide_eq_true_eq, decide_eq_false_iff_not] at g <;> simp [g]
  · exact LeV.ro rfl rfl rfl
  have hb : bs.length < 9223372036854775807 := by omega
  have hl := d6_len bs
  have hme := d6_meek bs
  refine spec_DrawOpenOnce_k (bs := bs) hb rfl (by simp) (by simp [noslBlks]) ?_; simp [shiftB]
  generalize d6 bs = d at hl hme ⊢
  obtain ⟨ns, ks, t0⟩ := d
  simp only at hl hme
  simp
  refine impl_OpenOnce_k (ns := ns) (ks := ks) (by omega) (by omega) rfl (by simp) (by simp [noslBlks]) ?_; simp [shiftB]
  refine spec_OpenOnce_k (ns := ns) (ks := ks) (by omega) (by omega) rfl (by simp) (by simp [noslBlks]) ?_; simp [shiftB]
  have hol := opOnceF_len ns ks
  refine laws_sameInts_k (ns := opOnceF ns ks) (ms := opOnceF ns ks) (by omega) (by omega) rfl (by simp) (by simp [noslBlks]) ?_; simp [shiftB]
  refine spec_KnowOk_k (ns := ns) (ks := ks) (by omega) rfl (by simp) (by simp [noslBlks]) ?_; simp [shiftB]
  refine br_intro' (fun c => ?_) (fun c => ?_) <;> (have c0 := c) <;> simp [c0]
  · obtain ⟨o1, o2, o3, o4⟩ := once_all hme c
    have e1 : opOnceF ns ks = openF ns ks := if_pos c
    have e2 : opAllF ns ks = openV ns ks := if_pos c
    have e3 : opAllF ns (openF ns ks) = openV ns (openF ns ks) := if_pos o1
    have hvl := openV_len c
    rw [e1] at hol ⊢
    refine impl_OpenAll_k (ns := ns) (ks := ks) (by omega) (by omega) rfl (by simp) (by simp [noslBlks]) ?_; simp [shiftB]
    refine impl_OpenAll_k (ns := ns) (ks := openF ns ks) (by omega) (by omega) rfl (by simp) (by simp [noslBlks]) ?_; simp [shiftB]
    rw [e2, e3, o2]
    generalize (openV ns ks).1 = vs at o2 o3 hvl ⊢
    generalize openF ns ks = out at o2 o3 o4 hol ⊢
    refine WLoop_fam (fun j : Nat => [(4, aI ks), (5, A.ref 1 out.length 0 out.length), (6, A.ref 3 vs.length 0 vs.length), (8, A.ref 4 vs.length 0 vs.length), (10, i6 j)])
      (fun _ => [⟨0, false, 1, [A.sl ns.length (enc ns)], none⟩, ⟨out.length, decide (out = []), 1, ints out, none⟩, ⟨out.length, decide (out = []), 1, ints out, none⟩, ⟨vs.length, decide (vs = []), 1, ints vs, none⟩, ⟨vs.length, decide (vs = []), 1, ints vs, none⟩]) (fun j => out.length - j) (fun j => j ≤ out.length) ?_ 0 (Nat.zero_le _)
    intro j hj ih
    simp
    refine br_intro' (fun u => ?_) (fun u => ?_) <;> (have u0 := u) <;> simp only [decide_eq_true_eq, decide_eq_false_iff_not] at u <;> simp [u0, u]
    · have hw := wrap_succ (n := j) (by omega)
      repeat (refine ck_intro' (by first | omega | (simp; omega) | kernel_rfl) ?_; try simp [u])
      refine impl_KnowHas_k (ks := vs) (t := out[j]) (by omega) rfl (by simp) (by simp) ?_; simp
      have hin := o3 _ (List.getElem_mem u)
      rw [show hasK vs out[j] = true by simpa [hasK] using hin]
      simp
      rw [hw]
      exact ih (j + 1) (by omega) (by omega)
    · refine laws_sameInts_k (ns := vs) (ms := vs) (by omega) (by omega) rfl (by simp) (by simp [noslBlks]) ?_; simp [shiftB]
      repeat (refine ck_intro' (by first | omega | (simp; omega) | kernel_rfl) ?_; try simp [u])
      exact LeV.ro rfl rfl (by simp; omega)
  · have e1 : opOnceF ns ks = [] := if_neg (by simp [c])
    rw [e1]
    simp
    exact LeV.ro rfl rfl rfl
end Go.Proofs.Ytfbfebaajdihiaa.C
