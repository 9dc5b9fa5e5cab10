/- What is derived, in the program. Conditions: those that each theorem names. -/
import Derived.Test.YtfbfebaajdihiaaXQ3N4
import Derived.Test.YtfbfebaajdihiaaXSymZ
import Derived.Test.YtfbfebaajdihiaaXD3E2
import Derived.Test.YtfbfebaajdihiaaXC1D2
set_option linter.unusedVariables false
set_option linter.unusedSimpArgs false
set_option maxRecDepth 4000
namespace Go.Proofs.Ytfbfebaajdihiaa.C
open Go.Sym Go.Proofs.Ytfbfebaajdihiaa.I
theorem impl_Pool_openAll_k {ns : List Nd} {ks : List Int} (hkp : kpF ns ks = true) {S : FuncId → Bool} {H : List Blk} {K : A → Dl → Prop} {zs : List A} (hS : S 52 = false) (hv : viewL (viewA 8 H) zs = some [.pt [.sl ns.length (enc ns)], aI ks]) (ho : noOwns zs = true ∨ nosl (.tup [jref 0 (openV ns ks).1, i6 (openV ns ks).2]) = true ∧ noslBlks ([jblk (openV ns ks).1]) = true) (hK : K (shiftA H.length (.tup [jref 0 (openV ns ks).1, i6 (openV ns ks).2])) (.news (([jblk (openV ns ks).1]).map (shiftB H.length)))) : @WCall' Go.Proofs.Try.prog S 52 zs H ⟨K⟩ :=
  WCall_ro' hS hv (impl_Pool_openAll_c ns ks hkp) rfl ho hK
def opAllF (ns : List Nd) (ks : List Int) : List Int × Nat := if kpF ns ks = true then openV ns ks else ([], 0)
theorem openV_len {ns : List Nd} {ks : List Int} (h : kpF ns ks = true) : (openV ns ks).1.length ≤ 200 := allO_len ns 201 ks 0 (kpF_len h)
theorem opAllF_len (ns : List Nd) (ks : List Int) : (opAllF ns ks).1.length ≤ 200 := by
  unfold opAllF
  split
  · exact openV_len ‹_›
  · simp
theorem impl_OpenAll_c (ns : List Nd) (ks : List Int) (hl : ns.length < 9223372036854775807) (hk : ks.length < 9223372036854775807) : T 23 [aP ns, aI ks] [] (.tup [jref 0 (opAllF ns ks).1, i6 (opAllF ns ks).2]) ([jblk (opAllF ns ks).1]) := by
  refine semT' (S := S0) hm impl_OpenAll_ok (Nat.le_of_ble_eq_true rfl) ?_
  unfold impl_OpenAll; dsimp only
  simp
  refine impl_KnowOk_k (ns := ns) (ks := ks) hl hk rfl (by simp) (by simp [noslBlks]) ?_; simp [shiftB]
  refine br_intro' (fun g => ?_) (fun g => ?_) <;> (have g0 := g) <;> simp [g0]
  · rw [show opAllF ns ks = openV ns ks from if_pos g]
    refine impl_Pool_openAll_k (ns := ns) (ks := ks) g rfl (by simp) (by simp [noslBlks]) ?_; simp [shiftB]
    first | (refine LeV.tell [none] ?_ ?_ ?_ <;> (simp; done)) | (refine LeV.tell [some 0] ?_ ?_ ?_ <;> (simp; done)) | (refine LeV.tell [some 1] ?_ ?_ ?_ <;> (simp; done)) | (refine LeV.tell [some 2] ?_ ?_ ?_ <;> (simp; done)) | (refine LeV.tell [some 3] ?_ ?_ ?_ <;> (simp; done)) | (refine LeV.tell [some 4] ?_ ?_ ?_ <;> (simp; done)) | (refine LeV.tell [some 5] ?_ ?_ ?_ <;> (simp; done)) | (refine LeV.tell [some 6] ?_ ?_ ?_ <;> (simp; done)) | (refine LeV.tell [some 7] ?_ ?_ ?_ <;> (simp; done)) | (refine LeV.tell [some 8] ?_ ?_ ?_ <;> (simp; done)) | (refine LeV.tell [some 9] ?_ ?_ ?_ <;> (simp; done)) | (refine LeV.tell [some 10] ?_ ?_ ?_ <;> (simp; done)) | (refine LeV.tell [some 11] ?_ ?_ ?_ <;> (simp; done)) | (refine LeV.tell [some 12] ?_ ?_ ?_ <;> (simp; done)) | (refine LeV.tell [some 13] ?_ ?_ ?_ <;> (simp; done)) | (refine LeV.tell [some 14] ?_ ?_ ?_ <;> (simp; done)) | (refine LeV.tell [some 15] ?_ ?_ ?_ <;> (simp; done))
  · rw [show opAllF ns ks = ([], 0) from if_neg (by simp [g])]
    first | (refine LeV.tell [none] ?_ ?_ ?_ <;> (simp; done)) | (refine LeV.tell [some 0] ?_ ?_ ?_ <;> (simp; done)) | (refine LeV.tell [some 1] ?_ ?_ ?_ <;> (simp; done)) | (refine LeV.tell [some 2] ?_ ?_ ?_ <;> (simp; done)) | (refine LeV.tell [some 3] ?_ ?_ ?_ <;> (simp; done)) | (refine LeV.tell [some 4] ?_ ?_ ?_ <;> (simp; done)) | (refine LeV.tell [some 5] ?_ ?_ ?_ <;> (simp; done)) | (refine LeV.tell [some 6] ?_ ?_ ?_ <;> (simp; done)) | (refine LeV.tell [some 7] ?_ ?_ ?_ <;> (simp; done)) | (refine LeV.tell [some 8] ?_ ?_ ?_ <;> (simp; done)) | (refine LeV.tell [some 9] ?_ ?_ ?_ <;> (simp; done)) | (refine LeV.tell [some 10] ?_ ?_ ?_ <;> (simp; done)) | (refine LeV.tell [some 11] ?_ ?_ ?_ <;> (simp; done)) | (refine LeV.tell [some 12] ?_ ?_ ?_ <;> (simp; done)) | (refine LeV.tell [some 13] ?_ ?_ ?_ <;> (simp; done)) | (refine LeV.tell [some 14] ?_ ?_ ?_ <;> (simp; done)) | (refine LeV.tell [some 15] ?_ ?_ ?_ <;> (simp; done))
theorem impl_OpenAll_k {ns : List Nd} {ks : List Int} (hl : ns.length < 9223372036854775807) (hk : ks.length < 9223372036854775807) {S : FuncId → Bool} {H : List Blk} {K : A → Dl → Prop} {zs : List A} (hS : S 23 = false) (hv : viewL (viewA 8 H) zs = some [aP ns, aI ks]) (ho : noOwns zs = true ∨ nosl (.tup [jref 0 (opAllF ns ks).1, i6 (opAllF ns ks).2]) = true ∧ noslBlks ([jblk (opAllF ns ks).1]) = true) (hK : K (shiftA H.length (.tup [jref 0 (opAllF ns ks).1, i6 (opAllF ns ks).2])) (.news (([jblk (opAllF ns ks).1]).map (shiftB H.length)))) : @WCall' Go.Proofs.Try.prog S 23 zs H ⟨K⟩ :=
  WCall_ro' hS hv (impl_OpenAll_c ns ks hl hk) rfl ho hK
theorem spec_OpenAll_c (ns : List Nd) (ks : List Int) (hl : ns.length < 9223372036854775807) (hk : ks.length < 9223372036854775807) : T 22 [aP ns, aI ks] [] (.tup [jref 0 (opAllF ns ks).1, i6 (opAllF ns ks).2]) ([jblk (opAllF ns ks).1]) := by
  refine semT' (S := S0) hm spec_OpenAll_ok (Nat.le_of_ble_eq_true rfl) ?_
  unfold spec_OpenAll; dsimp only
  simp
  refine spec_KnowOk_k (ns := ns) (ks := ks) hl rfl (by simp) (by simp [noslBlks]) ?_; simp [shiftB]
  refine br_intro' (fun g => ?_) (fun g => ?_) <;> (have g0 := g) <;> simp [g0]
  · rw [show opAllF ns ks = openV ns ks from if_pos g]
    obtain ⟨hp, hks, hsr, hkl⟩ := kpF_iff.1 g
    refine spec_l8All_k (ns := ns) (ks := ks) (poolF_len hp) hkl hp hks rfl (by simp) (by simp [noslBlks]) ?_; simp [shiftB]
    first | (refine LeV.tell [none] ?_ ?_ ?_ <;> (simp; done)) | (refine LeV.tell [some 0] ?_ ?_ ?_ <;> (simp; done)) | (refine LeV.tell [some 1] ?_ ?_ ?_ <;> (simp; done)) | (refine LeV.tell [some 2] ?_ ?_ ?_ <;> (simp; done)) | (refine LeV.tell [some 3] ?_ ?_ ?_ <;> (simp; done)) | (refine LeV.tell [some 4] ?_ ?_ ?_ <;> (simp; done)) | (refine LeV.tell [some 5] ?_ ?_ ?_ <;> (simp; done)) | (refine LeV.tell [some 6] ?_ ?_ ?_ <;> (simp; done)) | (refine LeV.tell [some 7] ?_ ?_ ?_ <;> (simp; done)) | (refine LeV.tell [some 8] ?_ ?_ ?_ <;> (simp; done)) | (refine LeV.tell [some 9] ?_ ?_ ?_ <;> (simp; done)) | (refine LeV.tell [some 10] ?_ ?_ ?_ <;> (simp; done)) | (refine LeV.tell [some 11] ?_ ?_ ?_ <;> (simp; done)) | (refine LeV.tell [some 12] ?_ ?_ ?_ <;> (simp; done)) | (refine LeV.tell [some 13] ?_ ?_ ?_ <;> (simp; done)) | (refine LeV.tell [some 14] ?_ ?_ ?_ <;> (simp; done)) | (refine LeV.tell [some 15] ?_ ?_ ?_ <;> (simp; done))
  · rw [show opAllF ns ks = ([], 0) from if_neg (by simp [g])]
    first | (refine LeV.tell [none] ?_ ?_ ?_ <;> (simp; done)) | (refine LeV.tell [some 0] ?_ ?_ ?_ <;> (simp; done)) | (refine LeV.tell [some 1] ?_ ?_ ?_ <;> (simp; done)) | (refine LeV.tell [some 2] ?_ ?_ ?_ <;> (simp; done)) | (refine LeV.tell [some 3] ?_ ?_ ?_ <;> (simp; done)) | (refine LeV.tell [some 4] ?_ ?_ ?_ <;> (simp; done)) | (refine LeV.tell [some 5] ?_ ?_ ?_ <;> (simp; done)) | (refine LeV.tell [some 6] ?_ ?_ ?_ <;> (simp; done)) | (refine LeV.tell [some 7] ?_ ?_ ?_ <;> (simp; done)) | (refine LeV.tell [some 8] ?_ ?_ ?_ <;> (simp; done)) | (refine LeV.tell [some 9] ?_ ?_ ?_ <;> (simp; done)) | (refine LeV.tell [some 10] ?_ ?_ ?_ <;> (simp; done)) | (refine LeV.tell [some 11] ?_ ?_ ?_ <;> (simp; done)) | (refine LeV.tell [some 12] ?_ ?_ ?_ <;> (simp; done)) | (refine LeV.tell [some 13] ?_ ?_ ?_ <;> (simp; done)) | (refine LeV.tell [some 14] ?_ ?_ ?_ <;> (simp; done)) | (refine LeV.tell [some 15] ?_ ?_ ?_ <;> (simp; done))
theorem spec_OpenAll_k {ns : List Nd} {ks : List Int} (hl : ns.length < 9223372036854775807) (hk : ks.length < 9223372036854775807) {S : FuncId → Bool} {H : List Blk} {K : A → Dl → Prop} {zs : List A} (hS : S 22 = false) (hv : viewL (viewA 8 H) zs = some [aP ns, aI ks]) (ho : noOwns zs = true ∨ nosl (.tup [jref 0 (opAllF ns ks).1, i6 (opAllF ns ks).2]) = true ∧ noslBlks ([jblk (opAllF ns ks).1]) = true) (hK : K (shiftA H.length (.tup [jref 0 (opAllF ns ks).1, i6 (opAllF ns ks).2])) (.news (([jblk (opAllF ns ks).1]).map (shiftB H.length)))) : @WCall' Go.Proofs.Try.prog S 22 zs H ⟨K⟩ :=
  WCall_ro' hS hv (spec_OpenAll_c ns ks hl hk) rfl ho hK
theorem impl_MakesAll_c (ns : List Nd) (ks : List Int) (hl : ns.length < 9223372036854775807) (hk : ks.length < 9223372036854775807) : T 59 [aP ns, aI ks] [] (aBl (makesF ns ks)) ([]) := by
  refine semT' (S := S0) hm impl_MakesAll_ok (Nat.le_of_ble_eq_true rfl) ?_
  unfold impl_MakesAll; dsimp only
  simp
  refine impl_KnowOk_k (ns := ns) (ks := ks) hl hk rfl (by simp) (by simp [noslBlks]) ?_; simp [shiftB]
  refine br_intro' (fun g => ?_) (fun g => ?_) <;> (have g0 := g) <;> simp [g0]
  · rw [show makesF ns ks = mkUp ns ks ns.length from if_pos g]
    obtain ⟨hp, hks, hsr, hkl⟩ := kpF_iff.1 g
    refine impl_Pool_makes_k (ns := ns) (ks := ks) hp hks (by omega) rfl (by simp) (by simp [noslBlks]) ?_; simp [shiftB]
    exact LeV.ro rfl rfl (by simp)
  · rw [show makesF ns ks = [] from if_neg (by simp [g])]
    exact LeV.ro rfl rfl (by simp)
theorem impl_MakesAll_call {ns : List Nd} {ks : List Int} (hl : ns.length < 9223372036854775807) (hk : ks.length < 9223372036854775807) {S : FuncId → Bool} {H : List Blk} {K : A → Dl → Prop} (hS : S 59 = false) (hK : K (aBl (makesF ns ks)) (.news [])) : @WCall' Go.Proofs.Try.prog S 59 [aP ns, aI ks] H ⟨K⟩ :=
  WCall_pure hS (impl_MakesAll_c ns ks hl hk) (by simp) (by simp) (by simp) hK
theorem impl_MakesAll_k {ns : List Nd} {ks : List Int} (hl : ns.length < 9223372036854775807) (hk : ks.length < 9223372036854775807) {S : FuncId → Bool} {H : List Blk} {K : A → Dl → Prop} {zs : List A} (hS : S 59 = false) (hv : viewL (viewA 8 H) zs = some [aP ns, aI ks]) (ho : noOwns zs = true ∨ nosl (aBl (makesF ns ks)) = true) (hK : K (aBl (makesF ns ks)) (.news [])) : @WCall' Go.Proofs.Try.prog S 59 zs H ⟨K⟩ :=
  WCall_pure hS (impl_MakesAll_c ns ks hl hk) hv ho (by simp) hK
theorem impl_MakesList_c (ns : List Nd) (ks : List Int) (hl : ns.length < 9223372036854775807) (hk : ks.length < 9223372036854775807) : T 34 [aP ns, aI ks] [] (jref 0 (mlistF ns ks)) ([jblk (mlistF ns ks)]) := by
  refine semT' (S := S0) hm impl_MakesList_ok (Nat.le_of_ble_eq_true rfl) ?_
  unfold impl_MakesList; dsimp only
  simp
  refine impl_MakesAll_k (ns := ns) (ks := ks) hl hk rfl (by simp) (by simp [noslBlks]) ?_; simp [shiftB]
  have hml := makesF_len ns ks
  rw [show mlistF ns ks = listF (makesF ns ks) from rfl]
  generalize makesF ns ks = mk at hml ⊢
  refine WLoop_virt 1 [(5, A.ref 1 0 0 0), (10, aBl mk), (11, i6 mk.length), (12, i6 0)] ?_ ?_
  · intro s y hy
    simp [Sym.get] at hy ⊢
    (repeat' split at hy) <;> simp_all
  refine WLoop_fam (fun p : Nat × List Int => [(5, jref 1 p.2), (10, aBl mk), (11, i6 mk.length), (12, i6 p.1)]) (fun p => [⟨0, false, 1, [A.sl ns.length (enc ns)], none⟩, jblk p.2]) (fun p => mk.length - p.1)
    (fun p => p.1 ≤ mk.length ∧ p.2.length ≤ p.1 ∧ listF mk = p.2 ++ listGo p.1 (mk.drop p.1)) ?_ (0, []) ⟨Nat.zero_le _, by simp, by simp [listF]⟩
  rintro ⟨j, out⟩ ⟨hj, hol, hf⟩ ih
  simp only at hj hol hf
  simp
  refine br_intro' (fun u => ?_) (fun u => ?_) <;> (have u0 := u) <;> simp at u <;> simp [u0, u]
  · have hd : mk.drop j = mk[j] :: mk.drop (j + 1) := List.drop_eq_getElem_cons u
    have hw := wrap_succ (n := j) (by omega)
    have eb := bls_at u
    repeat (refine ck_intro' (by first | omega | (simp; omega) | kernel_rfl) ?_; try simp [u])
    try simp [eb]
    refine br_intro' (fun g => ?_) (fun g => ?_) <;> (have g0 := g) <;> simp [g0]
    · repeat (refine ck_intro' (by first | omega | (simp; omega) | kernel_rfl) ?_; try simp [hw])
      rw [show A.ref 1 (out.length + 1) 0 (out.length + 1) = jref 1 (out ++ [(j : Int)]) by simp]
      refine WLoop_drop [⟨0, false, 1, [A.sl ns.length (enc ns)], none⟩, jblk (out ++ [(j : Int)])] [_] (by simp [ints_snoc]; exact rfl) (by simp) (by simp) (by simp) ?_
      exact ih (j + 1, out ++ [(j : Int)]) ⟨u, by simp; omega, by rw [hf, hd]; simp [listGo, g]⟩ (by simp; omega)
    · rw [hw]
      exact ih (j + 1, out) ⟨u, by simp; omega, by rw [hf, hd]; simp [listGo, g]⟩ (by simp; omega)
  · have hd : mk.drop j = [] := List.drop_of_length_le (by omega)
    rw [show listF mk = out by rw [hf, hd]; simp [listGo]]
    first | (refine LeV.tell [none] ?_ ?_ ?_ <;> (simp; done)) | (refine LeV.tell [some 0] ?_ ?_ ?_ <;> (simp; done)) | (refine LeV.tell [some 1] ?_ ?_ ?_ <;> (simp; done)) | (refine LeV.tell [some 2] ?_ ?_ ?_ <;> (simp; done)) | (refine LeV.tell [some 3] ?_ ?_ ?_ <;> (simp; done)) | (refine LeV.tell [some 4] ?_ ?_ ?_ <;> (simp; done)) | (refine LeV.tell [some 5] ?_ ?_ ?_ <;> (simp; done)) | (refine LeV.tell [some 6] ?_ ?_ ?_ <;> (simp; done)) | (refine LeV.tell [some 7] ?_ ?_ ?_ <;> (simp; done)) | (refine LeV.tell [some 8] ?_ ?_ ?_ <;> (simp; done)) | (refine LeV.tell [some 9] ?_ ?_ ?_ <;> (simp; done)) | (refine LeV.tell [some 10] ?_ ?_ ?_ <;> (simp; done)) | (refine LeV.tell [some 11] ?_ ?_ ?_ <;> (simp; done)) | (refine LeV.tell [some 12] ?_ ?_ ?_ <;> (simp; done)) | (refine LeV.tell [some 13] ?_ ?_ ?_ <;> (simp; done)) | (refine LeV.tell [some 14] ?_ ?_ ?_ <;> (simp; done)) | (refine LeV.tell [some 15] ?_ ?_ ?_ <;> (simp; done))
theorem impl_MakesList_k {ns : List Nd} {ks : List Int} (hl : ns.length < 9223372036854775807) (hk : ks.length < 9223372036854775807) {S : FuncId → Bool} {H : List Blk} {K : A → Dl → Prop} {zs : List A} (hS : S 34 = false) (hv : viewL (viewA 8 H) zs = some [aP ns, aI ks]) (ho : noOwns zs = true ∨ nosl (jref 0 (mlistF ns ks)) = true ∧ noslBlks ([jblk (mlistF ns ks)]) = true) (hK : K (shiftA H.length (jref 0 (mlistF ns ks))) (.news (([jblk (mlistF ns ks)]).map (shiftB H.length)))) : @WCall' Go.Proofs.Try.prog S 34 zs H ⟨K⟩ :=
  WCall_ro' hS hv (impl_MakesList_c ns ks hl hk) rfl ho hK
theorem impl_DerivesList_c (ns : List Nd) (ks : List Int) (hl : ns.length < 9223372036854775807) (hk : ks.length < 9223372036854775807) : T 25 [aP ns, aI ks] [] (jref 0 (derF ns ks)) ([jblk (derF ns ks)]) := by
  refine semT' (S := S0) hm impl_DerivesList_ok (Nat.le_of_ble_eq_true rfl) ?_
  unfold impl_DerivesList; dsimp only
  simp
  refine impl_KnowOk_k (ns := ns) (ks := ks) hl hk rfl (by simp) (by simp [noslBlks]) ?_; simp [shiftB]
  refine br_intro' (fun g => ?_) (fun g => ?_) <;> (have g0 := g) <;> simp [g0]
  · rw [show derF ns ks = mlistF ns (openV ns ks).1 from if_pos g]
    have hol := openV_len g
    refine impl_Pool_openAll_k (ns := ns) (ks := ks) g rfl (by simp) (by simp [noslBlks]) ?_; simp [shiftB]
    refine impl_MakesList_k (ns := ns) (ks := (openV ns ks).1) hl (by omega) rfl (by simp) (by simp [noslBlks]) ?_; simp [shiftB]
    first | (refine LeV.tell [none] ?_ ?_ ?_ <;> (simp; done)) | (refine LeV.tell [some 0] ?_ ?_ ?_ <;> (simp; done)) | (refine LeV.tell [some 1] ?_ ?_ ?_ <;> (simp; done)) | (refine LeV.tell [some 2] ?_ ?_ ?_ <;> (simp; done)) | (refine LeV.tell [some 3] ?_ ?_ ?_ <;> (simp; done)) | (refine LeV.tell [some 4] ?_ ?_ ?_ <;> (simp; done)) | (refine LeV.tell [some 5] ?_ ?_ ?_ <;> (simp; done)) | (refine LeV.tell [some 6] ?_ ?_ ?_ <;> (simp; done)) | (refine LeV.tell [some 7] ?_ ?_ ?_ <;> (simp; done)) | (refine LeV.tell [some 8] ?_ ?_ ?_ <;> (simp; done)) | (refine LeV.tell [some 9] ?_ ?_ ?_ <;> (simp; done)) | (refine LeV.tell [some 10] ?_ ?_ ?_ <;> (simp; done)) | (refine LeV.tell [some 11] ?_ ?_ ?_ <;> (simp; done)) | (refine LeV.tell [some 12] ?_ ?_ ?_ <;> (simp; done)) | (refine LeV.tell [some 13] ?_ ?_ ?_ <;> (simp; done)) | (refine LeV.tell [some 14] ?_ ?_ ?_ <;> (simp; done)) | (refine LeV.tell [some 15] ?_ ?_ ?_ <;> (simp; done))
  · rw [show derF ns ks = [] from if_neg (by simp [g])]
    first | (refine LeV.tell [none] ?_ ?_ ?_ <;> (simp; done)) | (refine LeV.tell [some 0] ?_ ?_ ?_ <;> (simp; done)) | (refine LeV.tell [some 1] ?_ ?_ ?_ <;> (simp; done)) | (refine LeV.tell [some 2] ?_ ?_ ?_ <;> (simp; done)) | (refine LeV.tell [some 3] ?_ ?_ ?_ <;> (simp; done)) | (refine LeV.tell [some 4] ?_ ?_ ?_ <;> (simp; done)) | (refine LeV.tell [some 5] ?_ ?_ ?_ <;> (simp; done)) | (refine LeV.tell [some 6] ?_ ?_ ?_ <;> (simp; done)) | (refine LeV.tell [some 7] ?_ ?_ ?_ <;> (simp; done)) | (refine LeV.tell [some 8] ?_ ?_ ?_ <;> (simp; done)) | (refine LeV.tell [some 9] ?_ ?_ ?_ <;> (simp; done)) | (refine LeV.tell [some 10] ?_ ?_ ?_ <;> (simp; done)) | (refine LeV.tell [some 11] ?_ ?_ ?_ <;> (simp; done)) | (refine LeV.tell [some 12] ?_ ?_ ?_ <;> (simp; done)) | (refine LeV.tell [some 13] ?_ ?_ ?_ <;> (simp; done)) | (refine LeV.tell [some 14] ?_ ?_ ?_ <;> (simp; done)) | (refine LeV.tell [some 15] ?_ ?_ ?_ <;> (simp; done))
theorem impl_DerivesList_k {ns : List Nd} {ks : List Int} (hl : ns.length < 9223372036854775807) (hk : ks.length < 9223372036854775807) {S : FuncId → Bool} {H : List Blk} {K : A → Dl → Prop} {zs : List A} (hS : S 25 = false) (hv : viewL (viewA 8 H) zs = some [aP ns, aI ks]) (ho : noOwns zs = true ∨ nosl (jref 0 (derF ns ks)) = true ∧ noslBlks ([jblk (derF ns ks)]) = true) (hK : K (shiftA H.length (jref 0 (derF ns ks))) (.news (([jblk (derF ns ks)]).map (shiftB H.length)))) : @WCall' Go.Proofs.Try.prog S 25 zs H ⟨K⟩ :=
  WCall_ro' hS hv (impl_DerivesList_c ns ks hl hk) rfl ho hK
/-- Whether a term can be derived, as the program says. -/
def derT (ns : List Nd) (ks : List Int) (t : Int) : Bool := hasF ns.length t && kpF ns ks && bv (mkUp ns (openV ns ks).1 ns.length) t
theorem impl_Pool_derives_c (ns : List Nd) (ks : List Int) (hkp : kpF ns ks = true) (hop : ∀ x ∈ (openV ns ks).1, hasF ns.length x = true) : T 62 [.pt [.sl ns.length (enc ns)], aI ks] [] (bref 0 (mkUp ns (openV ns ks).1 ns.length)) ([⟨(mkUp ns (openV ns ks).1 ns.length).length, false, 1, bls (mkUp ns (openV ns ks).1 ns.length), none⟩]) := by
  refine semT' (S := S0) hm impl_Pool_derives_ok (Nat.le_of_ble_eq_true rfl) ?_
  unfold impl_Pool_derives; dsimp only
  obtain ⟨hp, hks, hsr, hkl⟩ := kpF_iff.1 hkp
  have hol := openV_len hkp
  simp
  refine impl_Pool_openAll_k (ns := ns) (ks := ks) hkp rfl (by simp) (by simp [noslBlks]) ?_; simp [shiftB]
  refine impl_Pool_makes_k (ns := ns) (ks := (openV ns ks).1) hp hop (by omega) rfl (by simp) (by simp [noslBlks]) ?_; simp [shiftB]
  first | (refine LeV.tell [none] ?_ ?_ ?_ <;> (simp; done)) | (refine LeV.tell [some 0] ?_ ?_ ?_ <;> (simp; done)) | (refine LeV.tell [some 1] ?_ ?_ ?_ <;> (simp; done)) | (refine LeV.tell [some 2] ?_ ?_ ?_ <;> (simp; done)) | (refine LeV.tell [some 3] ?_ ?_ ?_ <;> (simp; done)) | (refine LeV.tell [some 4] ?_ ?_ ?_ <;> (simp; done)) | (refine LeV.tell [some 5] ?_ ?_ ?_ <;> (simp; done)) | (refine LeV.tell [some 6] ?_ ?_ ?_ <;> (simp; done)) | (refine LeV.tell [some 7] ?_ ?_ ?_ <;> (simp; done)) | (refine LeV.tell [some 8] ?_ ?_ ?_ <;> (simp; done)) | (refine LeV.tell [some 9] ?_ ?_ ?_ <;> (simp; done)) | (refine LeV.tell [some 10] ?_ ?_ ?_ <;> (simp; done)) | (refine LeV.tell [some 11] ?_ ?_ ?_ <;> (simp; done)) | (refine LeV.tell [some 12] ?_ ?_ ?_ <;> (simp; done)) | (refine LeV.tell [some 13] ?_ ?_ ?_ <;> (simp; done)) | (refine LeV.tell [some 14] ?_ ?_ ?_ <;> (simp; done)) | (refine LeV.tell [some 15] ?_ ?_ ?_ <;> (simp; done))
theorem impl_Pool_derives_k {ns : List Nd} {ks : List Int} (hkp : kpF ns ks = true) (hop : ∀ x ∈ (openV ns ks).1, hasF ns.length x = true) {S : FuncId → Bool} {H : List Blk} {K : A → Dl → Prop} {zs : List A} (hS : S 62 = false) (hv : viewL (viewA 8 H) zs = some [.pt [.sl ns.length (enc ns)], aI ks]) (ho : noOwns zs = true ∨ nosl (bref 0 (mkUp ns (openV ns ks).1 ns.length)) = true ∧ noslBlks ([⟨(mkUp ns (openV ns ks).1 ns.length).length, false, 1, bls (mkUp ns (openV ns ks).1 ns.length), none⟩]) = true) (hK : K (shiftA H.length (bref 0 (mkUp ns (openV ns ks).1 ns.length))) (.news (([⟨(mkUp ns (openV ns ks).1 ns.length).length, false, 1, bls (mkUp ns (openV ns ks).1 ns.length), none⟩]).map (shiftB H.length)))) : @WCall' Go.Proofs.Try.prog S 62 zs H ⟨K⟩ :=
  WCall_ro' hS hv (impl_Pool_derives_c ns ks hkp hop) rfl ho hK
theorem openV_has {ns : List Nd} {ks : List Int} (h : kpF ns ks = true) : ∀ x ∈ (openV ns ks).1, hasF ns.length x = true := by
  obtain ⟨hp, hks, _, _⟩ := kpF_iff.1 h
  have key : ∀ (n : Nat) (out : List Int) (t : Nat), (∀ x ∈ out, hasF ns.length x = true) → ∀ x ∈ (allO ns n out t).1, hasF ns.length x = true := by
    intro n
    induction n with
    | zero => intro out t ho; exact ho
    | succ n ih =>
      intro out t ho
      unfold allO
      split
      · exact ih _ _ (onceV_mem hp ho)
      · exact ho
  exact key 201 ks 0 hks
theorem impl_Derives_c (ns : List Nd) (ks : List Int) (t : Int) (hl : ns.length < 9223372036854775807) (hk : ks.length < 9223372036854775807) : T 38 [aP ns, aI ks, i6 t] [] (.bool (derT ns ks t)) ([]) := by
  refine semT' (S := S0) hm impl_Derives_ok (Nat.le_of_ble_eq_true rfl) ?_
  unfold impl_Derives; dsimp only
  simp
  refine WCall_pure rfl (impl_Pool_isTerm_c ns [] t hl) (by simp) (by simp) (by simp) ?_; simp
  refine br_intro' (fun g => ?_) (fun g => ?_) <;> (have g0 := g) <;> simp [g0]
  · refine impl_KnowOk_k (ns := ns) (ks := ks) hl hk rfl (by simp) (by simp [noslBlks]) ?_; simp [shiftB]
    refine br_intro' (fun u => ?_) (fun u => ?_) <;> (have u0 := u) <;> simp [u0]
    · obtain ⟨j, rfl, hj⟩ := hasN g
      have hmm := mkUp_len ns (openV ns ks).1 ns.length
      have hjm : j < (mkUp ns (openV ns ks).1 ns.length).length := by omega
      have eb := bls_at hjm
      have ebv := bv_nat hjm
      refine impl_Pool_derives_k (ns := ns) (ks := ks) u (openV_has u) rfl (by simp) (by simp [noslBlks]) ?_; simp [shiftB]
      repeat (refine ck_intro' (by first | omega | (simp; omega) | kernel_rfl) ?_; try simp [hjm])
      try simp [eb]
      repeat (refine ck_intro' (by first | omega | (simp; omega) | kernel_rfl) ?_; try simp [hjm])
      exact LeV.ro rfl rfl (by simp [derT, g, u, ebv])
    · repeat (refine ck_intro' (by first | omega | (simp; omega) | kernel_rfl) ?_; try simp [g0])
      exact LeV.ro rfl rfl (by simp [derT, u])
  · repeat (refine ck_intro' (by first | omega | (simp; omega) | kernel_rfl) ?_; try simp [g0])
    exact LeV.ro rfl rfl (by simp [derT, g])
theorem impl_Derives_call {ns : List Nd} {ks : List Int} {t : Int} (hl : ns.length < 9223372036854775807) (hk : ks.length < 9223372036854775807) {S : FuncId → Bool} {H : List Blk} {K : A → Dl → Prop} (hS : S 38 = false) (hK : K (.bool (derT ns ks t)) (.news [])) : @WCall' Go.Proofs.Try.prog S 38 [aP ns, aI ks, i6 t] H ⟨K⟩ :=
  WCall_pure hS (impl_Derives_c ns ks t hl hk) (by simp) (by simp) (by simp) hK
theorem impl_Derives_k {ns : List Nd} {ks : List Int} {t : Int} (hl : ns.length < 9223372036854775807) (hk : ks.length < 9223372036854775807) {S : FuncId → Bool} {H : List Blk} {K : A → Dl → Prop} {zs : List A} (hS : S 38 = false) (hv : viewL (viewA 8 H) zs = some [aP ns, aI ks, i6 t]) (ho : noOwns zs = true ∨ nosl (.bool (derT ns ks t)) = true) (hK : K (.bool (derT ns ks t)) (.news [])) : @WCall' Go.Proofs.Try.prog S 38 zs H ⟨K⟩ :=
  WCall_pure hS (impl_Derives_c ns ks t hl hk) hv ho (by simp) hK
end Go.Proofs.Ytfbfebaajdihiaa.C

set_option linter.unusedVariables false
set_option linter.unusedSimpArgs false
namespace Go.Proofs.Ytfbfebaajdihiaa.C
theorem derT_iff {ns : List Nd} (hme : Meek ns) {ks : List Int} (h : kpF ns ks = true) {t : Nat} (ht : t < ns.length) : derT ns ks t = true ↔ Der ns ks t := by
  obtain ⟨hp, hks, _, _⟩ := kpF_iff.1 h
  obtain ⟨O, S⟩ := openV_spec hme h
  have e : derT ns ks t = bv (mkUp ns (openV ns ks).1 ns.length) t := by simp only [derT, hasF_of ht, h, Bool.true_and]
  rw [e, bv_Mk hp ht]
  exact ⟨fun q => Mk_Der O.der q, fun q => Der_Mk O S q⟩
theorem derT_kp {ns : List Nd} {ks : List Int} {t : Int} (h : derT ns ks t = true) : kpF ns ks = true ∧ ∃ j : Nat, t = j ∧ j < ns.length := by
  simp only [derT, Bool.and_eq_true] at h
  exact ⟨h.1.2, hasN h.1.1⟩
theorem idxT_has {t : Int} : ∀ {ss : List Sp} {i : Nat}, (∃ s ∈ ss, s.t = t) → 0 ≤ idxT ss t i
  | [], i, h => by simp at h
  | x :: xs, i, h => by
    unfold idxT
    split
    · omega
    · rename_i e
      obtain ⟨s, hs, hst⟩ := h
      have ih := @idxT_has t xs (i + 1)
      rcases List.mem_cons.1 hs with g | g
      · subst g; first | exact absurd hst e | exact absurd hst.symm e
      · have := ih ⟨s, g, hst⟩
        first | exact this | (simp only [Int.natCast_add] at this; exact this) | simpa using this
/-- There is a proof of just what can be derived. -/
theorem ofF_derT {ns : List Nd} (hme : Meek ns) {ks : List Int} (t : Int) : (ofF ns ks t).2 = derT ns ks t := by
  have e : (ofF ns ks t).2 = decide (0 ≤ idxT (allSt ns ks) t 0) := by
    unfold ofF
    split <;> simp_all
  rw [e, Bool.eq_iff_iff, decide_eq_true_eq]
  by_cases h : kpF ns ks = true
  · obtain ⟨hp, hks, _, _⟩ := kpF_iff.1 h
    obtain ⟨st, e1, e2, e3, e4⟩ := allV_spec hp hks
    have ea : allSt ns ks = allV ns ks := if_pos h
    rw [ea]
    constructor
    · intro g
      obtain ⟨j, hj, _, ej⟩ := idxT_at0 g
      obtain ⟨t', et, htl, hd⟩ := proof_Der hp (allV_inv ks hp).ok j hj
      rw [spAt_lt hj, ej] at et
      subst et
      exact (derT_iff hme h htl).2 hd
    · intro g
      obtain ⟨_, j, rfl, hj⟩ := derT_kp g
      obtain ⟨i, hi, ei⟩ := (e4 j hj).1 ((e3 j hj).2 ((derT_iff hme h hj).1 g))
      exact idxT_has ⟨spAt (allV ns ks) i, by rw [spAt_lt hi]; exact List.getElem_mem hi, ei⟩
  · constructor
    · intro g
      rw [show allSt ns ks = [] from if_neg h] at g
      simp [idxT] at g
    · intro g
      exact absurd (derT_kp g).1 h
/-- The proof of a term proves it, and its last step alone does. -/
theorem ofF_proof {ns : List Nd} {ks : List Int} {t : Int} (h : (ofF ns ks t).2 = true) : checkF ns ks (ofF ns ks t).1 t = true ∧ checkF ns ks ((ofF ns ks t).1.take ((ofF ns ks t).1.length - 1)) t = false := by
  have g : 0 ≤ idxT (allSt ns ks) t 0 := by
    unfold ofF at h
    split at h
    · assumption
    · simp at h
  have hkp : kpF ns ks = true := by
    cases hc : kpF ns ks with
    | true => rfl
    | false =>
      rw [show allSt ns ks = [] from if_neg (by simp [hc])] at g
      simp [idxT] at g
  obtain ⟨j, hj, ej, et⟩ := idxT_at0 g
  have eo : ofF ns ks t = (trimF ns (upto (allSt ns ks) t), true) := if_pos g
  have hup : upto (allSt ns ks) t = (allSt ns ks).take (j + 1) := by simp [upto, ej]
  rw [eo, hup]
  simp only
  have hpr := allSt_pr hkp
  have hln : ((allSt ns ks).take (j + 1)).length = j + 1 := by simp; omega
  have hc0 : checkF ns ks ((allSt ns ks).take (j + 1)) t = true := by
    refine checkF_iff.2 ⟨by intro e; rw [e] at hln; simp at hln, hkp, by have := allSt_le ns ks; omega, fun i hi => ?_, ?_⟩
    · rw [prF_take (by omega)]
      exact hpr i (by omega)
    · rw [hln, show j + 1 - 1 = j from rfl, spAt_take (by omega), spAt_lt hj]
      exact et
  obtain ⟨hc, _⟩ := trimF_spec hc0
  refine ⟨hc, ?_⟩
  obtain ⟨h1, h2, h3, h4, h5⟩ := checkF_iff.1 hc
  generalize trimF ns ((allSt ns ks).take (j + 1)) = out at h1 h2 h3 h4 h5
  have h0 : 0 < out.length := List.length_pos_iff.2 h1
  cases hx : checkF ns ks (out.take (out.length - 1)) t with
  | false => rfl
  | true =>
    obtain ⟨q1, _, _, _, q5⟩ := checkF_iff.1 hx
    have hlt : (out.take (out.length - 1)).length = out.length - 1 := by simp
    have hq0 : 0 < (out.take (out.length - 1)).length := List.length_pos_iff.2 q1
    have hf := h4 (out.length - 1) (by omega)
    simp only [prF, Bool.and_eq_true, freshF, decide_eq_true_eq] at hf
    have hm' := hf.2 (spAt (out.take (out.length - 1)) ((out.take (out.length - 1)).length - 1)) (by
      rw [spAt_lt (by omega)]
      exact List.getElem_mem _)
    exact absurd (q5.trans h5.symm) hm'
theorem check_Der {ns : List Nd} (hme : Meek ns) {ks : List Int} {ss : List Sp} {t : Int} (h : checkF ns ks ss t = true) {i : Nat} (hi : i < ss.length) : derT ns ks (spAt ss i).t = true := by
  obtain ⟨h1, h2, h3, h4, h5⟩ := checkF_iff.1 h
  obtain ⟨t', et, htl, hd⟩ := proof_Der (kpF_pool h2) h4 i hi
  rw [et]
  exact (derT_iff hme h2 htl).2 hd
end Go.Proofs.Ytfbfebaajdihiaa.C

set_option linter.unusedVariables false
set_option linter.unusedSimpArgs false
set_option maxRecDepth 4000
namespace Go.Proofs
open Go.Shelf
def Try.laysInsert_ren : Go.Shelf.Ren := ⟨fun | 21 => 90 | 27 => 115 | 28 => 116 | 35 => 135 | 39 => 111 | n => n, fun | 22 => 25 | 3 => 3 | 4 => 4 | 0 => 0 | n => n, fun | n => n⟩
theorem Try.laysInsert : Go.Proofs.Lays2.n21 Try.prog Try.laysInsert_ren := {
  mixed := by kernel_rfl
  f21 := Try.func90.trans (congrArg some (by kernel_rfl))
  f27 := Try.func115.trans (congrArg some (by kernel_rfl))
  f28 := Try.func116.trans (congrArg some (by kernel_rfl))
  f35 := Try.func135.trans (congrArg some (by kernel_rfl))
  f39 := Try.func111.trans (congrArg some (by kernel_rfl))
  t0 := Try.underlying0
  a0 := Try.isAgg0
  z0 := Try.sizeOf0
  v0 := Try.zeroValue0
  t3 := Try.underlying3
  a3 := Try.isAgg3
  z3 := Try.sizeOf3
  v3 := Try.zeroValue3
  t4 := Try.underlying4
  a4 := Try.isAgg4
  z4 := Try.sizeOf4
  v4 := Try.zeroValue4
  t22 := Try.underlying25
  a22 := Try.isAgg25
  z22 := Try.sizeOf25
  v22 := Try.zeroValue25
  i3 := by kernel_rfl }
end Go.Proofs
namespace Go.Proofs.Ytfbfebaajdihiaa.C
open Go.Sym Go.Proofs.Ytfbfebaajdihiaa.I
theorem cmp_isNaN_int_c (x : Int)  : T 134 [i6 x] [] (.bool false) ([]) := by
  refine semT' (S := S0) hm cmp_isNaN_int_ok (Nat.le_of_ble_eq_true rfl) ?_
  unfold cmp_isNaN_int; dsimp only
  simp
  exact LeV.ro rfl rfl rfl
theorem cmp_isNaN_int_call {x : Int}  {S : FuncId → Bool} {H : List Blk} {K : A → Dl → Prop} (hS : S 134 = false) (hK : K (.bool false) (.news [])) : @WCall' Go.Proofs.Try.prog S 134 [i6 x] H ⟨K⟩ :=
  WCall_pure hS (cmp_isNaN_int_c x) (by simp) (by simp) (by simp) hK
theorem cmp_isNaN_int_k {x : Int}  {S : FuncId → Bool} {H : List Blk} {K : A → Dl → Prop} {zs : List A} (hS : S 134 = false) (hv : viewL (viewA 8 H) zs = some [i6 x]) (ho : noOwns zs = true ∨ nosl (.bool false) = true) (hK : K (.bool false) (.news [])) : @WCall' Go.Proofs.Try.prog S 134 zs H ⟨K⟩ :=
  WCall_pure hS (cmp_isNaN_int_c x) hv ho (by simp) hK
theorem slices_isNaN_int_c (x : Int)  : T 114 [i6 x] [] (.bool false) ([]) := by
  refine semT' (S := S0) hm slices_isNaN_int_ok (Nat.le_of_ble_eq_true rfl) ?_
  unfold slices_isNaN_int; dsimp only
  simp
  exact LeV.ro rfl rfl rfl
theorem slices_isNaN_int_call {x : Int}  {S : FuncId → Bool} {H : List Blk} {K : A → Dl → Prop} (hS : S 114 = false) (hK : K (.bool false) (.news [])) : @WCall' Go.Proofs.Try.prog S 114 [i6 x] H ⟨K⟩ :=
  WCall_pure hS (slices_isNaN_int_c x) (by simp) (by simp) (by simp) hK
theorem slices_isNaN_int_k {x : Int}  {S : FuncId → Bool} {H : List Blk} {K : A → Dl → Prop} {zs : List A} (hS : S 114 = false) (hv : viewL (viewA 8 H) zs = some [i6 x]) (ho : noOwns zs = true ∨ nosl (.bool false) = true) (hK : K (.bool false) (.news [])) : @WCall' Go.Proofs.Try.prog S 114 zs H ⟨K⟩ :=
  WCall_pure hS (slices_isNaN_int_c x) hv ho (by simp) hK
theorem cmp_Less_int_c (x y : Int)  : T 113 [i6 x, i6 y] [] (.bool (decide (x < y))) ([]) := by
  refine semT' (S := S0) hm cmp_Less_int_ok (Nat.le_of_ble_eq_true rfl) ?_
  unfold cmp_Less_int; dsimp only
  simp
  refine cmp_isNaN_int_k (x := x) rfl (by simp) (by simp [noslBlks]) ?_; simp [shiftB]
  exact LeV.ro rfl rfl rfl
theorem cmp_Less_int_call {x y : Int}  {S : FuncId → Bool} {H : List Blk} {K : A → Dl → Prop} (hS : S 113 = false) (hK : K (.bool (decide (x < y))) (.news [])) : @WCall' Go.Proofs.Try.prog S 113 [i6 x, i6 y] H ⟨K⟩ :=
  WCall_pure hS (cmp_Less_int_c x y) (by simp) (by simp) (by simp) hK
theorem cmp_Less_int_k {x y : Int}  {S : FuncId → Bool} {H : List Blk} {K : A → Dl → Prop} {zs : List A} (hS : S 113 = false) (hv : viewL (viewA 8 H) zs = some [i6 x, i6 y]) (ho : noOwns zs = true ∨ nosl (.bool (decide (x < y))) = true) (hK : K (.bool (decide (x < y))) (.news [])) : @WCall' Go.Proofs.Try.prog S 113 zs H ⟨K⟩ :=
  WCall_pure hS (cmp_Less_int_c x y) hv ho (by simp) hK
theorem insert_t {H : List Blk} {b lb v lv : Nat} {ro : Bool} {xs : List Int} {x : Int} {i : Nat} (hk : H[b]? = some ⟨v, ro, 1, ints xs, none⟩) (hl : H[lb]? = some ⟨lv, false, 1, [i6 x], none⟩) (hne : lb ≠ b) (hi : i ≤ xs.length) (hx : xs.length ≤ 4294967296) :
    T 90 [.ref b v 0 xs.length, i6 i, .ref lb lv 0 1] H (.ref b (v + 1) 0 (xs.length + 1)) (H.set b ⟨v + 1, false, 1, ints (insI xs i x), none⟩) := semT_insert Try.laysInsert hk hl hne hi hx
/-- How many of the first numbers are less. -/
def lessN (xs : List Int) (t : Int) : Nat := xs.countP fun x => decide (x < t)
theorem lessN_of {xs : List Int} {t : Int} {i : Nat} (hi : i ≤ xs.length) (h1 : ∀ (k : Nat) (h : k < xs.length), k < i → xs[k] < t) (h2 : ∀ (k : Nat) (h : k < xs.length), i ≤ k → t ≤ xs[k]) : lessN xs t = i := by
  unfold lessN
  have e : xs = xs.take i ++ xs.drop i := (List.take_append_drop i xs).symm
  rw [e, List.countP_append]
  have a1 : (xs.take i).countP (fun x => decide (x < t)) = (xs.take i).length := List.countP_eq_length.2 fun x hx => by
    obtain ⟨k, hk, rfl⟩ := List.getElem_of_mem hx
    simp at hk
    simpa using h1 k (by omega) (by omega)
  have a2 : (xs.drop i).countP (fun x => decide (x < t)) = 0 := List.countP_eq_zero.2 fun x hx => by
    obtain ⟨k, hk, rfl⟩ := List.getElem_of_mem hx
    simp at hk
    have := h2 (i + k) (by omega) (by omega)
    simp
    omega
  rw [a1, a2]
  simp
  omega
theorem slices_BinarySearch_int_c (xs : List Int) (t : Int) (hl : xs.length ≤ 4294967296) (hs : Srt xs) : T 89 [aI xs, i6 t] [] (.tup [i6 (lessN xs t), .bool (hasK xs t)]) ([]) := by
  refine semT' (S := S0) hm slices_BinarySearch_int_ok (Nat.le_of_ble_eq_true rfl) ?_
  unfold slices_BinarySearch_int; dsimp only
  simp
  refine WLoop_fam (fun p : Nat × Nat => [(0, aI xs), (1, i6 t), (6, i6 xs.length), (7, i6 p.1), (8, i6 p.2)]) (fun _ => []) (fun p => p.2 - p.1)
    (fun p => p.1 ≤ p.2 ∧ p.2 ≤ xs.length ∧ (∀ (k : Nat) (h : k < xs.length), k < p.1 → xs[k] < t) ∧ (∀ (k : Nat) (h : k < xs.length), p.2 ≤ k → t ≤ xs[k])) ?_ (0, xs.length) ⟨Nat.zero_le _, Nat.le_refl _, fun k h h' => by simp at h', fun k h h' => by simp at h'; omega⟩
  rintro ⟨i, j⟩ ⟨hij, hjl, ha, hb⟩ ih
  simp only at hij hjl ha hb
  simp
  refine br_intro' (fun u => ?_) (fun u => ?_) <;> (have u0 := u) <;> simp only [decide_eq_true_eq, decide_eq_false_iff_not] at u <;> simp [u0, u]
  · obtain ⟨m, hm⟩ : ∃ m : Nat, m = (i + j) / 2 := ⟨_, rfl⟩
    have hmid : IntKind.i64.wrap ((IntKind.u64.wrap (IntKind.i64.wrap ((i : Int) + j))).fdiv (2 ^ min 1 IntKind.u64.bits)) = m := by
      have e1 : IntKind.i64.wrap ((i : Int) + j) = i + j := wrap64 (by omega) (by omega)
      have e2 : IntKind.u64.wrap ((i : Int) + j) = i + j := by
        show ((i : Int) + j) % 18446744073709551616 = _
        omega
      rw [e1, e2]
      have e3 : ((i : Int) + j).fdiv (2 ^ min 1 IntKind.u64.bits) = m := by
        show ((i : Int) + j).fdiv 2 = m
        rw [Int.fdiv_eq_ediv_of_nonneg _ (by omega)]
        omega
      rw [e3]
      exact wrap64 (by omega) (by omega)
    rw [hmid]
    have hml : m < xs.length := by omega
    have hw := wrap_succ (n := m) (by omega)
    repeat (refine ck_intro' (by first | omega | (simp; omega) | kernel_rfl) ?_; try simp [hml])
    refine cmp_Less_int_call (x := xs[m]) (y := t) rfl ?_; simp
    refine br_intro' (fun z => ?_) (fun z => ?_) <;> (have z0 := z) <;> simp only [decide_eq_true_eq, decide_eq_false_iff_not] at z <;> simp [z0]
    · rw [hw]
      refine ih (m + 1, j) ⟨by simp only; omega, hjl, fun k h hk => ?_, hb⟩ (by simp; omega)
      rcases Nat.lt_or_ge k m with g | g
      · have := srt_get hs g hml; omega
      · obtain rfl : k = m := by simp only at hk; omega
        exact z
    · refine ih (i, m) ⟨by simp only; omega, by simp only; omega, ha, fun k h hk => ?_⟩ (by simp; omega)
      simp only at hk
      rcases Nat.lt_or_ge m k with g | g
      · have := srt_get hs g h; omega
      · obtain rfl : k = m := by omega
        omega
  · have he : i = j := by omega
    subst he
    have hn := lessN_of (t := t) hjl ha hb
    have hK : hasK xs t = decide (∃ h : i < xs.length, xs[i] = t) := by
      simp only [hasK]
      rw [decide_eq_decide]
      constructor
      · intro hm
        obtain ⟨k, hk, e⟩ := List.getElem_of_mem hm
        have q1 : ¬ k < i := fun g => by have := ha k hk g; omega
        have hil : i < xs.length := by omega
        refine ⟨hil, ?_⟩
        rcases Nat.lt_or_ge i k with g | g
        · have := srt_get hs g hk; have := hb i hil (Nat.le_refl _); omega
        · obtain rfl : k = i := by omega
          exact e
      · rintro ⟨h, e⟩
        rw [← e]; exact List.getElem_mem h
    refine br_intro' (fun z => ?_) (fun z => ?_) <;> (have z0 := z) <;> simp only [decide_eq_true_eq, decide_eq_false_iff_not] at z <;> simp [z0, z]
    · refine br_intro' (fun y => ?_) (fun y => ?_) <;> (have y0 := y) <;> simp only [decide_eq_true_eq, decide_eq_false_iff_not] at y <;> simp [y0, y]
      · repeat (refine ck_intro' (by first | omega | (simp; omega) | kernel_rfl) ?_; try simp [z])
        exact LeV.ro rfl rfl (by rw [hn, hK]; simp [z, y])
      · repeat (refine ck_intro' (by first | omega | (simp; omega) | kernel_rfl) ?_; try simp [z])
        refine slices_isNaN_int_call (x := xs[i]) rfl ?_; simp
        repeat (refine ck_intro' (by first | omega | (simp; omega) | kernel_rfl) ?_; try simp [z])
        exact LeV.ro rfl rfl (by rw [hn, hK]; simp [z, y])
    · repeat (refine ck_intro' (by first | omega | (simp; omega) | kernel_rfl) ?_; try simp [z])
      exact LeV.ro rfl rfl (by rw [hn, hK]; simp [z])
theorem slices_BinarySearch_int_call {xs : List Int} {t : Int} (hl : xs.length ≤ 4294967296) (hs : Srt xs) {S : FuncId → Bool} {H : List Blk} {K : A → Dl → Prop} (hS : S 89 = false) (hK : K (.tup [i6 (lessN xs t), .bool (hasK xs t)]) (.news [])) : @WCall' Go.Proofs.Try.prog S 89 [aI xs, i6 t] H ⟨K⟩ :=
  WCall_pure hS (slices_BinarySearch_int_c xs t hl hs) (by simp) (by simp) (by simp) hK
theorem slices_BinarySearch_int_k {xs : List Int} {t : Int} (hl : xs.length ≤ 4294967296) (hs : Srt xs) {S : FuncId → Bool} {H : List Blk} {K : A → Dl → Prop} {zs : List A} (hS : S 89 = false) (hv : viewL (viewA 8 H) zs = some [aI xs, i6 t]) (ho : noOwns zs = true ∨ nosl (.tup [i6 (lessN xs t), .bool (hasK xs t)]) = true) (hK : K (.tup [i6 (lessN xs t), .bool (hasK xs t)]) (.news [])) : @WCall' Go.Proofs.Try.prog S 89 zs H ⟨K⟩ :=
  WCall_pure hS (slices_BinarySearch_int_c xs t hl hs) hv ho (by simp) hK
theorem ins_put {xs : List Int} {t : Int} (hs : Srt xs) (ht : hasK xs t = false) : lessN xs t ≤ xs.length ∧ insI xs (lessN xs t) t = putF xs t := by
  have hn : t ∉ xs := by simpa [hasK] using ht
  have h0 : lessN xs t ≤ xs.length := List.countP_le_length
  refine ⟨h0, ?_⟩
  unfold putF
  rw [ht]
  have key : ∀ {xs : List Int}, Srt xs → t ∉ xs → insI xs (lessN xs t) t = putGo t xs false := by
    intro xs
    induction xs with
    | nil => intro _ _; rfl
    | cons y ys ih =>
      intro hs hn
      obtain ⟨h1, h2⟩ := List.pairwise_cons.1 hs
      have hne : t ≠ y := fun e => hn (by simp [e])
      unfold putGo
      by_cases g : t < y
      · have hz : lessN (y :: ys) t = 0 := List.countP_eq_zero.2 fun z hz => by
          rcases List.mem_cons.1 hz with e | e
          · simp; omega
          · have := h1 z e; simp; omega
        rw [if_pos ⟨rfl, g⟩, putGo_true, hz]
        rfl
      · have hz : lessN (y :: ys) t = lessN ys t + 1 := by
          unfold lessN
          rw [List.countP_cons_of_pos (by simp; omega)]
        rw [if_neg (by simp [g]), hz, ← ih h2 (fun e => hn (by simp [e]))]
        simp [insI]
  exact key hs hn
end Go.Proofs.Ytfbfebaajdihiaa.C

set_option linter.unusedVariables false
set_option linter.unusedSimpArgs false
set_option maxRecDepth 4000
namespace Go.Proofs.Ytfbfebaajdihiaa.C
open Go.Sym Go.Proofs.Ytfbfebaajdihiaa.I
/-- What is known with one term more, whether there was room; and whether the row has turned. -/
def kputF (ks : List Int) (t : Int) : List Int × Bool × Bool := if hasK ks t = true then (ks, true, false) else if 200 ≤ ks.length then (ks, false, false) else (putF ks t, true, true)
theorem impl_knowPut_m (H : List Blk) (b v : Nat) (ro : Bool) (ks : List Int) (t : Int) (hk : H[b]? = some ⟨v, ro, 1, ints ks, none⟩) (hl : ks.length ≤ 4294960000) (hs : Srt ks) (hcl : Closed1 H.length H = true) : T 65 [.ref b v 0 ks.length, i6 t] (H) (.tup [.ref b (if (kputF ks t).2.2 then v + 1 else v) 0 (kputF ks t).1.length, .bool (kputF ks t).2.1]) (H.set b ⟨if (kputF ks t).2.2 then v + 1 else v, if (kputF ks t).2.2 then false else ro, 1, ints (kputF ks t).1, none⟩) := by
  refine semT' (S := (fun f => [90].contains f)) hm impl_knowPut_ok (Nat.le_of_ble_eq_true rfl) ?_
  unfold impl_knowPut; dsimp only
  have hbl : b < H.length := by
    rcases Nat.lt_or_ge b H.length with g | g
    · exact g
    · rw [List.getElem?_eq_none g] at hk; cases hk
  simp
  refine slices_BinarySearch_int_k (xs := ks) (t := t) (by omega) hs rfl (by simp [hk]) (by simp) ?_; simp
  refine br_intro' (fun g => ?_) (fun g => ?_) <;> (have g0 := g) <;> simp [g0]
  · rw [show kputF ks t = (ks, true, false) from if_pos g]
    simp
    rw [set_same hk]
    exact LeV.refl _ _ _
  · refine br_intro' (fun z => ?_) (fun z => ?_) <;> (have z0 := z) <;> simp only [decide_eq_true_eq, decide_eq_false_iff_not] at z <;> simp [z0]
    · rw [show kputF ks t = (ks, false, false) by simp [kputF, g]; omega]
      simp
      rw [set_same hk]
      exact LeV.refl _ _ _
    · obtain ⟨hle, hput⟩ := ins_put hs g
      have hpl : (putF ks t).length = ks.length + 1 := by rw [← hput]; exact insI_len t hle
      have hkp : kputF ks t = (putF ks t, true, true) := by simp [kputF, g]; omega
      have hi := insert_t (H := H ++ [⟨0, false, 1, [i6 t], none⟩]) (b := b) (lb := H.length) (v := v) (lv := 0) (ro := ro) (xs := ks) (x := t) (i := lessN ks t) (by rw [List.getElem?_append_left hbl]; exact hk) (by simp) (by omega) hle (by omega)
      rw [hput] at hi
      refine row_call (b := b) rfl hi ?_; simp
      rw [hkp]
      simp
      rw [set_left hbl, hpl]
      exact LeV.drop (by simp) (by simpa using Closed1_set (by simp) _ _ hcl) (by simp [hbl])
/-- What KnowPut answers. -/
def knowPutF (ns : List Nd) (ks : List Int) (t : Int) : List Int × Bool := if kpF ns ks = true then if hasF ns.length t = true then ((kputF ks t).1, (kputF ks t).2.1) else (ks, false) else ([], false)
theorem impl_KnowPut_c (ns : List Nd) (ks : List Int) (t : Int) (hl : ns.length < 9223372036854775807) (hk : ks.length < 9223372036854775807) : T 40 [aP ns, aI ks, i6 t] [] (.tup [jref 0 (knowPutF ns ks t).1, .bool (knowPutF ns ks t).2]) ([jblk (knowPutF ns ks t).1]) := by
  refine semT' (S := (fun f => [65].contains f)) hm impl_KnowPut_ok (Nat.le_of_ble_eq_true rfl) ?_
  unfold impl_KnowPut; dsimp only
  simp
  refine impl_KnowOk_k (ns := ns) (ks := ks) hl hk rfl (by simp) (by simp [noslBlks]) ?_; simp [shiftB]
  refine br_intro' (fun g => ?_) (fun g => ?_) <;> (have g0 := g) <;> simp [g0]
  · obtain ⟨hp, hks, hsr, hkl⟩ := kpF_iff.1 g
    refine slices_Clone_int_k (xs := ks) (by omega) rfl (by simp) (by simp [noslBlks]) ?_; simp [shiftB]
    refine WCall_pure rfl (impl_Pool_isTerm_c ns [] t hl) (by simp) (by simp) (by simp) ?_; simp
    refine br_intro' (fun u => ?_) (fun u => ?_) <;> (have u0 := u) <;> simp [u0]
    · rw [show knowPutF ns ks t = ((kputF ks t).1, (kputF ks t).2.1) by simp [knowPutF, g, u]]
      have hm1 := impl_knowPut_m [⟨0, false, 1, [A.sl ns.length (enc ns)], none⟩, ⟨ks.length, decide (ks = []), 1, ints ks, none⟩] 1 ks.length (decide (ks = [])) ks t rfl (by omega) hsr (by simp [inAs_scals _ (enc_scals ns)])
      refine row_call (b := 1) rfl hm1 ?_; simp
      have hro : (!(kputF ks t).2.2 && decide (ks = [])) = decide ((kputF ks t).1.length = 0) := by
        unfold kputF
        split
        · simp
        · split
          · simp
          · have := putF_len ks t
            rename_i q1 q2
            have h1 : (putF ks t).length = ks.length + 1 := by
              obtain ⟨a, b⟩ := ins_put hsr (by simpa using q1)
              rw [← b]; exact insI_len t a
            simp [h1]
      rw [hro]
      exact LeV.tell [some 1] (by simp) (by simp) (by simp)
    · rw [show knowPutF ns ks t = (ks, false) by simp [knowPutF, g, u]]
      first | (refine LeV.tell [none] ?_ ?_ ?_ <;> (simp; done)) | (refine LeV.tell [some 0] ?_ ?_ ?_ <;> (simp; done)) | (refine LeV.tell [some 1] ?_ ?_ ?_ <;> (simp; done)) | (refine LeV.tell [some 2] ?_ ?_ ?_ <;> (simp; done)) | (refine LeV.tell [some 3] ?_ ?_ ?_ <;> (simp; done)) | (refine LeV.tell [some 4] ?_ ?_ ?_ <;> (simp; done)) | (refine LeV.tell [some 5] ?_ ?_ ?_ <;> (simp; done)) | (refine LeV.tell [some 6] ?_ ?_ ?_ <;> (simp; done)) | (refine LeV.tell [some 7] ?_ ?_ ?_ <;> (simp; done)) | (refine LeV.tell [some 8] ?_ ?_ ?_ <;> (simp; done)) | (refine LeV.tell [some 9] ?_ ?_ ?_ <;> (simp; done)) | (refine LeV.tell [some 10] ?_ ?_ ?_ <;> (simp; done)) | (refine LeV.tell [some 11] ?_ ?_ ?_ <;> (simp; done)) | (refine LeV.tell [some 12] ?_ ?_ ?_ <;> (simp; done)) | (refine LeV.tell [some 13] ?_ ?_ ?_ <;> (simp; done)) | (refine LeV.tell [some 14] ?_ ?_ ?_ <;> (simp; done)) | (refine LeV.tell [some 15] ?_ ?_ ?_ <;> (simp; done))
  · rw [show knowPutF ns ks t = ([], false) from if_neg (by simp [g])]
    first | (refine LeV.tell [none] ?_ ?_ ?_ <;> (simp; done)) | (refine LeV.tell [some 0] ?_ ?_ ?_ <;> (simp; done)) | (refine LeV.tell [some 1] ?_ ?_ ?_ <;> (simp; done)) | (refine LeV.tell [some 2] ?_ ?_ ?_ <;> (simp; done)) | (refine LeV.tell [some 3] ?_ ?_ ?_ <;> (simp; done)) | (refine LeV.tell [some 4] ?_ ?_ ?_ <;> (simp; done)) | (refine LeV.tell [some 5] ?_ ?_ ?_ <;> (simp; done)) | (refine LeV.tell [some 6] ?_ ?_ ?_ <;> (simp; done)) | (refine LeV.tell [some 7] ?_ ?_ ?_ <;> (simp; done)) | (refine LeV.tell [some 8] ?_ ?_ ?_ <;> (simp; done)) | (refine LeV.tell [some 9] ?_ ?_ ?_ <;> (simp; done)) | (refine LeV.tell [some 10] ?_ ?_ ?_ <;> (simp; done)) | (refine LeV.tell [some 11] ?_ ?_ ?_ <;> (simp; done)) | (refine LeV.tell [some 12] ?_ ?_ ?_ <;> (simp; done)) | (refine LeV.tell [some 13] ?_ ?_ ?_ <;> (simp; done)) | (refine LeV.tell [some 14] ?_ ?_ ?_ <;> (simp; done)) | (refine LeV.tell [some 15] ?_ ?_ ?_ <;> (simp; done))
theorem impl_KnowPut_k {ns : List Nd} {ks : List Int} {t : Int} (hl : ns.length < 9223372036854775807) (hk : ks.length < 9223372036854775807) {S : FuncId → Bool} {H : List Blk} {K : A → Dl → Prop} {zs : List A} (hS : S 40 = false) (hv : viewL (viewA 8 H) zs = some [aP ns, aI ks, i6 t]) (ho : noOwns zs = true ∨ nosl (.tup [jref 0 (knowPutF ns ks t).1, .bool (knowPutF ns ks t).2]) = true ∧ noslBlks ([jblk (knowPutF ns ks t).1]) = true) (hK : K (shiftA H.length (.tup [jref 0 (knowPutF ns ks t).1, .bool (knowPutF ns ks t).2])) (.news (([jblk (knowPutF ns ks t).1]).map (shiftB H.length)))) : @WCall' Go.Proofs.Try.prog S 40 zs H ⟨K⟩ :=
  WCall_ro' hS hv (impl_KnowPut_c ns ks t hl hk) rfl ho hK
end Go.Proofs.Ytfbfebaajdihiaa.C

set_option linter.unusedVariables false
set_option linter.unusedSimpArgs false
namespace Go.Proofs.Ytfbfebaajdihiaa.C
theorem Der.mono {ns : List Nd} {ks k2 : List Int} (h : ∀ t : Nat, (t : Int) ∈ ks → Der ns k2 t) {t : Nat} (d : Der ns ks t) : Der ns k2 t := by
  induction d with
  | know q => exact h _ q
  | pub a b c => exact .pub a b c
  | make1 a b c _ ih => exact .make1 a b c ih
  | make2 a b c d _ _ ih ih2 => exact .make2 a b c d ih ih2
  | shareA a b c d e _ _ ih ih2 => exact .shareA a b c d e ih ih2
  | shareB a b c d e _ _ ih ih2 => exact .shareB a b c d e ih ih2
  | left a b c _ ih => exact .left a b c ih
  | right a b c _ ih => exact .right a b c ih
  | opens a b c d _ _ ih ih2 => exact .opens a b c d ih ih2
  | read a b c _ ih => exact .read a b c ih
theorem listGo_srt : ∀ (mk : List Bool) (i : Nat), Srt (listGo i mk)
  | [], i => by simp [listGo]
  | b :: bs, i => by
    unfold listGo
    split
    · refine List.pairwise_cons.2 ⟨fun z hz => ?_, listGo_srt bs (i + 1)⟩
      obtain ⟨j, _, e, _⟩ := listGo_mem.1 hz
      omega
    · exact listGo_srt bs (i + 1)
theorem derF_srt (ns : List Nd) (ks : List Int) : Srt (derF ns ks) := by
  unfold derF
  split
  · exact listGo_srt _ _
  · simp
/-- What one term more that is known comes to. -/
theorem more_spec {ns : List Nd} (hme : Meek ns) {ks : List Int} {t : Int} (h : (knowPutF ns ks t).2 = true) : kpF ns ks = true ∧ kpF ns (knowPutF ns ks t).1 = true ∧ (∀ x ∈ derF ns ks, x ∈ derF ns (knowPutF ns ks t).1) ∧ t ∈ derF ns (knowPutF ns ks t).1 ∧ (derT ns ks t = true → derF ns (knowPutF ns ks t).1 = derF ns ks) := by
  unfold knowPutF at h ⊢
  split at h
  · rename_i hk
    rw [if_pos hk]
    split at h
    · rename_i ht
      rw [if_pos ht]
      obtain ⟨hp, hks, hsr, hkl⟩ := kpF_iff.1 hk
      obtain ⟨j, rfl, hj⟩ := hasN ht
      simp only at h ⊢
      have hm' : kpF ns (kputF ks j).1 = true ∧ (∀ x, x ∈ (kputF ks j).1 ↔ x = j ∨ x ∈ ks) := by
        unfold kputF at h ⊢
        split
        · rename_i g
          refine ⟨hk, fun x => ⟨.inr, fun q => q.elim (fun e => ?_) id⟩⟩
          rw [e]; simpa [hasK] using g
        · rename_i g
          rw [if_neg g] at h
          split
          · rename_i g2
            rw [if_pos g2] at h
            simp at h
          · rename_i g2
            have := putF_len ks j
            refine ⟨kpF_iff.2 ⟨hp, fun x hx => ?_, putF_srt hsr, by simp only; omega⟩, fun x => putF_mem⟩
            rcases putF_mem.1 hx with e | e
            · rw [e]; exact ht
            · exact hks x e
      obtain ⟨hk2, hmem⟩ := hm'
      have sub : ∀ x ∈ derF ns ks, x ∈ derF ns (kputF ks j).1 := fun x hx => by
        obtain ⟨q, e, hq, hd⟩ := (derF_mem hme hk).1 hx
        exact (derF_mem hme hk2).2 ⟨q, e, hq, hd.mono fun r hr => .know ((hmem r).2 (.inr hr))⟩
      refine ⟨hk, hk2, sub, (derF_mem hme hk2).2 ⟨j, rfl, hj, .know ((hmem j).2 (.inl rfl))⟩, fun hd => ?_⟩
      have dj := (derT_iff hme hk hj).1 hd
      refine srt_ext (derF_srt _ _) (derF_srt _ _) fun x => ⟨fun hx => ?_, sub x⟩
      obtain ⟨q, e, hq, hd'⟩ := (derF_mem hme hk2).1 hx
      refine (derF_mem hme hk).2 ⟨q, e, hq, hd'.mono fun r hr => ?_⟩
      rcases (hmem r).1 hr with e2 | e2
      · obtain rfl : r = j := by omega
        exact dj
      · exact .know e2
    · simp at h
  · simp at h
end Go.Proofs.Ytfbfebaajdihiaa.C

set_option linter.unusedVariables false
set_option linter.unusedSimpArgs false
set_option maxRecDepth 4000
namespace Go.Proofs.Ytfbfebaajdihiaa.C
open Go.Sym Go.Proofs.Ytfbfebaajdihiaa.I
def makeT (ns : List Nd) (ks : List Int) (t : Int) : Bool := kpF ns ks && hasF ns.length t && bv (mkUp ns ks ns.length) t
theorem spec_Makes_c (ns : List Nd) (ks : List Int) (t : Int) (hl : ns.length < 9223372036854775807) (hk : ks.length < 9223372036854775807) : T 63 [aP ns, aI ks, i6 t] [] (.bool (makeT ns ks t)) ([]) := by
  refine semT' (S := S0) hm spec_Makes_ok (Nat.le_of_ble_eq_true rfl) ?_
  unfold spec_Makes; dsimp only
  simp
  refine spec_KnowOk_call hl rfl ?_; simp
  refine br_intro' (fun g => ?_) (fun g => ?_) <;> (have g0 := g) <;> simp [g0]
  · refine spec_l1Has_k (ns := ns) (t := t) hl rfl (by simp) (by simp) ?_; simp
    refine br_intro' (fun u => ?_) (fun u => ?_) <;> (have u0 := u) <;> simp [u0]
    · obtain ⟨j, rfl, hj⟩ := hasN u
      have hmm := mkUp_len ns ks ns.length
      have hjm : j < (mkUp ns ks ns.length).length := by omega
      have eb := bls_at hjm
      have ebv := bv_nat hjm
      refine spec_l7All_k (ns := ns) (ks := ks) (poolF_len (kpF_pool g)) hk (kpF_pool g) rfl (by simp) (by simp [noslBlks]) ?_; simp [shiftB]
      repeat (refine ck_intro' (by first | omega | (simp; omega) | kernel_rfl) ?_; try simp [hjm])
      try simp [eb]
      repeat (refine ck_intro' (by first | omega | (simp; omega) | kernel_rfl) ?_; try simp [hjm])
      exact LeV.ro rfl rfl (by simp [makeT, g, u, ebv])
    · exact LeV.ro rfl rfl (by simp [makeT, u])
  · exact LeV.ro rfl rfl (by simp [makeT, g])
theorem spec_Makes_call {ns : List Nd} {ks : List Int} {t : Int} (hl : ns.length < 9223372036854775807) (hk : ks.length < 9223372036854775807) {S : FuncId → Bool} {H : List Blk} {K : A → Dl → Prop} (hS : S 63 = false) (hK : K (.bool (makeT ns ks t)) (.news [])) : @WCall' Go.Proofs.Try.prog S 63 [aP ns, aI ks, i6 t] H ⟨K⟩ :=
  WCall_pure hS (spec_Makes_c ns ks t hl hk) (by simp) (by simp) (by simp) hK
theorem spec_Makes_k {ns : List Nd} {ks : List Int} {t : Int} (hl : ns.length < 9223372036854775807) (hk : ks.length < 9223372036854775807) {S : FuncId → Bool} {H : List Blk} {K : A → Dl → Prop} {zs : List A} (hS : S 63 = false) (hv : viewL (viewA 8 H) zs = some [aP ns, aI ks, i6 t]) (ho : noOwns zs = true ∨ nosl (.bool (makeT ns ks t)) = true) (hK : K (.bool (makeT ns ks t)) (.news [])) : @WCall' Go.Proofs.Try.prog S 63 zs H ⟨K⟩ :=
  WCall_pure hS (spec_Makes_c ns ks t hl hk) hv ho (by simp) hK
theorem spec_Derives_c (ns : List Nd) (ks : List Int) (t : Int) (hl : ns.length < 9223372036854775807) (hk : ks.length < 9223372036854775807) (hop : kpF ns ks = true → kpF ns (openV ns ks).1 = true) : T 39 [aP ns, aI ks, i6 t] [] (.bool (derT ns ks t)) ([]) := by
  refine semT' (S := S0) hm spec_Derives_ok (Nat.le_of_ble_eq_true rfl) ?_
  unfold spec_Derives; dsimp only
  simp
  refine spec_KnowOk_call hl rfl ?_; simp
  refine br_intro' (fun g => ?_) (fun g => ?_) <;> (have g0 := g) <;> simp [g0]
  · obtain ⟨hp, hks, hsr, hkl⟩ := kpF_iff.1 g
    have hol := openV_len g
    refine spec_l8All_k (ns := ns) (ks := ks) (poolF_len hp) hkl hp hks rfl (by simp) (by simp [noslBlks]) ?_; simp [shiftB]
    refine spec_Makes_k (ns := ns) (ks := (openV ns ks).1) (t := t) hl (by omega) rfl (by simp) (by simp) ?_; simp
    exact LeV.ro rfl rfl (by simp [derT, makeT, g, hop g])
  · exact LeV.ro rfl rfl (by simp [derT, g])
theorem spec_Derives_call {ns : List Nd} {ks : List Int} {t : Int} (hl : ns.length < 9223372036854775807) (hk : ks.length < 9223372036854775807) (hop : kpF ns ks = true → kpF ns (openV ns ks).1 = true) {S : FuncId → Bool} {H : List Blk} {K : A → Dl → Prop} (hS : S 39 = false) (hK : K (.bool (derT ns ks t)) (.news [])) : @WCall' Go.Proofs.Try.prog S 39 [aP ns, aI ks, i6 t] H ⟨K⟩ :=
  WCall_pure hS (spec_Derives_c ns ks t hl hk hop) (by simp) (by simp) (by simp) hK
theorem spec_Derives_k {ns : List Nd} {ks : List Int} {t : Int} (hl : ns.length < 9223372036854775807) (hk : ks.length < 9223372036854775807) (hop : kpF ns ks = true → kpF ns (openV ns ks).1 = true) {S : FuncId → Bool} {H : List Blk} {K : A → Dl → Prop} {zs : List A} (hS : S 39 = false) (hv : viewL (viewA 8 H) zs = some [aP ns, aI ks, i6 t]) (ho : noOwns zs = true ∨ nosl (.bool (derT ns ks t)) = true) (hK : K (.bool (derT ns ks t)) (.news [])) : @WCall' Go.Proofs.Try.prog S 39 zs H ⟨K⟩ :=
  WCall_pure hS (spec_Derives_c ns ks t hl hk hop) hv ho (by simp) hK
end Go.Proofs.Ytfbfebaajdihiaa.C

set_option linter.unusedVariables false
set_option linter.unusedSimpArgs false
namespace Go.Proofs.Ytfbfebaajdihiaa.C
theorem addF_one (ns : List Nd) (n : Nd) : (addF ns n).1.length ≤ ns.length + 1 := by
  rcases addF_cases ns n with h | h
  · rw [h]; omega
  · omega
theorem poolGo_len (bs : List Int) : ∀ (n : Nat) (ns : List Nd) (s : Cu), (poolGo bs n ns s).1.length ≤ ns.length + n
  | 0, ns, s => Nat.le_refl _
  | n + 1, ns, s => by
    have h1 := poolGo_len bs n (addF ns (nodeF bs s ns.length).1).1 (nodeF bs s ns.length).2
    have h2 := addF_one ns (nodeF bs s ns.length).1
    unfold poolGo
    omega
theorem poolD_len (bs : List Int) (s : Cu) : (poolD bs s 24).1.length ≤ 24 := by
  have h := poolGo_len bs (belowF bs s (24 + 1)).1.toNat [] (belowF bs s (24 + 1)).2
  have hi := belowF_in bs s (24 + 1)
  have := hi.2.1 (by omega)
  unfold poolD
  simp only [List.length_nil] at h
  omega
def K15 (ns : List Nd) : Prop := ∀ n ∈ ns, n.k = 1 ∨ n.k = 5
theorem K15_add {ns : List Nd} {n : Nd} (h : K15 ns) (hn : n.k = 1 ∨ n.k = 5) : K15 (addF ns n).1 := by
  unfold addF
  split
  · exact h
  · split
    · exact h
    · split
      · exact h
      · intro x hx
        rcases List.mem_append.1 hx with g | g
        · exact h x g
        · have : x = normN n := by simpa using g
          subst this
          have : (normN n).k = n.k := by unfold normN; split <;> simp_all
          rw [this]; exact hn
theorem K15_fill : ∀ (n : Nat) (ns : List Nd), K15 ns → K15 (fillF n ns)
  | 0, ns, h => h
  | n + 1, ns, h => by
    unfold fillF
    split
    · exact K15_fill n _ (K15_add (K15_add h (.inl rfl)) (.inr rfl))
    · exact h
theorem anyF_meek (bs : List Int) (s : Cu) : Meek (anyF bs s).1 := by
  have hp := poolD_len bs s
  unfold anyF anyEnd
  split
  · have h := fun n => K15_fill n [] (fun n hn => by simp at hn)
    dsimp only
    exact .inr (h 500)
  · left
    unfold anyMid
    split
    · simp; omega
    · split
      · simp; omega
      · simp only; omega
theorem d6_meek (bs : List Int) : Meek (d6 bs).1 := anyF_meek bs ⟨0, newH bs⟩
end Go.Proofs.Ytfbfebaajdihiaa.C

set_option linter.unusedVariables false
set_option linter.unusedSimpArgs false
set_option maxRecDepth 4000
namespace Go.Proofs.Ytfbfebaajdihiaa.C
open Go.Sym Go.Proofs.Ytfbfebaajdihiaa.I
/-- What PoolAdd answers. -/
def padF (ns : List Nd) (n : Nd) : List Nd × Int := if poolF ns then addF ns n else ([], -1)
theorem padF_len (ns : List Nd) (n : Nd) : (padF ns n).1.length ≤ 500 := by
  unfold padF
  split
  · rename_i h; exact poolF_len (addF_pool n h)
  · simp
theorem impl_PoolAdd_c (ns : List Nd) (n : Nd) (hl : ns.length ≤ 4294967296) : T 66 [aP ns, aN n] [] (.tup [.agg [pref 0 (padF ns n).1], i6 (padF ns n).2]) ([pblk (padF ns n).1]) := by
  refine semT' (S := (fun f => [92].contains f)) hm impl_PoolAdd_ok (Nat.le_of_ble_eq_true rfl) ?_
  unfold impl_PoolAdd; dsimp only
  simp
  refine impl_PoolOk_call rfl ?_; simp
  refine br_intro' (fun g => ?_) (fun g => ?_) <;> (have g0 := g) <;> simp [g0]
  · refine impl_copyPool_k (ns := ns) hl rfl (by simp) (by simp [noslBlks]) ?_; simp [shiftB]
    have hl5 := poolF_len g
    rw [show padF ns n = addF ns n from if_pos g]
    refine pool_call rfl 4 0 3 0 1 [pref 3 ns] ns (addF ns n).1 ⟨by simp, by simp, by simp, by simp, by simp, by simp, ⟨[], by simp⟩⟩ (by simp [pset]) (impl_Pool_add_m _ 4 0 3 0 1 [pref 3 ns] ns n.k n.a n.b ⟨by simp, by simp, by simp, by simp, by simp, by simp, ⟨[], by simp⟩⟩ hl5) ?_
    simp [pset]
    first | (refine LeV.tell [none] ?_ ?_ ?_ <;> (simp; done)) | (refine LeV.tell [some 0] ?_ ?_ ?_ <;> (simp; done)) | (refine LeV.tell [some 1] ?_ ?_ ?_ <;> (simp; done)) | (refine LeV.tell [some 2] ?_ ?_ ?_ <;> (simp; done)) | (refine LeV.tell [some 3] ?_ ?_ ?_ <;> (simp; done)) | (refine LeV.tell [some 4] ?_ ?_ ?_ <;> (simp; done)) | (refine LeV.tell [some 5] ?_ ?_ ?_ <;> (simp; done)) | (refine LeV.tell [some 6] ?_ ?_ ?_ <;> (simp; done)) | (refine LeV.tell [some 7] ?_ ?_ ?_ <;> (simp; done)) | (refine LeV.tell [some 8] ?_ ?_ ?_ <;> (simp; done)) | (refine LeV.tell [some 9] ?_ ?_ ?_ <;> (simp; done)) | (refine LeV.tell [some 10] ?_ ?_ ?_ <;> (simp; done)) | (refine LeV.tell [some 11] ?_ ?_ ?_ <;> (simp; done)) | (refine LeV.tell [some 12] ?_ ?_ ?_ <;> (simp; done)) | (refine LeV.tell [some 13] ?_ ?_ ?_ <;> (simp; done)) | (refine LeV.tell [some 14] ?_ ?_ ?_ <;> (simp; done)) | (refine LeV.tell [some 15] ?_ ?_ ?_ <;> (simp; done))
  · rw [show padF ns n = ([], -1) from if_neg (by simp [g])]
    first | (refine LeV.tell [none] ?_ ?_ ?_ <;> (simp; done)) | (refine LeV.tell [some 0] ?_ ?_ ?_ <;> (simp; done)) | (refine LeV.tell [some 1] ?_ ?_ ?_ <;> (simp; done)) | (refine LeV.tell [some 2] ?_ ?_ ?_ <;> (simp; done)) | (refine LeV.tell [some 3] ?_ ?_ ?_ <;> (simp; done)) | (refine LeV.tell [some 4] ?_ ?_ ?_ <;> (simp; done)) | (refine LeV.tell [some 5] ?_ ?_ ?_ <;> (simp; done)) | (refine LeV.tell [some 6] ?_ ?_ ?_ <;> (simp; done)) | (refine LeV.tell [some 7] ?_ ?_ ?_ <;> (simp; done)) | (refine LeV.tell [some 8] ?_ ?_ ?_ <;> (simp; done)) | (refine LeV.tell [some 9] ?_ ?_ ?_ <;> (simp; done)) | (refine LeV.tell [some 10] ?_ ?_ ?_ <;> (simp; done)) | (refine LeV.tell [some 11] ?_ ?_ ?_ <;> (simp; done)) | (refine LeV.tell [some 12] ?_ ?_ ?_ <;> (simp; done)) | (refine LeV.tell [some 13] ?_ ?_ ?_ <;> (simp; done)) | (refine LeV.tell [some 14] ?_ ?_ ?_ <;> (simp; done)) | (refine LeV.tell [some 15] ?_ ?_ ?_ <;> (simp; done))
theorem impl_PoolAdd_k {ns : List Nd} {n : Nd} (hl : ns.length ≤ 4294967296) {S : FuncId → Bool} {H : List Blk} {K : A → Dl → Prop} {zs : List A} (hS : S 66 = false) (hv : viewL (viewA 8 H) zs = some [aP ns, aN n]) (ho : noOwns zs = true ∨ nosl (.tup [.agg [pref 0 (padF ns n).1], i6 (padF ns n).2]) = true ∧ noslBlks ([pblk (padF ns n).1]) = true) (hK : K (shiftA H.length (.tup [.agg [pref 0 (padF ns n).1], i6 (padF ns n).2])) (.news (([pblk (padF ns n).1]).map (shiftB H.length)))) : @WCall' Go.Proofs.Try.prog S 66 zs H ⟨K⟩ :=
  WCall_ro' hS hv (impl_PoolAdd_c ns n hl) rfl ho hK
theorem impl_NameOf_c (ns : List Nd) (x : Int) (hl : ns.length ≤ 4294967296) : T 41 [aP ns, i6 x] [] (.tup [.agg [pref 0 (padF ns ⟨1, x, 0⟩).1], i6 (padF ns ⟨1, x, 0⟩).2]) ([pblk (padF ns ⟨1, x, 0⟩).1]) := by
  refine semT' (S := S0) hm impl_NameOf_ok (Nat.le_of_ble_eq_true rfl) ?_
  unfold impl_NameOf; dsimp only
  simp
  refine impl_PoolAdd_k (ns := ns) (n := ⟨1, x, 0⟩) hl rfl (by simp) (by simp [noslBlks]) ?_; simp [shiftB]
  first | (refine LeV.tell [none] ?_ ?_ ?_ <;> (simp; done)) | (refine LeV.tell [some 0] ?_ ?_ ?_ <;> (simp; done)) | (refine LeV.tell [some 1] ?_ ?_ ?_ <;> (simp; done)) | (refine LeV.tell [some 2] ?_ ?_ ?_ <;> (simp; done)) | (refine LeV.tell [some 3] ?_ ?_ ?_ <;> (simp; done)) | (refine LeV.tell [some 4] ?_ ?_ ?_ <;> (simp; done)) | (refine LeV.tell [some 5] ?_ ?_ ?_ <;> (simp; done)) | (refine LeV.tell [some 6] ?_ ?_ ?_ <;> (simp; done)) | (refine LeV.tell [some 7] ?_ ?_ ?_ <;> (simp; done)) | (refine LeV.tell [some 8] ?_ ?_ ?_ <;> (simp; done)) | (refine LeV.tell [some 9] ?_ ?_ ?_ <;> (simp; done)) | (refine LeV.tell [some 10] ?_ ?_ ?_ <;> (simp; done)) | (refine LeV.tell [some 11] ?_ ?_ ?_ <;> (simp; done)) | (refine LeV.tell [some 12] ?_ ?_ ?_ <;> (simp; done)) | (refine LeV.tell [some 13] ?_ ?_ ?_ <;> (simp; done)) | (refine LeV.tell [some 14] ?_ ?_ ?_ <;> (simp; done)) | (refine LeV.tell [some 15] ?_ ?_ ?_ <;> (simp; done))
theorem impl_NameOf_k {ns : List Nd} {x : Int} (hl : ns.length ≤ 4294967296) {S : FuncId → Bool} {H : List Blk} {K : A → Dl → Prop} {zs : List A} (hS : S 41 = false) (hv : viewL (viewA 8 H) zs = some [aP ns, i6 x]) (ho : noOwns zs = true ∨ nosl (.tup [.agg [pref 0 (padF ns ⟨1, x, 0⟩).1], i6 (padF ns ⟨1, x, 0⟩).2]) = true ∧ noslBlks ([pblk (padF ns ⟨1, x, 0⟩).1]) = true) (hK : K (shiftA H.length (.tup [.agg [pref 0 (padF ns ⟨1, x, 0⟩).1], i6 (padF ns ⟨1, x, 0⟩).2])) (.news (([pblk (padF ns ⟨1, x, 0⟩).1]).map (shiftB H.length)))) : @WCall' Go.Proofs.Try.prog S 41 zs H ⟨K⟩ :=
  WCall_ro' hS hv (impl_NameOf_c ns x hl) rfl ho hK
theorem impl_MakeSeal_c (ns : List Nd) (a b : Int) (hl : ns.length ≤ 4294967296) : T 43 [aP ns, i6 a, i6 b] [] (.tup [.agg [pref 0 (padF ns ⟨3, a, b⟩).1], i6 (padF ns ⟨3, a, b⟩).2]) ([pblk (padF ns ⟨3, a, b⟩).1]) := by
  refine semT' (S := S0) hm impl_MakeSeal_ok (Nat.le_of_ble_eq_true rfl) ?_
  unfold impl_MakeSeal; dsimp only
  simp
  refine impl_PoolAdd_k (ns := ns) (n := ⟨3, a, b⟩) hl rfl (by simp) (by simp [noslBlks]) ?_; simp [shiftB]
  first | (refine LeV.tell [none] ?_ ?_ ?_ <;> (simp; done)) | (refine LeV.tell [some 0] ?_ ?_ ?_ <;> (simp; done)) | (refine LeV.tell [some 1] ?_ ?_ ?_ <;> (simp; done)) | (refine LeV.tell [some 2] ?_ ?_ ?_ <;> (simp; done)) | (refine LeV.tell [some 3] ?_ ?_ ?_ <;> (simp; done)) | (refine LeV.tell [some 4] ?_ ?_ ?_ <;> (simp; done)) | (refine LeV.tell [some 5] ?_ ?_ ?_ <;> (simp; done)) | (refine LeV.tell [some 6] ?_ ?_ ?_ <;> (simp; done)) | (refine LeV.tell [some 7] ?_ ?_ ?_ <;> (simp; done)) | (refine LeV.tell [some 8] ?_ ?_ ?_ <;> (simp; done)) | (refine LeV.tell [some 9] ?_ ?_ ?_ <;> (simp; done)) | (refine LeV.tell [some 10] ?_ ?_ ?_ <;> (simp; done)) | (refine LeV.tell [some 11] ?_ ?_ ?_ <;> (simp; done)) | (refine LeV.tell [some 12] ?_ ?_ ?_ <;> (simp; done)) | (refine LeV.tell [some 13] ?_ ?_ ?_ <;> (simp; done)) | (refine LeV.tell [some 14] ?_ ?_ ?_ <;> (simp; done)) | (refine LeV.tell [some 15] ?_ ?_ ?_ <;> (simp; done))
theorem impl_MakeSeal_k {ns : List Nd} {a b : Int} (hl : ns.length ≤ 4294967296) {S : FuncId → Bool} {H : List Blk} {K : A → Dl → Prop} {zs : List A} (hS : S 43 = false) (hv : viewL (viewA 8 H) zs = some [aP ns, i6 a, i6 b]) (ho : noOwns zs = true ∨ nosl (.tup [.agg [pref 0 (padF ns ⟨3, a, b⟩).1], i6 (padF ns ⟨3, a, b⟩).2]) = true ∧ noslBlks ([pblk (padF ns ⟨3, a, b⟩).1]) = true) (hK : K (shiftA H.length (.tup [.agg [pref 0 (padF ns ⟨3, a, b⟩).1], i6 (padF ns ⟨3, a, b⟩).2])) (.news (([pblk (padF ns ⟨3, a, b⟩).1]).map (shiftB H.length)))) : @WCall' Go.Proofs.Try.prog S 43 zs H ⟨K⟩ :=
  WCall_ro' hS hv (impl_MakeSeal_c ns a b hl) rfl ho hK
theorem impl_MakeDigest_c (ns : List Nd) (a : Int) (hl : ns.length ≤ 4294967296) : T 44 [aP ns, i6 a] [] (.tup [.agg [pref 0 (padF ns ⟨5, a, 0⟩).1], i6 (padF ns ⟨5, a, 0⟩).2]) ([pblk (padF ns ⟨5, a, 0⟩).1]) := by
  refine semT' (S := S0) hm impl_MakeDigest_ok (Nat.le_of_ble_eq_true rfl) ?_
  unfold impl_MakeDigest; dsimp only
  simp
  refine impl_PoolAdd_k (ns := ns) (n := ⟨5, a, 0⟩) hl rfl (by simp) (by simp [noslBlks]) ?_; simp [shiftB]
  first | (refine LeV.tell [none] ?_ ?_ ?_ <;> (simp; done)) | (refine LeV.tell [some 0] ?_ ?_ ?_ <;> (simp; done)) | (refine LeV.tell [some 1] ?_ ?_ ?_ <;> (simp; done)) | (refine LeV.tell [some 2] ?_ ?_ ?_ <;> (simp; done)) | (refine LeV.tell [some 3] ?_ ?_ ?_ <;> (simp; done)) | (refine LeV.tell [some 4] ?_ ?_ ?_ <;> (simp; done)) | (refine LeV.tell [some 5] ?_ ?_ ?_ <;> (simp; done)) | (refine LeV.tell [some 6] ?_ ?_ ?_ <;> (simp; done)) | (refine LeV.tell [some 7] ?_ ?_ ?_ <;> (simp; done)) | (refine LeV.tell [some 8] ?_ ?_ ?_ <;> (simp; done)) | (refine LeV.tell [some 9] ?_ ?_ ?_ <;> (simp; done)) | (refine LeV.tell [some 10] ?_ ?_ ?_ <;> (simp; done)) | (refine LeV.tell [some 11] ?_ ?_ ?_ <;> (simp; done)) | (refine LeV.tell [some 12] ?_ ?_ ?_ <;> (simp; done)) | (refine LeV.tell [some 13] ?_ ?_ ?_ <;> (simp; done)) | (refine LeV.tell [some 14] ?_ ?_ ?_ <;> (simp; done)) | (refine LeV.tell [some 15] ?_ ?_ ?_ <;> (simp; done))
theorem impl_MakeDigest_k {ns : List Nd} {a : Int} (hl : ns.length ≤ 4294967296) {S : FuncId → Bool} {H : List Blk} {K : A → Dl → Prop} {zs : List A} (hS : S 44 = false) (hv : viewL (viewA 8 H) zs = some [aP ns, i6 a]) (ho : noOwns zs = true ∨ nosl (.tup [.agg [pref 0 (padF ns ⟨5, a, 0⟩).1], i6 (padF ns ⟨5, a, 0⟩).2]) = true ∧ noslBlks ([pblk (padF ns ⟨5, a, 0⟩).1]) = true) (hK : K (shiftA H.length (.tup [.agg [pref 0 (padF ns ⟨5, a, 0⟩).1], i6 (padF ns ⟨5, a, 0⟩).2])) (.news (([pblk (padF ns ⟨5, a, 0⟩).1]).map (shiftB H.length)))) : @WCall' Go.Proofs.Try.prog S 44 zs H ⟨K⟩ :=
  WCall_ro' hS hv (impl_MakeDigest_c ns a hl) rfl ho hK
theorem spec_PoolAdd_c (ns : List Nd) (n : Nd)  : T 67 [aP ns, aN n] [] (.tup [.agg [pref 0 (padF ns n).1], i6 (padF ns n).2]) ([pblk (padF ns n).1]) := by
  refine semT' (S := S0) hm spec_PoolAdd_ok (Nat.le_of_ble_eq_true rfl) ?_
  unfold spec_PoolAdd; dsimp only
  simp
  refine spec_PoolOk_call rfl ?_; simp
  refine br_intro' (fun g => ?_) (fun g => ?_) <;> (have g0 := g) <;> simp [g0]
  · have hl5 := poolF_len (addF_pool n g)
    rw [show padF ns n = addF ns n from if_pos g]
    refine spec_l1Add_k (ns := ns) (n := n) g rfl (by simp) (by simp) ?_; simp
    refine spec_l1Copy_k (ns := (addF ns n).1) (by omega) rfl (by simp) (by simp [noslBlks]) ?_; simp [shiftB]
    repeat (refine ck_intro' (by first | omega | (simp; omega) | kernel_rfl) ?_; try simp)
    first | (refine LeV.tell [none] ?_ ?_ ?_ <;> (simp; done)) | (refine LeV.tell [some 0] ?_ ?_ ?_ <;> (simp; done)) | (refine LeV.tell [some 1] ?_ ?_ ?_ <;> (simp; done)) | (refine LeV.tell [some 2] ?_ ?_ ?_ <;> (simp; done)) | (refine LeV.tell [some 3] ?_ ?_ ?_ <;> (simp; done)) | (refine LeV.tell [some 4] ?_ ?_ ?_ <;> (simp; done)) | (refine LeV.tell [some 5] ?_ ?_ ?_ <;> (simp; done)) | (refine LeV.tell [some 6] ?_ ?_ ?_ <;> (simp; done)) | (refine LeV.tell [some 7] ?_ ?_ ?_ <;> (simp; done)) | (refine LeV.tell [some 8] ?_ ?_ ?_ <;> (simp; done)) | (refine LeV.tell [some 9] ?_ ?_ ?_ <;> (simp; done)) | (refine LeV.tell [some 10] ?_ ?_ ?_ <;> (simp; done)) | (refine LeV.tell [some 11] ?_ ?_ ?_ <;> (simp; done)) | (refine LeV.tell [some 12] ?_ ?_ ?_ <;> (simp; done)) | (refine LeV.tell [some 13] ?_ ?_ ?_ <;> (simp; done)) | (refine LeV.tell [some 14] ?_ ?_ ?_ <;> (simp; done)) | (refine LeV.tell [some 15] ?_ ?_ ?_ <;> (simp; done))
  · rw [show padF ns n = ([], -1) from if_neg (by simp [g])]
    first | (refine LeV.tell [none] ?_ ?_ ?_ <;> (simp; done)) | (refine LeV.tell [some 0] ?_ ?_ ?_ <;> (simp; done)) | (refine LeV.tell [some 1] ?_ ?_ ?_ <;> (simp; done)) | (refine LeV.tell [some 2] ?_ ?_ ?_ <;> (simp; done)) | (refine LeV.tell [some 3] ?_ ?_ ?_ <;> (simp; done)) | (refine LeV.tell [some 4] ?_ ?_ ?_ <;> (simp; done)) | (refine LeV.tell [some 5] ?_ ?_ ?_ <;> (simp; done)) | (refine LeV.tell [some 6] ?_ ?_ ?_ <;> (simp; done)) | (refine LeV.tell [some 7] ?_ ?_ ?_ <;> (simp; done)) | (refine LeV.tell [some 8] ?_ ?_ ?_ <;> (simp; done)) | (refine LeV.tell [some 9] ?_ ?_ ?_ <;> (simp; done)) | (refine LeV.tell [some 10] ?_ ?_ ?_ <;> (simp; done)) | (refine LeV.tell [some 11] ?_ ?_ ?_ <;> (simp; done)) | (refine LeV.tell [some 12] ?_ ?_ ?_ <;> (simp; done)) | (refine LeV.tell [some 13] ?_ ?_ ?_ <;> (simp; done)) | (refine LeV.tell [some 14] ?_ ?_ ?_ <;> (simp; done)) | (refine LeV.tell [some 15] ?_ ?_ ?_ <;> (simp; done))
theorem spec_PoolAdd_k {ns : List Nd} {n : Nd}  {S : FuncId → Bool} {H : List Blk} {K : A → Dl → Prop} {zs : List A} (hS : S 67 = false) (hv : viewL (viewA 8 H) zs = some [aP ns, aN n]) (ho : noOwns zs = true ∨ nosl (.tup [.agg [pref 0 (padF ns n).1], i6 (padF ns n).2]) = true ∧ noslBlks ([pblk (padF ns n).1]) = true) (hK : K (shiftA H.length (.tup [.agg [pref 0 (padF ns n).1], i6 (padF ns n).2])) (.news (([pblk (padF ns n).1]).map (shiftB H.length)))) : @WCall' Go.Proofs.Try.prog S 67 zs H ⟨K⟩ :=
  WCall_ro' hS hv (spec_PoolAdd_c ns n) rfl ho hK
theorem spec_NameOf_c (ns : List Nd) (x : Int)  : T 42 [aP ns, i6 x] [] (.tup [.agg [pref 0 (padF ns ⟨1, x, 0⟩).1], i6 (padF ns ⟨1, x, 0⟩).2]) ([pblk (padF ns ⟨1, x, 0⟩).1]) := by
  refine semT' (S := S0) hm spec_NameOf_ok (Nat.le_of_ble_eq_true rfl) ?_
  unfold spec_NameOf; dsimp only
  simp
  refine spec_PoolAdd_k (ns := ns) (n := ⟨1, x, 0⟩) rfl (by simp) (by simp [noslBlks]) ?_; simp [shiftB]
  first | (refine LeV.tell [none] ?_ ?_ ?_ <;> (simp; done)) | (refine LeV.tell [some 0] ?_ ?_ ?_ <;> (simp; done)) | (refine LeV.tell [some 1] ?_ ?_ ?_ <;> (simp; done)) | (refine LeV.tell [some 2] ?_ ?_ ?_ <;> (simp; done)) | (refine LeV.tell [some 3] ?_ ?_ ?_ <;> (simp; done)) | (refine LeV.tell [some 4] ?_ ?_ ?_ <;> (simp; done)) | (refine LeV.tell [some 5] ?_ ?_ ?_ <;> (simp; done)) | (refine LeV.tell [some 6] ?_ ?_ ?_ <;> (simp; done)) | (refine LeV.tell [some 7] ?_ ?_ ?_ <;> (simp; done)) | (refine LeV.tell [some 8] ?_ ?_ ?_ <;> (simp; done)) | (refine LeV.tell [some 9] ?_ ?_ ?_ <;> (simp; done)) | (refine LeV.tell [some 10] ?_ ?_ ?_ <;> (simp; done)) | (refine LeV.tell [some 11] ?_ ?_ ?_ <;> (simp; done)) | (refine LeV.tell [some 12] ?_ ?_ ?_ <;> (simp; done)) | (refine LeV.tell [some 13] ?_ ?_ ?_ <;> (simp; done)) | (refine LeV.tell [some 14] ?_ ?_ ?_ <;> (simp; done)) | (refine LeV.tell [some 15] ?_ ?_ ?_ <;> (simp; done))
theorem spec_NameOf_k {ns : List Nd} {x : Int}  {S : FuncId → Bool} {H : List Blk} {K : A → Dl → Prop} {zs : List A} (hS : S 42 = false) (hv : viewL (viewA 8 H) zs = some [aP ns, i6 x]) (ho : noOwns zs = true ∨ nosl (.tup [.agg [pref 0 (padF ns ⟨1, x, 0⟩).1], i6 (padF ns ⟨1, x, 0⟩).2]) = true ∧ noslBlks ([pblk (padF ns ⟨1, x, 0⟩).1]) = true) (hK : K (shiftA H.length (.tup [.agg [pref 0 (padF ns ⟨1, x, 0⟩).1], i6 (padF ns ⟨1, x, 0⟩).2])) (.news (([pblk (padF ns ⟨1, x, 0⟩).1]).map (shiftB H.length)))) : @WCall' Go.Proofs.Try.prog S 42 zs H ⟨K⟩ :=
  WCall_ro' hS hv (spec_NameOf_c ns x) rfl ho hK
end Go.Proofs.Ytfbfebaajdihiaa.C

set_option linter.unusedVariables false
set_option linter.unusedSimpArgs false
namespace Go.Proofs.Ytfbfebaajdihiaa.C
theorem fillF_len : ∀ (n : Nat) {ns : List Nd}, poolF ns = true → 500 ≤ ns.length + n → 500 ≤ (fillF n ns).length
  | 0, ns, _, h => by simpa [fillF] using h
  | n + 1, ns, hp, h => by
    unfold fillF
    split
    · rename_i g
      have := moreF_gt hp g
      exact fillF_len n (addF_pool _ (addF_pool _ hp)) (by omega)
    · omega
/-- A drawn pool is small or full. -/
theorem anyF_small (bs : List Int) (s : Cu) : (anyF bs s).1.length ≤ 25 ∨ 500 ≤ (anyF bs s).1.length := by
  have hp := poolD_len bs s
  unfold anyF anyEnd
  split
  · have h := fun n (hn : 500 ≤ n) => fillF_len n poolF_nil (by simpa using hn)
    dsimp only
    exact .inr (h 500 (by omega))
  · left
    unfold anyMid
    split
    · simp; omega
    · split
      · simp; omega
      · simp only; omega
theorem d6_small (bs : List Int) : (d6 bs).1.length ≤ 25 ∨ 500 ≤ (d6 bs).1.length := anyF_small bs ⟨0, newH bs⟩
theorem nodeAt_left {ns T : List Nd} {i : Nat} (h : i < ns.length) : nodeAt (ns ++ T) i = nodeAt ns i := by
  rw [nodeAt_nat h, nodeAt_nat (by simp; omega), List.getElem_append_left h]
theorem addF_cases2 {ns : List Nd} (n : Nd) : (addF ns n).2 = -1 ∨ (∃ j : Nat, ∃ h : j < ns.length, (addF ns n).2 = j ∧ ns[j] = normN n ∧ (addF ns n).1 = ns) ∨ (addF ns n = (ns ++ [normN n], (ns.length : Int)) ∧ ns.length < 500) := by
  unfold addF
  split
  · exact .inl rfl
  · split
    · rename_i h
      obtain ⟨j, hj, e, e2⟩ := findF_at ns (normN n) 0 h
      refine .inr (.inl ⟨j, hj, ?_, e2, rfl⟩)
      simpa using e
    · split
      · exact .inl rfl
      · exact .inr (.inr ⟨rfl, by omega⟩)
theorem addF_new {ns : List Nd} {n : Nd} (hn : normN n ∉ ns) (h : ¬ (addF ns n).2 < 0) : addF ns n = (ns ++ [normN n], (ns.length : Int)) ∧ ns.length < 500 := by
  rcases addF_cases2 (ns := ns) n with e | ⟨j, hj, e1, e2, _⟩ | e
  · omega
  · exact absurd (by rw [← e2]; exact List.getElem_mem hj) hn
  · exact e
theorem mem_lt {ns : List Nd} (hp : poolF ns = true) {n : Nd} (hm : n ∈ ns) : (partsF n.k = 1 ∨ partsF n.k = 2 → n.a < (ns.length : Int) - 1) ∧ (partsF n.k = 2 → n.b < (ns.length : Int) - 1) := by
  obtain ⟨j, hj, rfl⟩ := List.getElem_of_mem hm
  refine ⟨fun h => ?_, fun h => ?_⟩
  · rcases h with h | h
    · obtain ⟨a, e, h⟩ := part_in hp hj h
      omega
    · obtain ⟨⟨a, e, h⟩, _⟩ := parts_in hp hj h
      omega
  · obtain ⟨_, b, e, h⟩ := parts_in hp hj h
    omega
/-- One term more that is known. -/
theorem put_spec {ns : List Nd} {ks : List Int} {t : Int} (hk : kpF ns ks = true) (ht : hasF ns.length t = true) (hl : ks.length < 200) : kpF ns (knowPutF ns ks t).1 = true ∧ (∀ x, x ∈ (knowPutF ns ks t).1 ↔ x = t ∨ x ∈ ks) ∧ (knowPutF ns ks t).1.length ≤ ks.length + 1 := by
  obtain ⟨hp, hks, hsr, hkl⟩ := kpF_iff.1 hk
  have e : (knowPutF ns ks t).1 = (kputF ks t).1 := by simp [knowPutF, hk, ht]
  rw [e]
  have hle := putF_len ks t
  unfold kputF
  split
  · rename_i g
    refine ⟨hk, fun x => ⟨.inr, fun q => q.elim (fun e => ?_) id⟩, by simp⟩
    rw [e]; simpa [hasK] using g
  · rw [if_neg (by omega)]
    refine ⟨kpF_iff.2 ⟨hp, fun x hx => ?_, putF_srt hsr, by simp only; omega⟩, fun x => putF_mem, by simp only; omega⟩
    rcases putF_mem.1 hx with e | e
    · rw [e]; exact ht
    · exact hks x e
theorem kpF_ext {ns ms : List Nd} {ks : List Int} (hk : kpF ns ks = true) (hm : poolF ms = true) (hl : ns.length ≤ ms.length) : kpF ms ks = true := by
  obtain ⟨hp, hks, hsr, hkl⟩ := kpF_iff.1 hk
  refine kpF_iff.2 ⟨hm, fun x hx => ?_, hsr, hkl⟩
  obtain ⟨j, rfl, hj⟩ := hasN (hks x hx)
  exact hasF_of (by omega)
theorem Der.ext {ns T : List Nd} {ks k2 : List Int} (h : ∀ t : Nat, (t : Int) ∈ ks → Der (ns ++ T) k2 t) {t : Nat} (d : Der ns ks t) : Der (ns ++ T) k2 t := by
  have ll : ∀ {i : Nat}, i < ns.length → i < (ns ++ T).length := fun hi => by simp; omega
  induction d with
  | know q => exact h _ q
  | pub a b c => exact .pub (ll a) (by rw [nodeAt_left a]; exact b) (by rw [nodeAt_left a]; exact c)
  | make1 a b c _ ih => exact .make1 (ll a) (by rw [nodeAt_left a]; exact b) (by rw [nodeAt_left a]; exact c) ih
  | make2 a b c d _ _ ih ih2 => exact .make2 (ll a) (by rw [nodeAt_left a]; exact b) (by rw [nodeAt_left a]; exact c) (by rw [nodeAt_left a]; exact d) ih ih2
  | shareA a b c d e _ _ ih ih2 => exact .shareA (ll a) (ll b) (by rw [nodeAt_left a]; exact c) (by rw [nodeAt_left a]; exact d) (by rw [nodeAt_left a, nodeAt_left b]; exact e) ih ih2
  | shareB a b c d e _ _ ih ih2 => exact .shareB (ll a) (ll b) (by rw [nodeAt_left a]; exact c) (by rw [nodeAt_left a]; exact d) (by rw [nodeAt_left a, nodeAt_left b]; exact e) ih ih2
  | left a b c _ ih => exact .left (ll a) (by rw [nodeAt_left a]; exact b) (by rw [nodeAt_left a]; exact c) ih
  | right a b c _ ih => exact .right (ll a) (by rw [nodeAt_left a]; exact b) (by rw [nodeAt_left a]; exact c) ih
  | opens a b c d _ _ ih ih2 => exact .opens (ll a) (by rw [nodeAt_left a]; exact b) (by rw [nodeAt_left a]; exact c) (by rw [nodeAt_left a]; exact d) ih ih2
  | read a b c _ ih => exact .read (ll a) (by rw [nodeAt_left a]; exact b) (by rw [nodeAt_left a]; exact c) ih
theorem nodeAt_app0 (ns : List Nd) (n : Nd) (T : List Nd) : nodeAt (ns ++ n :: T) ns.length = n := by
  rw [nodeAt_nat (by simp)]; simp
theorem nodeAt_app1 (ns : List Nd) (n m : Nd) (T : List Nd) : nodeAt (ns ++ n :: m :: T) (ns.length + 1 : Nat) = m := by
  rw [nodeAt_nat (by simp), List.getElem_append_right (by omega)]; simp
theorem nodeAt_app2 (ns : List Nd) (n m o : Nd) (T : List Nd) : nodeAt (ns ++ n :: m :: o :: T) (ns.length + 2 : Nat) = o := by
  rw [nodeAt_nat (by simp), List.getElem_append_right (by omega)]; simp
/-- A new name isn't derived of its digest and of itself under itself, and its digest just where it was heard. -/
theorem hidden_der {ns : List Nd} (hp : poolF ns = true) {ks : List Int} (y : Int) (hy : pubF y = false) (hk : ∀ x ∈ ks, ∃ j : Nat, x = j ∧ j ≠ ns.length ∧ j < ns.length + 3) {t : Nat} (d : Der (ns ++ [⟨1, y, 0⟩, ⟨5, (ns.length : Int), 0⟩, ⟨3, (ns.length : Int), (ns.length : Int)⟩]) ks t) : t ≠ ns.length ∧ t < ns.length + 3 ∧ (t = ns.length + 1 → ((ns.length + 1 : Nat) : Int) ∈ ks) := by
  have e0 := nodeAt_app0 ns ⟨1, y, 0⟩ [⟨5, (ns.length : Int), 0⟩, ⟨3, (ns.length : Int), (ns.length : Int)⟩]
  have e1 := nodeAt_app1 ns ⟨1, y, 0⟩ ⟨5, (ns.length : Int), 0⟩ [⟨3, (ns.length : Int), (ns.length : Int)⟩]
  have e2 := nodeAt_app2 ns ⟨1, y, 0⟩ ⟨5, (ns.length : Int), 0⟩ ⟨3, (ns.length : Int), (ns.length : Int)⟩ []
  have el : ∀ {i : Nat}, i < ns.length → nodeAt (ns ++ [⟨1, y, 0⟩, ⟨5, (ns.length : Int), 0⟩, ⟨3, (ns.length : Int), (ns.length : Int)⟩]) i = nodeAt ns i := fun h => nodeAt_left h
  have hlen : (ns ++ [(⟨1, y, 0⟩ : Nd), ⟨5, (ns.length : Int), 0⟩, ⟨3, (ns.length : Int), (ns.length : Int)⟩]).length = ns.length + 3 := by simp
  generalize ns ++ [(⟨1, y, 0⟩ : Nd), ⟨5, (ns.length : Int), 0⟩, ⟨3, (ns.length : Int), (ns.length : Int)⟩] = ms at d e0 e1 e2 el hlen
  have four : ∀ {i : Nat}, i < ms.length → i < ns.length ∨ i = ns.length ∨ i = ns.length + 1 ∨ i = ns.length + 2 := fun h => by omega
  induction d with
  | @know t q =>
    obtain ⟨j, e, h1, h2⟩ := hk _ q
    refine ⟨by omega, by omega, fun e => ?_⟩
    rw [← e]; exact q
  | @pub t a b c =>
    refine ⟨fun e => ?_, by omega, fun e => ?_⟩
    · subst e
      rw [e0] at c
      rw [hy] at c; cases c
    · subst e
      rw [e1] at b; simp at b
  | @make1 t x a b c _ ih =>
    refine ⟨fun e => ?_, by omega, fun e => ?_⟩
    · subst e
      rw [e0] at b
      simp [partsF] at b
    · subst e
      rw [e1] at c
      simp at c
      exact absurd (by omega) ih.1
  | @make2 t x z a b c d _ _ ih ih2 =>
    refine ⟨fun e => ?_, by omega, fun e => ?_⟩
    · subst e
      rw [e0] at b
      simp [partsF] at b
    · subst e
      rw [e1] at b
      simp [partsF] at b
  | @shareA t x z a a2 c _ _ _ _ _ _ =>
    refine ⟨fun e => ?_, by omega, fun e => ?_⟩
    · subst e
      rw [e0] at c
      simp at c
    · subst e
      rw [e1] at c
      simp at c
  | @shareB t x z a a2 c _ _ _ _ _ _ =>
    refine ⟨fun e => ?_, by omega, fun e => ?_⟩
    · subst e
      rw [e0] at c
      simp at c
    · subst e
      rw [e1] at c
      simp at c
  | @left t i a b c _ ih =>
    rcases four a with h | h | h | h
    · rw [el h] at b c
      have := nodeA_lt hp h (by rw [b]; exact .inr rfl) c
      omega
    · subst h; rw [e0] at b; simp at b
    · subst h; rw [e1] at b; simp at b
    · subst h; rw [e2] at b; simp at b
  | @right t i a b c _ ih =>
    rcases four a with h | h | h | h
    · rw [el h] at b c
      have := nodeB_lt hp h (by rw [b]; rfl) c
      omega
    · subst h; rw [e0] at b; simp at b
    · subst h; rw [e1] at b; simp at b
    · subst h; rw [e2] at b; simp at b
  | @opens t i x a b c d _ _ ih ih2 =>
    rcases four a with h | h | h | h
    · rw [el h] at b c
      have := nodeA_lt hp h (by rw [b]; exact .inr rfl) c
      omega
    · subst h; rw [e0] at b; simp at b
    · subst h; rw [e1] at b; simp at b
    · subst h
      rw [e2] at d
      simp at d
      exact absurd (by omega) ih2.1
  | @read t i a b c _ ih =>
    rcases four a with h | h | h | h
    · rw [el h] at b c
      have := nodeA_lt hp h (by rw [b]; exact .inr rfl) c
      omega
    · subst h; rw [e0] at b; simp at b
    · subst h; rw [e1] at b; simp at b
    · subst h; rw [e2] at b; simp at b
/-- With a seal under a new name, no more is derived than was, and the seal. -/
theorem sealed_der {ns : List Nd} (hp : poolF ns = true) {k0 ks : List Int} (y : Int) (hy : pubF y = false) {t0 : Nat} (hk : ∀ x ∈ ks, x = ((ns.length + 1 : Nat) : Int) ∨ x ∈ k0) (h0 : ∀ x ∈ k0, ∃ j : Nat, x = j ∧ j < ns.length) {t : Nat} (d : Der (ns ++ [⟨1, y, 0⟩, ⟨3, (t0 : Int), (ns.length : Int)⟩]) ks t) : t = ns.length + 1 ∨ t < ns.length ∧ Der ns k0 t := by
  have e0 := nodeAt_app0 ns ⟨1, y, 0⟩ [⟨3, (t0 : Int), (ns.length : Int)⟩]
  have e1 := nodeAt_app1 ns ⟨1, y, 0⟩ ⟨3, (t0 : Int), (ns.length : Int)⟩ []
  have el : ∀ {i : Nat}, i < ns.length → nodeAt (ns ++ [⟨1, y, 0⟩, ⟨3, (t0 : Int), (ns.length : Int)⟩]) i = nodeAt ns i := fun h => nodeAt_left h
  have hlen : (ns ++ [(⟨1, y, 0⟩ : Nd), ⟨3, (t0 : Int), (ns.length : Int)⟩]).length = ns.length + 2 := by simp
  generalize ns ++ [(⟨1, y, 0⟩ : Nd), ⟨3, (t0 : Int), (ns.length : Int)⟩] = ms at d e0 e1 el hlen
  have four : ∀ {i : Nat}, i < ms.length → i < ns.length ∨ i = ns.length ∨ i = ns.length + 1 := fun h => by omega
  induction d with
  | know q =>
    rcases hk _ q with e | e
    · left; omega
    · obtain ⟨j, e2, h2⟩ := h0 _ e
      exact .inr ⟨by omega, .know e⟩
  | @pub t a b c =>
    rcases four a with h | h | h
    · rw [el h] at b c; exact .inr ⟨h, .pub h b c⟩
    · subst h; rw [e0] at c; rw [hy] at c; cases c
    · exact .inl h
  | @make1 t x a b c _ ih =>
    rcases four a with h | h | h
    · rw [el h] at b c
      have := nodeA_lt hp h (.inl b) c
      rcases ih with g | g
      · omega
      · exact .inr ⟨h, .make1 h b c g.2⟩
    · subst h; rw [e0] at b; simp [partsF] at b
    · exact .inl h
  | @make2 t x z a b c d _ _ ih ih2 =>
    rcases four a with h | h | h
    · rw [el h] at b c d
      have := nodeA_lt hp h (.inr b) c
      have := nodeB_lt hp h b d
      rcases ih with g | g
      · omega
      · rcases ih2 with g2 | g2
        · omega
        · exact .inr ⟨h, .make2 h b c d g.2 g2.2⟩
    · subst h; rw [e0] at b; simp [partsF] at b
    · exact .inl h
  | @shareA t x z a a2 b c e _ _ ih ih2 =>
    rcases four a with h | h | h
    · rw [el h] at b c e
      have := nodeA_lt hp h (by rw [b]; exact .inr rfl) c
      rcases ih with g | g
      · omega
      · rcases ih2 with g2 | g2
        · subst g2; rw [e1] at e; simp at e
        · rw [el g2.1] at e
          exact .inr ⟨h, .shareA h g2.1 b c e g.2 g2.2⟩
    · subst h; rw [e0] at b; simp at b
    · exact .inl h
  | @shareB t x z a a2 b c e _ _ ih ih2 =>
    rcases four a with h | h | h
    · rw [el h] at b c e
      have := nodeB_lt hp h (by rw [b]; rfl) c
      rcases ih with g | g
      · omega
      · rcases ih2 with g2 | g2
        · subst g2; rw [e1] at e; simp at e
        · rw [el g2.1] at e
          exact .inr ⟨h, .shareB h g2.1 b c e g.2 g2.2⟩
    · subst h; rw [e0] at b; simp at b
    · exact .inl h
  | @left t i a b c _ ih =>
    rcases ih with g | g
    · subst g; rw [e1] at b; simp at b
    · rw [el g.1] at b c
      have := nodeA_lt hp g.1 (by rw [b]; exact .inr rfl) c
      exact .inr ⟨by omega, .left g.1 b c g.2⟩
  | @right t i a b c _ ih =>
    rcases ih with g | g
    · subst g; rw [e1] at b; simp at b
    · rw [el g.1] at b c
      have := nodeB_lt hp g.1 (by rw [b]; rfl) c
      exact .inr ⟨by omega, .right g.1 b c g.2⟩
  | @opens t i x a b c d _ _ ih ih2 =>
    rcases ih with g | g
    · subst g
      rw [e1] at d
      simp at d
      rcases ih2 with g2 | g2 <;> omega
    · rw [el g.1] at b c d
      have := nodeA_lt hp g.1 (by rw [b]; exact .inr rfl) c
      have := nodeB_lt hp g.1 (by rw [b]; rfl) d
      rcases ih2 with g2 | g2
      · omega
      · exact .inr ⟨by omega, .opens g.1 b c d g.2 g2.2⟩
  | @read t i a b c _ ih =>
    rcases ih with g | g
    · subst g; rw [e1] at b; simp at b
    · rw [el g.1] at b c
      have := nodeA_lt hp g.1 (by rw [b]; exact .inr rfl) c
      exact .inr ⟨by omega, .read g.1 b c g.2⟩
theorem derT_false {ns : List Nd} (hme : Meek ns) {ks : List Int} (h : kpF ns ks = true) {t : Nat} (ht : t < ns.length) (hd : ¬ Der ns ks t) : derT ns ks t = false := by
  cases hc : derT ns ks t with
  | false => rfl
  | true => exact absurd ((derT_iff hme h ht).1 hc) hd
/-- What adding a name that is new comes to. -/
theorem name_new {ns q1 : List Nd} {y x : Int} (e1 : addF ns ⟨1, y, 0⟩ = (q1, x)) (hx : ¬ x < ns.length) : q1 = ns ++ [⟨1, y, 0⟩] ∧ x = ns.length ∧ ns.length < 500 := by
  rcases addF_cases2 (ns := ns) ⟨1, y, 0⟩ with e | ⟨j, hj, e, _⟩ | e
  · rw [e1] at e; simp only at e; omega
  · rw [e1] at e; simp only at e; omega
  · rw [e1] at e
    obtain ⟨a, b⟩ := Prod.mk.inj e.1
    exact ⟨a, b, e.2⟩
/-- What the law of hidden names says, in plain words. -/
theorem hidden_spec {ns : List Nd} {ks : List Int} (hs : ns.length ≤ 25 ∨ 500 ≤ ns.length) (hk : kpF ns ks = true) (hl : ks.length ≤ 197) {q1 q2 q3 : List Nd} {x d s : Int} (e1 : addF ns ⟨1, 177, 0⟩ = (q1, x)) (hx2 : ¬ x < ns.length)
    (e2 : addF q1 ⟨5, x, 0⟩ = (q2, d)) (e3 : addF q2 ⟨3, x, x⟩ = (q3, s)) (hd : ¬ d < 0) (hs0 : ¬ s < 0) :
    derT q3 ks x = false ∧ derT q3 ks d = false ∧ derT q3 (knowPutF q3 (knowPutF q3 ks d).1 s).1 d = true ∧ derT q3 (knowPutF q3 (knowPutF q3 ks d).1 s).1 x = false ∧ derT q3 (knowPutF q3 (knowPutF q3 (knowPutF q3 ks d).1 s).1 x).1 x = true := by
  have hp := kpF_pool hk
  obtain ⟨_, hks, _, _⟩ := kpF_iff.1 hk
  have hp1 : poolF q1 = true := by have := addF_pool ⟨1, 177, 0⟩ hp; rw [e1] at this; exact this
  have hp2 : poolF q2 = true := by have := addF_pool ⟨5, x, 0⟩ hp1; rw [e2] at this; exact this
  have hp3 : poolF q3 = true := by have := addF_pool ⟨3, x, x⟩ hp2; rw [e3] at this; exact this
  obtain ⟨rfl, rfl, hl5⟩ := name_new e1 hx2
  have c2 := addF_new (ns := ns ++ [⟨1, 177, 0⟩]) (n := ⟨5, (ns.length : Int), 0⟩) (fun hm => by
    have := (mem_lt hp1 hm).1 (.inl rfl)
    simp [normN] at this) (by rw [e2]; exact hd)
  rw [e2] at c2
  obtain ⟨c2, _⟩ := c2
  obtain ⟨rfl, rfl⟩ := Prod.mk.inj c2
  have c3 := addF_new (ns := ns ++ [⟨1, 177, 0⟩] ++ [normN ⟨5, (ns.length : Int), 0⟩]) (n := ⟨3, (ns.length : Int), (ns.length : Int)⟩) (fun hm => by
    rcases List.mem_append.1 hm with g | g
    · have := (mem_lt hp1 g).1 (.inr rfl)
      simp [normN] at this
    · simp [normN] at g) (by rw [e3]; exact hs0)
  rw [e3] at c3
  obtain ⟨c3, _⟩ := c3
  obtain ⟨rfl, rfl⟩ := Prod.mk.inj c3
  have eq : ns ++ [(⟨1, 177, 0⟩ : Nd)] ++ [normN ⟨5, (ns.length : Int), 0⟩] ++ [normN ⟨3, (ns.length : Int), (ns.length : Int)⟩] = ns ++ [⟨1, 177, 0⟩, ⟨5, (ns.length : Int), 0⟩, ⟨3, (ns.length : Int), (ns.length : Int)⟩] := by simp [normN]
  rw [eq] at hp3 ⊢
  have a1 : (((ns ++ [(⟨1, 177, 0⟩ : Nd)]).length : Nat) : Int) = ((ns.length + 1 : Nat) : Int) := by simp
  have a2 : (((ns ++ [(⟨1, 177, 0⟩ : Nd)] ++ [normN ⟨5, (ns.length : Int), 0⟩]).length : Nat) : Int) = ((ns.length + 2 : Nat) : Int) := by simp
  rw [a1, a2]
  have hlen : (ns ++ [(⟨1, 177, 0⟩ : Nd), ⟨5, (ns.length : Int), 0⟩, ⟨3, (ns.length : Int), (ns.length : Int)⟩]).length = ns.length + 3 := by simp
  have hid := fun (ks : List Int) => @hidden_der ns hp ks 177 (by simp [pubF, inF])
  generalize ns ++ [(⟨1, 177, 0⟩ : Nd), ⟨5, (ns.length : Int), 0⟩, ⟨3, (ns.length : Int), (ns.length : Int)⟩] = ms at hp3 hlen hid ⊢
  have hme : Meek ms := .inl (by omega)
  have hkm := kpF_ext hk hp3 (by omega)
  have hin : ∀ x ∈ ks, ∃ j : Nat, x = j ∧ j < ns.length := fun x hx => hasN (hks x hx)
  obtain ⟨p1, p2, p3⟩ := put_spec (t := ((ns.length + 1 : Nat) : Int)) hkm (hasF_of (by omega)) (by omega)
  obtain ⟨p4, p5, p6⟩ := put_spec (t := ((ns.length + 2 : Nat) : Int)) p1 (hasF_of (by omega)) (by omega)
  obtain ⟨p7, p8, p9⟩ := put_spec (t := (ns.length : Int)) p4 (hasF_of (by omega)) (by omega)
  have in0 : ∀ x ∈ ks, ∃ j : Nat, x = j ∧ j ≠ ns.length ∧ j < ns.length + 3 := fun x hx => by obtain ⟨j, e, h⟩ := hin x hx; exact ⟨j, e, by omega, by omega⟩
  have in2 : ∀ x ∈ (knowPutF ms (knowPutF ms ks ((ns.length + 1 : Nat) : Int)).1 ((ns.length + 2 : Nat) : Int)).1, ∃ j : Nat, x = j ∧ j ≠ ns.length ∧ j < ns.length + 3 := fun x hx => by
    rcases (p5 x).1 hx with e | e
    · exact ⟨_, e, by omega, by omega⟩
    · rcases (p2 x).1 e with e | e
      · exact ⟨_, e, by omega, by omega⟩
      · exact in0 x e
  refine ⟨derT_false hme hkm (by omega) fun q => (hid _ in0 q).1 rfl, derT_false hme hkm (by omega) fun q => ?_, (derT_iff hme p4 (by omega)).2 (.know ((p5 _).2 (.inr ((p2 _).2 (.inl rfl))))), derT_false hme p4 (by omega) fun q => (hid _ in2 q).1 rfl, (derT_iff hme p7 (by omega)).2 (.know ((p8 _).2 (.inl rfl)))⟩
  have := (hid _ in0 q).2.2 rfl
  obtain ⟨j, e, h⟩ := hin _ this
  omega
/-- What the law of seals under new names says, in plain words. -/
theorem sealed_spec {ns : List Nd} {ks : List Int} (hs : ns.length ≤ 25 ∨ 500 ≤ ns.length) (hk : kpF ns ks = true) (hl : ks.length ≤ 197) {q1 q2 : List Nd} {t k s : Int} (ht : ¬ t < 0) (ht2 : t < ns.length) (e1 : addF ns ⟨1, 178, 0⟩ = (q1, k)) (hx2 : ¬ k < ns.length)
    (e2 : addF q1 ⟨3, t, k⟩ = (q2, s)) (hs0 : ¬ s < 0) :
    derT q2 (knowPutF q2 ks s).1 s = true ∧ derT q2 (knowPutF q2 ks s).1 t = derT ns ks t ∧ derT q2 (knowPutF q2 (knowPutF q2 ks s).1 k).1 t = true ∧ derT q2 (knowPutF q2 ks s).1 k = false := by
  have hp := kpF_pool hk
  obtain ⟨_, hks, _, _⟩ := kpF_iff.1 hk
  obtain ⟨t, rfl⟩ : ∃ j : Nat, t = j := ⟨t.toNat, by omega⟩
  have hp1 : poolF q1 = true := by have := addF_pool ⟨1, 178, 0⟩ hp; rw [e1] at this; exact this
  have hp2 : poolF q2 = true := by have := addF_pool ⟨3, t, k⟩ hp1; rw [e2] at this; exact this
  obtain ⟨rfl, rfl, hl5⟩ := name_new e1 hx2
  have c2 := addF_new (ns := ns ++ [⟨1, 178, 0⟩]) (n := ⟨3, (t : Int), (ns.length : Int)⟩) (fun hm => by
    have := (mem_lt hp1 hm).2 rfl
    simp [normN] at this) (by rw [e2]; exact hs0)
  rw [e2] at c2
  obtain ⟨c2, _⟩ := c2
  obtain ⟨rfl, rfl⟩ := Prod.mk.inj c2
  have eq : ns ++ [(⟨1, 178, 0⟩ : Nd)] ++ [normN ⟨3, (t : Int), (ns.length : Int)⟩] = ns ++ [⟨1, 178, 0⟩, ⟨3, (t : Int), (ns.length : Int)⟩] := by simp [normN]
  rw [eq] at hp2 ⊢
  have a1 : (((ns ++ [(⟨1, 178, 0⟩ : Nd)]).length : Nat) : Int) = ((ns.length + 1 : Nat) : Int) := by simp
  rw [a1]
  have hlen : (ns ++ [(⟨1, 178, 0⟩ : Nd), ⟨3, (t : Int), (ns.length : Int)⟩]).length = ns.length + 2 := by simp
  have n1 := nodeAt_app1 ns ⟨1, 178, 0⟩ ⟨3, (t : Int), (ns.length : Int)⟩ []
  have sd := fun (k0 ks : List Int) => @sealed_der ns hp k0 ks 178 (by simp [pubF, inF]) t
  have ex := fun (k2 : List Int) => @Der.ext ns [⟨1, 178, 0⟩, ⟨3, (t : Int), (ns.length : Int)⟩] ks k2
  generalize ns ++ [(⟨1, 178, 0⟩ : Nd), ⟨3, (t : Int), (ns.length : Int)⟩] = ms at hp2 hlen sd ex n1 ⊢
  have hme : Meek ms := .inl (by omega)
  have hme0 : Meek ns := .inl (by omega)
  have hkm := kpF_ext hk hp2 (by omega)
  have hin : ∀ x ∈ ks, ∃ j : Nat, x = j ∧ j < ns.length := fun x hx => hasN (hks x hx)
  obtain ⟨p1, p2, p3⟩ := put_spec (t := ((ns.length + 1 : Nat) : Int)) hkm (hasF_of (by omega)) (by omega)
  obtain ⟨p4, p5, p6⟩ := put_spec (t := (ns.length : Int)) p1 (hasF_of (by omega)) (by omega)
  have htl : t < ns.length := by omega
  have sd1 := fun {u : Nat} => @sd ks (knowPutF ms ks ((ns.length + 1 : Nat) : Int)).1 (fun x hx => (p2 x).1 hx) hin u
  refine ⟨(derT_iff hme p1 (by omega)).2 (.know ((p2 _).2 (.inl rfl))), ?_, ?_, derT_false hme p1 (by omega) fun q => ?_⟩
  · rw [Bool.eq_iff_iff, derT_iff hme p1 (by omega), derT_iff hme0 hk htl]
    constructor
    · intro q
      rcases sd1 q with g | g
      · omega
      · exact g.2
    · intro q
      exact ex _ (fun r hr => .know ((p2 _).2 (.inr hr))) q
  · refine (derT_iff hme p4 (by omega)).2 (.opens (i := ns.length + 1) (y := ns.length) (by omega) (by rw [n1]) (by rw [n1]) (by rw [n1]) (.know ((p5 _).2 (.inr ((p2 _).2 (.inl rfl))))) (.know ((p5 _).2 (.inl rfl))))
  · rcases sd1 q with g | g <;> omega
end Go.Proofs.Ytfbfebaajdihiaa.C

set_option linter.unusedVariables false
set_option linter.unusedSimpArgs false
set_option maxRecDepth 4000
namespace Go.Proofs.Ytfbfebaajdihiaa.C
open Go.Sym Go.Proofs.Ytfbfebaajdihiaa.I
theorem der_len5 (ns : List Nd) (ks : List Int) : (derF ns ks).length ≤ 500 := by
  unfold derF
  split
  · unfold mlistF listF
    rw [listGo_len]
    exact Nat.le_trans List.countP_le_length (makesF_len _ _)
  · simp
theorem kput_len5 (ns : List Nd) (ks : List Int) (t : Int) : (knowPutF ns ks t).1.length ≤ 201 := by
  unfold knowPutF
  split
  · rename_i h
    have := kpF_len h
    split
    · have h2 := putF_len ks t
      unfold kputF
      split
      · simp only; omega
      · split
        · simp only; omega
        · simp only; omega
    · simp only; omega
  · simp
theorem laws_FnHidden_c (bs : List Int) (ha : bs.length < 9223372036854775808) : T 11 [aB bs] [] (.bool true) ([]) := by
  refine semT' (S := S0) hm laws_FnHidden_ok (Nat.le_of_ble_eq_true rfl) ?_
  unfold laws_FnHidden; dsimp only
  simp
  refine laws_big_k (bs := bs) rfl (by simp) (by simp) ?_; simp
  refine br_intro' (fun g => ?_) (fun g => ?_) <;> simp only [decide_eq_true_eq, decide_eq_false_iff_not] at g <;> simp [g]
  · exact LeV.ro rfl rfl rfl
  have hb : bs.length < 9223372036854775807 := by omega
  have hl := d6_len bs
  have hsm := d6_small bs
  refine spec_DrawDerivesList_k (bs := bs) hb rfl (by simp) (by simp [noslBlks]) ?_; simp [shiftB]
  generalize d6 bs = d at hl hsm ⊢
  obtain ⟨ns, ks, t0⟩ := d
  simp only at hl hsm
  simp
  have hd1 := der_len5 ns ks
  refine spec_KnowOk_k (ns := ns) (ks := ks) (by omega) rfl (by simp) (by simp [noslBlks]) ?_; simp [shiftB]
  refine br_intro' (fun c => ?_) (fun c => ?_) <;> (have c0 := c) <;> simp [c0]
  · refine br_intro' (fun u => ?_) (fun u => ?_) <;> simp only [decide_eq_true_eq, decide_eq_false_iff_not] at u <;> simp [u]
    · refine spec_DerivesList_k (ns := ns) (ks := ks) (by omega) (by omega) rfl (by simp) (by simp [noslBlks]) ?_; simp [shiftB]
      refine impl_DerivesList_k (ns := ns) (ks := ks) (by omega) (by omega) rfl (by simp) (by simp [noslBlks]) ?_; simp [shiftB]
      repeat (refine ck_intro' (by first | omega | (simp; omega) | kernel_rfl) ?_; try simp)
      exact LeV.ro rfl rfl (by first | rfl | simp)
    have hp := kpF_pool c
    have e0 : padF ns ⟨1, 177, 0⟩ = addF ns ⟨1, 177, 0⟩ := if_pos hp
    have q0 := addF_pool ⟨1, 177, 0⟩ hp
    refine impl_NameOf_k (ns := ns) (x := 177) (by omega) rfl (by simp) (by simp [noslBlks]) ?_; simp [shiftB]
    refine spec_NameOf_k (ns := ns) (x := 177) rfl (by simp) (by simp [noslBlks]) ?_; simp [shiftB]
    refine impl_KnowOk_k (ns := ns) (ks := ks) (by omega) (by omega) rfl (by simp) (by simp [noslBlks]) ?_; simp [shiftB]
    rw [e0]
    generalize hA : addF ns ⟨1, 177, 0⟩ = A1 at q0 ⊢
    obtain ⟨q1, x⟩ := A1
    simp only at q0
    simp [c0]
    refine br_intro' (fun h1 => ?_) (fun h1 => ?_) <;> simp only [decide_eq_true_eq, decide_eq_false_iff_not] at h1 <;> simp [h1]
    · exact LeV.ro rfl rfl (by first | rfl | simp)
    refine br_intro' (fun h2 => ?_) (fun h2 => ?_) <;> simp only [decide_eq_true_eq, decide_eq_false_iff_not] at h2 <;> simp [h2]
    · exact LeV.ro rfl rfl (by first | rfl | simp)
    have hq1 := poolF_len q0
    have e1 : padF q1 ⟨5, x, 0⟩ = addF q1 ⟨5, x, 0⟩ := if_pos q0
    have p1 := addF_pool ⟨5, x, 0⟩ q0
    refine impl_MakeDigest_k (ns := q1) (a := x) (by omega) rfl (by simp) (by simp [noslBlks]) ?_; simp [shiftB]
    rw [e1]
    generalize hB : addF q1 ⟨5, x, 0⟩ = B1 at p1 ⊢
    obtain ⟨q2, d⟩ := B1
    simp only at p1
    have hq2 := poolF_len p1
    have e2 : padF q2 ⟨3, x, x⟩ = addF q2 ⟨3, x, x⟩ := if_pos p1
    have p2 := addF_pool ⟨3, x, x⟩ p1
    refine impl_MakeSeal_k (ns := q2) (a := x) (b := x) (by omega) rfl (by simp) (by simp [noslBlks]) ?_; simp [shiftB]
    rw [e2]
    generalize hC : addF q2 ⟨3, x, x⟩ = C1 at p2 ⊢
    obtain ⟨q3, s⟩ := C1
    simp only at p2
    have hq3 := poolF_len p2
    refine br_intro' (fun h3 => ?_) (fun h3 => ?_) <;> simp only [decide_eq_true_eq, decide_eq_false_iff_not] at h3 <;> simp [h3]
    · exact LeV.ro rfl rfl (by first | rfl | simp)
    refine br_intro' (fun h4 => ?_) (fun h4 => ?_) <;> simp only [decide_eq_true_eq, decide_eq_false_iff_not] at h4 <;> simp [h4]
    · exact LeV.ro rfl rfl (by first | rfl | simp)
    obtain ⟨z1, z2, z3, z4, z5⟩ := hidden_spec hsm c (by omega) hA h2 hB hC h3 h4
    have k1 := kput_len5 q3 ks d
    refine impl_KnowPut_k (ns := q3) (ks := ks) (t := d) (by omega) (by omega) rfl (by simp) (by simp [noslBlks]) ?_; simp [shiftB]
    generalize (knowPutF q3 ks d).1 = a1 at z3 z4 z5 k1 ⊢
    have k2 := kput_len5 q3 a1 s
    refine impl_KnowPut_k (ns := q3) (ks := a1) (t := s) (by omega) (by omega) rfl (by simp) (by simp [noslBlks]) ?_; simp [shiftB]
    generalize (knowPutF q3 a1 s).1 = b1 at z3 z4 z5 k2 ⊢
    have k3 := kput_len5 q3 b1 x
    refine impl_KnowPut_k (ns := q3) (ks := b1) (t := x) (by omega) (by omega) rfl (by simp) (by simp [noslBlks]) ?_; simp [shiftB]
    generalize (knowPutF q3 b1 x).1 = c1 at z5 k3 ⊢
    refine impl_Derives_k (ns := q3) (ks := ks) (t := x) (by omega) (by omega) rfl (by simp) (by simp [noslBlks]) ?_; simp [shiftB]
    simp [z1]
    refine impl_Derives_k (ns := q3) (ks := ks) (t := d) (by omega) (by omega) rfl (by simp) (by simp [noslBlks]) ?_; simp [shiftB]
    simp [z2]
    refine impl_Derives_k (ns := q3) (ks := b1) (t := d) (by omega) (by omega) rfl (by simp) (by simp [noslBlks]) ?_; simp [shiftB]
    simp [z3]
    refine impl_Derives_k (ns := q3) (ks := b1) (t := x) (by omega) (by omega) rfl (by simp) (by simp [noslBlks]) ?_; simp [shiftB]
    simp [z4]
    refine impl_Derives_k (ns := q3) (ks := c1) (t := x) (by omega) (by omega) rfl (by simp) (by simp [noslBlks]) ?_; simp [shiftB]
    simp [z5]
    repeat (refine ck_intro' (by first | omega | (simp; omega) | kernel_rfl) ?_; try simp)
    exact LeV.ro rfl rfl (by first | rfl | simp)
  · refine spec_DerivesList_k (ns := ns) (ks := ks) (by omega) (by omega) rfl (by simp) (by simp [noslBlks]) ?_; simp [shiftB]
    refine impl_DerivesList_k (ns := ns) (ks := ks) (by omega) (by omega) rfl (by simp) (by simp [noslBlks]) ?_; simp [shiftB]
    repeat (refine ck_intro' (by first | omega | (simp; omega) | kernel_rfl) ?_; try simp)
    exact LeV.ro rfl rfl (by first | rfl | simp)
end Go.Proofs.Ytfbfebaajdihiaa.C
