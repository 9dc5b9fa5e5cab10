/- What is derived, in the program. Conditions: those that each theorem names. -/
import Derived.Test.YtfbfebaajdihiaaXQ3N4
import Derived.Test.YtfbfebaajdihiaaXSymZ
import Derived.Test.YtfbfebaajdihiaaXC1D2
import Derived.Test.YtfbfebaajdihiaaXD3E2
set_option linter.unusedVariables false
set_option linter.unusedSimpArgs false
set_option maxRecDepth 4000
namespace Go.Proofs.Ytfbfebaajdihiaa.C
open Go.Sym Go.Proofs.Ytfbfebaajdihiaa.I
theorem impl_Pool_openAll_k {ns : List Nd} {ks : List Int} (hkp : kpF ns ks = true) {S : FuncId → Bool} {H : List Blk} {K : A → Dl → Prop} {zs : List A} (hS : S 52 = false) (hv : viewL (viewA 8 H) zs = some [.pt [.sl ns.length (enc ns)], aI ks]) (ho : noOwns zs = true ∨ nosl (.tup [jref 0 (openV ns ks).1, i6 (openV ns ks).2]) = true ∧ noslBlks ([jblk (openV ns ks).1]) = true) (hK : K (shiftA H.length (.tup [jref 0 (openV ns ks).1, i6 (openV ns ks).2])) (.news (([jblk (openV ns ks).1]).map (shiftB H.length)))) : @WCall' Go.Proofs.Try.prog S 52 zs H ⟨K⟩ :=
  WCall_ro' hS hv (impl_Pool_openAll_c ns ks hkp) rfl ho hK
def opAllF (ns : List Nd) (ks : List Int) : List Int × Nat := if kpF ns ks = true then openV ns ks else ([], 0)
theorem openV_len {ns : List Nd} {ks : List Int} (h : kpF ns ks = true) : (openV ns ks).1.length ≤ 200 := allO_len ns 201 ks 0 (kpF_len h)
theorem opAllF_len (ns : List Nd) (ks : List Int) : (opAllF ns ks).1.length ≤ 200 := by
  unfold opAllF
  split
  · exact openV_len ‹_›
  · simp
theorem impl_OpenAll_c (ns : List Nd) (ks : List Int) (hl : ns.length < 9223372036854775807) (hk : ks.length < 9223372036854775807) : T 23 [aP ns, aI ks] [] (.tup [jref 0 (opAllF ns ks).1, i6 (opAllF ns ks).2]) ([jblk (opAllF ns ks).1]) := by
  refine semT' (S := S0) hm impl_OpenAll_ok (Nat.le_of_ble_eq_true rfl) ?_
  unfold impl_OpenAll; dsimp only
  simp
  refine impl_KnowOk_k (ns := ns) (ks := ks) hl hk rfl (by simp) (by simp [noslBlks]) ?_; simp [shiftB]
  refine br_intro' (fun g => ?_) (fun g => ?_) <;> (have g0 := g) <;> simp [g0]
  · rw [show opAllF ns ks = openV ns ks from if_pos g]
    refine impl_Pool_openAll_k (ns := ns) (ks := ks) g rfl (by simp) (by simp [noslBlks]) ?_; simp [shiftB]
    first | (refine LeV.tell [none] ?_ ?_ ?_ <;> (simp; done)) | (refine LeV.tell [some 0] ?_ ?_ ?_ <;> (simp; done)) | (refine LeV.tell [some 1] ?_ ?_ ?_ <;> (simp; done)) | (refine LeV.tell [some 2] ?_ ?_ ?_ <;> (simp; done)) | (refine LeV.tell [some 3] ?_ ?_ ?_ <;> (simp; done)) | (refine LeV.tell [some 4] ?_ ?_ ?_ <;> (simp; done)) | (refine LeV.tell [some 5] ?_ ?_ ?_ <;> (simp; done)) | (refine LeV.tell [some 6] ?_ ?_ ?_ <;> (simp; done)) | (refine LeV.tell [some 7] ?_ ?_ ?_ <;> (simp; done)) | (refine LeV.tell [some 8] ?_ ?_ ?_ <;> (simp; done)) | (refine LeV.tell [some 9] ?_ ?_ ?_ <;> (simp; done)) | (refine LeV.tell [some 10] ?_ ?_ ?_ <;> (simp; done)) | (refine LeV.tell [some 11] ?_ ?_ ?_ <;> (simp; done)) | (refine LeV.tell [some 12] ?_ ?_ ?_ <;> (simp; done)) | (refine LeV.tell [some 13] ?_ ?_ ?_ <;> (simp; done)) | (refine LeV.tell [some 14] ?_ ?_ ?_ <;> (simp; done)) | (refine LeV.tell [some 15] ?_ ?_ ?_ <;> (simp; done))
  · rw [show opAllF ns ks = ([], 0) from if_neg (by simp [g])]
    first | (refine LeV.tell [none] ?_ ?_ ?_ <;> (simp; done)) | (refine LeV.tell [some 0] ?_ ?_ ?_ <;> (simp; done)) | (refine LeV.tell [some 1] ?_ ?_ ?_ <;> (simp; done)) | (refine LeV.tell [some 2] ?_ ?_ ?_ <;> (simp; done)) | (refine LeV.tell [some 3] ?_ ?_ ?_ <;> (simp; done)) | (refine LeV.tell [some 4] ?_ ?_ ?_ <;> (simp; done)) | (refine LeV.tell [some 5] ?_ ?_ ?_ <;> (simp; done)) | (refine LeV.tell [some 6] ?_ ?_ ?_ <;> (simp; done)) | (refine LeV.tell [some 7] ?_ ?_ ?_ <;> (simp; done)) | (refine LeV.tell [some 8] ?_ ?_ ?_ <;> (simp; done)) | (refine LeV.tell [some 9] ?_ ?_ ?_ <;> (simp; done)) | (refine LeV.tell [some 10] ?_ ?_ ?_ <;> (simp; done)) | (refine LeV.tell [some 11] ?_ ?_ ?_ <;> (simp; done)) | (refine LeV.tell [some 12] ?_ ?_ ?_ <;> (simp; done)) | (refine LeV.tell [some 13] ?_ ?_ ?_ <;> (simp; done)) | (refine LeV.tell [some 14] ?_ ?_ ?_ <;> (simp; done)) | (refine LeV.tell [some 15] ?_ ?_ ?_ <;> (simp; done))
theorem impl_OpenAll_k {ns : List Nd} {ks : List Int} (hl : ns.length < 9223372036854775807) (hk : ks.length < 9223372036854775807) {S : FuncId → Bool} {H : List Blk} {K : A → Dl → Prop} {zs : List A} (hS : S 23 = false) (hv : viewL (viewA 8 H) zs = some [aP ns, aI ks]) (ho : noOwns zs = true ∨ nosl (.tup [jref 0 (opAllF ns ks).1, i6 (opAllF ns ks).2]) = true ∧ noslBlks ([jblk (opAllF ns ks).1]) = true) (hK : K (shiftA H.length (.tup [jref 0 (opAllF ns ks).1, i6 (opAllF ns ks).2])) (.news (([jblk (opAllF ns ks).1]).map (shiftB H.length)))) : @WCall' Go.Proofs.Try.prog S 23 zs H ⟨K⟩ :=
  WCall_ro' hS hv (impl_OpenAll_c ns ks hl hk) rfl ho hK
theorem spec_OpenAll_c (ns : List Nd) (ks : List Int) (hl : ns.length < 9223372036854775807) (hk : ks.length < 9223372036854775807) : T 22 [aP ns, aI ks] [] (.tup [jref 0 (opAllF ns ks).1, i6 (opAllF ns ks).2]) ([jblk (opAllF ns ks).1]) := by
  refine semT' (S := S0) hm spec_OpenAll_ok (Nat.le_of_ble_eq_true rfl) ?_
  unfold spec_OpenAll; dsimp only
  simp
  refine spec_KnowOk_k (ns := ns) (ks := ks) hl rfl (by simp) (by simp [noslBlks]) ?_; simp [shiftB]
  refine br_intro' (fun g => ?_) (fun g => ?_) <;> (have g0 := g) <;> simp [g0]
  · rw [show opAllF ns ks = openV ns ks from if_pos g]
    obtain ⟨hp, hks, hsr, hkl⟩ := kpF_iff.1 g
    refine spec_l8All_k (ns := ns) (ks := ks) (poolF_len hp) hkl hp hks rfl (by simp) (by simp [noslBlks]) ?_; simp [shiftB]
    first | (refine LeV.tell [none] ?_ ?_ ?_ <;> (simp; done)) | (refine LeV.tell [some 0] ?_ ?_ ?_ <;> (simp; done)) | (refine LeV.tell [some 1] ?_ ?_ ?_ <;> (simp; done)) | (refine LeV.tell [some 2] ?_ ?_ ?_ <;> (simp; done)) | (refine LeV.tell [some 3] ?_ ?_ ?_ <;> (simp; done)) | (refine LeV.tell [some 4] ?_ ?_ ?_ <;> (simp; done)) | (refine LeV.tell [some 5] ?_ ?_ ?_ <;> (simp; done)) | (refine LeV.tell [some 6] ?_ ?_ ?_ <;> (simp; done)) | (refine LeV.tell [some 7] ?_ ?_ ?_ <;> (simp; done)) | (refine LeV.tell [some 8] ?_ ?_ ?_ <;> (simp; done)) | (refine LeV.tell [some 9] ?_ ?_ ?_ <;> (simp; done)) | (refine LeV.tell [some 10] ?_ ?_ ?_ <;> (simp; done)) | (refine LeV.tell [some 11] ?_ ?_ ?_ <;> (simp; done)) | (refine LeV.tell [some 12] ?_ ?_ ?_ <;> (simp; done)) | (refine LeV.tell [some 13] ?_ ?_ ?_ <;> (simp; done)) | (refine LeV.tell [some 14] ?_ ?_ ?_ <;> (simp; done)) | (refine LeV.tell [some 15] ?_ ?_ ?_ <;> (simp; done))
  · rw [show opAllF ns ks = ([], 0) from if_neg (by simp [g])]
    first | (refine LeV.tell [none] ?_ ?_ ?_ <;> (simp; done)) | (refine LeV.tell [some 0] ?_ ?_ ?_ <;> (simp; done)) | (refine LeV.tell [some 1] ?_ ?_ ?_ <;> (simp; done)) | (refine LeV.tell [some 2] ?_ ?_ ?_ <;> (simp; done)) | (refine LeV.tell [some 3] ?_ ?_ ?_ <;> (simp; done)) | (refine LeV.tell [some 4] ?_ ?_ ?_ <;> (simp; done)) | (refine LeV.tell [some 5] ?_ ?_ ?_ <;> (simp; done)) | (refine LeV.tell [some 6] ?_ ?_ ?_ <;> (simp; done)) | (refine LeV.tell [some 7] ?_ ?_ ?_ <;> (simp; done)) | (refine LeV.tell [some 8] ?_ ?_ ?_ <;> (simp; done)) | (refine LeV.tell [some 9] ?_ ?_ ?_ <;> (simp; done)) | (refine LeV.tell [some 10] ?_ ?_ ?_ <;> (simp; done)) | (refine LeV.tell [some 11] ?_ ?_ ?_ <;> (simp; done)) | (refine LeV.tell [some 12] ?_ ?_ ?_ <;> (simp; done)) | (refine LeV.tell [some 13] ?_ ?_ ?_ <;> (simp; done)) | (refine LeV.tell [some 14] ?_ ?_ ?_ <;> (simp; done)) | (refine LeV.tell [some 15] ?_ ?_ ?_ <;> (simp; done))
theorem spec_OpenAll_k {ns : List Nd} {ks : List Int} (hl : ns.length < 9223372036854775807) (hk : ks.length < 9223372036854775807) {S : FuncId → Bool} {H : List Blk} {K : A → Dl → Prop} {zs : List A} (hS : S 22 = false) (hv : viewL (viewA 8 H) zs = some [aP ns, aI ks]) (ho : noOwns zs = true ∨ nosl (.tup [jref 0 (opAllF ns ks).1, i6 (opAllF ns ks).2]) = true ∧ noslBlks ([jblk (opAllF ns ks).1]) = true) (hK : K (shiftA H.length (.tup [jref 0 (opAllF ns ks).1, i6 (opAllF ns ks).2])) (.news (([jblk (opAllF ns ks).1]).map (shiftB H.length)))) : @WCall' Go.Proofs.Try.prog S 22 zs H ⟨K⟩ :=
  WCall_ro' hS hv (spec_OpenAll_c ns ks hl hk) rfl ho hK
theorem impl_MakesAll_c (ns : List Nd) (ks : List Int) (hl : ns.length < 9223372036854775807) (hk : ks.length < 9223372036854775807) : T 59 [aP ns, aI ks] [] (aBl (makesF ns ks)) ([]) := by
  refine semT' (S := S0) hm impl_MakesAll_ok (Nat.le_of_ble_eq_true rfl) ?_
  unfold impl_MakesAll; dsimp only
  simp
  refine impl_KnowOk_k (ns := ns) (ks := ks) hl hk rfl (by simp) (by simp [noslBlks]) ?_; simp [shiftB]
  refine br_intro' (fun g => ?_) (fun g => ?_) <;> (have g0 := g) <;> simp [g0]
  · rw [show makesF ns ks = mkUp ns ks ns.length from if_pos g]
    obtain ⟨hp, hks, hsr, hkl⟩ := kpF_iff.1 g
    refine impl_Pool_makes_k (ns := ns) (ks := ks) hp hks (by omega) rfl (by simp) (by simp [noslBlks]) ?_; simp [shiftB]
    exact LeV.ro rfl rfl (by simp)
  · rw [show makesF ns ks = [] from if_neg (by simp [g])]
    exact LeV.ro rfl rfl (by simp)
theorem impl_MakesAll_call {ns : List Nd} {ks : List Int} (hl : ns.length < 9223372036854775807) (hk : ks.length < 9223372036854775807) {S : FuncId → Bool} {H : List Blk} {K : A → Dl → Prop} (hS : S 59 = false) (hK : K (aBl (makesF ns ks)) (.news [])) : @WCall' Go.Proofs.Try.prog S 59 [aP ns, aI ks] H ⟨K⟩ :=
  WCall_pure hS (impl_MakesAll_c ns ks hl hk) (by simp) (by simp) (by simp) hK
theorem impl_MakesAll_k {ns : List Nd} {ks : List Int} (hl : ns.length < 9223372036854775807) (hk : ks.length < 9223372036854775807) {S : FuncId → Bool} {H : List Blk} {K : A → Dl → Prop} {zs : List A} (hS : S 59 = false) (hv : viewL (viewA 8 H) zs = some [aP ns, aI ks]) (ho : noOwns zs = true ∨ nosl (aBl (makesF ns ks)) = true) (hK : K (aBl (makesF ns ks)) (.news [])) : @WCall' Go.Proofs.Try.prog S 59 zs H ⟨K⟩ :=
  WCall_pure hS (impl_MakesAll_c ns ks hl hk) hv ho (by simp) hK
theorem impl_MakesList_c (ns : List Nd) (ks : List Int) (hl : ns.length < 9223372036854775807) (hk : ks.length < 9223372036854775807) : T 34 [aP ns, aI ks] [] (jref 0 (mlistF ns ks)) ([jblk (mlistF ns ks)]) := by
  refine semT' (S := S0) hm impl_MakesList_ok (Nat.le_of_ble_eq_true rfl) ?_
  unfold impl_MakesList; dsimp only
  simp
  refine impl_MakesAll_k (ns := ns) (ks := ks) hl hk rfl (by simp) (by simp [noslBlks]) ?_; simp [shiftB]
  have hml := makesF_len ns ks
  rw [show mlistF ns ks = listF (makesF ns ks) from rfl]
  generalize makesF ns ks = mk at hml ⊢
  refine WLoop_virt 1 [(5, A.ref 1 0 0 0), (10, aBl mk), (11, i6 mk.length), (12, i6 0)] ?_ ?_
  · intro s y hy
    simp [Sym.get] at hy ⊢
    (repeat' split at hy) <;> simp_all
  refine WLoop_fam (fun p : Nat × List Int => [(5, jref 1 p.2), (10, aBl mk), (11, i6 mk.length), (12, i6 p.1)]) (fun p => [⟨0, false, 1, [A.sl ns.length (enc ns)], none⟩, jblk p.2]) (fun p => mk.length - p.1)
    (fun p => p.1 ≤ mk.length ∧ p.2.length ≤ p.1 ∧ listF mk = p.2 ++ listGo p.1 (mk.drop p.1)) ?_ (0, []) ⟨Nat.zero_le _, by simp, by simp [listF]⟩
  rintro ⟨j, out⟩ ⟨hj, hol, hf⟩ ih
  simp only at hj hol hf
  simp
  refine br_intro' (fun u => ?_) (fun u => ?_) <;> (have u0 := u) <;> simp at u <;> simp [u0, u]
  · have hd : mk.drop j = mk[j] :: mk.drop (j + 1) := List.drop_eq_getElem_cons u
    have hw := wrap_succ (n := j) (by omega)
    have eb := bls_at u
    repeat (refine ck_intro' (by first | omega | (simp; omega) | kernel_rfl) ?_; try simp [u])
    try simp [eb]
    refine br_intro' (fun g => ?_) (fun g => ?_) <;> (have g0 := g) <;> simp [g0]
    · repeat (refine ck_intro' (by first | omega | (simp; omega) | kernel_rfl) ?_; try simp [hw])
      rw [show A.ref 1 (out.length + 1) 0 (out.length + 1) = jref 1 (out ++ [(j : Int)]) by simp]
      refine WLoop_drop [⟨0, false, 1, [A.sl ns.length (enc ns)], none⟩, jblk (out ++ [(j : Int)])] [_] (by simp [ints_snoc]; exact rfl) (by simp) (by simp) (by simp) ?_
      exact ih (j + 1, out ++ [(j : Int)]) ⟨u, by simp; omega, by rw [hf, hd]; simp [listGo, g]⟩ (by simp; omega)
    · rw [hw]
      exact ih (j + 1, out) ⟨u, by simp; omega, by rw [hf, hd]; simp [listGo, g]⟩ (by simp; omega)
  · have hd : mk.drop j = [] := List.drop_of_length_le (by omega)
    rw [show listF mk = out by rw [hf, hd]; simp [listGo]]
    first | (refine LeV.tell [none] ?_ ?_ ?_ <;> (simp; done)) | (refine LeV.tell [some 0] ?_ ?_ ?_ <;> (simp; done)) | (refine LeV.tell [some 1] ?_ ?_ ?_ <;> (simp; done)) | (refine LeV.tell [some 2] ?_ ?_ ?_ <;> (simp; done)) | (refine LeV.tell [some 3] ?_ ?_ ?_ <;> (simp; done)) | (refine LeV.tell [some 4] ?_ ?_ ?_ <;> (simp; done)) | (refine LeV.tell [some 5] ?_ ?_ ?_ <;> (simp; done)) | (refine LeV.tell [some 6] ?_ ?_ ?_ <;> (simp; done)) | (refine LeV.tell [some 7] ?_ ?_ ?_ <;> (simp; done)) | (refine LeV.tell [some 8] ?_ ?_ ?_ <;> (simp; done)) | (refine LeV.tell [some 9] ?_ ?_ ?_ <;> (simp; done)) | (refine LeV.tell [some 10] ?_ ?_ ?_ <;> (simp; done)) | (refine LeV.tell [some 11] ?_ ?_ ?_ <;> (simp; done)) | (refine LeV.tell [some 12] ?_ ?_ ?_ <;> (simp; done)) | (refine LeV.tell [some 13] ?_ ?_ ?_ <;> (simp; done)) | (refine LeV.tell [some 14] ?_ ?_ ?_ <;> (simp; done)) | (refine LeV.tell [some 15] ?_ ?_ ?_ <;> (simp; done))
theorem impl_MakesList_k {ns : List Nd} {ks : List Int} (hl : ns.length < 9223372036854775807) (hk : ks.length < 9223372036854775807) {S : FuncId → Bool} {H : List Blk} {K : A → Dl → Prop} {zs : List A} (hS : S 34 = false) (hv : viewL (viewA 8 H) zs = some [aP ns, aI ks]) (ho : noOwns zs = true ∨ nosl (jref 0 (mlistF ns ks)) = true ∧ noslBlks ([jblk (mlistF ns ks)]) = true) (hK : K (shiftA H.length (jref 0 (mlistF ns ks))) (.news (([jblk (mlistF ns ks)]).map (shiftB H.length)))) : @WCall' Go.Proofs.Try.prog S 34 zs H ⟨K⟩ :=
  WCall_ro' hS hv (impl_MakesList_c ns ks hl hk) rfl ho hK
theorem impl_DerivesList_c (ns : List Nd) (ks : List Int) (hl : ns.length < 9223372036854775807) (hk : ks.length < 9223372036854775807) : T 25 [aP ns, aI ks] [] (jref 0 (derF ns ks)) ([jblk (derF ns ks)]) := by
  refine semT' (S := S0) hm impl_DerivesList_ok (Nat.le_of_ble_eq_true rfl) ?_
  unfold impl_DerivesList; dsimp only
  simp
  refine impl_KnowOk_k (ns := ns) (ks := ks) hl hk rfl (by simp) (by simp [noslBlks]) ?_; simp [shiftB]
  refine br_intro' (fun g => ?_) (fun g => ?_) <;> (have g0 := g) <;> simp [g0]
  · rw [show derF ns ks = mlistF ns (openV ns ks).1 from if_pos g]
    have hol := openV_len g
    refine impl_Pool_openAll_k (ns := ns) (ks := ks) g rfl (by simp) (by simp [noslBlks]) ?_; simp [shiftB]
    refine impl_MakesList_k (ns := ns) (ks := (openV ns ks).1) hl (by omega) rfl (by simp) (by simp [noslBlks]) ?_; simp [shiftB]
    first | (refine LeV.tell [none] ?_ ?_ ?_ <;> (simp; done)) | (refine LeV.tell [some 0] ?_ ?_ ?_ <;> (simp; done)) | (refine LeV.tell [some 1] ?_ ?_ ?_ <;> (simp; done)) | (refine LeV.tell [some 2] ?_ ?_ ?_ <;> (simp; done)) | (refine LeV.tell [some 3] ?_ ?_ ?_ <;> (simp; done)) | (refine LeV.tell [some 4] ?_ ?_ ?_ <;> (simp; done)) | (refine LeV.tell [some 5] ?_ ?_ ?_ <;> (simp; done)) | (refine LeV.tell [some 6] ?_ ?_ ?_ <;> (simp; done)) | (refine LeV.tell [some 7] ?_ ?_ ?_ <;> (simp; done)) | (refine LeV.tell [some 8] ?_ ?_ ?_ <;> (simp; done)) | (refine LeV.tell [some 9] ?_ ?_ ?_ <;> (simp; done)) | (refine LeV.tell [some 10] ?_ ?_ ?_ <;> (simp; done)) | (refine LeV.tell [some 11] ?_ ?_ ?_ <;> (simp; done)) | (refine LeV.tell [some 12] ?_ ?_ ?_ <;> (simp; done)) | (refine LeV.tell [some 13] ?_ ?_ ?_ <;> (simp; done)) | (refine LeV.tell [some 14] ?_ ?_ ?_ <;> (simp; done)) | (refine LeV.tell [some 15] ?_ ?_ ?_ <;> (simp; done))
  · rw [show derF ns ks = [] from if_neg (by simp [g])]
    first | (refine LeV.tell [none] ?_ ?_ ?_ <;> (simp; done)) | (refine LeV.tell [some 0] ?_ ?_ ?_ <;> (simp; done)) | (refine LeV.tell [some 1] ?_ ?_ ?_ <;> (simp; done)) | (refine LeV.tell [some 2] ?_ ?_ ?_ <;> (simp; done)) | (refine LeV.tell [some 3] ?_ ?_ ?_ <;> (simp; done)) | (refine LeV.tell [some 4] ?_ ?_ ?_ <;> (simp; done)) | (refine LeV.tell [some 5] ?_ ?_ ?_ <;> (simp; done)) | (refine LeV.tell [some 6] ?_ ?_ ?_ <;> (simp; done)) | (refine LeV.tell [some 7] ?_ ?_ ?_ <;> (simp; done)) | (refine LeV.tell [some 8] ?_ ?_ ?_ <;> (simp; done)) | (refine LeV.tell [some 9] ?_ ?_ ?_ <;> (simp; done)) | (refine LeV.tell [some 10] ?_ ?_ ?_ <;> (simp; done)) | (refine LeV.tell [some 11] ?_ ?_ ?_ <;> (simp; done)) | (refine LeV.tell [some 12] ?_ ?_ ?_ <;> (simp; done)) | (refine LeV.tell [some 13] ?_ ?_ ?_ <;> (simp; done)) | (refine LeV.tell [some 14] ?_ ?_ ?_ <;> (simp; done)) | (refine LeV.tell [some 15] ?_ ?_ ?_ <;> (simp; done))
theorem impl_DerivesList_k {ns : List Nd} {ks : List Int} (hl : ns.length < 9223372036854775807) (hk : ks.length < 9223372036854775807) {S : FuncId → Bool} {H : List Blk} {K : A → Dl → Prop} {zs : List A} (hS : S 25 = false) (hv : viewL (viewA 8 H) zs = some [aP ns, aI ks]) (ho : noOwns zs = true ∨ nosl (jref 0 (derF ns ks)) = true ∧ noslBlks ([jblk (derF ns ks)]) = true) (hK : K (shiftA H.length (jref 0 (derF ns ks))) (.news (([jblk (derF ns ks)]).map (shiftB H.length)))) : @WCall' Go.Proofs.Try.prog S 25 zs H ⟨K⟩ :=
  WCall_ro' hS hv (impl_DerivesList_c ns ks hl hk) rfl ho hK
/-- Whether a term can be derived, as the program says. -/
def derT (ns : List Nd) (ks : List Int) (t : Int) : Bool := hasF ns.length t && kpF ns ks && bv (mkUp ns (openV ns ks).1 ns.length) t
theorem impl_Pool_derives_c (ns : List Nd) (ks : List Int) (hkp : kpF ns ks = true) (hop : ∀ x ∈ (openV ns ks).1, hasF ns.length x = true) : T 62 [.pt [.sl ns.length (enc ns)], aI ks] [] (bref 0 (mkUp ns (openV ns ks).1 ns.length)) ([⟨(mkUp ns (openV ns ks).1 ns.length).length, false, 1, bls (mkUp ns (openV ns ks).1 ns.length), none⟩]) := by
  refine semT' (S := S0) hm impl_Pool_derives_ok (Nat.le_of_ble_eq_true rfl) ?_
  unfold impl_Pool_derives; dsimp only
  obtain ⟨hp, hks, hsr, hkl⟩ := kpF_iff.1 hkp
  have hol := openV_len hkp
  simp
  refine impl_Pool_openAll_k (ns := ns) (ks := ks) hkp rfl (by simp) (by simp [noslBlks]) ?_; simp [shiftB]
  refine impl_Pool_makes_k (ns := ns) (ks := (openV ns ks).1) hp hop (by omega) rfl (by simp) (by simp [noslBlks]) ?_; simp [shiftB]
  first | (refine LeV.tell [none] ?_ ?_ ?_ <;> (simp; done)) | (refine LeV.tell [some 0] ?_ ?_ ?_ <;> (simp; done)) | (refine LeV.tell [some 1] ?_ ?_ ?_ <;> (simp; done)) | (refine LeV.tell [some 2] ?_ ?_ ?_ <;> (simp; done)) | (refine LeV.tell [some 3] ?_ ?_ ?_ <;> (simp; done)) | (refine LeV.tell [some 4] ?_ ?_ ?_ <;> (simp; done)) | (refine LeV.tell [some 5] ?_ ?_ ?_ <;> (simp; done)) | (refine LeV.tell [some 6] ?_ ?_ ?_ <;> (simp; done)) | (refine LeV.tell [some 7] ?_ ?_ ?_ <;> (simp; done)) | (refine LeV.tell [some 8] ?_ ?_ ?_ <;> (simp; done)) | (refine LeV.tell [some 9] ?_ ?_ ?_ <;> (simp; done)) | (refine LeV.tell [some 10] ?_ ?_ ?_ <;> (simp; done)) | (refine LeV.tell [some 11] ?_ ?_ ?_ <;> (simp; done)) | (refine LeV.tell [some 12] ?_ ?_ ?_ <;> (simp; done)) | (refine LeV.tell [some 13] ?_ ?_ ?_ <;> (simp; done)) | (refine LeV.tell [some 14] ?_ ?_ ?_ <;> (simp; done)) | (refine LeV.tell [some 15] ?_ ?_ ?_ <;> (simp; done))
theorem impl_Pool_derives_k {ns : List Nd} {ks : List Int} (hkp : kpF ns ks = true) (hop : ∀ x ∈ (openV ns ks).1, hasF ns.length x = true) {S : FuncId → Bool} {H : List Blk} {K : A → Dl → Prop} {zs : List A} (hS : S 62 = false) (hv : viewL (viewA 8 H) zs = some [.pt [.sl ns.length (enc ns)], aI ks]) (ho : noOwns zs = true ∨ nosl (bref 0 (mkUp ns (openV ns ks).1 ns.length)) = true ∧ noslBlks ([⟨(mkUp ns (openV ns ks).1 ns.length).length, false, 1, bls (mkUp ns (openV ns ks).1 ns.length), none⟩]) = true) (hK : K (shiftA H.length (bref 0 (mkUp ns (openV ns ks).1 ns.length))) (.news (([⟨(mkUp ns (openV ns ks).1 ns.length).length, false, 1, bls (mkUp ns (openV ns ks).1 ns.length), none⟩]).map (shiftB H.length)))) : @WCall' Go.Proofs.Try.prog S 62 zs H ⟨K⟩ :=
  WCall_ro' hS hv (impl_Pool_derives_c ns ks hkp hop) rfl ho hK
theorem openV_has {ns : List Nd} {ks : List Int} (h : kpF ns ks = true) : ∀ x ∈ (openV ns ks).1, hasF ns.length x = true := by
  obtain ⟨hp, hks, _, _⟩ := kpF_iff.1 h
  have key : ∀ (n : Nat) (out : List Int) (t : Nat), (∀ x ∈ out, hasF ns.length x = true) → ∀ x ∈ (allO ns n out t).1, hasF ns.length x = true := by
    intro n
    induction n with
    | zero => intro out t ho; exact ho
    | succ n ih =>
      intro out t ho
      unfold allO
      split
      · exact ih _ _ (onceV_mem hp ho)
      · exact ho
  exact key 201 ks 0 hks
theorem impl_Derives_c (ns : List Nd) (ks : List Int) (t : Int) (hl : ns.length < 9223372036854775807) (hk : ks.length < 9223372036854775807) : T 38 [aP ns, aI ks, i6 t] [] (.bool (derT ns ks t)) ([]) := by
  refine semT' (S := S0) hm impl_Derives_ok (Nat.le_of_ble_eq_true rfl) ?_
  unfold impl_Derives; dsimp only
  simp
  refine WCall_pure rfl (impl_Pool_isTerm_c ns [] t hl) (by simp) (by simp) (by simp) ?_; simp
  refine br_intro' (fun g => ?_) (fun g => ?_) <;> (have g0 := g) <;> simp [g0]
  · refine impl_KnowOk_k (ns := ns) (ks := ks) hl hk rfl (by simp) (by simp [noslBlks]) ?_; simp [shiftB]
    refine br_intro' (fun u => ?_) (fun u => ?_) <;> (have u0 := u) <;> simp [u0]
    · obtain ⟨j, rfl, hj⟩ := hasN g
      have hmm := mkUp_len ns (openV ns ks).1 ns.length
      have hjm : j < (mkUp ns (openV ns ks).1 ns.length).length := by omega
      have eb := bls_at hjm
      have ebv := bv_nat hjm
      refine impl_Pool_derives_k (ns := ns) (ks := ks) u (openV_has u) rfl (by simp) (by simp [noslBlks]) ?_; simp [shiftB]
      repeat (refine ck_intro' (by first | omega | (simp; omega) | kernel_rfl) ?_; try simp [hjm])
      try simp [eb]
      repeat (refine ck_intro' (by first | omega | (simp; omega) | kernel_rfl) ?_; try simp [hjm])
      exact LeV.ro rfl rfl (by simp [derT, g, u, ebv])
    · repeat (refine ck_intro' (by first | omega | (simp; omega) | kernel_rfl) ?_; try simp [g0])
      exact LeV.ro rfl rfl (by simp [derT, u])
  · repeat (refine ck_intro' (by first | omega | (simp; omega) | kernel_rfl) ?_; try simp [g0])
    exact LeV.ro rfl rfl (by simp [derT, g])
theorem impl_Derives_call {ns : List Nd} {ks : List Int} {t : Int} (hl : ns.length < 9223372036854775807) (hk : ks.length < 9223372036854775807) {S : FuncId → Bool} {H : List Blk} {K : A → Dl → Prop} (hS : S 38 = false) (hK : K (.bool (derT ns ks t)) (.news [])) : @WCall' Go.Proofs.Try.prog S 38 [aP ns, aI ks, i6 t] H ⟨K⟩ :=
  WCall_pure hS (impl_Derives_c ns ks t hl hk) (by simp) (by simp) (by simp) hK
theorem impl_Derives_k {ns : List Nd} {ks : List Int} {t : Int} (hl : ns.length < 9223372036854775807) (hk : ks.length < 9223372036854775807) {S : FuncId → Bool} {H : List Blk} {K : A → Dl → Prop} {zs : List A} (hS : S 38 = false) (hv : viewL (viewA 8 H) zs = some [aP ns, aI ks, i6 t]) (ho : noOwns zs = true ∨ nosl (.bool (derT ns ks t)) = true) (hK : K (.bool (derT ns ks t)) (.news [])) : @WCall' Go.Proofs.Try.prog S 38 zs H ⟨K⟩ :=
  WCall_pure hS (impl_Derives_c ns ks t hl hk) hv ho (by simp) hK
end Go.Proofs.Ytfbfebaajdihiaa.C

set_option linter.unusedVariables false
set_option linter.unusedSimpArgs false
namespace Go.Proofs.Ytfbfebaajdihiaa.C
theorem derT_iff {ns : List Nd} (hme : Meek ns) {ks : List Int} (h : kpF ns ks = true) {t : Nat} (ht : t < ns.length) : derT ns ks t = true ↔ Der ns ks t := by
  obtain ⟨hp, hks, _, _⟩ := kpF_iff.1 h
  obtain ⟨O, S⟩ := openV_spec hme h
  have e : derT ns ks t = bv (mkUp ns (openV ns ks).1 ns.length) t := by simp only [derT, hasF_of ht, h, Bool.true_and]
  rw [e, bv_Mk hp ht]
  exact ⟨fun q => Mk_Der O.der q, fun q => Der_Mk O S q⟩
theorem derT_kp {ns : List Nd} {ks : List Int} {t : Int} (h : derT ns ks t = true) : kpF ns ks = true ∧ ∃ j : Nat, t = j ∧ j < ns.length := by
  simp only [derT, Bool.and_eq_true] at h
  exact ⟨h.1.2, hasN h.1.1⟩
theorem idxT_has {t : Int} : ∀ {ss : List Sp} {i : Nat}, (∃ s ∈ ss, s.t = t) → 0 ≤ idxT ss t i
  | [], i, h => by simp at h
  | x :: xs, i, h => by
    unfold idxT
    split
    · omega
    · rename_i e
      obtain ⟨s, hs, hst⟩ := h
      have ih := @idxT_has t xs (i + 1)
      rcases List.mem_cons.1 hs with g | g
      · subst g; first | exact absurd hst e | exact absurd hst.symm e
      · have := ih ⟨s, g, hst⟩
        first | exact this | (simp only [Int.natCast_add] at this; exact this) | simpa using this
/-- There is a proof of just what can be derived. -/
theorem ofF_derT {ns : List Nd} (hme : Meek ns) {ks : List Int} (t : Int) : (ofF ns ks t).2 = derT ns ks t := by
  have e : (ofF ns ks t).2 = decide (0 ≤ idxT (allSt ns ks) t 0) := by
    unfold ofF
    split <;> simp_all
  rw [e, Bool.eq_iff_iff, decide_eq_true_eq]
  by_cases h : kpF ns ks = true
  · obtain ⟨hp, hks, _, _⟩ := kpF_iff.1 h
    obtain ⟨st, e1, e2, e3, e4⟩ := allV_spec hp hks
    have ea : allSt ns ks = allV ns ks := if_pos h
    rw [ea]
    constructor
    · intro g
      obtain ⟨j, hj, _, ej⟩ := idxT_at0 g
      obtain ⟨t', et, htl, hd⟩ := proof_Der hp (allV_inv ks hp).ok j hj
      rw [spAt_lt hj, ej] at et
      subst et
      exact (derT_iff hme h htl).2 hd
    · intro g
      obtain ⟨_, j, rfl, hj⟩ := derT_kp g
      obtain ⟨i, hi, ei⟩ := (e4 j hj).1 ((e3 j hj).2 ((derT_iff hme h hj).1 g))
      exact idxT_has ⟨spAt (allV ns ks) i, by rw [spAt_lt hi]; exact List.getElem_mem hi, ei⟩
  · constructor
    · intro g
      rw [show allSt ns ks = [] from if_neg h] at g
      simp [idxT] at g
    · intro g
      exact absurd (derT_kp g).1 h
/-- The proof of a term proves it, and its last step alone does. -/
theorem ofF_proof {ns : List Nd} {ks : List Int} {t : Int} (h : (ofF ns ks t).2 = true) : checkF ns ks (ofF ns ks t).1 t = true ∧ checkF ns ks ((ofF ns ks t).1.take ((ofF ns ks t).1.length - 1)) t = false := by
  have g : 0 ≤ idxT (allSt ns ks) t 0 := by
    unfold ofF at h
    split at h
    · assumption
    · simp at h
  have hkp : kpF ns ks = true := by
    cases hc : kpF ns ks with
    | true => rfl
    | false =>
      rw [show allSt ns ks = [] from if_neg (by simp [hc])] at g
      simp [idxT] at g
  obtain ⟨j, hj, ej, et⟩ := idxT_at0 g
  have eo : ofF ns ks t = (trimF ns (upto (allSt ns ks) t), true) := if_pos g
  have hup : upto (allSt ns ks) t = (allSt ns ks).take (j + 1) := by simp [upto, ej]
  rw [eo, hup]
  simp only
  have hpr := allSt_pr hkp
  have hln : ((allSt ns ks).take (j + 1)).length = j + 1 := by simp; omega
  have hc0 : checkF ns ks ((allSt ns ks).take (j + 1)) t = true := by
    refine checkF_iff.2 ⟨by intro e; rw [e] at hln; simp at hln, hkp, by have := allSt_le ns ks; omega, fun i hi => ?_, ?_⟩
    · rw [prF_take (by omega)]
      exact hpr i (by omega)
    · rw [hln, show j + 1 - 1 = j from rfl, spAt_take (by omega), spAt_lt hj]
      exact et
  obtain ⟨hc, _⟩ := trimF_spec hc0
  refine ⟨hc, ?_⟩
  obtain ⟨h1, h2, h3, h4, h5⟩ := checkF_iff.1 hc
  generalize trimF ns ((allSt ns ks).take (j + 1)) = out at h1 h2 h3 h4 h5
  have h0 : 0 < out.length := List.length_pos_iff.2 h1
  cases hx : checkF ns ks (out.take (out.length - 1)) t with
  | false => rfl
  | true =>
    obtain ⟨q1, _, _, _, q5⟩ := checkF_iff.1 hx
    have hlt : (out.take (out.length - 1)).length = out.length - 1 := by simp
    have hq0 : 0 < (out.take (out.length - 1)).length := List.length_pos_iff.2 q1
    have hf := h4 (out.length - 1) (by omega)
    simp only [prF, Bool.and_eq_true, freshF, decide_eq_true_eq] at hf
    have hm' := hf.2 (spAt (out.take (out.length - 1)) ((out.take (out.length - 1)).length - 1)) (by
      rw [spAt_lt (by omega)]
      exact List.getElem_mem _)
    exact absurd (q5.trans h5.symm) hm'
theorem check_Der {ns : List Nd} (hme : Meek ns) {ks : List Int} {ss : List Sp} {t : Int} (h : checkF ns ks ss t = true) {i : Nat} (hi : i < ss.length) : derT ns ks (spAt ss i).t = true := by
  obtain ⟨h1, h2, h3, h4, h5⟩ := checkF_iff.1 h
  obtain ⟨t', et, htl, hd⟩ := proof_Der (kpF_pool h2) h4 i hi
  rw [et]
  exact (derT_iff hme h2 htl).2 hd
end Go.Proofs.Ytfbfebaajdihiaa.C

set_option linter.unusedVariables false
set_option linter.unusedSimpArgs false
set_option maxRecDepth 4000
namespace Go.Proofs
open Go.Shelf
def Try.laysInsert_ren : Go.Shelf.Ren := ⟨fun | 21 => 90 | 27 => 115 | 28 => 116 | 35 => 135 | 39 => 111 | n => n, fun | 22 => 25 | 3 => 3 | 4 => 4 | 0 => 0 | n => n, fun | n => n⟩
theorem Try.laysInsert : Go.Proofs.Lays2.n21 Try.prog Try.laysInsert_ren := {
  mixed := by kernel_rfl
  f21 := Try.func90.trans (congrArg some (by kernel_rfl))
  f27 := Try.func115.trans (congrArg some (by kernel_rfl))
  f28 := Try.func116.trans (congrArg some (by kernel_rfl))
  f35 := Try.func135.trans (congrArg some (by kernel_rfl))
  f39 := Try.func111.trans (congrArg some (by kernel_rfl))
  t0 := Try.underlying0
  a0 := Try.isAgg0
  z0 := Try.sizeOf0
  v0 := Try.zeroValue0
  t3 := Try.underlying3
  a3 := Try.isAgg3
  z3 := Try.sizeOf3
  v3 := Try.zeroValue3
  t4 := Try.underlying4
  a4 := Try.isAgg4
  z4 := Try.sizeOf4
  v4 := Try.zeroValue4
  t22 := Try.underlying25
  a22 := Try.isAgg25
  z22 := Try.sizeOf25
  v22 := Try.zeroValue25
  i3 := by kernel_rfl }
end Go.Proofs
namespace Go.Proofs.Ytfbfebaajdihiaa.C
open Go.Sym Go.Proofs.Ytfbfebaajdihiaa.I
theorem cmp_isNaN_int_c (x : Int)  : T 134 [i6 x] [] (.bool false) ([]) := by
  refine semT' (S := S0) hm cmp_isNaN_int_ok (Nat.le_of_ble_eq_true rfl) ?_
  unfold cmp_isNaN_int; dsimp only
  simp
  exact LeV.ro rfl rfl rfl
theorem cmp_isNaN_int_call {x : Int}  {S : FuncId → Bool} {H : List Blk} {K : A → Dl → Prop} (hS : S 134 = false) (hK : K (.bool false) (.news [])) : @WCall' Go.Proofs.Try.prog S 134 [i6 x] H ⟨K⟩ :=
  WCall_pure hS (cmp_isNaN_int_c x) (by simp) (by simp) (by simp) hK
theorem cmp_isNaN_int_k {x : Int}  {S : FuncId → Bool} {H : List Blk} {K : A → Dl → Prop} {zs : List A} (hS : S 134 = false) (hv : viewL (viewA 8 H) zs = some [i6 x]) (ho : noOwns zs = true ∨ nosl (.bool false) = true) (hK : K (.bool false) (.news [])) : @WCall' Go.Proofs.Try.prog S 134 zs H ⟨K⟩ :=
  WCall_pure hS (cmp_isNaN_int_c x) hv ho (by simp) hK
theorem slices_isNaN_int_c (x : Int)  : T 114 [i6 x] [] (.bool false) ([]) := by
  refine semT' (S := S0) hm slices_isNaN_int_ok (Nat.le_of_ble_eq_true rfl) ?_
  unfold slices_isNaN_int; dsimp only
  simp
  exact LeV.ro rfl rfl rfl
theorem slices_isNaN_int_call {x : Int}  {S : FuncId → Bool} {H : List Blk} {K : A → Dl → Prop} (hS : S 114 = false) (hK : K (.bool false) (.news [])) : @WCall' Go.Proofs.Try.prog S 114 [i6 x] H ⟨K⟩ :=
  WCall_pure hS (slices_isNaN_int_c x) (by simp) (by simp) (by simp) hK
theorem slices_isNaN_int_k {x : Int}  {S : FuncId → Bool} {H : List Blk} {K : A → Dl → Prop} {zs : List A} (hS : S 114 = false) (hv : viewL (viewA 8 H) zs = some [i6 x]) (ho : noOwns zs = true ∨ nosl (.bool false) = true) (hK : K (.bool false) (.news [])) : @WCall' Go.Proofs.Try.prog S 114 zs H ⟨K⟩ :=
  WCall_pure hS (slices_isNaN_int_c x) hv ho (by simp) hK
theorem cmp_Less_int_c (x y : Int)  : T 113 [i6 x, i6 y] [] (.bool (decide (x < y))) ([]) := by
  refine semT' (S := S0) hm cmp_Less_int_ok (Nat.le_of_ble_eq_true rfl) ?_
  unfold cmp_Less_int; dsimp only
  simp
  refine cmp_isNaN_int_k (x := x) rfl (by simp) (by simp [noslBlks]) ?_; simp [shiftB]
  exact LeV.ro rfl rfl rfl
theorem cmp_Less_int_call {x y : Int}  {S : FuncId → Bool} {H : List Blk} {K : A → Dl → Prop} (hS : S 113 = false) (hK : K (.bool (decide (x < y))) (.news [])) : @WCall' Go.Proofs.Try.prog S 113 [i6 x, i6 y] H ⟨K⟩ :=
  WCall_pure hS (cmp_Less_int_c x y) (by simp) (by simp) (by simp) hK
theorem cmp_Less_int_k {x y : Int}  {S : FuncId → Bool} {H : List Blk} {K : A → Dl → Prop} {zs : List A} (hS : S 113 = false) (hv : viewL (viewA 8 H) zs = some [i6 x, i6 y]) (ho : noOwns zs = true ∨ nosl (.bool (decide (x < y))) = true) (hK : K (.bool (decide (x < y))) (.news [])) : @WCall' Go.Proofs.Try.prog S 113 zs H ⟨K⟩ :=
  WCall_pure hS (cmp_Less_int_c x y) hv ho (by simp) hK
theorem insert_t {H : List Blk} {b lb v lv : Nat} {ro : Bool} {xs : List Int} {x : Int} {i : Nat} (hk : H[b]? = some ⟨v, ro, 1, ints xs, none⟩) (hl : H[lb]? = some ⟨lv, false, 1, [i6 x], none⟩) (hne : lb ≠ b) (hi : i ≤ xs.length) (hx : xs.length ≤ 4294967296) :
    T 90 [.ref b v 0 xs.length, i6 i, .ref lb lv 0 1] H (.ref b (v + 1) 0 (xs.length + 1)) (H.set b ⟨v + 1, false, 1, ints (insI xs i x), none⟩) := semT_insert Try.laysInsert hk hl hne hi hx
/-- How many of the first numbers are less. -/
def lessN (xs : List Int) (t : Int) : Nat := xs.countP fun x => decide (x < t)
theorem lessN_of {xs : List Int} {t : Int} {i : Nat} (hi : i ≤ xs.length) (h1 : ∀ (k : Nat) (h : k < xs.length), k < i → xs[k] < t) (h2 : ∀ (k : Nat) (h : k < xs.length), i ≤ k → t ≤ xs[k]) : lessN xs t = i := by
  unfold lessN
  have e : xs = xs.take i ++ xs.drop i := (List.take_append_drop i xs).symm
  rw [e, List.countP_append]
  have a1 : (xs.take i).countP (fun x => decide (x < t)) = (xs.take i).length := List.countP_eq_length.2 fun x hx => by
    obtain ⟨k, hk, rfl⟩ := List.getElem_of_mem hx
    simp at hk
    simpa using h1 k (by omega) (by omega)
  have a2 : (xs.drop i).countP (fun x => decide (x < t)) = 0 := List.countP_eq_zero.2 fun x hx => by
    obtain ⟨k, hk, rfl⟩ := List.getElem_of_mem hx
    simp at hk
    have := h2 (i + k) (by omega) (by omega)
    simp
    omega
  rw [a1, a2]
  simp
  omega
theorem slices_BinarySearch_int_c (xs : List Int) (t : Int) (hl : xs.length ≤ 4294967296) (hs : Srt xs) : T 89 [aI xs, i6 t] [] (.tup [i6 (lessN xs t), .bool (hasK xs t)]) ([]) := by
  refine semT' (S := S0) hm slices_BinarySearch_int_ok (Nat.le_of_ble_eq_true rfl) ?_
  unfold slices_BinarySearch_int; dsimp only
  simp
  refine WLoop_fam (fun p : Nat × Nat => [(0, aI xs), (1, i6 t), (6, i6 xs.length), (7, i6 p.1), (8, i6 p.2)]) (fun _ => []) (fun p => p.2 - p.1)
    (fun p => p.1 ≤ p.2 ∧ p.2 ≤ xs.length ∧ (∀ (k : Nat) (h : k < xs.length), k < p.1 → xs[k] < t) ∧ (∀ (k : Nat) (h : k < xs.length), p.2 ≤ k → t ≤ xs[k])) ?_ (0, xs.length) ⟨Nat.zero_le _, Nat.le_refl _, fun k h h' => by simp at h', fun k h h' => by simp at h'; omega⟩
  rintro ⟨i, j⟩ ⟨hij, hjl, ha, hb⟩ ih
  simp only at hij hjl ha hb
  simp
  refine br_intro' (fun u => ?_) (fun u => ?_) <;> (have u0 := u) <;> simp only [decide_eq_true_eq, decide_eq_false_iff_not] at u <;> simp [u0, u]
  · obtain ⟨m, hm⟩ : ∃ m : Nat, m = (i + j) / 2 := ⟨_, rfl⟩
    have hmid : IntKind.i64.wrap ((IntKind.u64.wrap (IntKind.i64.wrap ((i : Int) + j))).fdiv (2 ^ min 1 IntKind.u64.bits)) = m := by
      have e1 : IntKind.i64.wrap ((i : Int) + j) = i + j := wrap64 (by omega) (by omega)
      have e2 : IntKind.u64.wrap ((i : Int) + j) = i + j := by
        show ((i : Int) + j) % 18446744073709551616 = _
        omega
      rw [e1, e2]
      have e3 : ((i : Int) + j).fdiv (2 ^ min 1 IntKind.u64.bits) = m := by
        show ((i : Int) + j).fdiv 2 = m
        rw [Int.fdiv_eq_ediv_of_nonneg _ (by omega)]
        omega
      rw [e3]
      exact wrap64 (by omega) (by omega)
    rw [hmid]
    have hml : m < xs.length := by omega
    have hw := wrap_succ (n := m) (by omega)
    repeat (refine ck_intro' (by first | omega | (simp; omega) | kernel_rfl) ?_; try simp [hml])
    refine cmp_Less_int_call (x := xs[m]) (y := t) rfl ?_; simp
    refine br_intro' (fun z => ?_) (fun z => ?_) <;> (have z0 := z) <;> simp only [decide_eq_true_eq, decide_eq_false_iff_not] at z <;> simp [z0]
    · rw [hw]
      refine ih (m + 1, j) ⟨by simp only; omega, hjl, fun k h hk => ?_, hb⟩ (by simp; omega)
      rcases Nat.lt_or_ge k m with g | g
      · have := srt_get hs g hml; omega
      · obtain rfl : k = m := by simp only at hk; omega
        exact z
    · refine ih (i, m) ⟨by simp only; omega, by simp only; omega, ha, fun k h hk => ?_⟩ (by simp; omega)
      simp only at hk
      rcases Nat.lt_or_ge m k with g | g
      · have := srt_get hs g h; omega
      · obtain rfl : k = m := by omega
        omega
  · have he : i = j := by omega
    subst he
    have hn := lessN_of (t := t) hjl ha hb
    have hK : hasK xs t = decide (∃ h : i < xs.length, xs[i] = t) := by
      simp only [hasK]
      rw [decide_eq_decide]
      constructor
      · intro hm
        obtain ⟨k, hk, e⟩ := List.getElem_of_mem hm
        have q1 : ¬ k < i := fun g => by have := ha k hk g; omega
        have hil : i < xs.length := by omega
        refine ⟨hil, ?_⟩
        rcases Nat.lt_or_ge i k with g | g
        · have := srt_get hs g hk; have := hb i hil (Nat.le_refl _); omega
        · obtain rfl : k = i := by omega
          exact e
      · rintro ⟨h, e⟩
        rw [← e]; exact List.getElem_mem h
    refine br_intro' (fun z => ?_) (fun z => ?_) <;> (have z0 := z) <;> simp only [decide_eq_true_eq, decide_eq_false_iff_not] at z <;> simp [z0, z]
    · refine br_intro' (fun y => ?_) (fun y => ?_) <;> (have y0 := y) <;> simp only [decide_eq_true_eq, decide_eq_false_iff_not] at y <;> simp [y0, y]
      · repeat (refine ck_intro' (by first | omega | (simp; omega) | kernel_rfl) ?_; try simp [z])
        exact LeV.ro rfl rfl (by rw [hn, hK]; simp [z, y])
      · repeat (refine ck_intro' (by first | omega | (simp; omega) | kernel_rfl) ?_; try simp [z])
        refine slices_isNaN_int_call (x := xs[i]) rfl ?_; simp
        repeat (refine ck_intro' (by first | omega | (simp; omega) | kernel_rfl) ?_; try simp [z])
        exact LeV.ro rfl rfl (by rw [hn, hK]; simp [z, y])
    · repeat (refine ck_intro' (by first | omega | (simp; omega) | kernel_rfl) ?_; try simp [z])
      exact LeV.ro rfl rfl (by rw [hn, hK]; simp [z])
theorem slices_BinarySearch_int_call {xs : List Int} {t : Int} (hl : xs.length ≤ 4294967296) (hs : Srt xs) {S : FuncId → Bool} {H : List Blk} {K : A → Dl → Prop} (hS : S 89 = false) (hK : K (.tup [i6 (lessN xs t), .bool (hasK xs t)]) (.news [])) : @WCall' Go.Proofs.Try.prog S 89 [aI xs, i6 t] H ⟨K⟩ :=
  WCall_pure hS (slices_BinarySearch_int_c xs t hl hs) (by simp) (by simp) (by simp) hK
theorem slices_BinarySearch_int_k {xs : List Int} {t : Int} (hl : xs.length ≤ 4294967296) (hs : Srt xs) {S : FuncId → Bool} {H : List Blk} {K : A → Dl → Prop} {zs : List A} (hS : S 89 = false) (hv : viewL (viewA 8 H) zs = some [aI xs, i6 t]) (ho : noOwns zs = true ∨ nosl (.tup [i6 (lessN xs t), .bool (hasK xs t)]) = true) (hK : K (.tup [i6 (lessN xs t), .bool (hasK xs t)]) (.news [])) : @WCall' Go.Proofs.Try.prog S 89 zs H ⟨K⟩ :=
  WCall_pure hS (slices_BinarySearch_int_c xs t hl hs) hv ho (by simp) hK
theorem ins_put {xs : List Int} {t : Int} (hs : Srt xs) (ht : hasK xs t = false) : lessN xs t ≤ xs.length ∧ insI xs (lessN xs t) t = putF xs t := by
  have hn : t ∉ xs := by simpa [hasK] using ht
  have h0 : lessN xs t ≤ xs.length := List.countP_le_length
  refine ⟨h0, ?_⟩
  unfold putF
  rw [ht]
  have key : ∀ {xs : List Int}, Srt xs → t ∉ xs → insI xs (lessN xs t) t = putGo t xs false := by
    intro xs
    induction xs with
    | nil => intro _ _; rfl
    | cons y ys ih =>
      intro hs hn
      obtain ⟨h1, h2⟩ := List.pairwise_cons.1 hs
      have hne : t ≠ y := fun e => hn (by simp [e])
      unfold putGo
      by_cases g : t < y
      · have hz : lessN (y :: ys) t = 0 := List.countP_eq_zero.2 fun z hz => by
          rcases List.mem_cons.1 hz with e | e
          · simp; omega
          · have := h1 z e; simp; omega
        rw [if_pos ⟨rfl, g⟩, putGo_true, hz]
        rfl
      · have hz : lessN (y :: ys) t = lessN ys t + 1 := by
          unfold lessN
          rw [List.countP_cons_of_pos (by simp; omega)]
        rw [if_neg (by simp [g]), hz, ← ih h2 (fun e => hn (by simp [e]))]
        simp [insI]
  exact key hs hn
end Go.Proofs.Ytfbfebaajdihiaa.C

set_option linter.unusedVariables false
set_option linter.unusedSimpArgs false
set_option maxRecDepth 4000
namespace Go.Proofs.Ytfbfebaajdihiaa.C
open Go.Sym Go.Proofs.Ytfbfebaajdihiaa.I
/-- What is known with one term more, whether there was room; and whether the row has turned. -/
def kputF (ks : List Int) (t : Int) : List Int × Bool × Bool := if hasK ks t = true then (ks, true, false) else if 200 ≤ ks.length then (ks, false, false) else (putF ks t, true, true)
theorem impl_knowPut_m (H : List Blk) (b v : Nat) (ro : Bool) (ks : List Int) (t : Int) (hk : H[b]? = some ⟨v, ro, 1, ints ks, none⟩) (hl : ks.length ≤ 4294960000) (hs : Srt ks) (hcl : Closed1 H.length H = true) : T 65 [.ref b v 0 ks.length, i6 t] (H) (.tup [.ref b (if (kputF ks t).2.2 then v + 1 else v) 0 (kputF ks t).1.length, .bool (kputF ks t).2.1]) (H.set b ⟨if (kputF ks t).2.2 then v + 1 else v, if (kputF ks t).2.2 then false else ro, 1, ints (kputF ks t).1, none⟩) := by
  refine semT' (S := (fun f => [90].contains f)) hm impl_knowPut_ok (Nat.le_of_ble_eq_true rfl) ?_
  unfold impl_knowPut; dsimp only
  have hbl : b < H.length := by
    rcases Nat.lt_or_ge b H.length with g | g
    · exact g
    · rw [List.getElem?_eq_none g] at hk; cases hk
  simp
  refine slices_BinarySearch_int_k (xs := ks) (t := t) (by omega) hs rfl (by simp [hk]) (by simp) ?_; simp
  refine br_intro' (fun g => ?_) (fun g => ?_) <;> (have g0 := g) <;> simp [g0]
  · rw [show kputF ks t = (ks, true, false) from if_pos g]
    simp
    rw [set_same hk]
    exact LeV.refl _ _ _
  · refine br_intro' (fun z => ?_) (fun z => ?_) <;> (have z0 := z) <;> simp only [decide_eq_true_eq, decide_eq_false_iff_not] at z <;> simp [z0]
    · rw [show kputF ks t = (ks, false, false) by simp [kputF, g]; omega]
      simp
      rw [set_same hk]
      exact LeV.refl _ _ _
    · obtain ⟨hle, hput⟩ := ins_put hs g
      have hpl : (putF ks t).length = ks.length + 1 := by rw [← hput]; exact insI_len t hle
      have hkp : kputF ks t = (putF ks t, true, true) := by simp [kputF, g]; omega
      have hi := insert_t (H := H ++ [⟨0, false, 1, [i6 t], none⟩]) (b := b) (lb := H.length) (v := v) (lv := 0) (ro := ro) (xs := ks) (x := t) (i := lessN ks t) (by rw [List.getElem?_append_left hbl]; exact hk) (by simp) (by omega) hle (by omega)
      rw [hput] at hi
      refine row_call (b := b) rfl hi ?_; simp
      rw [hkp]
      simp
      rw [set_left hbl, hpl]
      exact LeV.drop (by simp) (by simpa using Closed1_set (by simp) _ _ hcl) (by simp [hbl])
/-- What KnowPut answers. -/
def knowPutF (ns : List Nd) (ks : List Int) (t : Int) : List Int × Bool := if kpF ns ks = true then if hasF ns.length t = true then ((kputF ks t).1, (kputF ks t).2.1) else (ks, false) else ([], false)
theorem impl_KnowPut_c (ns : List Nd) (ks : List Int) (t : Int) (hl : ns.length < 9223372036854775807) (hk : ks.length < 9223372036854775807) : T 40 [aP ns, aI ks, i6 t] [] (.tup [jref 0 (knowPutF ns ks t).1, .bool (knowPutF ns ks t).2]) ([jblk (knowPutF ns ks t).1]) := by
  refine semT' (S := (fun f => [65].contains f)) hm impl_KnowPut_ok (Nat.le_of_ble_eq_true rfl) ?_
  unfold impl_KnowPut; dsimp only
  simp
  refine impl_KnowOk_k (ns := ns) (ks := ks) hl hk rfl (by simp) (by simp [noslBlks]) ?_; simp [shiftB]
  refine br_intro' (fun g => ?_) (fun g => ?_) <;> (have g0 := g) <;> simp [g0]
  · obtain ⟨hp, hks, hsr, hkl⟩ := kpF_iff.1 g
    refine slices_Clone_int_k (xs := ks) (by omega) rfl (by simp) (by simp [noslBlks]) ?_; simp [shiftB]
    refine WCall_pure rfl (impl_Pool_isTerm_c ns [] t hl) (by simp) (by simp) (by simp) ?_; simp
    refine br_intro' (fun u => ?_) (fun u => ?_) <;> (have u0 := u) <;> simp [u0]
    · rw [show knowPutF ns ks t = ((kputF ks t).1, (kputF ks t).2.1) by simp [knowPutF, g, u]]
      have hm1 := impl_knowPut_m [⟨0, false, 1, [A.sl ns.length (enc ns)], none⟩, ⟨ks.length, decide (ks = []), 1, ints ks, none⟩] 1 ks.length (decide (ks = [])) ks t rfl (by omega) hsr (by simp [inAs_scals _ (enc_scals ns)])
      refine row_call (b := 1) rfl hm1 ?_; simp
      have hro : (!(kputF ks t).2.2 && decide (ks = [])) = decide ((kputF ks t).1.length = 0) := by
        unfold kputF
        split
        · simp
        · split
          · simp
          · have := putF_len ks t
            rename_i q1 q2
            have h1 : (putF ks t).length = ks.length + 1 := by
              obtain ⟨a, b⟩ := ins_put hsr (by simpa using q1)
              rw [← b]; exact insI_len t a
            simp [h1]
      rw [hro]
      exact LeV.tell [some 1] (by simp) (by simp) (by simp)
    · rw [show knowPutF ns ks t = (ks, false) by simp [knowPutF, g, u]]
      first | (refine LeV.tell [none] ?_ ?_ ?_ <;> (simp; done)) | (refine LeV.tell [some 0] ?_ ?_ ?_ <;> (simp; done)) | (refine LeV.tell [some 1] ?_ ?_ ?_ <;> (simp; done)) | (refine LeV.tell [some 2] ?_ ?_ ?_ <;> (simp; done)) | (refine LeV.tell [some 3] ?_ ?_ ?_ <;> (simp; done)) | (refine LeV.tell [some 4] ?_ ?_ ?_ <;> (simp; done)) | (refine LeV.tell [some 5] ?_ ?_ ?_ <;> (simp; done)) | (refine LeV.tell [some 6] ?_ ?_ ?_ <;> (simp; done)) | (refine LeV.tell [some 7] ?_ ?_ ?_ <;> (simp; done)) | (refine LeV.tell [some 8] ?_ ?_ ?_ <;> (simp; done)) | (refine LeV.tell [some 9] ?_ ?_ ?_ <;> (simp; done)) | (refine LeV.tell [some 10] ?_ ?_ ?_ <;> (simp; done)) | (refine LeV.tell [some 11] ?_ ?_ ?_ <;> (simp; done)) | (refine LeV.tell [some 12] ?_ ?_ ?_ <;> (simp; done)) | (refine LeV.tell [some 13] ?_ ?_ ?_ <;> (simp; done)) | (refine LeV.tell [some 14] ?_ ?_ ?_ <;> (simp; done)) | (refine LeV.tell [some 15] ?_ ?_ ?_ <;> (simp; done))
  · rw [show knowPutF ns ks t = ([], false) from if_neg (by simp [g])]
    first | (refine LeV.tell [none] ?_ ?_ ?_ <;> (simp; done)) | (refine LeV.tell [some 0] ?_ ?_ ?_ <;> (simp; done)) | (refine LeV.tell [some 1] ?_ ?_ ?_ <;> (simp; done)) | (refine LeV.tell [some 2] ?_ ?_ ?_ <;> (simp; done)) | (refine LeV.tell [some 3] ?_ ?_ ?_ <;> (simp; done)) | (refine LeV.tell [some 4] ?_ ?_ ?_ <;> (simp; done)) | (refine LeV.tell [some 5] ?_ ?_ ?_ <;> (simp; done)) | (refine LeV.tell [some 6] ?_ ?_ ?_ <;> (simp; done)) | (refine LeV.tell [some 7] ?_ ?_ ?_ <;> (simp; done)) | (refine LeV.tell [some 8] ?_ ?_ ?_ <;> (simp; done)) | (refine LeV.tell [some 9] ?_ ?_ ?_ <;> (simp; done)) | (refine LeV.tell [some 10] ?_ ?_ ?_ <;> (simp; done)) | (refine LeV.tell [some 11] ?_ ?_ ?_ <;> (simp; done)) | (refine LeV.tell [some 12] ?_ ?_ ?_ <;> (simp; done)) | (refine LeV.tell [some 13] ?_ ?_ ?_ <;> (simp; done)) | (refine LeV.tell [some 14] ?_ ?_ ?_ <;> (simp; done)) | (refine LeV.tell [some 15] ?_ ?_ ?_ <;> (simp; done))
theorem impl_KnowPut_k {ns : List Nd} {ks : List Int} {t : Int} (hl : ns.length < 9223372036854775807) (hk : ks.length < 9223372036854775807) {S : FuncId → Bool} {H : List Blk} {K : A → Dl → Prop} {zs : List A} (hS : S 40 = false) (hv : viewL (viewA 8 H) zs = some [aP ns, aI ks, i6 t]) (ho : noOwns zs = true ∨ nosl (.tup [jref 0 (knowPutF ns ks t).1, .bool (knowPutF ns ks t).2]) = true ∧ noslBlks ([jblk (knowPutF ns ks t).1]) = true) (hK : K (shiftA H.length (.tup [jref 0 (knowPutF ns ks t).1, .bool (knowPutF ns ks t).2])) (.news (([jblk (knowPutF ns ks t).1]).map (shiftB H.length)))) : @WCall' Go.Proofs.Try.prog S 40 zs H ⟨K⟩ :=
  WCall_ro' hS hv (impl_KnowPut_c ns ks t hl hk) rfl ho hK
end Go.Proofs.Ytfbfebaajdihiaa.C

set_option linter.unusedVariables false
set_option linter.unusedSimpArgs false
namespace Go.Proofs.Ytfbfebaajdihiaa.C
theorem Der.mono {ns : List Nd} {ks k2 : List Int} (h : ∀ t : Nat, (t : Int) ∈ ks → Der ns k2 t) {t : Nat} (d : Der ns ks t) : Der ns k2 t := by
  induction d with
  | know q => exact h _ q
  | pub a b c => exact .pub a b c
  | make1 a b c _ ih => exact .make1 a b c ih
  | make2 a b c d _ _ ih ih2 => exact .make2 a b c d ih ih2
  | shareA a b c d e _ _ ih ih2 => exact .shareA a b c d e ih ih2
  | shareB a b c d e _ _ ih ih2 => exact .shareB a b c d e ih ih2
  | left a b c _ ih => exact .left a b c ih
  | right a b c _ ih => exact .right a b c ih
  | opens a b c d _ _ ih ih2 => exact .opens a b c d ih ih2
  | read a b c _ ih => exact .read a b c ih
theorem listGo_srt : ∀ (mk : List Bool) (i : Nat), Srt (listGo i mk)
  | [], i => by simp [listGo]
  | b :: bs, i => by
    unfold listGo
    split
    · refine List.pairwise_cons.2 ⟨fun z hz => ?_, listGo_srt bs (i + 1)⟩
      obtain ⟨j, _, e, _⟩ := listGo_mem.1 hz
      omega
    · exact listGo_srt bs (i + 1)
theorem derF_srt (ns : List Nd) (ks : List Int) : Srt (derF ns ks) := by
  unfold derF
  split
  · exact listGo_srt _ _
  · simp
/-- What one term more that is known comes to. -/
theorem more_spec {ns : List Nd} (hme : Meek ns) {ks : List Int} {t : Int} (h : (knowPutF ns ks t).2 = true) : kpF ns ks = true ∧ kpF ns (knowPutF ns ks t).1 = true ∧ (∀ x ∈ derF ns ks, x ∈ derF ns (knowPutF ns ks t).1) ∧ t ∈ derF ns (knowPutF ns ks t).1 ∧ (derT ns ks t = true → derF ns (knowPutF ns ks t).1 = derF ns ks) := by
  unfold knowPutF at h ⊢
  split at h
  · rename_i hk
    rw [if_pos hk]
    split at h
    · rename_i ht
      rw [if_pos ht]
      obtain ⟨hp, hks, hsr, hkl⟩ := kpF_iff.1 hk
      obtain ⟨j, rfl, hj⟩ := hasN ht
      simp only at h ⊢
      have hm' : kpF ns (kputF ks j).1 = true ∧ (∀ x, x ∈ (kputF ks j).1 ↔ x = j ∨ x ∈ ks) := by
        unfold kputF at h ⊢
        split
        · rename_i g
          refine ⟨hk, fun x => ⟨.inr, fun q => q.elim (fun e => ?_) id⟩⟩
          rw [e]; simpa [hasK] using g
        · rename_i g
          rw [if_neg g] at h
          split
          · rename_i g2
            rw [if_pos g2] at h
            simp at h
          · rename_i g2
            have := putF_len ks j
            refine ⟨kpF_iff.2 ⟨hp, fun x hx => ?_, putF_srt hsr, by simp only; omega⟩, fun x => putF_mem⟩
            rcases putF_mem.1 hx with e | e
            · rw [e]; exact ht
            · exact hks x e
      obtain ⟨hk2, hmem⟩ := hm'
      have sub : ∀ x ∈ derF ns ks, x ∈ derF ns (kputF ks j).1 := fun x hx => by
        obtain ⟨q, e, hq, hd⟩ := (derF_mem hme hk).1 hx
        exact (derF_mem hme hk2).2 ⟨q, e, hq, hd.mono fun r hr => .know ((hmem r).2 (.inr hr))⟩
      refine ⟨hk, hk2, sub, (derF_mem hme hk2).2 ⟨j, rfl, hj, .know ((hmem j).2 (.inl rfl))⟩, fun hd => ?_⟩
      have dj := (derT_iff hme hk hj).1 hd
      refine srt_ext (derF_srt _ _) (derF_srt _ _) fun x => ⟨fun hx => ?_, sub x⟩
      obtain ⟨q, e, hq, hd'⟩ := (derF_mem hme hk2).1 hx
      refine (derF_mem hme hk).2 ⟨q, e, hq, hd'.mono fun r hr => ?_⟩
      rcases (hmem r).1 hr with e2 | e2
      · obtain rfl : r = j := by omega
        exact dj
      · exact .know e2
    · simp at h
  · simp at h
end Go.Proofs.Ytfbfebaajdihiaa.C

set_option linter.unusedVariables false
set_option linter.unusedSimpArgs false
set_option maxRecDepth 4000
namespace Go.Proofs.Ytfbfebaajdihiaa.C
open Go.Sym Go.Proofs.Ytfbfebaajdihiaa.I
def makeT (ns : List Nd) (ks : List Int) (t : Int) : Bool := kpF ns ks && hasF ns.length t && bv (mkUp ns ks ns.length) t
theorem spec_Makes_c (ns : List Nd) (ks : List Int) (t : Int) (hl : ns.length < 9223372036854775807) (hk : ks.length < 9223372036854775807) : T 63 [aP ns, aI ks, i6 t] [] (.bool (makeT ns ks t)) ([]) := by
  refine semT' (S := S0) hm spec_Makes_ok (Nat.le_of_ble_eq_true rfl) ?_
  unfold spec_Makes; dsimp only
  simp
  refine spec_KnowOk_call hl rfl ?_; simp
  refine br_intro' (fun g => ?_) (fun g => ?_) <;> (have g0 := g) <;> simp [g0]
  · refine spec_l1Has_k (ns := ns) (t := t) hl rfl (by simp) (by simp) ?_; simp
    refine br_intro' (fun u => ?_) (fun u => ?_) <;> (have u0 := u) <;> simp [u0]
    · obtain ⟨j, rfl, hj⟩ := hasN u
      have hmm := mkUp_len ns ks ns.length
      have hjm : j < (mkUp ns ks ns.length).length := by omega
      have eb := bls_at hjm
      have ebv := bv_nat hjm
      refine spec_l7All_k (ns := ns) (ks := ks) (poolF_len (kpF_pool g)) hk (kpF_pool g) rfl (by simp) (by simp [noslBlks]) ?_; simp [shiftB]
      repeat (refine ck_intro' (by first | omega | (simp; omega) | kernel_rfl) ?_; try simp [hjm])
      try simp [eb]
      repeat (refine ck_intro' (by first | omega | (simp; omega) | kernel_rfl) ?_; try simp [hjm])
      exact LeV.ro rfl rfl (by simp [makeT, g, u, ebv])
    · exact LeV.ro rfl rfl (by simp [makeT, u])
  · exact LeV.ro rfl rfl (by simp [makeT, g])
theorem spec_Makes_call {ns : List Nd} {ks : List Int} {t : Int} (hl : ns.length < 9223372036854775807) (hk : ks.length < 9223372036854775807) {S : FuncId → Bool} {H : List Blk} {K : A → Dl → Prop} (hS : S 63 = false) (hK : K (.bool (makeT ns ks t)) (.news [])) : @WCall' Go.Proofs.Try.prog S 63 [aP ns, aI ks, i6 t] H ⟨K⟩ :=
  WCall_pure hS (spec_Makes_c ns ks t hl hk) (by simp) (by simp) (by simp) hK
theorem spec_Makes_k {ns : List Nd} {ks : List Int} {t : Int} (hl : ns.length < 9223372036854775807) (hk : ks.length < 9223372036854775807) {S : FuncId → Bool} {H : List Blk} {K : A → Dl → Prop} {zs : List A} (hS : S 63 = false) (hv : viewL (viewA 8 H) zs = some [aP ns, aI ks, i6 t]) (ho : noOwns zs = true ∨ nosl (.bool (makeT ns ks t)) = true) (hK : K (.bool (makeT ns ks t)) (.news [])) : @WCall' Go.Proofs.Try.prog S 63 zs H ⟨K⟩ :=
  WCall_pure hS (spec_Makes_c ns ks t hl hk) hv ho (by simp) hK
theorem spec_Derives_c (ns : List Nd) (ks : List Int) (t : Int) (hl : ns.length < 9223372036854775807) (hk : ks.length < 9223372036854775807) (hop : kpF ns ks = true → kpF ns (openV ns ks).1 = true) : T 39 [aP ns, aI ks, i6 t] [] (.bool (derT ns ks t)) ([]) := by
  refine semT' (S := S0) hm spec_Derives_ok (Nat.le_of_ble_eq_true rfl) ?_
  unfold spec_Derives; dsimp only
  simp
  refine spec_KnowOk_call hl rfl ?_; simp
  refine br_intro' (fun g => ?_) (fun g => ?_) <;> (have g0 := g) <;> simp [g0]
  · obtain ⟨hp, hks, hsr, hkl⟩ := kpF_iff.1 g
    have hol := openV_len g
    refine spec_l8All_k (ns := ns) (ks := ks) (poolF_len hp) hkl hp hks rfl (by simp) (by simp [noslBlks]) ?_; simp [shiftB]
    refine spec_Makes_k (ns := ns) (ks := (openV ns ks).1) (t := t) hl (by omega) rfl (by simp) (by simp) ?_; simp
    exact LeV.ro rfl rfl (by simp [derT, makeT, g, hop g])
  · exact LeV.ro rfl rfl (by simp [derT, g])
theorem spec_Derives_call {ns : List Nd} {ks : List Int} {t : Int} (hl : ns.length < 9223372036854775807) (hk : ks.length < 9223372036854775807) (hop : kpF ns ks = true → kpF ns (openV ns ks).1 = true) {S : FuncId → Bool} {H : List Blk} {K : A → Dl → Prop} (hS : S 39 = false) (hK : K (.bool (derT ns ks t)) (.news [])) : @WCall' Go.Proofs.Try.prog S 39 [aP ns, aI ks, i6 t] H ⟨K⟩ :=
  WCall_pure hS (spec_Derives_c ns ks t hl hk hop) (by simp) (by simp) (by simp) hK
theorem spec_Derives_k {ns : List Nd} {ks : List Int} {t : Int} (hl : ns.length < 9223372036854775807) (hk : ks.length < 9223372036854775807) (hop : kpF ns ks = true → kpF ns (openV ns ks).1 = true) {S : FuncId → Bool} {H : List Blk} {K : A → Dl → Prop} {zs : List A} (hS : S 39 = false) (hv : viewL (viewA 8 H) zs = some [aP ns, aI ks, i6 t]) (ho : noOwns zs = true ∨ nosl (.bool (derT ns ks t)) = true) (hK : K (.bool (derT ns ks t)) (.news [])) : @WCall' Go.Proofs.Try.prog S 39 zs H ⟨K⟩ :=
  WCall_pure hS (spec_Derives_c ns ks t hl hk hop) hv ho (by simp) hK
end Go.Proofs.Ytfbfebaajdihiaa.C

set_option linter.unusedVariables false
set_option linter.unusedSimpArgs false
set_option maxRecDepth 4000
namespace Go.Proofs.Ytfbfebaajdihiaa.C
open Go.Sym Go.Proofs.Ytfbfebaajdihiaa.I
theorem mlist_len (ns : List Nd) (ks : List Int) : (mlistF ns ks).length ≤ 500 := by
  unfold mlistF listF
  rw [listGo_len]
  exact Nat.le_trans List.countP_le_length (makesF_len _ _)
theorem der_len5 (ns : List Nd) (ks : List Int) : (derF ns ks).length ≤ 500 := by
  unfold derF
  split
  · exact mlist_len _ _
  · simp
theorem laws_FnMore_c (bs : List Int) (ha : bs.length < 9223372036854775808) : T 9 [aB bs] [] (.bool true) ([]) := by
  refine semT' (S := S0) hm laws_FnMore_ok (Nat.le_of_ble_eq_true rfl) ?_
  unfold laws_FnMore; dsimp only
  simp
  refine laws_big_k (bs := bs) rfl (by simp) (by simp) ?_; simp
  refine br_intro' (fun g => ?_) (fun g => ?_) <;> simp only [decide_eq_true_eq, decide_eq_false_iff_not] at g <;> simp [g]
  · exact LeV.ro rfl rfl rfl
  have hb : bs.length < 9223372036854775807 := by omega
  have hl := d6_len bs
  have hme := d6_meek bs
  refine spec_DrawDerives_k (bs := bs) hb rfl (by simp) (by simp [noslBlks]) ?_; simp [shiftB]
  generalize d6 bs = d at hl hme ⊢
  obtain ⟨ns, ks, t0⟩ := d
  simp only at hl hme
  simp
  have hms := @more_spec ns hme ks t0
  have hd1 := der_len5 ns ks
  have hop : kpF ns ks = true → kpF ns (openV ns ks).1 = true := fun h => (openV_spec hme h).1.kp
  refine impl_Derives_k (ns := ns) (ks := ks) (t := t0) (by omega) (by omega) rfl (by simp) (by simp [noslBlks]) ?_; simp [shiftB]
  refine spec_Derives_k (ns := ns) (ks := ks) (t := t0) (by omega) (by omega) hop rfl (by simp) (by simp [noslBlks]) ?_; simp [shiftB]
  refine impl_DerivesList_k (ns := ns) (ks := ks) (by omega) (by omega) rfl (by simp) (by simp [noslBlks]) ?_; simp [shiftB]
  refine impl_KnowPut_k (ns := ns) (ks := ks) (t := t0) (by omega) (by omega) rfl (by simp) (by simp [noslBlks]) ?_; simp [shiftB]
  generalize hkp : knowPutF ns ks t0 = r at hms ⊢
  obtain ⟨k2, ok⟩ := r
  simp only at hms
  cases ok with
  | false =>
    simp
    exact LeV.ro rfl rfl rfl
  | true =>
    obtain ⟨m1, m2, m3, m4, m5⟩ := hms rfl
    have hkl2 := kpF_len m2
    have hd2 := der_len5 ns k2
    simp
    refine impl_DerivesList_k (ns := ns) (ks := k2) (by omega) (by omega) rfl (by simp) (by simp [noslBlks]) ?_; simp [shiftB]
    generalize derF ns ks = ds at hd1 m3 m5 ⊢
    generalize derF ns k2 = d2 at hd2 m3 m4 m5 ⊢
    generalize derT ns ks t0 = one at m5 ⊢
    refine WLoop_fam (fun j : Nat => [(5, i6 t0), (6, A.bool one), (7, A.ref 1 ds.length 0 ds.length), (10, A.ref 3 d2.length 0 d2.length), (11, i6 j)])
      (fun _ => [⟨0, false, 1, [A.sl ns.length (enc ns)], none⟩, ⟨ds.length, decide (ds = []), 1, ints ds, none⟩, ⟨k2.length, decide (k2 = []), 1, ints k2, none⟩, ⟨d2.length, decide (d2 = []), 1, ints d2, none⟩]) (fun j => ds.length - j) (fun j => j ≤ ds.length) ?_ 0 (Nat.zero_le _)
    intro j hj ih
    simp
    refine br_intro' (fun u => ?_) (fun u => ?_) <;> (have u0 := u) <;> simp only [decide_eq_true_eq, decide_eq_false_iff_not] at u <;> simp [u0, u]
    · have hw := wrap_succ (n := j) (by omega)
      repeat (refine ck_intro' (by first | omega | (simp; omega) | kernel_rfl) ?_; try simp [u])
      refine laws_within_k (ks := d2) (t := ds[j]) (by omega) rfl (by simp) (by simp) ?_; simp
      have hin := m3 _ (List.getElem_mem u)
      simp [hin]
      rw [hw]
      exact ih (j + 1) (by omega) (by omega)
    · refine laws_within_k (ks := d2) (t := t0) (by omega) rfl (by simp) (by simp) ?_; simp
      simp [m4]
      cases one with
      | false =>
        simp
        repeat (refine ck_intro' (by first | omega | (simp; omega) | kernel_rfl) ?_; try simp [u])
        exact LeV.ro rfl rfl (by simp)
      | true =>
        rw [m5 rfl]
        simp
        refine laws_sameInts_k (ns := ds) (ms := ds) (by omega) (by omega) rfl (by simp) (by simp [noslBlks]) ?_; simp [shiftB]
        repeat (refine ck_intro' (by first | omega | (simp; omega) | kernel_rfl) ?_; try simp [u])
        exact LeV.ro rfl rfl (by simp)
end Go.Proofs.Ytfbfebaajdihiaa.C
