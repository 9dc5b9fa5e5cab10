/- All steps, in the reference. Conditions: those that each theorem names. -/
import Derived.Test.YtcfgiffgahdlbaaXE9
set_option linter.unusedVariables false
set_option linter.unusedSimpArgs false
set_option maxRecDepth 4000
namespace Go.Proofs.Ytcfgiffgahdlbaa.C
open Go.Sym Go.Proofs.Ytcfgiffgahdlbaa.I
/-- At a loop's head: places that nobody reads are left out. -/
theorem WLoop_env {P : Program} {S : FuncId → Bool} {B : Nat} {c : IC} {Q : Ex → Env → List Blk → Prop} {e : Env} {H : List Blk} (e' : Env) (he : ∀ t y, get e' t = some y → get e t = some y) (h : @WLoop' P S B c ⟨Q⟩ e' H) : @WLoop' P S B c ⟨Q⟩ e H :=
  WLoop_tell (fun c0 c _ hr hH hs => ⟨c, rfl, hH, hr, hs, fun _ ha t y hy => ha t y (he t y hy)⟩) h
def passGo (ns : List Nd) (ks : List Int) : Nat → Nat → List Int → List Sp → Bool → List Int × List Sp × Bool
  | 0, _, st, out, m => (st, out, m)
  | n + 1, t, st, out, m =>
    if 0 ≤ sv st t then passGo ns ks n (t + 1) st out m
    else match stepF ns ks st t with
      | some s => passGo ns ks n (t + 1) (st.set t out.length) (out ++ [s]) true
      | none => passGo ns ks n (t + 1) st out m
def allGo (ns : List Nd) (ks : List Int) : Nat → List Int → List Sp → List Int × List Sp
  | 0, st, out => (st, out)
  | n + 1, st, out => if (passGo ns ks ns.length 0 st out false).2.2 = true then allGo ns ks n (passGo ns ks ns.length 0 st out false).1 (passGo ns ks ns.length 0 st out false).2.1
    else ((passGo ns ks ns.length 0 st out false).1, (passGo ns ks ns.length 0 st out false).2.1)
def allV (ns : List Nd) (ks : List Int) : List Sp := (allGo ns ks (ns.length + 1) (List.replicate ns.length (-1)) []).2
/-- What ProofAll answers. -/
def allSt (ns : List Nd) (ks : List Int) : List Sp := if kpF ns ks = true then allV ns ks else []
def negs (st : List Int) : Nat := st.countP fun x => decide (x < 0)
theorem negs_set {st : List Int} {t : Nat} (ht : t < st.length) (h : st[t] < 0) {v : Int} (hv : 0 ≤ v) : negs (st.set t v) + 1 = negs st := by
  have hp : 0 < st.countP fun x => decide (x < 0) := List.countP_pos_iff.2 ⟨st[t], List.getElem_mem ht, by simpa using h⟩
  have hv' : ¬ v < 0 := by omega
  simp only [negs]
  rw [List.countP_set ht]
  simp [h, hv']
  omega
theorem negs_rep (n : Nat) : negs (List.replicate n (-1)) = n := by simp [negs, List.countP_replicate]
theorem allGo_end {ns : List Nd} {ks : List Int} {k : Nat} {st st' : List Int} {out out' : List Sp} (h : passGo ns ks ns.length 0 st out false = (st', out', false)) : (allGo ns ks (k + 1) st out).2 = out' := by simp [allGo, h]
theorem allGo_more {ns : List Nd} {ks : List Int} {k : Nat} {st st' : List Int} {out out' : List Sp} (h : passGo ns ks ns.length 0 st out false = (st', out', true)) : (allGo ns ks (k + 1) st out).2 = (allGo ns ks k st' out').2 := by simp [allGo, h]
def fillI (n i : Nat) : List Int := List.replicate i (-1) ++ List.replicate (n - i) 0
theorem fillI_len {n i : Nat} (h : i ≤ n) : (fillI n i).length = n := by simp [fillI]; omega
theorem fillI_set {n i : Nat} (h : i < n) : (fillI n i).set i (-1) = fillI n (i + 1) := by
  have e : n - i = (n - (i + 1)) + 1 := by omega
  simp only [fillI]
  rw [List.set_append_right _ _ (by simp), List.length_replicate, Nat.sub_self, e, List.replicate_succ, List.set_cons_zero, List.replicate_succ' (n := i), List.append_assoc]
  rfl
theorem spec_ProofAll_c (ns : List Nd) (ks : List Int) (hl : ns.length < 9223372036854775807) (hk : ks.length < 9223372036854775807) : T 24 [aP ns, aI ks] [] (tref' 0 (allSt ns ks)) ([tblk (allSt ns ks)]) := by
  refine semT' (S := S0) hm spec_ProofAll_ok (Nat.le_of_ble_eq_true rfl) ?_
  unfold spec_ProofAll; dsimp only
  simp
  refine spec_KnowOk_k (ns := ns) (ks := ks) hl rfl (by simp) (by simp [noslBlks]) ?_; simp [shiftB]
  refine br_intro' (fun hkp => ?_) (fun hkp => ?_) <;> simp [hkp]
  rotate_left
  · rw [show allSt ns ks = [] from if_neg (by simp [hkp])]
    first | (refine LeV.tell [none] ?_ ?_ ?_ <;> (simp; done)) | (refine LeV.tell [some 0] ?_ ?_ ?_ <;> (simp; done)) | (refine LeV.tell [some 1] ?_ ?_ ?_ <;> (simp; done)) | (refine LeV.tell [some 2] ?_ ?_ ?_ <;> (simp; done)) | (refine LeV.tell [some 3] ?_ ?_ ?_ <;> (simp; done)) | (refine LeV.tell [some 4] ?_ ?_ ?_ <;> (simp; done)) | (refine LeV.tell [some 5] ?_ ?_ ?_ <;> (simp; done)) | (refine LeV.tell [some 6] ?_ ?_ ?_ <;> (simp; done)) | (refine LeV.tell [some 7] ?_ ?_ ?_ <;> (simp; done)) | (refine LeV.tell [some 8] ?_ ?_ ?_ <;> (simp; done)) | (refine LeV.tell [some 9] ?_ ?_ ?_ <;> (simp; done)) | (refine LeV.tell [some 10] ?_ ?_ ?_ <;> (simp; done)) | (refine LeV.tell [some 11] ?_ ?_ ?_ <;> (simp; done)) | (refine LeV.tell [some 12] ?_ ?_ ?_ <;> (simp; done)) | (refine LeV.tell [some 13] ?_ ?_ ?_ <;> (simp; done)) | (refine LeV.tell [some 14] ?_ ?_ ?_ <;> (simp; done)) | (refine LeV.tell [some 15] ?_ ?_ ?_ <;> (simp; done))
  have hp := kpF_pool hkp
  have h5 := poolF_len hp
  rw [show allSt ns ks = allV ns ks from if_pos hkp]
  refine ck_intro' (by omega) ?_; simp
  rw [← ints_rep', show List.replicate ns.length (0 : Int) = fillI ns.length 0 by simp [fillI]]
  refine WLoop_fam (fun i : Nat => [(1, aI ks), (2, A.ptr 0 0 0), (5, A.nil), (6, A.ref 1 0 0 ns.length), (7, i6 i)]) (fun i => [⟨0, false, 1, [A.sl ns.length (enc ns)], none⟩, ⟨0, false, 1, ints (fillI ns.length i), none⟩]) (fun i => ns.length - i)
    (fun i => i ≤ ns.length) ?_ 0 (Nat.zero_le _)
  intro i hi ih
  simp
  refine br_intro' (fun h => ?_) (fun h => ?_) <;> (have h0 := h) <;> (try simp at h) <;> try simp [h0, h]
  · have h' := h
    have hw := wrap_succ (n := i) (by omega)
    have hfl := fillI_len hi
    repeat (refine ck_intro' (by first | omega | (simp; omega) | kernel_rfl) ?_; try simp [h', hfl, ints_set', fillI_set h', hw])
    exact ih (i + 1) h' (by omega)
  have hi0 : i = ns.length := by omega
  subst hi0
  rw [show fillI ns.length ns.length = List.replicate ns.length (-1) by simp [fillI]]
  have hav : allV ns ks = (allGo ns ks (ns.length + 1) (List.replicate ns.length (-1)) []).2 := rfl
  refine WLoop_virt 4 [(1, aI ks), (2, A.ptr 0 0 0), (5, A.ref 2 0 0 0), (6, A.ref 1 0 0 ns.length), (8, A.bool true)] ?_ ?_
  · intro t y hy
    simp [Sym.get] at hy ⊢
    (repeat' split at hy) <;> simp_all
  refine WLoop_fam (fun p : List Int × List Sp × Bool => [(1, aI ks), (2, A.ptr 0 0 0), (5, tref' 2 p.2.1), (6, A.ref 1 0 0 ns.length), (8, A.bool p.2.2)]) (fun p => [⟨0, false, 1, [A.sl ns.length (enc ns)], none⟩, ⟨0, false, 1, ints p.1, none⟩, tblk p.2.1]) (fun p => 2 * negs p.1 + p.2.2.toNat)
    (fun p => p.1.length = ns.length ∧ p.2.1.length + negs p.1 = ns.length ∧ (p.2.2 = false → allV ns ks = p.2.1) ∧ ∃ k, negs p.1 ≤ k ∧ (p.2.2 = true → allV ns ks = (allGo ns ks (k + 1) p.1 p.2.1).2)) ?_ (List.replicate ns.length (-1), [], true) ⟨by simp, by simp [negs_rep], by simp, ns.length, by simp [negs_rep], fun _ => rfl⟩
  rintro ⟨st, out, more⟩ ⟨hst, hon, hfin, k, hnk, hgo⟩ ih
  simp only at hst hon hfin hnk hgo
  cases more with
  | false =>
    simp
    rw [hfin rfl]
    first | (refine LeV.tell [none] ?_ ?_ ?_ <;> (simp; done)) | (refine LeV.tell [some 0] ?_ ?_ ?_ <;> (simp; done)) | (refine LeV.tell [some 1] ?_ ?_ ?_ <;> (simp; done)) | (refine LeV.tell [some 2] ?_ ?_ ?_ <;> (simp; done)) | (refine LeV.tell [some 3] ?_ ?_ ?_ <;> (simp; done)) | (refine LeV.tell [some 4] ?_ ?_ ?_ <;> (simp; done)) | (refine LeV.tell [some 5] ?_ ?_ ?_ <;> (simp; done)) | (refine LeV.tell [some 6] ?_ ?_ ?_ <;> (simp; done)) | (refine LeV.tell [some 7] ?_ ?_ ?_ <;> (simp; done)) | (refine LeV.tell [some 8] ?_ ?_ ?_ <;> (simp; done)) | (refine LeV.tell [some 9] ?_ ?_ ?_ <;> (simp; done)) | (refine LeV.tell [some 10] ?_ ?_ ?_ <;> (simp; done)) | (refine LeV.tell [some 11] ?_ ?_ ?_ <;> (simp; done)) | (refine LeV.tell [some 12] ?_ ?_ ?_ <;> (simp; done)) | (refine LeV.tell [some 13] ?_ ?_ ?_ <;> (simp; done)) | (refine LeV.tell [some 14] ?_ ?_ ?_ <;> (simp; done)) | (refine LeV.tell [some 15] ?_ ?_ ?_ <;> (simp; done))
  | true =>
    simp
    refine WLoop_fam (fun p : Nat × List Int × List Sp × Bool => [(1, aI ks), (2, A.ptr 0 0 0), (5, tref' 2 p.2.2.1), (6, A.ref 1 0 0 ns.length), (8, A.bool p.2.2.2), (9, i6 p.1)]) (fun p => [⟨0, false, 1, [A.sl ns.length (enc ns)], none⟩, ⟨0, false, 1, ints p.2.1, none⟩, tblk p.2.2.1]) (fun p => ns.length - p.1)
      (fun p => p.1 ≤ ns.length ∧ p.2.1.length = ns.length ∧ p.2.2.1.length + negs p.2.1 = ns.length ∧ negs p.2.1 ≤ negs st ∧ (p.2.2.2 = true → negs p.2.1 < negs st) ∧ passGo ns ks ns.length 0 st out false = passGo ns ks (ns.length - p.1) p.1 p.2.1 p.2.2.1 p.2.2.2) ?_ (0, st, out, false) ⟨Nat.zero_le _, hst, hon, Nat.le_refl _, by simp, rfl⟩
    rintro ⟨t, st1, out1, m1⟩ ⟨htl, hst1, hon1, hle, hlt, hpg⟩ ih2
    simp only at htl hst1 hon1 hle hlt hpg
    simp
    refine br_intro' (fun u => ?_) (fun u => ?_) <;> (have u0 := u) <;> simp at u <;> simp [u0, u]
    · have htn : t < ns.length := by omega
      have hts : t < st1.length := by omega
      have hw := wrap_succ (n := t) (by omega)
      have hpn : passGo ns ks (ns.length - t) t st1 out1 m1 = if 0 ≤ st1[t] then passGo ns ks (ns.length - (t + 1)) (t + 1) st1 out1 m1
        else match stepF ns ks st1 t with
        | some s => passGo ns ks (ns.length - (t + 1)) (t + 1) (st1.set t out1.length) (out1 ++ [s]) true
        | none => passGo ns ks (ns.length - (t + 1)) (t + 1) st1 out1 m1 := by
        rw [show ns.length - t = (ns.length - (t + 1)) + 1 by omega, passGo, sv_nat hts]
      simp [hst1, htn]
      refine br_intro' (fun g => ?_) (fun g => ?_) <;> (have g0 := g) <;> simp only [decide_eq_true_eq, decide_eq_false_iff_not] at g <;> simp [g0, g]
      · rw [hw]
        exact ih2 (t + 1, st1, out1, m1) ⟨by omega, hst1, hon1, hle, hlt, by rw [hpg, hpn, if_pos g]⟩ (by simp; omega)
      · refine spec_l9Step_k (ns := ns) (ks := ks) (st := st1) (t := t) hl hk hp hst1 (hasF_of htn) rfl (by simp [← hst1]) (by simp) ?_; simp
        have hneg : st1[t] < 0 := by omega
        have hns := negs_set hts hneg (v := (out1.length : Int)) (by omega)
        have hlo : out1.length < 500 := by omega
        rcases hs : stepF ns ks st1 t with _ | s
        · simp [optS]
          rw [hw]
          refine WLoop_drop [⟨0, false, 1, [A.sl ns.length (enc ns)], none⟩, ⟨0, false, 1, ints st1, none⟩, tblk out1] [_] rfl (by simp) (by simp) (by simp) ?_
          exact ih2 (t + 1, st1, out1, m1) ⟨by omega, hst1, hon1, hle, hlt, by rw [hpg, hpn, if_neg g, hs]⟩ (by simp; omega)
        · simp [optS, hst1, htn]
          repeat (refine ck_intro' (by first | omega | (simp; omega) | kernel_rfl) ?_; try simp [hst1, htn, ints_set', hw])
          refine WLoop_drop [⟨0, false, 1, [A.sl ns.length (enc ns)], none⟩, ⟨0, false, 1, ints (st1.set t out1.length), none⟩, tblk (out1 ++ [s])] [_, _] (by simp [encS_snoc]; exact ⟨rfl, rfl⟩) (by simp) (by simp) (by simp) ?_
          rw [show A.ref 2 (out1.length + 1) 0 (out1.length + 1) = tref' 2 (out1 ++ [s]) by simp]
          exact ih2 (t + 1, st1.set t out1.length, out1 ++ [s], true) ⟨by omega, by simp [hst1], by simp; omega, by simp; omega, fun _ => by simp; omega, by rw [hpg, hpn, if_neg g, hs]⟩ (by simp; omega)
    · have htn : t = ns.length := by omega
      subst htn
      rw [Nat.sub_self] at hpg
      refine WLoop_env [(1, aI ks), (2, A.ptr 0 0 0), (5, tref' 2 out1), (6, A.ref 1 0 0 ns.length), (8, A.bool m1)] ?_ ?_
      · intro t y hy
        simp [Sym.get] at hy ⊢
        (repeat' split at hy) <;> simp_all
      refine ih (st1, out1, m1) ⟨hst1, hon1, ?_, ?_⟩ ?_
      · intro e
        simp only at e
        subst e
        rw [hgo rfl, allGo_end hpg]
      · cases m1 with
        | false => exact ⟨_, Nat.le_refl _, by simp⟩
        | true =>
          have := hlt rfl
          obtain ⟨k', rfl⟩ : ∃ k', k = k' + 1 := ⟨k - 1, by omega⟩
          exact ⟨k', by simp; omega, fun _ => by rw [hgo rfl, allGo_more hpg]⟩
      · cases m1 with
        | false => simp; omega
        | true => have := hlt rfl; simp; omega
theorem spec_ProofAll_k {ns : List Nd} {ks : List Int} (hl : ns.length < 9223372036854775807) (hk : ks.length < 9223372036854775807) {S : FuncId → Bool} {H : List Blk} {K : A → Dl → Prop} {zs : List A} (hS : S 24 = false) (hv : viewL (viewA 8 H) zs = some [aP ns, aI ks]) (ho : noOwns zs = true ∨ nosl (tref' 0 (allSt ns ks)) = true ∧ noslBlks ([tblk (allSt ns ks)]) = true) (hK : K (shiftA H.length (tref' 0 (allSt ns ks))) (.news (([tblk (allSt ns ks)]).map (shiftB H.length)))) : @WCall' Go.Proofs.Try.prog S 24 zs H ⟨K⟩ :=
  WCall_ro' hS hv (spec_ProofAll_c ns ks hl hk) rfl ho hK
end Go.Proofs.Ytcfgiffgahdlbaa.C
