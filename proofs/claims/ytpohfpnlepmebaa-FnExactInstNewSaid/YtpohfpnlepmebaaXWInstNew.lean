/- The law FnExactInstNew: every call of it answers true. Conditions: those that each theorem names. -/
import Derived.Test.YtpohfpnlepmebaaXIN1IN5
set_option linter.unusedVariables false
set_option linter.unusedSimpArgs false
set_option maxRecDepth 40000
set_option maxHeartbeats 4000000
namespace Go.Proofs.Ytpohfpnlepmebaa.C
open Go.Sym Go.Proofs.Ytpohfpnlepmebaa.I
def mkI (k : Int) : Nat → List Int
  | 0 => []
  | n + 1 => mkI k n ++ [k + n]
@[simp] theorem mkI_len (k : Int) (n : Nat) : (mkI k n).length = n := by induction n with | zero => rfl | succ n ih => simp [mkI, ih]
@[simp] theorem mkI_take (k : Int) (n : Nat) : (ints (mkI k n)).take n = ints (mkI k n) := List.take_of_length_le (by simp)
theorem mkI_get (k : Int) : ∀ (n j : Nat) (h : j < (mkI k n).length), (mkI k n)[j] = k + j
  | 0, j, h => by simp at h
  | n + 1, j, h => by
    simp only [mkI]
    rcases Nat.lt_or_ge j n with g | g
    · rw [List.getElem_append_left (by simpa using g)]
      exact mkI_get k n j (by simpa using g)
    · have : j = n := by simp at h; omega
      subst this
      simp
theorem mkI_set (k : Int) (ns : List Int) (j : Nat) (h : j < ns.length) : (mkI k j ++ ns.drop j).set j (k + j) = mkI k (j + 1) ++ ns.drop (j + 1) := by
  rw [List.set_append_right _ _ (by simp), mkI_len, Nat.sub_self, List.drop_eq_getElem_cons h, List.set_cons_zero]
  simp [mkI]
theorem laws_markIntS_m (H : List Blk) (nb v : Nat) (ro : Bool) (ns : List Int) (k : Int) (hH : H[nb]? = some ⟨v, ro, 1, ints ns, none⟩) (hro : ro = true → ns = []) (hl : ns.length ≤ 4294967296) (hk : 0 ≤ k) (hk2 : k ≤ 1099511627776) : T 39 [.ref nb v 0 ns.length, i6 k] (H) (i6 (k + ns.length)) (H.set nb ⟨v, ro, 1, ints (mkI k ns.length), none⟩) := by
  refine semT' (S := S0) hm laws_markIntS_ok (Nat.le_of_ble_eq_true rfl) ?_
  unfold laws_markIntS; dsimp only
  have hlt : nb < H.length := (List.getElem?_eq_some_iff.1 hH).1
  have hs0 : H.set nb ⟨v, ro, 1, ints (mkI k 0 ++ ns.drop 0), none⟩ = H := set_self (by simpa [mkI] using hH)
  simp
  generalize hB : H.length = B
  rw [← hs0]
  refine WLoop_fam (fun p : Nat × Int => [(0, A.ref nb v 0 ns.length), (1, i6 p.2), (5, i6 p.1)]) (fun p => H.set nb ⟨v, ro, 1, ints (mkI k p.1 ++ ns.drop p.1), none⟩) (fun p => ns.length - p.1)
    (fun p => p.1 ≤ ns.length ∧ p.2 = k + p.1) ?_ (0, k) ⟨Nat.zero_le _, by simp⟩
  rintro ⟨j, k'⟩ ⟨hj, hk'⟩ ih
  simp at hk' hj
  subst hk'
  have hlen : (mkI k j ++ ns.drop j).length = ns.length := by simp; omega
  simp [hlt]
  refine br_intro' (fun h => ?_) (fun h => ?_) <;> (have h0 := h) <;> (try simp at h) <;> try simp [h0, h]
  · have h' := h
    have hr : ro = false := by cases ro with | false => rfl | true => rw [hro rfl] at h; simp at h
    subst hr
    have w1 : IntKind.i64.wrap (k + (j : Int) + 1) = k + j + 1 := wrap64 (by omega) (by omega)
    have hw : IntKind.i64.wrap ((j : Int) + 1) = j + 1 := wrap64 (by omega) (by omega)
    have hc : j + (ns.length - j) = ns.length := by omega
    simp [h', hlt, hc, w1, hw]
    refine ck_intro' (by omega) ?_; simp [h', hlt, hc, w1, hw]
    have e3 := ints_set (mkI k j ++ ns.drop j) j (k + j)
    rw [mkI_set k ns j h'] at e3
    rw [e3]
    exact ih (j + 1, k + j + 1) ⟨h', by push_cast; omega⟩ (by simp; omega)
  · have e : j = ns.length := by omega
    subst e
    simp
    exact LeV.refl _ _ _
theorem laws_heldIntS_c (n : Nat) (k : Int) (hl : n ≤ 4294967296) (hk : 0 ≤ k) (hk2 : k ≤ 1099511627776) : T 41 [.sl n (ints (mkI k n)), i6 k] [] (i6 (k + n)) ([]) := by
  refine semT' (S := S0) hm laws_heldIntS_ok (Nat.le_of_ble_eq_true rfl) ?_
  unfold laws_heldIntS; dsimp only
  simp
  refine WLoop_fam (fun p : Nat × Int => [(0, .sl n (ints (mkI k n))), (1, i6 p.2), (5, i6 p.1)]) (fun _ => []) (fun p => n - p.1)
    (fun p => p.1 ≤ n ∧ p.2 = k + p.1) ?_ (0, k) ⟨Nat.zero_le _, by simp⟩
  rintro ⟨j, k'⟩ ⟨hj, hk'⟩ ih
  simp at hk' hj
  subst hk'
  simp
  refine br_intro' (fun h => ?_) (fun h => ?_) <;> (have h0 := h) <;> (try simp at h) <;> try simp [h0, h]
  · have h' := h
    have w1 : IntKind.i64.wrap (k + (j : Int) + 1) = k + j + 1 := wrap64 (by omega) (by omega)
    have hw : IntKind.i64.wrap ((j : Int) + 1) = j + 1 := wrap64 (by omega) (by omega)
    simp [h', mkI_get, w1, hw]
    exact ih (j + 1, k + j + 1) ⟨h', by push_cast; omega⟩ (by simp; omega)
  · have e : j = n := by omega
    subst e
    exact LeV.ro rfl rfl (by simp)
theorem laws_heldIntS_call {n : Nat} {k : Int} (hl : n ≤ 4294967296) (hk : 0 ≤ k) (hk2 : k ≤ 1099511627776) {S : FuncId → Bool} {H : List Blk} {K : A → Dl → Prop} (hS : S 41 = false) (hK : K (i6 (k + n)) (.news [])) : @WCall' Go.Proofs.Try.prog S 41 [.sl n (ints (mkI k n)), i6 k] H ⟨K⟩ :=
  WCall_pure hS (laws_heldIntS_c n k hl hk hk2) (by simp) (by simp) (by simp) hK
theorem laws_heldIntS_k {n : Nat} {k : Int} (hl : n ≤ 4294967296) (hk : 0 ≤ k) (hk2 : k ≤ 1099511627776) {S : FuncId → Bool} {H : List Blk} {K : A → Dl → Prop} {zs : List A} (hS : S 41 = false) (hv : viewL (viewA 8 H) zs = some [.sl n (ints (mkI k n)), i6 k]) (ho : noOwns zs = true ∨ nosl (i6 (k + n)) = true) (hK : K (i6 (k + n)) (.news [])) : @WCall' Go.Proofs.Try.prog S 41 zs H ⟨K⟩ :=
  WCall_pure hS (laws_heldIntS_c n k hl hk hk2) hv ho (by simp) hK
theorem nmF_keep : ∀ (l : List (Int × Nat)) (ns : List Nd) (ks : List Int) (p : List Nd × List Int), poolF ns = true → nmF l ns ks = some p → poolF p.1 = true ∧ p.2.length = ks.length
  | [], ns, ks, p, hp, h => by
    simp only [nmF, Option.some.injEq] at h
    subst h
    exact ⟨hp, rfl⟩
  | (x, i) :: l, ns, ks, p, hp, h => by
    rw [nmF_cons] at h
    split at h
    · cases h
    · obtain ⟨h1, h2⟩ := nmF_keep l _ _ p (addF_pool _ hp) h
      exact ⟨h1, by rw [h2]; simp⟩
theorem ino_len (ns : List Nd) (w s a b : Int) : (iN ns (inoF ns w s a b)).length ≤ 500 ∧ (iK (inoF ns w s a b)).length ≤ 26 := by
  have hnone : (iN ns none).length ≤ 500 ∧ (iK none).length ≤ 26 := by
    refine ⟨?_, by simp [iK]⟩
    simp only [iN]
    split
    · rename_i hp; exact poolF_len hp
    · simp
  unfold inoF
  split
  · rename_i h
    unfold insF
    cases e : nmF (nmL a.toNat b.toNat) ns e26 with
    | none => exact hnone
    | some p =>
      obtain ⟨h1, h2⟩ := nmF_keep _ _ _ _ h.1 e
      simp only [Option.bind_some]
      split
      · exact hnone
      · refine ⟨poolF_len (addF_pool _ (addF_pool _ h1)), ?_⟩
        simp [h2]
  · exact hnone
abbrev aInst (b : Nat) (w s x y k : Int) (ks : List Int) : A := .agg [i6 w, i6 s, i6 x, i6 y, i6 0, jref b ks, .bool false, .bool false, i6 k]
abbrev vInst (w s x y k : Int) (ks : List Int) : A := .agg [i6 w, i6 s, i6 x, i6 y, i6 0, aI ks, .bool false, .bool false, i6 k]
theorem laws_eqInst_c (w s x y k : Int) (ks : List Int) (hl : ks.length < 9223372036854775807) : T 9 [vInst w s x y k ks, vInst w s x y k ks] [] (.bool true) ([]) := by
  refine semT' (S := S0) hm laws_eqInst_ok (Nat.le_of_ble_eq_true rfl) ?_
  unfold laws_eqInst; dsimp only
  simp
  refine laws_eqIntS_k (ns := ks) (ms := ks) hl hl rfl (by simp) (by simp [noslBlks]) ?_; simp [shiftB]
  exact LeV.ro rfl rfl (by simp)
theorem laws_eqInst_call {w s x y k : Int} {ks : List Int} (hl : ks.length < 9223372036854775807) {S : FuncId → Bool} {H : List Blk} {K : A → Dl → Prop} (hS : S 9 = false) (hK : K (.bool true) (.news [])) : @WCall' Go.Proofs.Try.prog S 9 [vInst w s x y k ks, vInst w s x y k ks] H ⟨K⟩ :=
  WCall_pure hS (laws_eqInst_c w s x y k ks hl) (by simp) (by simp) (by simp) hK
theorem laws_eqInst_k {w s x y k : Int} {ks : List Int} (hl : ks.length < 9223372036854775807) {S : FuncId → Bool} {H : List Blk} {K : A → Dl → Prop} {zs : List A} (hS : S 9 = false) (hv : viewL (viewA 8 H) zs = some [vInst w s x y k ks, vInst w s x y k ks]) (ho : noOwns zs = true ∨ nosl (.bool true) = true) (hK : K (.bool true) (.news [])) : @WCall' Go.Proofs.Try.prog S 9 zs H ⟨K⟩ :=
  WCall_pure hS (laws_eqInst_c w s x y k ks hl) hv ho (by simp) hK
theorem laws_markInst_m (H : List Blk) (b0 : Nat) (w s x y k0 : Int) (ks : List Int) (k : Int) (m1 : ks.length ≤ 4294967296) (h0 : H[b0]? = some (jblk ks)) (hk : 0 ≤ k) (hk2 : k ≤ 4294967296) (hcl : Closed1 H.length H = true) : T 11 [aInst b0 w s x y k0 ks, i6 k] (H) (i6 (k + ks.length)) (H.set b0 ⟨ks.length, decide (ks.length = 0), 1, ints (mkI k ks.length), none⟩) := by
  refine semT' (S := (fun f => [39].contains f)) hm laws_markInst_ok (Nat.le_of_ble_eq_true rfl) ?_
  unfold laws_markInst; dsimp only
  have l0 : b0 < H.length := (List.getElem?_eq_some_iff.1 h0).1
  have fin : ∀ {α : Type} {G : List α} {n : Nat} (x : α) (b : Nat), b ∉ [n] → (G.set n x)[b]? = G[b]? := fun x b hb => by simp at hb; rw [List.getElem?_set_ne (Ne.symm hb)]
  simp
  refine WCall_t' rfl [b0] (laws_markIntS_m (H ++ [_]) b0 ks.length (decide (ks.length = 0)) ks k (by rw [get_left l0]; exact h0) (by simp) m1 hk (by omega)) (by simp) (fun b hb _ => fin _ _ hb) ?_
  simp [set_left l0]
  exact LeV.drop (by simp) (by simpa using Closed1_set (by simp) _ _ hcl) (by simp)
theorem laws_heldInst_c (m : Nat) (w s x y k0 : Int) (k : Int) (m1 : m ≤ 4294967296) (hk : 0 ≤ k) (hk2 : k ≤ 4294967296) : T 13 [vInst w s x y k0 (mkI k m), i6 k] [] (i6 (k + m)) ([]) := by
  refine semT' (S := S0) hm laws_heldInst_ok (Nat.le_of_ble_eq_true rfl) ?_
  unfold laws_heldInst; dsimp only
  have e1 : ¬ k + (m : Int) < 0 := by omega
  simp
  refine laws_heldIntS_k (n := m) (k := k) m1 (by omega) (by omega) rfl (by simp) (by simp) ?_; simp [e1]
  exact LeV.ro rfl rfl (by simp)
theorem laws_heldInst_call {m : Nat} {w s x y k0 : Int} {k : Int} (m1 : m ≤ 4294967296) (hk : 0 ≤ k) (hk2 : k ≤ 4294967296) {S : FuncId → Bool} {H : List Blk} {K : A → Dl → Prop} (hS : S 13 = false) (hK : K (i6 (k + m)) (.news [])) : @WCall' Go.Proofs.Try.prog S 13 [vInst w s x y k0 (mkI k m), i6 k] H ⟨K⟩ :=
  WCall_pure hS (laws_heldInst_c m w s x y k0 k m1 hk hk2) (by simp) (by simp) (by simp) hK
theorem laws_heldInst_k {m : Nat} {w s x y k0 : Int} {k : Int} (m1 : m ≤ 4294967296) (hk : 0 ≤ k) (hk2 : k ≤ 4294967296) {S : FuncId → Bool} {H : List Blk} {K : A → Dl → Prop} {zs : List A} (hS : S 13 = false) (hv : viewL (viewA 8 H) zs = some [vInst w s x y k0 (mkI k m), i6 k]) (ho : noOwns zs = true ∨ nosl (i6 (k + m)) = true) (hK : K (i6 (k + m)) (.news [])) : @WCall' Go.Proofs.Try.prog S 13 zs H ⟨K⟩ :=
  WCall_pure hS (laws_heldInst_c m w s x y k0 k m1 hk hk2) hv ho (by simp) hK
theorem laws_FnExactInstNew_c (ns : List Nd) (w s a b : Int) (h1 : ns.length < 9223372036854775808) (h2 : In64 w) (h3 : In64 s) (h4 : In64 a) (h5 : In64 b) : T 3 [aP ns, i6 w, i6 s, i6 a, i6 b] [] (.bool true) ([]) := by
  refine semT' (S := (fun f => [10, 38, 39, 11].contains f)) hm laws_FnExactInstNew_ok (Nat.le_of_ble_eq_true rfl) ?_
  unfold laws_FnExactInstNew; dsimp only
  simp
  refine laws_szPool_call (ns := ns) (x := 1048576) h1 (by omega) (by omega) rfl ?_; simp
  refine br_intro' (fun g => ?_) (fun g => ?_) <;> simp only [decide_eq_true_eq, decide_eq_false_iff_not, szF_neg] at g <;> simp [szF_neg, g]
  · exact LeV.ro rfl rfl rfl
  have hl : ns.length ≤ 4294967296 := by omega
  obtain ⟨hR, hR3⟩ := ino_len ns w s a b
  obtain ⟨o, eo⟩ : ∃ o, inoF ns w s a b = o := ⟨_, rfl⟩
  rw [eo] at hR hR3
  have hw : -9223372036854775808 ≤ w ∧ w < 9223372036854775808 := by
    simp [In64] at h2
    omega
  refine laws_toPool_k (ns := ns) hl rfl (by simp) (by simp [noslBlks]) ?_; simp [shiftB]
  refine spec_InstNew_k (ns := ns) (w := w) (s := s) (a := a) (b := b) (by omega) rfl (by simp) (by simp [noslBlks]) ?_; simp [shiftB]
  refine laws_toPool_k (ns := ns) hl rfl (by simp) (by simp [noslBlks]) ?_; simp [shiftB]
  refine impl_InstNew_k (ns := ns) (w := w) (s := s) (a := a) (b := b) (by omega) hw.1 hw.2 rfl (by simp) (by simp [noslBlks]) ?_; simp [shiftB]
  rw [eo]
  refine laws_eqPool_k (ns := iN ns o) (ms := iN ns o) (by omega) (by omega) rfl (by simp) (by simp [noslBlks]) ?_; simp [shiftB]
  refine laws_eqInst_k (w := iI o w) (s := iI o s) (x := iI o a) (y := iI o b) (k := iI o (-1)) (ks := iK o) (by omega) rfl (by simp) (by simp [noslBlks]) ?_; simp [shiftB]
  repeat (refine ck_intro' (by first | omega | (simp; omega) | kernel_rfl) ?_; try simp)
  refine laws_toPool_k (ns := ns) hl rfl (by simp) (by simp [noslBlks]) ?_; simp [shiftB]
  refine laws_eqPool_k (ns := ns) (ms := ns) (by omega) (by omega) rfl (by simp) (by simp [noslBlks]) ?_; simp [shiftB]
  first | (refine ck_intro' (by kernel_rfl) ?_; try simp) | skip
  have k1 : ¬ 1 + 3 * (ns.length : Int) < 0 := by omega
  have k2 : ¬ 1 + 3 * ((iN ns o).length : Int) < 0 := by omega
  have k3 : ¬ 1 + 3 * ((iN ns o).length : Int) + (iK o).length < 0 := by omega
  refine WCall_t' rfl [6] (laws_markPool_m _ 6 ns.length false ns 1 (by simp) (by simp) hl (by omega) (by omega) (by simp [inAs_scals _ (ints_scals (iK o))])) (by simp) (fun b hb _ => by simp at hb; rw [List.getElem?_set_ne (Ne.symm hb)]) ?_; simp
  simp [k1]
  refine laws_eqPool_k (ns := iN ns o) (ms := iN ns o) (by omega) (by omega) rfl (by simp) (by simp [noslBlks]) ?_; simp [shiftB]
  refine laws_eqInst_k (w := iI o w) (s := iI o s) (x := iI o a) (y := iI o b) (k := iI o (-1)) (ks := iK o) (by omega) rfl (by simp) (by simp [noslBlks]) ?_; simp [shiftB]
  repeat (refine ck_intro' (by first | omega | (simp; omega) | kernel_rfl) ?_; try simp)
  refine WCall_t' rfl [8] (laws_markPool_m _ 8 (iN ns o).length (decide (iN ns o = [])) (iN ns o) 1 (by simp) (by simp) (by omega) (by omega) (by omega) (by simp [inAs_scals _ (ints_scals (iK o))])) (by simp) (fun b hb _ => by simp at hb; rw [List.getElem?_set_ne (Ne.symm hb)]) ?_; simp
  refine WCall_t' rfl [9] (laws_markInst_m _ 9 (iI o w) (iI o s) (iI o a) (iI o b) (iI o (-1)) (iK o) (1 + 3 * (iN ns o).length) (by omega) (by simp) (by omega) (by omega) (by simp [inAs_scals _ (ints_scals (iK o))])) (by simp) (fun b hb _ => by simp at hb; rw [List.getElem?_set_ne (Ne.symm hb)]) ?_; simp
  refine laws_heldPool_k (n := (iN ns o).length) (k := 1) (by omega) (by omega) (by omega) rfl (by simp) (by simp [noslBlks]) ?_; simp [shiftB]
  simp [k2]
  refine laws_heldInst_k (m := (iK o).length) (w := iI o w) (s := iI o s) (x := iI o a) (y := iI o b) (k0 := iI o (-1)) (k := 1 + 3 * (iN ns o).length) (by omega) (by omega) (by omega) rfl (by simp) (by simp [noslBlks]) ?_; simp [shiftB]
  simp [k3]
  refine laws_toPool_k (ns := ns) hl rfl (by simp) (by simp [noslBlks]) ?_; simp [shiftB]
  refine impl_InstNew_k (ns := ns) (w := w) (s := s) (a := a) (b := b) (by omega) hw.1 hw.2 rfl (by simp) (by simp [noslBlks]) ?_; simp [shiftB]
  rw [eo]
  refine laws_eqPool_k (ns := iN ns o) (ms := iN ns o) (by omega) (by omega) rfl (by simp) (by simp [noslBlks]) ?_; simp [shiftB]
  refine laws_eqInst_k (w := iI o w) (s := iI o s) (x := iI o a) (y := iI o b) (k := iI o (-1)) (ks := iK o) (by omega) rfl (by simp) (by simp [noslBlks]) ?_; simp [shiftB]
  repeat (refine ck_intro' (by first | omega | (simp; omega) | kernel_rfl) ?_; try simp)
  refine laws_heldPool_k (n := (iN ns o).length) (k := 1) (by omega) (by omega) (by omega) rfl (by simp) (by simp [noslBlks]) ?_; simp [shiftB]
  simp [k2]
  refine laws_heldInst_k (m := (iK o).length) (w := iI o w) (s := iI o s) (x := iI o a) (y := iI o b) (k0 := iI o (-1)) (k := 1 + 3 * (iN ns o).length) (by omega) (by omega) (by omega) rfl (by simp) (by simp [noslBlks]) ?_; simp [shiftB]
  simp [k3]
  exact LeV.ro rfl rfl rfl
end Go.Proofs.Ytpohfpnlepmebaa.C
