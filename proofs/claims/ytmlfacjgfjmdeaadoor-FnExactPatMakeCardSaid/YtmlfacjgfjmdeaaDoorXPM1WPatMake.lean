/- Raising in a pool; values of letters. Conditions: those that each theorem names. -/
import Derived.Test.YtmlfacjgfjmdeaaDoorXX18X29
set_option linter.unusedVariables false
set_option linter.unusedSimpArgs false
set_option maxRecDepth 4000
namespace Go.Proofs.YtmlfacjgfjmdeaaDoor.C
open Go.Sym Go.Proofs.YtmlfacjgfjmdeaaDoor.I
theorem hasF_nat {m : Nat} {t : Int} (h : hasF m t = true) : ∃ j : Nat, t = j ∧ j < m := by
  simp [hasF, inF] at h
  exact ⟨t.toNat, by omega, by omega⟩
def ndG (ns : List Nd) (t : Int) : Nd := ns.getD t.toNat ⟨0, 0, 0⟩
theorem ndG_at {ns : List Nd} {j : Nat} (h : j < ns.length) : ndG ns (j : Int) = ns[j] := by simp [ndG, h]
/-- A shared key's two parts. -/
def raiF (ns : List Nd) (t x : Int) : List Nd × Int := if hasF ns.length t = true ∧ hasF ns.length x = true ∧ (ndG ns t).k = 7 then addF ns ⟨8, x, (ndG ns t).a⟩ else (ns, -1)
theorem spec_l3Raise_c (ns : List Nd) (t x : Int) (hp : poolF ns = true) : T 92 [aP ns, i6 t, i6 x] [] (.tup [aP (raiF ns t x).1, i6 (raiF ns t x).2]) ([]) := by
  refine semT' (S := S0) hm spec_l3Raise_ok (Nat.le_of_ble_eq_true rfl) ?_
  unfold spec_l3Raise; dsimp only
  have hl := poolF_len hp
  simp
  refine spec_l1Has_k (ns := ns) (t := t) (by omega) rfl (by simp) (by simp) ?_; simp
  rcases Bool.eq_false_or_eq_true (hasF ns.length t) with q | q <;> simp [q]
  · refine spec_l1Has_k (ns := ns) (t := x) (by omega) rfl (by simp) (by simp) ?_; simp
    rcases Bool.eq_false_or_eq_true (hasF ns.length x) with r | r <;> simp [r]
    · obtain ⟨j, rfl, hj⟩ := hasF_nat q
      obtain ⟨e, he⟩ := enc_at hj
      have h3 : 3 ≤ ns.length * 3 - j * 3 := by omega
      simp [hj, he, h3]
      refine br_intro' (fun u => ?_) (fun u => ?_) <;> (have u0 := u) <;> simp only [decide_eq_true_eq, decide_eq_false_iff_not] at u <;> simp [u0, hj, he, h3]
      · rw [show raiF ns j x = addF ns ⟨8, x, ns[j].a⟩ by simp only [raiF, ndG_at hj]; exact if_pos ⟨q, r, u⟩]
        have h4 : 1 ≤ ns.length * 3 - (j * 3 + 1) := by omega
        have ga : (enc ns)[j * 3 + 1]? = some (i6 ns[j].a) := by
          have := congrArg (·[1]?) he
          simpa [List.getElem?_drop] using this
        refine spec_l1Add_k (ns := ns) (n := ⟨8, x, ns[j].a⟩) hp rfl (by simp) (by simp) ?_; simp
        repeat (refine ck_intro' (by first | omega | (simp; omega) | kernel_rfl) ?_; try simp)
        exact LeV.ro rfl rfl (by simp)
      · rw [show raiF ns j x = (ns, -1) by simp only [raiF, ndG_at hj]; exact if_neg (fun h => u h.2.2)]
        exact LeV.ro rfl rfl (by simp)
    · exact LeV.ro rfl rfl (by simp [raiF, r])
  · exact LeV.ro rfl rfl (by simp [raiF, q])
theorem spec_l3Raise_call {ns : List Nd} {t x : Int} (hp : poolF ns = true) {S : FuncId → Bool} {H : List Blk} {K : A → Dl → Prop} (hS : S 92 = false) (hK : K (.tup [aP (raiF ns t x).1, i6 (raiF ns t x).2]) (.news [])) : @WCall' Go.Proofs.Tryd.prog S 92 [aP ns, i6 t, i6 x] H ⟨K⟩ :=
  WCall_pure hS (spec_l3Raise_c ns t x hp) (by simp) (by simp) (by simp) hK
theorem spec_l3Raise_k {ns : List Nd} {t x : Int} (hp : poolF ns = true) {S : FuncId → Bool} {H : List Blk} {K : A → Dl → Prop} {zs : List A} (hS : S 92 = false) (hv : viewL (viewA 8 H) zs = some [aP ns, i6 t, i6 x]) (ho : noOwns zs = true ∨ nosl (.tup [aP (raiF ns t x).1, i6 (raiF ns t x).2]) = true) (hK : K (.tup [aP (raiF ns t x).1, i6 (raiF ns t x).2]) (.news [])) : @WCall' Go.Proofs.Tryd.prog S 92 zs H ⟨K⟩ :=
  WCall_pure hS (spec_l3Raise_c ns t x hp) hv ho (by simp) hK
theorem impl_Pool_raise_m (H : List Blk) (b off nb vb eb : Nat) (cb : List A) (ns : List Nd) (t x : Int) (h : PIn H b off nb cb) (hl : ns.length ≤ 500) : T 98 [.ptr b vb off, i6 t, i6 x] (pset H b off nb vb eb cb ns) (i6 (raiF ns t x).2) (pset H b off nb vb eb cb (raiF ns t x).1) := by
  refine semT' (S := (fun f => [99].contains f)) hm impl_Pool_raise_ok (Nat.le_of_ble_eq_true rfl) ?_
  unfold impl_Pool_raise; dsimp only
  have gb := h.at_b vb eb ns
  have gn := h.at_nb vb eb ns
  obtain ⟨rr, hrr0⟩ := h.rest
  have hrr : viewL (viewA 7 (pset H b off nb vb eb cb ns)) (cb.drop (off + 1)) = some rr := hrr0 _ fun q hq h1 h2 => by
    simp only [pset]
    rw [List.getElem?_set_ne (Ne.symm h1), List.getElem?_set_ne (Ne.symm h2)]
  have hd := set_drop cb off (pref nb ns) h.olt
  simp
  have fin0 : raiF ns t x = (ns, -1) → LeV H.length (i6 (-1)) (pset H b off nb vb eb cb ns) (i6 (raiF ns t x).2) (pset H b off nb vb eb cb (raiF ns t x).1) := by
    intro e
    rw [e]
    exact LeV.refl _ _ _
  refine WCall_pure rfl (impl_Pool_isTerm_c ns rr t (by omega)) (by simp [gb, gn, hd, hrr]) (by simp) (by simp) ?_; simp
  rcases Bool.eq_false_or_eq_true (hasF ns.length t) with q | q <;> simp [q]
  · refine WCall_pure rfl (impl_Pool_isTerm_c ns rr x (by omega)) (by simp [gb, gn, hd, hrr]) (by simp) (by simp) ?_; simp
    rcases Bool.eq_false_or_eq_true (hasF ns.length x) with r | r <;> simp [r]
    · obtain ⟨j, rfl, hj⟩ := hasF_nat q
      obtain ⟨e, he⟩ := enc_at hj
      have h3 : 3 ≤ ns.length * 3 - j * 3 := by omega
      simp [gb, gn, hd, hj, he, h3]
      refine br_intro' (fun u => ?_) (fun u => ?_) <;> (have u0 := u) <;> simp only [decide_eq_true_eq, decide_eq_false_iff_not] at u <;> simp [u0, gb, gn, hd, hj, he, h3]
      · have h4 : 1 ≤ ns.length * 3 - (j * 3 + 1) := by omega
        have hz : raiF ns j x = addF ns ⟨8, x, ns[j].a⟩ := by simp only [raiF, ndG_at hj]; exact if_pos ⟨q, r, u⟩
        rw [hz]
        have ga := (enc_gets hj).2.1
        simp [ga]
        refine pool_call rfl b off nb vb eb cb ns (addF ns ⟨8, x, ns[j].a⟩).1 (h.pset vb eb ns) (pset_pset h vb eb ns ns) (by rw [pset_pset h, pset_pset h]; exact impl_Pool_add_m H b off nb vb eb cb ns 8 x ns[j].a h hl) ?_
        simp [pset_pset h]
        exact LeV.refl _ _ _
      · exact fin0 (by simp only [raiF, ndG_at hj]; exact if_neg (fun g => u g.2.2))
    · exact fin0 (by simp [raiF, r])
  · exact fin0 (by simp [raiF, q])
end Go.Proofs.YtmlfacjgfjmdeaaDoor.C

set_option linter.unusedVariables false
set_option linter.unusedSimpArgs false
set_option maxRecDepth 4000
namespace Go.Proofs.YtmlfacjgfjmdeaaDoor.C
open Go.Sym Go.Proofs.YtmlfacjgfjmdeaaDoor.I
def okV (m : Nat) (ks : List Int) (i : Nat) : Bool := decide (ks.getD i 0 = -1) || hasF m (ks.getD i 0)
def envF (m : Nat) (ks : List Int) : Bool := allF (okV m ks) ks.length 0 && decide (ks.length = 26)
theorem okV_at {m : Nat} {ks : List Int} {j : Nat} (h : j < ks.length) : okV m ks j = (decide (ks[j] = -1) || hasF m ks[j]) := by simp [okV, h]
theorem spec_l11Env_c (ns : List Nd) (ks : List Int) (hl : ns.length < 9223372036854775807) (hk : ks.length < 9223372036854775807) : T 62 [aP ns, aI ks] [] (.bool (envF ns.length ks)) ([]) := by
  refine semT' (S := S0) hm spec_l11Env_ok (Nat.le_of_ble_eq_true rfl) ?_
  unfold spec_l11Env; dsimp only
  simp
  refine br_intro' (fun u => ?_) (fun u => ?_) <;> (have u0 := u) <;> simp only [decide_eq_true_eq, decide_eq_false_iff_not] at u <;> simp [u0]
  case refine_2 => exact LeV.ro rfl rfl (by simp [envF]; intro _; omega)
  have h26 : ks.length = 26 := by omega
  refine WLoop_fam (fun j : Nat => [(1, aI ks), (2, A.ptr 0 0 0), (5, i6 j)]) (fun _ => [⟨0, false, 1, [A.sl ns.length (enc ns)], none⟩]) (fun j => ks.length - j)
    (fun j => j ≤ ks.length ∧ allF (okV ns.length ks) ks.length 0 = allF (okV ns.length ks) ks.length j) ?_ 0 ⟨Nat.zero_le _, rfl⟩
  intro j ⟨hj, hf⟩ ih
  simp
  refine br_intro' (fun v => ?_) (fun v => ?_) <;> (have v0 := v) <;> simp only [decide_eq_true_eq, decide_eq_false_iff_not] at v <;> simp [v0]
  · have h' : j < ks.length := by omega
    have hw := wrap_succ (n := j) (by omega)
    by_cases g : ks[j] = -1
    · simp [h', g, hw]
      repeat (refine ck_intro' (by first | omega | (simp; omega) | kernel_rfl) ?_; try simp)
      try rw [hw]
      exact ih (j + 1) ⟨h', by rw [hf, allF_at h', okV_at h', g]; simp⟩ (by omega)
    · simp [h', g]
      refine spec_l1Has_k (ns := ns) (t := ks[j]) (by omega) rfl (by simp) (by simp) ?_; simp
      repeat (refine ck_intro' (by first | omega | (simp; omega) | kernel_rfl) ?_; try simp)
      rcases Bool.eq_false_or_eq_true (hasF ns.length ks[j]) with q | q <;> simp [q, hw]
      · exact ih (j + 1) ⟨h', by rw [hf, allF_at h', okV_at h', q]; simp⟩ (by omega)
      · exact LeV.ro rfl rfl (by simp only [envF]; rw [hf, allF_at h', okV_at h', q]; simp [g])
  · exact LeV.ro rfl rfl (by simp only [envF]; rw [hf, allF_end (by omega)]; simp [h26])
theorem spec_l11Env_call {ns : List Nd} {ks : List Int} (hl : ns.length < 9223372036854775807) (hk : ks.length < 9223372036854775807) {S : FuncId → Bool} {H : List Blk} {K : A → Dl → Prop} (hS : S 62 = false) (hK : K (.bool (envF ns.length ks)) (.news [])) : @WCall' Go.Proofs.Tryd.prog S 62 [aP ns, aI ks] H ⟨K⟩ :=
  WCall_pure hS (spec_l11Env_c ns ks hl hk) (by simp) (by simp) (by simp) hK
theorem spec_l11Env_k {ns : List Nd} {ks : List Int} (hl : ns.length < 9223372036854775807) (hk : ks.length < 9223372036854775807) {S : FuncId → Bool} {H : List Blk} {K : A → Dl → Prop} {zs : List A} (hS : S 62 = false) (hv : viewL (viewA 8 H) zs = some [aP ns, aI ks]) (ho : noOwns zs = true ∨ nosl (.bool (envF ns.length ks)) = true) (hK : K (.bool (envF ns.length ks)) (.news [])) : @WCall' Go.Proofs.Tryd.prog S 62 zs H ⟨K⟩ :=
  WCall_pure hS (spec_l11Env_c ns ks hl hk) hv ho (by simp) hK
theorem impl_EnvOk_c (ns : List Nd) (ks : List Int) (hl : ns.length < 9223372036854775807) (hk : ks.length < 9223372036854775807) : T 67 [aP ns, aI ks] [] (.bool (envF ns.length ks && poolF ns)) ([]) := by
  refine semT' (S := S0) hm impl_EnvOk_ok (Nat.le_of_ble_eq_true rfl) ?_
  unfold impl_EnvOk; dsimp only
  simp
  refine WLoop_fam (fun j : Nat => [(1, aI ks), (2, A.ptr 0 0 0), (7, aI ks), (8, i6 ks.length), (9, i6 j)]) (fun _ => [⟨0, false, 1, [A.sl ns.length (enc ns)], none⟩]) (fun j => ks.length - j)
    (fun j => j ≤ ks.length ∧ allF (okV ns.length ks) ks.length 0 = allF (okV ns.length ks) ks.length j) ?_ 0 ⟨Nat.zero_le _, rfl⟩
  intro j ⟨hj, hf⟩ ih
  simp
  refine br_intro' (fun v => ?_) (fun v => ?_) <;> (have v0 := v) <;> simp only [decide_eq_true_eq, decide_eq_false_iff_not] at v <;> simp [v0]
  · have h' : j < ks.length := by omega
    have hw := wrap_succ (n := j) (by omega)
    by_cases g : ks[j] = -1
    · simp [h', g, hw]
      repeat (refine ck_intro' (by first | omega | (simp; omega) | kernel_rfl) ?_; try simp)
      try rw [hw]
      exact ih (j + 1) ⟨h', by rw [hf, allF_at h', okV_at h', g]; simp⟩ (by omega)
    · simp [h', g]
      refine WCall_pure rfl (impl_Pool_isTerm_c ns [] ks[j] hl) (by simp) (by simp) (by simp) ?_; simp
      repeat (refine ck_intro' (by first | omega | (simp; omega) | kernel_rfl) ?_; try simp)
      rcases Bool.eq_false_or_eq_true (hasF ns.length ks[j]) with q | q <;> simp [q, hw]
      · exact ih (j + 1) ⟨h', by rw [hf, allF_at h', okV_at h', q]; simp⟩ (by omega)
      · exact LeV.ro rfl rfl (by simp only [envF]; rw [hf, allF_at h', okV_at h', q]; simp [g])
  · have he : allF (okV ns.length ks) ks.length 0 = true := by rw [hf, allF_end (by omega)]
    by_cases c : ks.length = 26
    · have c0 : decide ((ks.length : Int) = 26) = true := decide_eq_true (by omega)
      simp [c0]
      refine impl_PoolOk_call rfl ?_; simp
      exact LeV.ro rfl rfl (by simp only [envF]; rw [he]; simp [c])
    · have c0 : decide ((ks.length : Int) = 26) = false := decide_eq_false (by omega)
      simp [c0]
      exact LeV.ro rfl rfl (by simp [envF, c])
theorem impl_EnvOk_call {ns : List Nd} {ks : List Int} (hl : ns.length < 9223372036854775807) (hk : ks.length < 9223372036854775807) {S : FuncId → Bool} {H : List Blk} {K : A → Dl → Prop} (hS : S 67 = false) (hK : K (.bool (envF ns.length ks && poolF ns)) (.news [])) : @WCall' Go.Proofs.Tryd.prog S 67 [aP ns, aI ks] H ⟨K⟩ :=
  WCall_pure hS (impl_EnvOk_c ns ks hl hk) (by simp) (by simp) (by simp) hK
theorem impl_EnvOk_k {ns : List Nd} {ks : List Int} (hl : ns.length < 9223372036854775807) (hk : ks.length < 9223372036854775807) {S : FuncId → Bool} {H : List Blk} {K : A → Dl → Prop} {zs : List A} (hS : S 67 = false) (hv : viewL (viewA 8 H) zs = some [aP ns, aI ks]) (ho : noOwns zs = true ∨ nosl (.bool (envF ns.length ks && poolF ns)) = true) (hK : K (.bool (envF ns.length ks && poolF ns)) (.news [])) : @WCall' Go.Proofs.Tryd.prog S 67 zs H ⟨K⟩ :=
  WCall_pure hS (impl_EnvOk_c ns ks hl hk) hv ho (by simp) hK
end Go.Proofs.YtmlfacjgfjmdeaaDoor.C

set_option linter.unusedVariables false
set_option linter.unusedSimpArgs false
set_option maxRecDepth 4000
namespace Go.Proofs.YtmlfacjgfjmdeaaDoor.C
open Go.Sym Go.Proofs.YtmlfacjgfjmdeaaDoor.I
@[simp] theorem encLs_view (n : Nat) (H : List Blk) (xs : List Ln) : viewL (viewA (n + 1) H) (encLs xs) = some (encLs xs) := viewL_scals _ (encLs_scals xs)
@[simp] theorem encLs_noOwns (xs : List Ln) : noOwns (encLs xs) = true := noOwns_scals _ (encLs_scals xs)
def lnG (L : List Ln) (t : Int) : Ln := L.getD t.toNat ⟨0, 0, 0, false⟩
/-- What a node makes, n deep at the most. -/
def mkL (L : List Ln) (ks : List Int) : Nat → List Nd → Int → List Nd × Int
  | 0, ns, _ => (ns, -1)
  | n + 1, ns, t =>
    if (lnG L t).q = true then (ns, -1)
    else if (lnG L t).k = 9 then (ns, ks.getD (lnG L t).a.toNat 0)
    else if (lnG L t).k = 1 then addF ns ⟨1, (lnG L t).a, 0⟩
    else if (mkL L ks n ns (lnG L t).a).2 < 0 then (ns, -1)
    else if lpF (lnG L t).k = 1 then addF (mkL L ks n ns (lnG L t).a).1 ⟨(lnG L t).k, (mkL L ks n ns (lnG L t).a).2, 0⟩
    else if (mkL L ks n (mkL L ks n ns (lnG L t).a).1 (lnG L t).b).2 < 0 then (ns, -1)
    else if (lnG L t).k = 10 then raiF (mkL L ks n (mkL L ks n ns (lnG L t).a).1 (lnG L t).b).1 (mkL L ks n (mkL L ks n ns (lnG L t).a).1 (lnG L t).b).2 (mkL L ks n ns (lnG L t).a).2
    else addF (mkL L ks n (mkL L ks n ns (lnG L t).a).1 (lnG L t).b).1 ⟨(lnG L t).k, (mkL L ks n ns (lnG L t).a).2, (mkL L ks n (mkL L ks n ns (lnG L t).a).1 (lnG L t).b).2⟩
theorem raiF_pool {ns : List Nd} (t x : Int) (hp : poolF ns = true) : poolF (raiF ns t x).1 = true := by
  unfold raiF
  split
  · exact addF_pool _ hp
  · exact hp
theorem mkL_pool {L : List Ln} {ks : List Int} : ∀ (n : Nat) {ns : List Nd} (t : Int), poolF ns = true → poolF (mkL L ks n ns t).1 = true
  | 0, ns, t, hp => hp
  | n + 1, ns, t, hp => by
    have h1 := mkL_pool (L := L) (ks := ks) n (lnG L t).a hp
    have h2 := mkL_pool (L := L) (ks := ks) n (lnG L t).b h1
    unfold mkL
    repeat' split
    all_goals first | exact hp | exact addF_pool _ hp | exact addF_pool _ h1 | exact addF_pool _ h2 | exact raiF_pool _ _ h2
/-- Nodes that are parts of later ones. -/
def LOk (L : List Ln) : Prop := ∀ (j : Nat) (h : j < L.length), (L[j].k = 9 ∧ 0 ≤ L[j].a ∧ L[j].a < 26) ∨ L[j].k = 1 ∨ (L[j].k ≠ 9 ∧ L[j].k ≠ 1 ∧ lpF L[j].k = 1 ∧ 0 ≤ L[j].a ∧ L[j].a < j) ∨ (L[j].k ≠ 9 ∧ L[j].k ≠ 1 ∧ lpF L[j].k ≠ 1 ∧ 0 ≤ L[j].a ∧ L[j].a < j ∧ 0 ≤ L[j].b ∧ L[j].b < j)
theorem spec_l11Make_t {L : List Ln} {ks : List Int} (hL : LOk L) (hk : ks.length = 26) (hl : L.length < 9223372036854775807) : ∀ (n j : Nat) (ns : List Nd), j < n → j < L.length → poolF ns = true → T 64 [aP ns, aI ks, .sl L.length (encLs L), i6 j] [] (.tup [aP (mkL L ks n ns j).1, i6 (mkL L ks n ns j).2]) []
  | 0, j, ns, h, _, _ => by omega
  | n + 1, j, ns, hj, hjL, hp => by
    have ih := spec_l11Make_t hL hk hl n
    have hns := poolF_len hp
    have hlj := hL j hjL
    have hg : lnG L (j : Int) = L[j] := by simp [lnG, hjL]
    refine semT' (S := S0) hm spec_l11Make_ok (Nat.le_of_ble_eq_true rfl) ?_
    unfold spec_l11Make; dsimp only
    obtain ⟨r, hr⟩ := encLs_at hjL
    have h4 : 4 ≤ L.length * 4 - j * 4 := by omega
    have hst : mkL L ks (n + 1) ns (j : Int) = mkL L ks (n + 1) ns (j : Int) := rfl
    conv at hst => rhs; unfold mkL
    rw [hg] at hst
    generalize hN : L[j] = p at hlj hr hst
    simp [hjL, h4, hr]
    refine br_intro' (fun u => ?_) (fun u => ?_) <;> simp [u]
    · rw [hst, if_pos u]
      exact LeV.ro rfl rfl (by simp)
    rw [if_neg (by simp [u])] at hst
    refine br_intro' (fun v => ?_) (fun v => ?_) <;> (have v0 := v) <;> simp only [decide_eq_true_eq, decide_eq_false_iff_not] at v <;> simp [v0]
    · rw [if_pos v] at hst
      obtain ⟨q, hq⟩ : ∃ q : Nat, p.a = q := ⟨p.a.toNat, by omega⟩
      have hq2 : q < ks.length := by omega
      rw [hq] at hst ⊢
      refine ck_intro' (by omega) ?_; simp [hq2]
      repeat (refine ck_intro' (by first | omega | (simp; omega) | kernel_rfl) ?_; try simp)
      exact LeV.ro rfl rfl (by rw [hst]; simp [hq2])
    rw [if_neg v] at hst
    refine br_intro' (fun w => ?_) (fun w => ?_) <;> (have w0 := w) <;> simp only [decide_eq_true_eq, decide_eq_false_iff_not] at w <;> simp [w0]
    · rw [if_pos w] at hst
      refine spec_l2Name_k (ns := ns) (x := p.a) hp rfl (by simp) (by simp) ?_; simp
      repeat (refine ck_intro' (by first | omega | (simp; omega) | kernel_rfl) ?_; try simp)
      exact LeV.ro rfl rfl (by rw [hst]; simp)
    rw [if_neg w] at hst
    have hA := mkL_pool (L := L) (ks := ks) n p.a hp
    have hB := mkL_pool (L := L) (ks := ks) n p.b hA
    obtain ⟨qa, hqa⟩ : ∃ q : Nat, p.a = q := ⟨p.a.toNat, by omega⟩
    have hqa2 : qa < j := by omega
    have ihA := ih qa ns (by omega) (by omega) hp
    rw [hqa] at hst hA hB ⊢
    refine WCall_pure rfl ihA (by simp) (by simp) (by simp) ?_; simp
    have ihB := fun (q : Nat) (h1 : q < n) (h2 : q < L.length) => ih q (mkL L ks n ns qa).1 h1 h2 hA
    generalize mkL L ks n ns qa = A at hst hA hB ihB ⊢
    refine br_intro' (fun x => ?_) (fun x => ?_) <;> (have x0 := x) <;> simp only [decide_eq_true_eq, decide_eq_false_iff_not] at x <;> simp [x0]
    · rw [if_pos x] at hst
      exact LeV.ro rfl rfl (by rw [hst]; simp)
    rw [if_neg x] at hst
    refine spec_l11Parts_k (n := ⟨p.k, qa, p.b, false⟩) rfl (by simp) (by simp) ?_; simp
    refine br_intro' (fun y => ?_) (fun y => ?_) <;> (have y0 := y) <;> simp only [decide_eq_true_eq, decide_eq_false_iff_not] at y <;> simp [y0]
    · rw [if_pos y] at hst
      refine spec_l1Add_k (ns := A.1) (n := ⟨p.k, A.2, 0⟩) hA rfl (by simp) (by simp) ?_; simp
      repeat (refine ck_intro' (by first | omega | (simp; omega) | kernel_rfl) ?_; try simp)
      exact LeV.ro rfl rfl (by rw [hst]; simp)
    rw [if_neg y] at hst
    obtain ⟨qb, hqb⟩ : ∃ q : Nat, p.b = q := ⟨p.b.toNat, by omega⟩
    have hqb2 : qb < j := by omega
    have ihB := ihB qb (by omega) (by omega)
    rw [hqb] at hst hB ⊢
    refine WCall_pure rfl ihB (by simp) (by simp) (by simp) ?_; simp
    generalize mkL L ks n A.1 qb = B at hst hB ⊢
    refine br_intro' (fun z => ?_) (fun z => ?_) <;> (have z0 := z) <;> simp only [decide_eq_true_eq, decide_eq_false_iff_not] at z <;> simp [z0]
    · rw [if_pos z] at hst
      exact LeV.ro rfl rfl (by rw [hst]; simp)
    rw [if_neg z] at hst
    refine br_intro' (fun c => ?_) (fun c => ?_) <;> (have c0 := c) <;> simp only [decide_eq_true_eq, decide_eq_false_iff_not] at c <;> simp [c0]
    · rw [if_pos c] at hst
      refine spec_l3Raise_k (ns := B.1) (t := B.2) (x := A.2) hB rfl (by simp) (by simp) ?_; simp
      repeat (refine ck_intro' (by first | omega | (simp; omega) | kernel_rfl) ?_; try simp)
      exact LeV.ro rfl rfl (by rw [hst]; simp)
    · rw [if_neg c] at hst
      refine spec_l1Add_k (ns := B.1) (n := ⟨p.k, A.2, B.2⟩) hB rfl (by simp) (by simp) ?_; simp
      repeat (refine ck_intro' (by first | omega | (simp; omega) | kernel_rfl) ?_; try simp)
      exact LeV.ro rfl rfl (by rw [hst]; simp)
end Go.Proofs.YtmlfacjgfjmdeaaDoor.C

set_option linter.unusedVariables false
set_option linter.unusedSimpArgs false
set_option maxRecDepth 4000
namespace Go.Proofs.YtmlfacjgfjmdeaaDoor.C
open Go.Sym Go.Proofs.YtmlfacjgfjmdeaaDoor.I
theorem pset_app {H T : List Blk} {b off nb : Nat} {cb : List A} (h : PIn H b off nb cb) (vb eb : Nat) (ns : List Nd) : pset (H ++ T) b off nb vb eb cb ns = pset H b off nb vb eb cb ns ++ T := by
  simp only [pset]
  rw [set_left h.nlt, set_left (by simpa using h.blt)]
theorem PIn.app {H T : List Blk} {b off nb : Nat} {cb : List A} (h : PIn H b off nb cb) (hT : Closed1 (H ++ T).length T = true) : PIn (H ++ T) b off nb cb := by
  have hle : H.length ≤ (H ++ T).length := by simp
  refine ⟨Nat.lt_of_lt_of_le h.blt hle, Nat.lt_of_lt_of_le h.nlt hle, h.ne, h.olt, Closed1_app hT _ (Closed1_mono hle _ h.cl), inAs_mono hle _ h.inc, ?_⟩
  obtain ⟨r, hr⟩ := h.rest
  exact ⟨r, fun G hG => hr G fun q h0 h1 h2 => (hG q (Nat.lt_of_lt_of_le h0 hle) h1 h2).trans (get_left h0)⟩
def ptG (s : List Pt) (t : Int) : Pt := s.getD t.toNat ⟨0, 0, []⟩
/-- What a piece makes, and the pool behind it whatever comes of it. -/
def mkP (s : List Pt) (ks : List Int) : Nat → List Nd → Int → List Nd × Int
  | 0, ns, _ => (ns, -1)
  | n + 1, ns, t =>
    if (ptG s t).s = 110 then addF ns ⟨1, (ptG s t).n, 0⟩
    else if (ptG s t).s = 36 then (ns, ks.getD (ptG s t).n.toNat 0)
    else if (ptG s t).s = 63 then (ns, -1)
    else if (mkP s ks n ns ((ptG s t).ps.getD 0 0)).2 < 0 then ((mkP s ks n ns ((ptG s t).ps.getD 0 0)).1, -1)
    else if (ptG s t).ps.length = 1 then addF (mkP s ks n ns ((ptG s t).ps.getD 0 0)).1 ⟨kindF (ptG s t).s, (mkP s ks n ns ((ptG s t).ps.getD 0 0)).2, 0⟩
    else if (mkP s ks n (mkP s ks n ns ((ptG s t).ps.getD 0 0)).1 ((ptG s t).ps.getD 1 0)).2 < 0 then ((mkP s ks n (mkP s ks n ns ((ptG s t).ps.getD 0 0)).1 ((ptG s t).ps.getD 1 0)).1, -1)
    else if (ptG s t).s = 120 then raiF (mkP s ks n (mkP s ks n ns ((ptG s t).ps.getD 0 0)).1 ((ptG s t).ps.getD 1 0)).1 (mkP s ks n (mkP s ks n ns ((ptG s t).ps.getD 0 0)).1 ((ptG s t).ps.getD 1 0)).2 (mkP s ks n ns ((ptG s t).ps.getD 0 0)).2
    else addF (mkP s ks n (mkP s ks n ns ((ptG s t).ps.getD 0 0)).1 ((ptG s t).ps.getD 1 0)).1 ⟨kindF (ptG s t).s, (mkP s ks n ns ((ptG s t).ps.getD 0 0)).2, (mkP s ks n (mkP s ks n ns ((ptG s t).ps.getD 0 0)).1 ((ptG s t).ps.getD 1 0)).2⟩
theorem raiF_len {ns : List Nd} (t x : Int) (h : ns.length ≤ 500) : (raiF ns t x).1.length ≤ 500 := by
  unfold raiF
  split
  · exact addF_len _ _ h
  · exact h
theorem mkP_len {s : List Pt} {ks : List Int} : ∀ (n : Nat) {ns : List Nd} (t : Int), ns.length ≤ 500 → (mkP s ks n ns t).1.length ≤ 500
  | 0, ns, t, hp => hp
  | n + 1, ns, t, hp => by
    have h1 := mkP_len (s := s) (ks := ks) n ((ptG s t).ps.getD 0 0) hp
    have h2 := mkP_len (s := s) (ks := ks) n ((ptG s t).ps.getD 1 0) h1
    unfold mkP
    repeat' split
    all_goals first | exact hp | exact h1 | exact h2 | exact addF_len _ _ hp | exact addF_len _ _ h1 | exact addF_len _ _ h2 | exact raiF_len _ _ h2
theorem pool_callT {f : FuncId} {S : FuncId → Bool} {K : A → Dl → Prop} {zs : List A} {r : A} (hS : S f = true) {H : List Blk} (T : List Blk) (b off nb vb eb : Nat) (cb : List A) (ns ns' : List Nd) (h : PIn H b off nb cb) (hT : Closed1 (H ++ T).length T = true)
    (hf : ∀ H', PIn H' b off nb cb → SemT Go.Proofs.Tryd.prog f zs (pset H' b off nb vb eb cb ns) r (pset H' b off nb vb eb cb ns')) (hK : K r (.full [nb, b] (pset H b off nb vb eb cb ns' ++ T))) : @WCall' Go.Proofs.Tryd.prog S f zs (pset H b off nb vb eb cb ns ++ T) ⟨K⟩ := by
  have h' := h.app hT
  rw [← pset_app h]
  exact pool_call hS b off nb vb eb cb ns ns' (h'.pset vb eb ns) (pset_pset h' vb eb ns ns) (by rw [pset_pset h', pset_pset h']; exact hf _ h') (by rw [pset_pset h', pset_app h]; exact hK)
theorem impl_pattern_make_t {s : List Pt} {ks : List Int} (hG : PGood s) (hl : s.length ≤ 1000000) (hk : ks.length = 26) : ∀ (n j : Nat), j < n → j < s.length → ∀ (H : List Blk) (b off nb vb eb : Nat) (cb : List A) (ns : List Nd), PIn H b off nb cb → ns.length ≤ 500 → T 69 [aPat s, .ptr b vb off, aI ks, i6 j] (pset H b off nb vb eb cb ns) (i6 (mkP s ks n ns j).2) (pset H b off nb vb eb cb (mkP s ks n ns j).1)
  | 0, j, h, _ => by omega
  | n + 1, j, hj, hjs => fun H b off nb vb eb cb ns h hns => by
    have ih := impl_pattern_make_t hG hl hk n
    have hp := hG j hjs
    have hg : ptG s (j : Int) = s[j] := by simp [ptG, hjs]
    refine semT' (S := (fun f => [69, 97, 99, 98].contains f)) hm impl_pattern_make_ok (Nat.le_of_ble_eq_true rfl) ?_
    unfold impl_pattern_make; dsimp only
    obtain ⟨r, hr⟩ := vPs_at hjs
    have h3 : 3 ≤ s.length * 3 - j * 3 := by omega
    have hst : mkP s ks (n + 1) ns (j : Int) = mkP s ks (n + 1) ns (j : Int) := rfl
    conv at hst => rhs; unfold mkP
    rw [hg] at hst
    have gb := h.at_b vb eb ns
    generalize hN : s[j] = p at hp hr hst
    simp [hjs, h3, hr]
    have hdrop : ∀ (ns' : List Nd) (T : List Blk) (x : Int), LeV H.length (i6 x) (pset H b off nb vb eb cb ns' ++ T) (i6 x) (pset H b off nb vb eb cb ns') := fun ns' T x => by
      have e := pset_len H b off nb vb eb cb ns'
      exact LeV.drop (by rw [e]; exact Nat.le_refl _) (by rw [e]; exact h.closed vb eb ns') (by simp)
    have hcT : Closed1 (H ++ [(⟨0, false, 1, [.int .u8 p.s, i6 p.n, aI p.ps], none⟩ : Blk)]).length [⟨0, false, 1, [.int .u8 p.s, i6 p.n, aI p.ps], none⟩] = true := by simp [inAs_scals _ (ints_scals p.ps)]
    have hcT2 : ∀ x y : Int, Closed1 (H ++ [(⟨0, false, 1, [.int .u8 p.s, i6 p.n, aI p.ps], none⟩ : Blk), ⟨0, false, 1, [i6 x, i6 y], none⟩]).length [⟨0, false, 1, [.int .u8 p.s, i6 p.n, aI p.ps], none⟩, ⟨0, false, 1, [i6 x, i6 y], none⟩] = true := fun x y => by simp [inAs_scals _ (ints_scals p.ps)]
    refine br_intro' (fun u => ?_) (fun u => ?_) <;> (have u0 := u) <;> simp only [decide_eq_true_eq, decide_eq_false_iff_not] at u <;> simp [u0]
    · rw [if_pos u] at hst
      rw [hst]
      refine pool_callT rfl [_] b off nb vb eb cb ns (addF ns ⟨1, p.n, 0⟩).1 h hcT (fun H' h' => impl_Pool_name_m H' b off nb vb eb cb ns p.n h' hns) ?_; simp
      exact hdrop _ _ _
    rw [if_neg u] at hst
    refine br_intro' (fun v => ?_) (fun v => ?_) <;> (have v0 := v) <;> simp only [decide_eq_true_eq, decide_eq_false_iff_not] at v <;> simp [v0]
    · rw [if_pos v] at hst
      have hpn : p.ps = [] := by
        rcases List.eq_nil_or_concat p.ps with e | e
        · exact e
        · rcases hp.sign (by obtain ⟨_, _, e⟩ := e; simp [e]) with g | g <;> omega
      have hlf := hp.leaf hpn
      obtain ⟨q, hq⟩ : ∃ q : Nat, p.n = q := ⟨p.n.toNat, by omega⟩
      have hq2 : q < ks.length := by omega
      rw [hst, hq]
      refine ck_intro' (by omega) ?_; simp [hq2]
      exact hdrop _ _ _
    rw [if_neg v] at hst
    refine br_intro' (fun w => ?_) (fun w => ?_) <;> (have w0 := w) <;> simp only [decide_eq_true_eq, decide_eq_false_iff_not] at w <;> simp [w0]
    · rw [if_pos w] at hst
      rw [hst]
      exact hdrop _ _ _
    rw [if_neg w] at hst
    have hpn : p.ps ≠ [] := fun e => by
      rcases hp.leaf e with g | g <;> omega
    rcases hp.sign hpn with ⟨hlen, hsg⟩ | ⟨hlen, hsg⟩
    · obtain ⟨a, c, hps⟩ := ps_two hlen
      have ha := hp.lt a (by simp [hps])
      have hc := hp.lt c (by simp [hps])
      obtain ⟨qa, rfl⟩ : ∃ q : Nat, a = q := ⟨a.toNat, by omega⟩
      obtain ⟨qc, rfl⟩ : ∃ q : Nat, c = q := ⟨c.toNat, by omega⟩
      have hcT3 := hcT2
      rw [hps] at hst hcT3 ⊢
      simp at hst
      have ihA := ih qa (by omega) (by omega)
      refine WLoop_step' ?_; simp
      have hA := mkP_len (s := s) (ks := ks) n qa hns
      refine pool_callT rfl [_, _] b off nb vb eb cb ns (mkP s ks n ns qa).1 h (hcT3 0 0) (fun H' h' => ihA H' b off nb vb eb cb ns h' hns) ?_; simp
      have ihC := fun H' h' => ih qc (by omega) (by omega) H' b off nb vb eb cb (mkP s ks n ns qa).1 h' hA
      have hC := mkP_len (s := s) (ks := ks) n qc hA
      generalize mkP s ks n ns qa = A at hst hA ihC hC ⊢
      refine br_intro' (fun x => ?_) (fun x => ?_) <;> (have x0 := x) <;> simp only [decide_eq_true_eq, decide_eq_false_iff_not] at x <;> simp [x0]
      · rw [if_pos x] at hst
        rw [hst]
        exact hdrop _ _ _
      rw [if_neg x] at hst
      rw [show IntKind.i64.wrap 1 = 1 from by decide]
      refine WLoop_step' ?_; simp
      refine pool_callT rfl [_, _] b off nb vb eb cb A.1 (mkP s ks n A.1 qc).1 h (hcT3 A.2 0) ihC ?_; simp
      generalize mkP s ks n A.1 qc = C at hst hC ⊢
      refine br_intro' (fun y => ?_) (fun y => ?_) <;> (have y0 := y) <;> simp only [decide_eq_true_eq, decide_eq_false_iff_not] at y <;> simp [y0]
      · rw [if_pos y] at hst
        rw [hst]
        exact hdrop _ _ _
      rw [if_neg y] at hst
      rw [show IntKind.i64.wrap 2 = 2 from by decide]
      refine WLoop_step' ?_; simp
      refine br_intro' (fun z => ?_) (fun z => ?_) <;> (have z0 := z) <;> simp only [decide_eq_true_eq, decide_eq_false_iff_not] at z <;> simp [z0]
      · rw [if_pos z] at hst
        rw [hst]
        refine pool_callT rfl [_, _] b off nb vb eb cb C.1 (raiF C.1 C.2 A.2).1 h (hcT3 A.2 C.2) (fun H' h' => impl_Pool_raise_m H' b off nb vb eb cb C.1 C.2 A.2 h' hC) ?_; simp
        exact hdrop _ _ _
      · rw [if_neg z] at hst
        rw [hst]
        refine impl_kindOf_call (x := p.s) rfl ?_; simp
        refine pool_callT rfl [_, _] b off nb vb eb cb C.1 (addF C.1 ⟨kindF p.s, A.2, C.2⟩).1 h (hcT3 A.2 C.2) (fun H' h' => impl_Pool_add_m H' b off nb vb eb cb C.1 (kindF p.s) A.2 C.2 h' hC) ?_; simp
        trace_state
        repeat (refine ck_intro' (by first | omega | (simp; omega) | kernel_rfl) ?_; try simp)
        exact hdrop _ _ _
    · obtain ⟨a, hps⟩ := ps_one hlen
      have ha := hp.lt a (by simp [hps])
      obtain ⟨qa, rfl⟩ : ∃ q : Nat, a = q := ⟨a.toNat, by omega⟩
      have hcT3 := hcT2
      rw [hps] at hst hcT3 ⊢
      simp at hst
      have ihA := ih qa (by omega) (by omega)
      refine WLoop_step' ?_; simp
      have hA := mkP_len (s := s) (ks := ks) n qa hns
      refine pool_callT rfl [_, _] b off nb vb eb cb ns (mkP s ks n ns qa).1 h (hcT3 0 0) (fun H' h' => ihA H' b off nb vb eb cb ns h' hns) ?_; simp
      generalize mkP s ks n ns qa = A at hst hA ⊢
      refine br_intro' (fun x => ?_) (fun x => ?_) <;> (have x0 := x) <;> simp only [decide_eq_true_eq, decide_eq_false_iff_not] at x <;> simp [x0]
      · rw [if_pos x] at hst
        rw [hst]
        exact hdrop _ _ _
      rw [if_neg x] at hst
      rw [show IntKind.i64.wrap 1 = 1 from by decide]
      refine WLoop_step' ?_; simp
      have z0 : decide (p.s = 120) = false := decide_eq_false (by omega)
      simp [z0]
      rw [hst]
      refine impl_kindOf_call (x := p.s) rfl ?_; simp
      refine pool_callT rfl [_, _] b off nb vb eb cb A.1 (addF A.1 ⟨kindF p.s, A.2, 0⟩).1 h (hcT3 A.2 0) (fun H' h' => impl_Pool_add_m H' b off nb vb eb cb A.1 (kindF p.s) A.2 0 h' hA) ?_; simp
      repeat (refine ck_intro' (by first | omega | (simp; omega) | kernel_rfl) ?_; try simp)
      exact hdrop _ _ _
end Go.Proofs.YtmlfacjgfjmdeaaDoor.C

set_option linter.unusedVariables false
set_option linter.unusedSimpArgs false
set_option maxRecDepth 4000
namespace Go.Proofs.YtmlfacjgfjmdeaaDoor.C
open Go.Sym Go.Proofs.YtmlfacjgfjmdeaaDoor.I
theorem nodesL_get {s : List Pt} {j : Nat} (h : j < s.length) : lnG (nodesL s) (j : Int) = nodeL ((nodesL s).take j) s[j] := by
  simp only [lnG, Int.toNat_natCast, List.getD_eq_getElem?_getD, nodesL_at h, Option.getD_some]
theorem sign_two {c : Int} (h : c = 40 ∨ c = 123 ∨ c = 91 ∨ c = 107 ∨ c = 42 ∨ c = 120) : pkF c ≠ 9 ∧ pkF c ≠ 1 ∧ lpF (pkF c) ≠ 1 ∧ (c = 120 ↔ pkF c = 10) ∧ (c ≠ 120 → kindF c = pkF c) := by
  rcases h with rfl | rfl | rfl | rfl | rfl | rfl <;> decide
theorem sign_one {c : Int} (h : c = 35 ∨ c = 94) : pkF c ≠ 9 ∧ pkF c ≠ 1 ∧ lpF (pkF c) = 1 ∧ kindF c = pkF c := by
  rcases h with rfl | rfl <;> decide
theorem LOk_nodes {s : List Pt} (hG : PGood s) : LOk (nodesL s) := by
  intro j h
  have hl : j < s.length := by simpa using h
  have hp := hG j hl
  have e : (nodesL s)[j] = nodeL ((nodesL s).take j) s[j] := by
    have := nodesL_at hl
    rw [List.getElem?_eq_getElem h] at this
    exact Option.some.inj this
  rw [e]
  generalize s[j] = p at hp
  by_cases hn : p.ps = []
  · rcases hp.leaf hn with ⟨g, _, _⟩ | ⟨g, g1, g2⟩
    · right; left
      simp [nodeL, g]; decide
    · left
      rcases g with g | g <;> simp [nodeL, hn, g, g1, g2] <;> decide
  · rcases hp.sign hn with ⟨hlen, hsg⟩ | ⟨hlen, hsg⟩
    · obtain ⟨a, c, hps⟩ := ps_two hlen
      have ha := hp.lt a (by simp [hps])
      have hc := hp.lt c (by simp [hps])
      obtain ⟨z1, z2, z3, _, _⟩ := sign_two hsg
      right; right; right
      simp [nodeL, hps]
      exact ⟨z1, z2, z3, ha.1, ha.2, hc.1, hc.2⟩
    · obtain ⟨a, hps⟩ := ps_one hlen
      have ha := hp.lt a (by simp [hps])
      obtain ⟨z1, z2, z3, _⟩ := sign_one hsg
      right; right; left
      simp [nodeL, hps]
      exact ⟨z1, z2, z3, ha.1, ha.2⟩
theorem lnG_ask (L : List Ln) (t : Int) : (lnG L t).q = askAt L t := by
  simp only [lnG, askAt]
theorem mkP_mkL {s : List Pt} {ks : List Int} (hG : PGood s) : ∀ (n j : Nat) (ns : List Nd), j < s.length → (lnG (nodesL s) j).q = false → (mkP s ks n ns j).2 = (mkL (nodesL s) ks n ns j).2 ∧ (¬ (mkP s ks n ns j).2 < 0 → (mkP s ks n ns j).1 = (mkL (nodesL s) ks n ns j).1)
  | 0, j, ns, _, _ => ⟨rfl, fun _ => rfl⟩
  | n + 1, j, ns, hj, hq => by
    have ih := mkP_mkL (ks := ks) hG n
    have hp := hG j hj
    have hg : ptG s (j : Int) = s[j] := by simp [ptG, hj]
    have hN := nodesL_get hj
    unfold mkP mkL
    rw [if_neg (show ¬ (lnG (nodesL s) (j : Int)).q = true by simp [hq])]
    rw [hN] at hq ⊢
    rw [hg]
    generalize s[j] = p at hp hq
    by_cases hn : p.ps = []
    · rcases hp.leaf hn with ⟨g, _, _⟩ | ⟨g | g, g1, g2⟩
      · simp [nodeL, hn, g, show pkF 110 = 1 from by decide]
      · simp [nodeL, hn, g, show pkF 36 = 9 from by decide]
      · exfalso
        simp [nodeL, hn, g] at hq
    · rcases hp.sign hn with ⟨hlen, hsg⟩ | ⟨hlen, hsg⟩
      · obtain ⟨a, c, hps⟩ := ps_two hlen
        have ha := hp.lt a (by simp [hps])
        have hc := hp.lt c (by simp [hps])
        obtain ⟨qa, rfl⟩ : ∃ q : Nat, a = q := ⟨a.toNat, by omega⟩
        obtain ⟨qc, rfl⟩ : ∃ q : Nat, c = q := ⟨c.toNat, by omega⟩
        obtain ⟨z1, z2, z3, z4, z5⟩ := sign_two hsg
        simp only [nodeL, hps] at hq
        simp at hq
        rw [askAt_take (by omega) (by omega), askAt_take (by omega) (by omega)] at hq
        obtain ⟨A1, A2⟩ := ih qa ns (by omega) (by rw [lnG_ask]; exact hq.1)
        have B := fun ns' => ih qc ns' (by omega) (by rw [lnG_ask]; exact hq.2)
        have n1 : ¬ p.s = 110 := by omega
        have n2 : ¬ p.s = 36 := by omega
        have n3 : ¬ p.s = 63 := by omega
        simp only [nodeL, hps, n1, n2, n3, z1, z2, z3, if_false]
        simp
        by_cases x : (mkP s ks n ns qa).2 < 0
        · have x2 : (mkL (nodesL s) ks n ns qa).2 < 0 := by rw [← A1]; exact x
          simp [x, x2]
        · have E : mkP s ks n ns qa = mkL (nodesL s) ks n ns qa := Prod.ext (A2 x) A1
          rw [E] at x ⊢
          simp only [x, if_false]
          obtain ⟨B1, B2⟩ := B (mkL (nodesL s) ks n ns qa).1
          by_cases y : (mkP s ks n (mkL (nodesL s) ks n ns qa).1 qc).2 < 0
          · have y2 : (mkL (nodesL s) ks n (mkL (nodesL s) ks n ns qa).1 qc).2 < 0 := by rw [← B1]; exact y
            simp [y, y2]
          · have E2 := Prod.ext (B2 y) B1
            rw [E2] at y ⊢
            simp only [y, if_false]
            by_cases c : p.s = 120
            · simp [c, z4.1 c]
              simp [show pkF 120 = 10 from by decide]
            · have c2 : ¬ pkF p.s = 10 := fun e => c (z4.2 e)
              simp [c, c2, z5 c]
      · obtain ⟨a, hps⟩ := ps_one hlen
        have ha := hp.lt a (by simp [hps])
        obtain ⟨qa, rfl⟩ : ∃ q : Nat, a = q := ⟨a.toNat, by omega⟩
        obtain ⟨z1, z2, z3, z4⟩ := sign_one hsg
        simp only [nodeL, hps] at hq
        simp at hq
        rw [askAt_take (by omega) (by omega)] at hq
        obtain ⟨A1, A2⟩ := ih qa ns (by omega) (by rw [lnG_ask]; exact hq)
        have n1 : ¬ p.s = 110 := by omega
        have n2 : ¬ p.s = 36 := by omega
        have n3 : ¬ p.s = 63 := by omega
        simp only [nodeL, hps, n1, n2, n3, z1, z2, z3, if_false]
        simp
        by_cases x : (mkP s ks n ns qa).2 < 0
        · have x2 : (mkL (nodesL s) ks n ns qa).2 < 0 := by rw [← A1]; exact x
          simp [x, x2]
        · have E : mkP s ks n ns qa = mkL (nodesL s) ks n ns qa := Prod.ext (A2 x) A1
          rw [E] at x ⊢
          simp [x, z4]
end Go.Proofs.YtmlfacjgfjmdeaaDoor.C

set_option linter.unusedVariables false
set_option linter.unusedSimpArgs false
set_option maxRecDepth 4000
namespace Go.Proofs.YtmlfacjgfjmdeaaDoor.C
open Go.Sym Go.Proofs.YtmlfacjgfjmdeaaDoor.I
theorem semT_lev2 {f : FuncId} {xs : List A} {H H' H'' : List Blk} {r r' : A} (h : SemT Go.Proofs.Tryd.prog f xs H r H') (hl : LeV H.length r H' r' H'') : SemT Go.Proofs.Tryd.prog f xs H r' H'' := by
  intro c vs hgd hr hH hvs
  refine (h c vs hgd hr hH hvs).mono ?_
  rintro e w' ⟨v, c', rfl, rfl, hH', hr', hv, hs⟩
  obtain ⟨c'', e1, e2, e3, e4, e5⟩ := hl c c' (fun b hb => by rw [hH]; exact List.getElem?_eq_none hb) hr' hH' hs
  exact ⟨v, c'', rfl, e1, e2, e3, e5 v hv, e4⟩
theorem nodes_take (s : List Pt) : (encLs (nodesL s)).take (s.length * 4) = encLs (nodesL s) := List.take_of_length_le (by simp)
def pmL (s : List Pt) (ns : List Nd) (ks : List Int) : List Nd × Int := mkL (nodesL s) ks s.length ns ((s.length - 1 : Nat) : Int)
def pmF (ns : List Nd) (ks : List Int) (tx : ByteArray) : List Nd × Int :=
  if poolF ns = true then
    if (patF tx).2 = true ∧ envF ns.length ks = true then
      if (pmL (patF tx).1 ns ks).2 < 0 then (ns, -1) else pmL (patF tx).1 ns ks
    else (ns, -1)
  else ([], -1)
theorem envF_len {m : Nat} {ks : List Int} (h : envF m ks = true) : ks.length = 26 := by
  simp only [envF, Bool.and_eq_true, decide_eq_true_eq] at h
  exact h.2
theorem spec_PatMake_c (ns : List Nd) (ks : List Int) (tx : ByteArray) (hl : ns.length < 9223372036854775807) (hk : ks.length < 9223372036854775807) (hs : tx.size ≤ 281474976710656) : T 33 [aP ns, aI ks, .str tx] [] (.tup [.agg [pref 0 (pmF ns ks tx).1], i6 (pmF ns ks tx).2]) ([pblk (pmF ns ks tx).1]) := by
  refine semT' (S := S0) hm spec_PatMake_ok (Nat.le_of_ble_eq_true rfl) ?_
  unfold spec_PatMake; dsimp only
  obtain ⟨r1, r2⟩ := read_t hs
  simp
  refine spec_PoolOk_call rfl ?_; simp
  rcases Bool.eq_false_or_eq_true (poolF ns) with hp | hp <;> simp [hp]
  case inr =>
    rw [show pmF ns ks tx = ([], -1) by simp [pmF, hp]]
    first | (refine LeV.tell [none] ?_ ?_ ?_ <;> (simp; done)) | (refine LeV.tell [some 0] ?_ ?_ ?_ <;> (simp; done)) | (refine LeV.tell [some 1] ?_ ?_ ?_ <;> (simp; done)) | (refine LeV.tell [some 2] ?_ ?_ ?_ <;> (simp; done)) | (refine LeV.tell [some 3] ?_ ?_ ?_ <;> (simp; done)) | (refine LeV.tell [some 4] ?_ ?_ ?_ <;> (simp; done)) | (refine LeV.tell [some 5] ?_ ?_ ?_ <;> (simp; done)) | (refine LeV.tell [some 6] ?_ ?_ ?_ <;> (simp; done)) | (refine LeV.tell [some 7] ?_ ?_ ?_ <;> (simp; done)) | (refine LeV.tell [some 8] ?_ ?_ ?_ <;> (simp; done)) | (refine LeV.tell [some 9] ?_ ?_ ?_ <;> (simp; done)) | (refine LeV.tell [some 10] ?_ ?_ ?_ <;> (simp; done)) | (refine LeV.tell [some 11] ?_ ?_ ?_ <;> (simp; done)) | (refine LeV.tell [some 12] ?_ ?_ ?_ <;> (simp; done)) | (refine LeV.tell [some 13] ?_ ?_ ?_ <;> (simp; done)) | (refine LeV.tell [some 14] ?_ ?_ ?_ <;> (simp; done)) | (refine LeV.tell [some 15] ?_ ?_ ?_ <;> (simp; done))
  have hln := poolF_len hp
  rcases Bool.eq_false_or_eq_true (patF tx).2 with g | g
  case inr =>
    obtain ⟨L, hc⟩ := r2 g
    refine WCall_ro' rfl (by simp) hc rfl (.inl (by simp)) ?_; simp [shiftB]
    rw [show pmF ns ks tx = (ns, -1) by simp [pmF, hp, g]]
    refine spec_l1Copy_k (ns := ns) (by omega) rfl (by simp) (by simp [noslBlks]) ?_; simp [shiftB]
    first | (refine LeV.tell [none] ?_ ?_ ?_ <;> (simp; done)) | (refine LeV.tell [some 0] ?_ ?_ ?_ <;> (simp; done)) | (refine LeV.tell [some 1] ?_ ?_ ?_ <;> (simp; done)) | (refine LeV.tell [some 2] ?_ ?_ ?_ <;> (simp; done)) | (refine LeV.tell [some 3] ?_ ?_ ?_ <;> (simp; done)) | (refine LeV.tell [some 4] ?_ ?_ ?_ <;> (simp; done)) | (refine LeV.tell [some 5] ?_ ?_ ?_ <;> (simp; done)) | (refine LeV.tell [some 6] ?_ ?_ ?_ <;> (simp; done)) | (refine LeV.tell [some 7] ?_ ?_ ?_ <;> (simp; done)) | (refine LeV.tell [some 8] ?_ ?_ ?_ <;> (simp; done)) | (refine LeV.tell [some 9] ?_ ?_ ?_ <;> (simp; done)) | (refine LeV.tell [some 10] ?_ ?_ ?_ <;> (simp; done)) | (refine LeV.tell [some 11] ?_ ?_ ?_ <;> (simp; done)) | (refine LeV.tell [some 12] ?_ ?_ ?_ <;> (simp; done)) | (refine LeV.tell [some 13] ?_ ?_ ?_ <;> (simp; done)) | (refine LeV.tell [some 14] ?_ ?_ ?_ <;> (simp; done)) | (refine LeV.tell [some 15] ?_ ?_ ?_ <;> (simp; done))
  obtain ⟨hG, hpn, hlp⟩ := patF_good g
  have r3 : T 42 [.str tx] [] (.tup [.sl (nodesL (patF tx).1).length (encLs (nodesL (patF tx).1)), .bool true]) [] := semT_lev2 (r1 g) (LeV.ro rfl rfl (by simp [nodes_take]))
  refine WCall_pure rfl r3 (by simp) (by simp) (by simp) ?_; simp
  refine spec_l11Env_k (ns := ns) (ks := ks) (by omega) hk rfl (by simp) (by simp) ?_; simp
  rcases Bool.eq_false_or_eq_true (envF ns.length ks) with e | e <;> simp [e]
  case inr =>
    rw [show pmF ns ks tx = (ns, -1) by simp [pmF, hp, g, e]]
    refine spec_l1Copy_k (ns := ns) (by omega) rfl (by simp) (by simp [noslBlks]) ?_; simp [shiftB]
    first | (refine LeV.tell [none] ?_ ?_ ?_ <;> (simp; done)) | (refine LeV.tell [some 0] ?_ ?_ ?_ <;> (simp; done)) | (refine LeV.tell [some 1] ?_ ?_ ?_ <;> (simp; done)) | (refine LeV.tell [some 2] ?_ ?_ ?_ <;> (simp; done)) | (refine LeV.tell [some 3] ?_ ?_ ?_ <;> (simp; done)) | (refine LeV.tell [some 4] ?_ ?_ ?_ <;> (simp; done)) | (refine LeV.tell [some 5] ?_ ?_ ?_ <;> (simp; done)) | (refine LeV.tell [some 6] ?_ ?_ ?_ <;> (simp; done)) | (refine LeV.tell [some 7] ?_ ?_ ?_ <;> (simp; done)) | (refine LeV.tell [some 8] ?_ ?_ ?_ <;> (simp; done)) | (refine LeV.tell [some 9] ?_ ?_ ?_ <;> (simp; done)) | (refine LeV.tell [some 10] ?_ ?_ ?_ <;> (simp; done)) | (refine LeV.tell [some 11] ?_ ?_ ?_ <;> (simp; done)) | (refine LeV.tell [some 12] ?_ ?_ ?_ <;> (simp; done)) | (refine LeV.tell [some 13] ?_ ?_ ?_ <;> (simp; done)) | (refine LeV.tell [some 14] ?_ ?_ ?_ <;> (simp; done)) | (refine LeV.tell [some 15] ?_ ?_ ?_ <;> (simp; done))
  have hw : IntKind.i64.wrap (((patF tx).1.length : Int) - 1) = (((patF tx).1.length - 1 : Nat) : Int) := by rw [wrap64 (by omega) (by omega)]; omega
  rw [hw]
  have hm1 := spec_l11Make_t (LOk_nodes hG) (envF_len e) (by simp; omega) (patF tx).1.length ((patF tx).1.length - 1) ns (by omega) (by simp; omega) hp
  have hpp := mkL_pool (L := nodesL (patF tx).1) (ks := ks) (patF tx).1.length ((((patF tx).1.length - 1 : Nat)) : Int) hp
  have hF : pmF ns ks tx = if (pmL (patF tx).1 ns ks).2 < 0 then (ns, -1) else pmL (patF tx).1 ns ks := by simp [pmF, hp, g, e]
  refine WCall_pure rfl hm1 (by simp) (by simp) (by simp) ?_; simp
  rw [show mkL (nodesL (patF tx).1) ks (patF tx).1.length ns (((patF tx).1.length - 1 : Nat) : Int) = pmL (patF tx).1 ns ks from rfl] at hpp ⊢
  generalize pmL (patF tx).1 ns ks = R at hpp hF ⊢
  have hlr := poolF_len hpp
  refine br_intro' (fun x => ?_) (fun x => ?_) <;> (have x0 := x) <;> simp only [decide_eq_true_eq, decide_eq_false_iff_not] at x <;> simp [x0]
  · rw [hF, if_pos x]
    refine spec_l1Copy_k (ns := ns) (by omega) rfl (by simp) (by simp [noslBlks]) ?_; simp [shiftB]
    first | (refine LeV.tell [none] ?_ ?_ ?_ <;> (simp; done)) | (refine LeV.tell [some 0] ?_ ?_ ?_ <;> (simp; done)) | (refine LeV.tell [some 1] ?_ ?_ ?_ <;> (simp; done)) | (refine LeV.tell [some 2] ?_ ?_ ?_ <;> (simp; done)) | (refine LeV.tell [some 3] ?_ ?_ ?_ <;> (simp; done)) | (refine LeV.tell [some 4] ?_ ?_ ?_ <;> (simp; done)) | (refine LeV.tell [some 5] ?_ ?_ ?_ <;> (simp; done)) | (refine LeV.tell [some 6] ?_ ?_ ?_ <;> (simp; done)) | (refine LeV.tell [some 7] ?_ ?_ ?_ <;> (simp; done)) | (refine LeV.tell [some 8] ?_ ?_ ?_ <;> (simp; done)) | (refine LeV.tell [some 9] ?_ ?_ ?_ <;> (simp; done)) | (refine LeV.tell [some 10] ?_ ?_ ?_ <;> (simp; done)) | (refine LeV.tell [some 11] ?_ ?_ ?_ <;> (simp; done)) | (refine LeV.tell [some 12] ?_ ?_ ?_ <;> (simp; done)) | (refine LeV.tell [some 13] ?_ ?_ ?_ <;> (simp; done)) | (refine LeV.tell [some 14] ?_ ?_ ?_ <;> (simp; done)) | (refine LeV.tell [some 15] ?_ ?_ ?_ <;> (simp; done))
  · rw [hF, if_neg x]
    refine spec_l1Copy_k (ns := R.1) (by omega) rfl (by simp) (by simp [noslBlks]) ?_; simp [shiftB]
    first | (refine LeV.tell [none] ?_ ?_ ?_ <;> (simp; done)) | (refine LeV.tell [some 0] ?_ ?_ ?_ <;> (simp; done)) | (refine LeV.tell [some 1] ?_ ?_ ?_ <;> (simp; done)) | (refine LeV.tell [some 2] ?_ ?_ ?_ <;> (simp; done)) | (refine LeV.tell [some 3] ?_ ?_ ?_ <;> (simp; done)) | (refine LeV.tell [some 4] ?_ ?_ ?_ <;> (simp; done)) | (refine LeV.tell [some 5] ?_ ?_ ?_ <;> (simp; done)) | (refine LeV.tell [some 6] ?_ ?_ ?_ <;> (simp; done)) | (refine LeV.tell [some 7] ?_ ?_ ?_ <;> (simp; done)) | (refine LeV.tell [some 8] ?_ ?_ ?_ <;> (simp; done)) | (refine LeV.tell [some 9] ?_ ?_ ?_ <;> (simp; done)) | (refine LeV.tell [some 10] ?_ ?_ ?_ <;> (simp; done)) | (refine LeV.tell [some 11] ?_ ?_ ?_ <;> (simp; done)) | (refine LeV.tell [some 12] ?_ ?_ ?_ <;> (simp; done)) | (refine LeV.tell [some 13] ?_ ?_ ?_ <;> (simp; done)) | (refine LeV.tell [some 14] ?_ ?_ ?_ <;> (simp; done)) | (refine LeV.tell [some 15] ?_ ?_ ?_ <;> (simp; done))
theorem spec_PatMake_k {ns : List Nd} {ks : List Int} {tx : ByteArray} (hl : ns.length < 9223372036854775807) (hk : ks.length < 9223372036854775807) (hs : tx.size ≤ 281474976710656) {S : FuncId → Bool} {H : List Blk} {K : A → Dl → Prop} {zs : List A} (hS : S 33 = false) (hv : viewL (viewA 8 H) zs = some [aP ns, aI ks, .str tx]) (ho : noOwns zs = true ∨ nosl (.tup [.agg [pref 0 (pmF ns ks tx).1], i6 (pmF ns ks tx).2]) = true ∧ noslBlks ([pblk (pmF ns ks tx).1]) = true) (hK : K (shiftA H.length (.tup [.agg [pref 0 (pmF ns ks tx).1], i6 (pmF ns ks tx).2])) (.news (([pblk (pmF ns ks tx).1]).map (shiftB H.length)))) : @WCall' Go.Proofs.Tryd.prog S 33 zs H ⟨K⟩ :=
  WCall_ro' hS hv (spec_PatMake_c ns ks tx hl hk hs) rfl ho hK
theorem pmF_len (ns : List Nd) (ks : List Int) (tx : ByteArray) : (pmF ns ks tx).1.length ≤ 500 := by
  unfold pmF
  split
  · rename_i hp
    have h1 := poolF_len hp
    have h2 := poolF_len (mkL_pool (L := nodesL (patF tx).1) (ks := ks) (patF tx).1.length ((((patF tx).1.length - 1 : Nat)) : Int) hp)
    split
    · split
      · exact h1
      · exact h2
    · exact h1
  · simp
end Go.Proofs.YtmlfacjgfjmdeaaDoor.C

set_option linter.unusedVariables false
set_option linter.unusedSimpArgs false
set_option maxRecDepth 4000
namespace Go.Proofs.YtmlfacjgfjmdeaaDoor.C
open Go.Sym Go.Proofs.YtmlfacjgfjmdeaaDoor.I
@[simp] theorem vPs_shift (n : Nat) : ∀ (xs : List Pt), shiftAs n (vPs xs) = vPs xs
  | [] => rfl
  | x :: xs => by
    have ih := vPs_shift n xs
    simp only [vPs, List.flatMap_cons] at ih ⊢
    simp [vP, ih]
theorem pmL_ask {s : List Pt} {ns : List Nd} {ks : List Int} (hG : PGood s) (h0 : 0 < s.length) (h : hasAt s 63 (s.length - 1) = true) : pmL s ns ks = (ns, -1) := by
  have hk := ask_has hG _ (s.length - 1) (Nat.lt_succ_self _) (by omega)
  unfold pmL
  obtain ⟨m, hm⟩ : ∃ m, s.length = m + 1 := ⟨s.length - 1, by omega⟩
  rw [hm]
  unfold mkL
  rw [if_pos]
  rw [lnG_ask, ← hm, hk]
  exact h
theorem patOf_ro {tx : ByteArray} (hs : tx.size ≤ 281474976710656) : T 43 [.str tx] [] (.tup [aPat (patF tx).1, .bool (patF tx).2]) [] := by
  refine semT_lev2 (impl_patternOf_c tx hs) (LeV.ro rfl rfl ?_)
  simp
theorem impl_PatMake_c (ns : List Nd) (ks : List Int) (tx : ByteArray) (hl : ns.length < 9223372036854775807) (hk : ks.length < 9223372036854775807) (hs : tx.size ≤ 281474976710656) : T 36 [aP ns, aI ks, .str tx] [] (.tup [.agg [pref 0 (pmF ns ks tx).1], i6 (pmF ns ks tx).2]) ([pblk (pmF ns ks tx).1]) := by
  refine semT' (S := (fun f => [69, 99, 97, 98].contains f)) hm impl_PatMake_ok (Nat.le_of_ble_eq_true rfl) ?_
  unfold impl_PatMake; dsimp only
  simp
  refine impl_PoolOk_call rfl ?_; simp
  rcases Bool.eq_false_or_eq_true (poolF ns) with hp | hp <;> simp [hp]
  case inr =>
    rw [show pmF ns ks tx = ([], -1) by simp [pmF, hp]]
    first | (refine LeV.tell [none] ?_ ?_ ?_ <;> (simp; done)) | (refine LeV.tell [some 0] ?_ ?_ ?_ <;> (simp; done)) | (refine LeV.tell [some 1] ?_ ?_ ?_ <;> (simp; done)) | (refine LeV.tell [some 2] ?_ ?_ ?_ <;> (simp; done)) | (refine LeV.tell [some 3] ?_ ?_ ?_ <;> (simp; done)) | (refine LeV.tell [some 4] ?_ ?_ ?_ <;> (simp; done)) | (refine LeV.tell [some 5] ?_ ?_ ?_ <;> (simp; done)) | (refine LeV.tell [some 6] ?_ ?_ ?_ <;> (simp; done)) | (refine LeV.tell [some 7] ?_ ?_ ?_ <;> (simp; done)) | (refine LeV.tell [some 8] ?_ ?_ ?_ <;> (simp; done)) | (refine LeV.tell [some 9] ?_ ?_ ?_ <;> (simp; done)) | (refine LeV.tell [some 10] ?_ ?_ ?_ <;> (simp; done)) | (refine LeV.tell [some 11] ?_ ?_ ?_ <;> (simp; done)) | (refine LeV.tell [some 12] ?_ ?_ ?_ <;> (simp; done)) | (refine LeV.tell [some 13] ?_ ?_ ?_ <;> (simp; done)) | (refine LeV.tell [some 14] ?_ ?_ ?_ <;> (simp; done)) | (refine LeV.tell [some 15] ?_ ?_ ?_ <;> (simp; done))
  have hln := poolF_len hp
  refine WCall_pure rfl (patOf_ro hs) (by simp) (by simp) (by simp) ?_; simp
  rcases Bool.eq_false_or_eq_true (patF tx).2 with g | g <;> simp [g]
  case inr =>
    rw [show pmF ns ks tx = (ns, -1) by simp [pmF, hp, g]]
    refine impl_copyPool_k (ns := ns) (by omega) rfl (by simp) (by simp [noslBlks]) ?_; simp [shiftB]
    first | (refine LeV.tell [none] ?_ ?_ ?_ <;> (simp; done)) | (refine LeV.tell [some 0] ?_ ?_ ?_ <;> (simp; done)) | (refine LeV.tell [some 1] ?_ ?_ ?_ <;> (simp; done)) | (refine LeV.tell [some 2] ?_ ?_ ?_ <;> (simp; done)) | (refine LeV.tell [some 3] ?_ ?_ ?_ <;> (simp; done)) | (refine LeV.tell [some 4] ?_ ?_ ?_ <;> (simp; done)) | (refine LeV.tell [some 5] ?_ ?_ ?_ <;> (simp; done)) | (refine LeV.tell [some 6] ?_ ?_ ?_ <;> (simp; done)) | (refine LeV.tell [some 7] ?_ ?_ ?_ <;> (simp; done)) | (refine LeV.tell [some 8] ?_ ?_ ?_ <;> (simp; done)) | (refine LeV.tell [some 9] ?_ ?_ ?_ <;> (simp; done)) | (refine LeV.tell [some 10] ?_ ?_ ?_ <;> (simp; done)) | (refine LeV.tell [some 11] ?_ ?_ ?_ <;> (simp; done)) | (refine LeV.tell [some 12] ?_ ?_ ?_ <;> (simp; done)) | (refine LeV.tell [some 13] ?_ ?_ ?_ <;> (simp; done)) | (refine LeV.tell [some 14] ?_ ?_ ?_ <;> (simp; done)) | (refine LeV.tell [some 15] ?_ ?_ ?_ <;> (simp; done))
  obtain ⟨hG, hpn, hlp⟩ := patF_good g
  refine impl_EnvOk_k (ns := ns) (ks := ks) (by omega) hk rfl (by simp) (by simp) ?_; simp
  rcases Bool.eq_false_or_eq_true (envF ns.length ks) with e | e <;> simp [e, hp]
  case inr =>
    rw [show pmF ns ks tx = (ns, -1) by simp [pmF, hp, g, e]]
    refine impl_copyPool_k (ns := ns) (by omega) rfl (by simp) (by simp [noslBlks]) ?_; simp [shiftB]
    first | (refine LeV.tell [none] ?_ ?_ ?_ <;> (simp; done)) | (refine LeV.tell [some 0] ?_ ?_ ?_ <;> (simp; done)) | (refine LeV.tell [some 1] ?_ ?_ ?_ <;> (simp; done)) | (refine LeV.tell [some 2] ?_ ?_ ?_ <;> (simp; done)) | (refine LeV.tell [some 3] ?_ ?_ ?_ <;> (simp; done)) | (refine LeV.tell [some 4] ?_ ?_ ?_ <;> (simp; done)) | (refine LeV.tell [some 5] ?_ ?_ ?_ <;> (simp; done)) | (refine LeV.tell [some 6] ?_ ?_ ?_ <;> (simp; done)) | (refine LeV.tell [some 7] ?_ ?_ ?_ <;> (simp; done)) | (refine LeV.tell [some 8] ?_ ?_ ?_ <;> (simp; done)) | (refine LeV.tell [some 9] ?_ ?_ ?_ <;> (simp; done)) | (refine LeV.tell [some 10] ?_ ?_ ?_ <;> (simp; done)) | (refine LeV.tell [some 11] ?_ ?_ ?_ <;> (simp; done)) | (refine LeV.tell [some 12] ?_ ?_ ?_ <;> (simp; done)) | (refine LeV.tell [some 13] ?_ ?_ ?_ <;> (simp; done)) | (refine LeV.tell [some 14] ?_ ?_ ?_ <;> (simp; done)) | (refine LeV.tell [some 15] ?_ ?_ ?_ <;> (simp; done))
  refine impl_pattern_whole_k (s := (patF tx).1) (by omega) rfl (by simp) (by simp [noslBlks]) ?_; simp [shiftB]
  have hT := has_t hG (by omega) 63 _ ((patF tx).1.length - 1) (Nat.lt_succ_self _) (by omega)
  rw [show (((patF tx).1.length - 1 : Nat) : Int) = (patF tx).1.length - 1 by omega] at hT
  refine WCall_pure rfl hT (by simp) (by simp) (by simp) ?_; simp
  rcases Bool.eq_false_or_eq_true (hasAt (patF tx).1 63 ((patF tx).1.length - 1)) with q | q <;> simp [q]
  · rw [show pmF ns ks tx = (ns, -1) by simp [pmF, hp, g, e, pmL_ask hG hpn q]]
    refine impl_copyPool_k (ns := ns) (by omega) rfl (by simp) (by simp [noslBlks]) ?_; simp [shiftB]
    first | (refine LeV.tell [none] ?_ ?_ ?_ <;> (simp; done)) | (refine LeV.tell [some 0] ?_ ?_ ?_ <;> (simp; done)) | (refine LeV.tell [some 1] ?_ ?_ ?_ <;> (simp; done)) | (refine LeV.tell [some 2] ?_ ?_ ?_ <;> (simp; done)) | (refine LeV.tell [some 3] ?_ ?_ ?_ <;> (simp; done)) | (refine LeV.tell [some 4] ?_ ?_ ?_ <;> (simp; done)) | (refine LeV.tell [some 5] ?_ ?_ ?_ <;> (simp; done)) | (refine LeV.tell [some 6] ?_ ?_ ?_ <;> (simp; done)) | (refine LeV.tell [some 7] ?_ ?_ ?_ <;> (simp; done)) | (refine LeV.tell [some 8] ?_ ?_ ?_ <;> (simp; done)) | (refine LeV.tell [some 9] ?_ ?_ ?_ <;> (simp; done)) | (refine LeV.tell [some 10] ?_ ?_ ?_ <;> (simp; done)) | (refine LeV.tell [some 11] ?_ ?_ ?_ <;> (simp; done)) | (refine LeV.tell [some 12] ?_ ?_ ?_ <;> (simp; done)) | (refine LeV.tell [some 13] ?_ ?_ ?_ <;> (simp; done)) | (refine LeV.tell [some 14] ?_ ?_ ?_ <;> (simp; done)) | (refine LeV.tell [some 15] ?_ ?_ ?_ <;> (simp; done))
  refine impl_copyPool_k (ns := ns) (by omega) rfl (by simp) (by simp [noslBlks]) ?_; simp [shiftB]
  refine impl_pattern_whole_k (s := (patF tx).1) (by omega) rfl (by simp) (by simp [noslBlks]) ?_; simp [shiftB]
  have hlt : (patF tx).1.length - 1 < (patF tx).1.length := by omega
  have hM := fun (H : List Blk) (h : PIn H 3 0 2 [pref 2 ns]) => impl_pattern_make_t hG (by omega) (envF_len e) (patF tx).1.length ((patF tx).1.length - 1) hlt hlt H 3 0 2 0 1 [pref 2 ns] ns h hln
  rw [show (((patF tx).1.length - 1 : Nat) : Int) = (patF tx).1.length - 1 by omega] at hM
  have hq2 : (lnG (nodesL (patF tx).1) (((patF tx).1.length - 1 : Nat) : Int)).q = false := by
    have hk := ask_has hG _ ((patF tx).1.length - 1) (Nat.lt_succ_self _) hlt
    rw [lnG_ask, hk]
    exact q
  obtain ⟨m1, m2⟩ := mkP_mkL (ks := ks) hG (patF tx).1.length ((patF tx).1.length - 1) ns hlt hq2
  have hln2 := mkP_len (s := (patF tx).1) (ks := ks) (patF tx).1.length (((patF tx).1.length - 1 : Nat) : Int) hln
  have hF : pmF ns ks tx = if (pmL (patF tx).1 ns ks).2 < 0 then (ns, -1) else pmL (patF tx).1 ns ks := by simp [pmF, hp, g, e]
  rw [show mkL (nodesL (patF tx).1) ks (patF tx).1.length ns (((patF tx).1.length - 1 : Nat) : Int) = pmL (patF tx).1 ns ks from rfl] at m1 m2
  rw [show (((patF tx).1.length - 1 : Nat) : Int) = (patF tx).1.length - 1 by omega] at m1 m2 hln2
  generalize pmL (patF tx).1 ns ks = R at hF m1 m2
  generalize mkP (patF tx).1 ks (patF tx).1.length ns ((patF tx).1.length - 1) = P at hM m1 m2 hln2
  refine pool_call rfl 3 0 2 0 1 [pref 2 ns] ns P.1 ⟨by simp, by simp, by simp, by simp, by simp, by simp, ⟨[], by simp⟩⟩ (by simp [pset]) (hM _ ⟨by simp, by simp, by simp, by simp, by simp, by simp, ⟨[], by simp⟩⟩) ?_
  simp [pset]
  refine br_intro' (fun x => ?_) (fun x => ?_) <;> (have x0 := x) <;> simp only [decide_eq_true_eq, decide_eq_false_iff_not] at x <;> simp [x0]
  · rw [hF, if_pos (by rw [← m1]; exact x)]
    refine impl_copyPool_k (ns := ns) (by omega) rfl (by simp) (by simp [noslBlks]) ?_; simp [shiftB]
    first | (refine LeV.tell [none] ?_ ?_ ?_ <;> (simp; done)) | (refine LeV.tell [some 0] ?_ ?_ ?_ <;> (simp; done)) | (refine LeV.tell [some 1] ?_ ?_ ?_ <;> (simp; done)) | (refine LeV.tell [some 2] ?_ ?_ ?_ <;> (simp; done)) | (refine LeV.tell [some 3] ?_ ?_ ?_ <;> (simp; done)) | (refine LeV.tell [some 4] ?_ ?_ ?_ <;> (simp; done)) | (refine LeV.tell [some 5] ?_ ?_ ?_ <;> (simp; done)) | (refine LeV.tell [some 6] ?_ ?_ ?_ <;> (simp; done)) | (refine LeV.tell [some 7] ?_ ?_ ?_ <;> (simp; done)) | (refine LeV.tell [some 8] ?_ ?_ ?_ <;> (simp; done)) | (refine LeV.tell [some 9] ?_ ?_ ?_ <;> (simp; done)) | (refine LeV.tell [some 10] ?_ ?_ ?_ <;> (simp; done)) | (refine LeV.tell [some 11] ?_ ?_ ?_ <;> (simp; done)) | (refine LeV.tell [some 12] ?_ ?_ ?_ <;> (simp; done)) | (refine LeV.tell [some 13] ?_ ?_ ?_ <;> (simp; done)) | (refine LeV.tell [some 14] ?_ ?_ ?_ <;> (simp; done)) | (refine LeV.tell [some 15] ?_ ?_ ?_ <;> (simp; done))
  · have hR : R = P := (Prod.ext (m2 x) m1).symm
    rw [hF, hR, if_neg x]
    first | (refine LeV.tell [none] ?_ ?_ ?_ <;> (simp; done)) | (refine LeV.tell [some 0] ?_ ?_ ?_ <;> (simp; done)) | (refine LeV.tell [some 1] ?_ ?_ ?_ <;> (simp; done)) | (refine LeV.tell [some 2] ?_ ?_ ?_ <;> (simp; done)) | (refine LeV.tell [some 3] ?_ ?_ ?_ <;> (simp; done)) | (refine LeV.tell [some 4] ?_ ?_ ?_ <;> (simp; done)) | (refine LeV.tell [some 5] ?_ ?_ ?_ <;> (simp; done)) | (refine LeV.tell [some 6] ?_ ?_ ?_ <;> (simp; done)) | (refine LeV.tell [some 7] ?_ ?_ ?_ <;> (simp; done)) | (refine LeV.tell [some 8] ?_ ?_ ?_ <;> (simp; done)) | (refine LeV.tell [some 9] ?_ ?_ ?_ <;> (simp; done)) | (refine LeV.tell [some 10] ?_ ?_ ?_ <;> (simp; done)) | (refine LeV.tell [some 11] ?_ ?_ ?_ <;> (simp; done)) | (refine LeV.tell [some 12] ?_ ?_ ?_ <;> (simp; done)) | (refine LeV.tell [some 13] ?_ ?_ ?_ <;> (simp; done)) | (refine LeV.tell [some 14] ?_ ?_ ?_ <;> (simp; done)) | (refine LeV.tell [some 15] ?_ ?_ ?_ <;> (simp; done))
theorem impl_PatMake_k {ns : List Nd} {ks : List Int} {tx : ByteArray} (hl : ns.length < 9223372036854775807) (hk : ks.length < 9223372036854775807) (hs : tx.size ≤ 281474976710656) {S : FuncId → Bool} {H : List Blk} {K : A → Dl → Prop} {zs : List A} (hS : S 36 = false) (hv : viewL (viewA 8 H) zs = some [aP ns, aI ks, .str tx]) (ho : noOwns zs = true ∨ nosl (.tup [.agg [pref 0 (pmF ns ks tx).1], i6 (pmF ns ks tx).2]) = true ∧ noslBlks ([pblk (pmF ns ks tx).1]) = true) (hK : K (shiftA H.length (.tup [.agg [pref 0 (pmF ns ks tx).1], i6 (pmF ns ks tx).2])) (.news (([pblk (pmF ns ks tx).1]).map (shiftB H.length)))) : @WCall' Go.Proofs.Tryd.prog S 36 zs H ⟨K⟩ :=
  WCall_ro' hS hv (impl_PatMake_c ns ks tx hl hk hs) rfl ho hK
end Go.Proofs.YtmlfacjgfjmdeaaDoor.C

set_option linter.unusedVariables false
set_option linter.unusedSimpArgs false
set_option maxRecDepth 4000
namespace Go.Proofs.YtmlfacjgfjmdeaaDoor.C
open Go.Sym Go.Proofs.YtmlfacjgfjmdeaaDoor.I
theorem arg_tx {x : A} (h : FitA .tx x) : ∃ s : ByteArray, x = .str s ∧ s.size ≤ maxLen := by
  obtain ⟨s, e, h⟩ := (show Fit .tx [x] from h)
  exact ⟨s, by simpa using e, h⟩
def mkI (k : Int) : Nat → List Int
  | 0 => []
  | n + 1 => mkI k n ++ [k + n]
@[simp] theorem mkI_len (k : Int) (n : Nat) : (mkI k n).length = n := by induction n with | zero => rfl | succ n ih => simp [mkI, ih]
@[simp] theorem mkI_take (k : Int) (n : Nat) : (ints (mkI k n)).take n = ints (mkI k n) := List.take_of_length_le (by simp)
theorem mkI_get (k : Int) : ∀ (n j : Nat) (h : j < (mkI k n).length), (mkI k n)[j] = k + j
  | 0, j, h => by simp at h
  | n + 1, j, h => by
    simp only [mkI]
    rcases Nat.lt_or_ge j n with g | g
    · rw [List.getElem_append_left (by simpa using g)]
      exact mkI_get k n j (by simpa using g)
    · have : j = n := by simp at h; omega
      subst this
      simp
theorem mkI_set (k : Int) (ns : List Int) (j : Nat) (h : j < ns.length) : (mkI k j ++ ns.drop j).set j (k + j) = mkI k (j + 1) ++ ns.drop (j + 1) := by
  rw [List.set_append_right _ _ (by simp), mkI_len, Nat.sub_self, List.drop_eq_getElem_cons h, List.set_cons_zero]
  simp [mkI]
theorem laws_markIntS_m (H : List Blk) (nb v : Nat) (ro : Bool) (ns : List Int) (k : Int) (hH : H[nb]? = some ⟨v, ro, 1, ints ns, none⟩) (hro : ro = true → ns = []) (hl : ns.length ≤ 4294967296) (hk : 0 ≤ k) (hk2 : k ≤ 1099511627776) : T 40 [.ref nb v 0 ns.length, i6 k] (H) (i6 (k + ns.length)) (H.set nb ⟨v, ro, 1, ints (mkI k ns.length), none⟩) := by
  refine semT' (S := S0) hm laws_markIntS_ok (Nat.le_of_ble_eq_true rfl) ?_
  unfold laws_markIntS; dsimp only
  have hlt : nb < H.length := (List.getElem?_eq_some_iff.1 hH).1
  have hs0 : H.set nb ⟨v, ro, 1, ints (mkI k 0 ++ ns.drop 0), none⟩ = H := set_self (by simpa [mkI] using hH)
  simp
  generalize hB : H.length = B
  rw [← hs0]
  refine WLoop_fam (fun p : Nat × Int => [(0, A.ref nb v 0 ns.length), (1, i6 p.2), (5, i6 p.1)]) (fun p => H.set nb ⟨v, ro, 1, ints (mkI k p.1 ++ ns.drop p.1), none⟩) (fun p => ns.length - p.1)
    (fun p => p.1 ≤ ns.length ∧ p.2 = k + p.1) ?_ (0, k) ⟨Nat.zero_le _, by simp⟩
  rintro ⟨j, k'⟩ ⟨hj, hk'⟩ ih
  simp at hk' hj
  subst hk'
  have hlen : (mkI k j ++ ns.drop j).length = ns.length := by simp; omega
  simp [hlt]
  refine br_intro' (fun h => ?_) (fun h => ?_) <;> (have h0 := h) <;> (try simp at h) <;> try simp [h0, h]
  · have h' := h
    have hr : ro = false := by cases ro with | false => rfl | true => rw [hro rfl] at h; simp at h
    subst hr
    have w1 : IntKind.i64.wrap (k + (j : Int) + 1) = k + j + 1 := wrap64 (by omega) (by omega)
    have hw : IntKind.i64.wrap ((j : Int) + 1) = j + 1 := wrap64 (by omega) (by omega)
    have hc : j + (ns.length - j) = ns.length := by omega
    simp [h', hlt, hc, w1, hw]
    refine ck_intro' (by omega) ?_; simp [h', hlt, hc, w1, hw]
    have e3 := ints_set (mkI k j ++ ns.drop j) j (k + j)
    rw [mkI_set k ns j h'] at e3
    rw [e3]
    exact ih (j + 1, k + j + 1) ⟨h', by push_cast; omega⟩ (by simp; omega)
  · have e : j = ns.length := by omega
    subst e
    simp
    exact LeV.refl _ _ _
theorem laws_FnExactPatMake_c (ns : List Nd) (ks : List Int) (tx : ByteArray) (ha : ns.length < 9223372036854775808) (hb : ks.length < 9223372036854775808) (hc : tx.size ≤ maxLen) : T 10 [aP ns, aI ks, .str tx] [] (.bool true) ([]) := by
  refine semT' (S := (fun f => [39, 71, 40].contains f)) hm laws_FnExactPatMake_ok (Nat.le_of_ble_eq_true rfl) ?_
  unfold laws_FnExactPatMake; dsimp only
  simp
  refine br_intro' (fun g0 => ?_) (fun g0 => ?_) <;> (have g00 := g0) <;> simp only [decide_eq_true_eq, decide_eq_false_iff_not] at g0 <;> simp [g00]
  · exact LeV.ro rfl rfl rfl
  refine br_intro' (fun g1 => ?_) (fun g1 => ?_) <;> (have g10 := g1) <;> simp only [decide_eq_true_eq, decide_eq_false_iff_not] at g1 <;> simp [g10]
  · exact LeV.ro rfl rfl rfl
  refine laws_szPool_call (ns := ns) (x := 1048576) ha (by omega) (by omega) rfl ?_; simp
  refine br_intro' (fun g => ?_) (fun g => ?_) <;> simp only [decide_eq_true_eq, decide_eq_false_iff_not, szF_neg] at g <;> simp [szF_neg, g]
  · exact LeV.ro rfl rfl rfl
  have hl : ns.length ≤ 4294967296 := by omega
  have hk : ks.length ≤ 4294967296 := by omega
  have hs : tx.size ≤ 281474976710656 := by omega
  have hR := pmF_len ns ks tx
  refine laws_toPool_k (ns := ns) hl rfl (by simp) (by simp [noslBlks]) ?_; simp [shiftB]
  refine laws_toIntS_k (xs := ks) hk rfl (by simp) (by simp [noslBlks]) ?_; simp [shiftB]
  refine spec_PatMake_k (ns := ns) (ks := ks) (tx := tx) (by omega) (by omega) hs rfl (by simp) (by simp [noslBlks]) ?_; simp [shiftB]
  refine laws_toPool_k (ns := ns) hl rfl (by simp) (by simp [noslBlks]) ?_; simp [shiftB]
  refine laws_toIntS_k (xs := ks) hk rfl (by simp) (by simp [noslBlks]) ?_; simp [shiftB]
  refine impl_PatMake_k (ns := ns) (ks := ks) (tx := tx) (by omega) (by omega) hs rfl (by simp) (by simp [noslBlks]) ?_; simp [shiftB]
  refine laws_eqPool_k (ns := (pmF ns ks tx).1) (ms := (pmF ns ks tx).1) (by omega) (by omega) rfl (by simp) (by simp [noslBlks]) ?_; simp [shiftB]
  first | (refine ck_intro' (by kernel_rfl) ?_; try simp) | skip
  refine laws_toPool_k (ns := ns) hl rfl (by simp) (by simp [noslBlks]) ?_; simp [shiftB]
  refine laws_eqPool_k (ns := ns) (ms := ns) (by omega) (by omega) rfl (by simp) (by simp [noslBlks]) ?_; simp [shiftB]
  first | (refine ck_intro' (by kernel_rfl) ?_; try simp) | skip
  refine laws_toIntS_k (xs := ks) hk rfl (by simp) (by simp [noslBlks]) ?_; simp [shiftB]
  refine laws_eqIntS_k (ns := ks) (ms := ks) (by omega) (by omega) rfl (by simp) (by simp [noslBlks]) ?_; simp [shiftB]
  first | (refine ck_intro' (by kernel_rfl) ?_; try simp) | skip
  have k1 : ¬ 1 + 3 * (ns.length : Int) + ks.length < 0 := by omega
  have k2 : ¬ 1 + 3 * ((pmF ns ks tx).1.length : Int) < 0 := by omega
  refine WCall_t' rfl [5] (laws_markPool_m _ 5 ns.length false ns 1 (by simp) (by simp) hl (by omega) (by omega) (by simp [inAs_scals _ (ints_scals ks)])) (by simp) (fun b hb _ => by simp at hb; rw [List.getElem?_set_ne (Ne.symm hb)]) ?_; simp
  refine WCall_t' rfl [7] (laws_markIntS_m _ 7 ks.length false ks (1 + 3 * ns.length) (by simp) (by simp) hk (by omega) (by omega)) (by simp) (fun b hb _ => by simp at hb; rw [List.getElem?_set_ne (Ne.symm hb)]) ?_; simp
  simp [k1]
  refine laws_eqPool_k (ns := (pmF ns ks tx).1) (ms := (pmF ns ks tx).1) (by omega) (by omega) rfl (by simp) (by simp [noslBlks]) ?_; simp [shiftB]
  first | (refine ck_intro' (by kernel_rfl) ?_; try simp) | skip
  refine WCall_t' rfl [8] (laws_markPool_m _ 8 (pmF ns ks tx).1.length (decide ((pmF ns ks tx).1 = [])) (pmF ns ks tx).1 1 (by simp) (by simp) (by omega) (by omega) (by omega) (by simp [inAs_scals _ (ints_scals ks), inAs_scals _ (ints_scals (mkI (1 + 3 * (ns.length : Int)) ks.length))])) (by simp) (fun b hb _ => by simp at hb; rw [List.getElem?_set_ne (Ne.symm hb)]) ?_; simp
  refine laws_heldPool_k (n := (pmF ns ks tx).1.length) (k := 1) (by omega) (by omega) (by omega) rfl (by simp) (by simp [noslBlks]) ?_; simp [shiftB]
  simp [k2]
  refine laws_toPool_k (ns := ns) hl rfl (by simp) (by simp [noslBlks]) ?_; simp [shiftB]
  refine laws_toIntS_k (xs := ks) hk rfl (by simp) (by simp [noslBlks]) ?_; simp [shiftB]
  refine impl_PatMake_k (ns := ns) (ks := ks) (tx := tx) (by omega) (by omega) hs rfl (by simp) (by simp [noslBlks]) ?_; simp [shiftB]
  refine laws_eqPool_k (ns := (pmF ns ks tx).1) (ms := (pmF ns ks tx).1) (by omega) (by omega) rfl (by simp) (by simp [noslBlks]) ?_; simp [shiftB]
  first | (refine ck_intro' (by kernel_rfl) ?_; try simp) | skip
  refine laws_heldPool_k (n := (pmF ns ks tx).1.length) (k := 1) (by omega) (by omega) (by omega) rfl (by simp) (by simp [noslBlks]) ?_; simp [shiftB]
  simp [k2]
  exact LeV.ro rfl rfl rfl
end Go.Proofs.YtmlfacjgfjmdeaaDoor.C
