/- What a pattern makes: the model's run. Conditions: those that each theorem names. -/
import Derived.Test.YtpohfpnlepmebaaGreatDoorXX12PM2
import Derived.Test.YtpohfpnlepmebaaGreatDoorXC1X3
set_option linter.unusedVariables false
set_option linter.unusedSimpArgs false
set_option maxRecDepth 4000
namespace Go.Proofs.YtpohfpnlepmebaaGreatDoor.C
open Go.Sym Go.Proofs.YtpohfpnlepmebaaGreatDoor.I
@[simp] theorem encLs_view (n : Nat) (H : List Blk) (xs : List Ln) : viewL (viewA (n + 1) H) (encLs xs) = some (encLs xs) := viewL_scals _ (encLs_scals xs)
@[simp] theorem encLs_noOwns (xs : List Ln) : noOwns (encLs xs) = true := noOwns_scals _ (encLs_scals xs)
def lnG (L : List Ln) (t : Int) : Ln := L.getD t.toNat ⟨0, 0, 0, false⟩
/-- What a node makes, n deep at the most. -/
def mkL (L : List Ln) (ks : List Int) : Nat → List Nd → Int → List Nd × Int
  | 0, ns, _ => (ns, -1)
  | n + 1, ns, t =>
    if (lnG L t).q = true then (ns, -1)
    else if (lnG L t).k = 9 then (ns, ks.getD (lnG L t).a.toNat 0)
    else if (lnG L t).k = 1 then addF ns ⟨1, (lnG L t).a, 0⟩
    else if (mkL L ks n ns (lnG L t).a).2 < 0 then (ns, -1)
    else if lpF (lnG L t).k = 1 then addF (mkL L ks n ns (lnG L t).a).1 ⟨(lnG L t).k, (mkL L ks n ns (lnG L t).a).2, 0⟩
    else if (mkL L ks n (mkL L ks n ns (lnG L t).a).1 (lnG L t).b).2 < 0 then (ns, -1)
    else if (lnG L t).k = 10 then raiF (mkL L ks n (mkL L ks n ns (lnG L t).a).1 (lnG L t).b).1 (mkL L ks n (mkL L ks n ns (lnG L t).a).1 (lnG L t).b).2 (mkL L ks n ns (lnG L t).a).2
    else addF (mkL L ks n (mkL L ks n ns (lnG L t).a).1 (lnG L t).b).1 ⟨(lnG L t).k, (mkL L ks n ns (lnG L t).a).2, (mkL L ks n (mkL L ks n ns (lnG L t).a).1 (lnG L t).b).2⟩
theorem raiF_pool {ns : List Nd} (t x : Int) (hp : poolF ns = true) : poolF (raiF ns t x).1 = true := by
  unfold raiF
  split
  · exact addF_pool _ hp
  · exact hp
theorem mkL_pool {L : List Ln} {ks : List Int} : ∀ (n : Nat) {ns : List Nd} (t : Int), poolF ns = true → poolF (mkL L ks n ns t).1 = true
  | 0, ns, t, hp => hp
  | n + 1, ns, t, hp => by
    have h1 := mkL_pool (L := L) (ks := ks) n (lnG L t).a hp
    have h2 := mkL_pool (L := L) (ks := ks) n (lnG L t).b h1
    unfold mkL
    repeat' split
    all_goals first | exact hp | exact addF_pool _ hp | exact addF_pool _ h1 | exact addF_pool _ h2 | exact raiF_pool _ _ h2
/-- Nodes that are parts of later ones. -/
def LOk (L : List Ln) : Prop := ∀ (j : Nat) (h : j < L.length), (L[j].k = 9 ∧ 0 ≤ L[j].a ∧ L[j].a < 26) ∨ L[j].k = 1 ∨ (L[j].k ≠ 9 ∧ L[j].k ≠ 1 ∧ lpF L[j].k = 1 ∧ 0 ≤ L[j].a ∧ L[j].a < j) ∨ (L[j].k ≠ 9 ∧ L[j].k ≠ 1 ∧ lpF L[j].k ≠ 1 ∧ 0 ≤ L[j].a ∧ L[j].a < j ∧ 0 ≤ L[j].b ∧ L[j].b < j)
theorem spec_l11Make_t {L : List Ln} {ks : List Int} (hL : LOk L) (hk : ks.length = 26) (hl : L.length < 9223372036854775807) : ∀ (n j : Nat) (ns : List Nd), j < n → j < L.length → poolF ns = true → T 58 [aP ns, aI ks, .sl L.length (encLs L), i6 j] [] (.tup [aP (mkL L ks n ns j).1, i6 (mkL L ks n ns j).2]) []
  | 0, j, ns, h, _, _ => by omega
  | n + 1, j, ns, hj, hjL, hp => by
    have ih := spec_l11Make_t hL hk hl n
    have hns := poolF_len hp
    have hlj := hL j hjL
    have hg : lnG L (j : Int) = L[j] := by simp [lnG, hjL]
    refine semT' (S := S0) hm spec_l11Make_ok (Nat.le_of_ble_eq_true rfl) ?_
    unfold spec_l11Make; dsimp only
    obtain ⟨r, hr⟩ := encLs_at hjL
    have h4 : 4 ≤ L.length * 4 - j * 4 := by omega
    have hst : mkL L ks (n + 1) ns (j : Int) = mkL L ks (n + 1) ns (j : Int) := rfl
    conv at hst => rhs; unfold mkL
    rw [hg] at hst
    generalize hN : L[j] = p at hlj hr hst
    simp [hjL, h4, hr]
    refine br_intro' (fun u => ?_) (fun u => ?_) <;> simp [u]
    · rw [hst, if_pos u]
      exact LeV.ro rfl rfl (by simp)
    rw [if_neg (by simp [u])] at hst
    refine br_intro' (fun v => ?_) (fun v => ?_) <;> (have v0 := v) <;> simp only [decide_eq_true_eq, decide_eq_false_iff_not] at v <;> simp [v0]
    · rw [if_pos v] at hst
      obtain ⟨q, hq⟩ : ∃ q : Nat, p.a = q := ⟨p.a.toNat, by omega⟩
      have hq2 : q < ks.length := by omega
      rw [hq] at hst ⊢
      refine ck_intro' (by omega) ?_; simp [hq2]
      repeat (refine ck_intro' (by first | omega | (simp; omega) | kernel_rfl) ?_; try simp)
      exact LeV.ro rfl rfl (by rw [hst]; simp [hq2])
    rw [if_neg v] at hst
    refine br_intro' (fun w => ?_) (fun w => ?_) <;> (have w0 := w) <;> simp only [decide_eq_true_eq, decide_eq_false_iff_not] at w <;> simp [w0]
    · rw [if_pos w] at hst
      refine spec_l2Name_k (ns := ns) (x := p.a) hp rfl (by simp) (by simp) ?_; simp
      repeat (refine ck_intro' (by first | omega | (simp; omega) | kernel_rfl) ?_; try simp)
      exact LeV.ro rfl rfl (by rw [hst]; simp)
    rw [if_neg w] at hst
    have hA := mkL_pool (L := L) (ks := ks) n p.a hp
    have hB := mkL_pool (L := L) (ks := ks) n p.b hA
    obtain ⟨qa, hqa⟩ : ∃ q : Nat, p.a = q := ⟨p.a.toNat, by omega⟩
    have hqa2 : qa < j := by omega
    have ihA := ih qa ns (by omega) (by omega) hp
    rw [hqa] at hst hA hB ⊢
    refine WCall_pure rfl ihA (by simp) (by simp) (by simp) ?_; simp
    have ihB := fun (q : Nat) (h1 : q < n) (h2 : q < L.length) => ih q (mkL L ks n ns qa).1 h1 h2 hA
    generalize mkL L ks n ns qa = A at hst hA hB ihB ⊢
    refine br_intro' (fun x => ?_) (fun x => ?_) <;> (have x0 := x) <;> simp only [decide_eq_true_eq, decide_eq_false_iff_not] at x <;> simp [x0]
    · rw [if_pos x] at hst
      exact LeV.ro rfl rfl (by rw [hst]; simp)
    rw [if_neg x] at hst
    refine spec_l11Parts_k (n := ⟨p.k, qa, p.b, false⟩) rfl (by simp) (by simp) ?_; simp
    refine br_intro' (fun y => ?_) (fun y => ?_) <;> (have y0 := y) <;> simp only [decide_eq_true_eq, decide_eq_false_iff_not] at y <;> simp [y0]
    · rw [if_pos y] at hst
      refine spec_l1Add_k (ns := A.1) (n := ⟨p.k, A.2, 0⟩) hA rfl (by simp) (by simp) ?_; simp
      repeat (refine ck_intro' (by first | omega | (simp; omega) | kernel_rfl) ?_; try simp)
      exact LeV.ro rfl rfl (by rw [hst]; simp)
    rw [if_neg y] at hst
    obtain ⟨qb, hqb⟩ : ∃ q : Nat, p.b = q := ⟨p.b.toNat, by omega⟩
    have hqb2 : qb < j := by omega
    have ihB := ihB qb (by omega) (by omega)
    rw [hqb] at hst hB ⊢
    refine WCall_pure rfl ihB (by simp) (by simp) (by simp) ?_; simp
    generalize mkL L ks n A.1 qb = B at hst hB ⊢
    refine br_intro' (fun z => ?_) (fun z => ?_) <;> (have z0 := z) <;> simp only [decide_eq_true_eq, decide_eq_false_iff_not] at z <;> simp [z0]
    · rw [if_pos z] at hst
      exact LeV.ro rfl rfl (by rw [hst]; simp)
    rw [if_neg z] at hst
    refine br_intro' (fun c => ?_) (fun c => ?_) <;> (have c0 := c) <;> simp only [decide_eq_true_eq, decide_eq_false_iff_not] at c <;> simp [c0]
    · rw [if_pos c] at hst
      refine spec_l3Raise_k (ns := B.1) (t := B.2) (x := A.2) hB rfl (by simp) (by simp) ?_; simp
      repeat (refine ck_intro' (by first | omega | (simp; omega) | kernel_rfl) ?_; try simp)
      exact LeV.ro rfl rfl (by rw [hst]; simp)
    · rw [if_neg c] at hst
      refine spec_l1Add_k (ns := B.1) (n := ⟨p.k, A.2, B.2⟩) hB rfl (by simp) (by simp) ?_; simp
      repeat (refine ck_intro' (by first | omega | (simp; omega) | kernel_rfl) ?_; try simp)
      exact LeV.ro rfl rfl (by rw [hst]; simp)
end Go.Proofs.YtpohfpnlepmebaaGreatDoor.C

set_option linter.unusedVariables false
set_option linter.unusedSimpArgs false
set_option maxRecDepth 4000
namespace Go.Proofs.YtpohfpnlepmebaaGreatDoor.C
open Go.Sym Go.Proofs.YtpohfpnlepmebaaGreatDoor.I
theorem pset_app {H T : List Blk} {b off nb : Nat} {cb : List A} (h : PIn H b off nb cb) (vb eb : Nat) (ns : List Nd) : pset (H ++ T) b off nb vb eb cb ns = pset H b off nb vb eb cb ns ++ T := by
  simp only [pset]
  rw [set_left h.nlt, set_left (by simpa using h.blt)]
theorem PIn.app {H T : List Blk} {b off nb : Nat} {cb : List A} (h : PIn H b off nb cb) (hT : Closed1 (H ++ T).length T = true) : PIn (H ++ T) b off nb cb := by
  have hle : H.length ≤ (H ++ T).length := by simp
  refine ⟨Nat.lt_of_lt_of_le h.blt hle, Nat.lt_of_lt_of_le h.nlt hle, h.ne, h.olt, Closed1_app hT _ (Closed1_mono hle _ h.cl), inAs_mono hle _ h.inc, ?_⟩
  obtain ⟨r, hr⟩ := h.rest
  exact ⟨r, fun G hG => hr G fun q h0 h1 h2 => (hG q (Nat.lt_of_lt_of_le h0 hle) h1 h2).trans (get_left h0)⟩
def ptG (s : List Pt) (t : Int) : Pt := s.getD t.toNat ⟨0, 0, []⟩
/-- What a piece makes, and the pool behind it whatever comes of it. -/
def mkP (s : List Pt) (ks : List Int) : Nat → List Nd → Int → List Nd × Int
  | 0, ns, _ => (ns, -1)
  | n + 1, ns, t =>
    if (ptG s t).s = 110 then addF ns ⟨1, (ptG s t).n, 0⟩
    else if (ptG s t).s = 36 then (ns, ks.getD (ptG s t).n.toNat 0)
    else if (ptG s t).s = 63 then (ns, -1)
    else if (mkP s ks n ns ((ptG s t).ps.getD 0 0)).2 < 0 then ((mkP s ks n ns ((ptG s t).ps.getD 0 0)).1, -1)
    else if (ptG s t).ps.length = 1 then addF (mkP s ks n ns ((ptG s t).ps.getD 0 0)).1 ⟨kindF (ptG s t).s, (mkP s ks n ns ((ptG s t).ps.getD 0 0)).2, 0⟩
    else if (mkP s ks n (mkP s ks n ns ((ptG s t).ps.getD 0 0)).1 ((ptG s t).ps.getD 1 0)).2 < 0 then ((mkP s ks n (mkP s ks n ns ((ptG s t).ps.getD 0 0)).1 ((ptG s t).ps.getD 1 0)).1, -1)
    else if (ptG s t).s = 120 then raiF (mkP s ks n (mkP s ks n ns ((ptG s t).ps.getD 0 0)).1 ((ptG s t).ps.getD 1 0)).1 (mkP s ks n (mkP s ks n ns ((ptG s t).ps.getD 0 0)).1 ((ptG s t).ps.getD 1 0)).2 (mkP s ks n ns ((ptG s t).ps.getD 0 0)).2
    else addF (mkP s ks n (mkP s ks n ns ((ptG s t).ps.getD 0 0)).1 ((ptG s t).ps.getD 1 0)).1 ⟨kindF (ptG s t).s, (mkP s ks n ns ((ptG s t).ps.getD 0 0)).2, (mkP s ks n (mkP s ks n ns ((ptG s t).ps.getD 0 0)).1 ((ptG s t).ps.getD 1 0)).2⟩
theorem raiF_len {ns : List Nd} (t x : Int) (h : ns.length ≤ 500) : (raiF ns t x).1.length ≤ 500 := by
  unfold raiF
  split
  · exact addF_len _ _ h
  · exact h
theorem mkP_len {s : List Pt} {ks : List Int} : ∀ (n : Nat) {ns : List Nd} (t : Int), ns.length ≤ 500 → (mkP s ks n ns t).1.length ≤ 500
  | 0, ns, t, hp => hp
  | n + 1, ns, t, hp => by
    have h1 := mkP_len (s := s) (ks := ks) n ((ptG s t).ps.getD 0 0) hp
    have h2 := mkP_len (s := s) (ks := ks) n ((ptG s t).ps.getD 1 0) h1
    unfold mkP
    repeat' split
    all_goals first | exact hp | exact h1 | exact h2 | exact addF_len _ _ hp | exact addF_len _ _ h1 | exact addF_len _ _ h2 | exact raiF_len _ _ h2
theorem pool_callT {f : FuncId} {S : FuncId → Bool} {K : A → Dl → Prop} {zs : List A} {r : A} (hS : S f = true) {H : List Blk} (T : List Blk) (b off nb vb eb : Nat) (cb : List A) (ns ns' : List Nd) (h : PIn H b off nb cb) (hT : Closed1 (H ++ T).length T = true)
    (hf : ∀ H', PIn H' b off nb cb → SemT Go.Proofs.Tryz.prog f zs (pset H' b off nb vb eb cb ns) r (pset H' b off nb vb eb cb ns')) (hK : K r (.full [nb, b] (pset H b off nb vb eb cb ns' ++ T))) : @WCall' Go.Proofs.Tryz.prog S f zs (pset H b off nb vb eb cb ns ++ T) ⟨K⟩ := by
  have h' := h.app hT
  rw [← pset_app h]
  exact pool_call hS b off nb vb eb cb ns ns' (h'.pset vb eb ns) (pset_pset h' vb eb ns ns) (by rw [pset_pset h', pset_pset h']; exact hf _ h') (by rw [pset_pset h', pset_app h]; exact hK)
theorem impl_pattern_make_t {s : List Pt} {ks : List Int} (hG : PGood s) (hl : s.length ≤ 1000000) (hk : ks.length = 26) : ∀ (n j : Nat), j < n → j < s.length → ∀ (H : List Blk) (b off nb vb eb : Nat) (cb : List A) (ns : List Nd), PIn H b off nb cb → ns.length ≤ 500 → T 51 [aPat s, .ptr b vb off, aI ks, i6 j] (pset H b off nb vb eb cb ns) (i6 (mkP s ks n ns j).2) (pset H b off nb vb eb cb (mkP s ks n ns j).1)
  | 0, j, h, _ => by omega
  | n + 1, j, hj, hjs => fun H b off nb vb eb cb ns h hns => by
    have ih := impl_pattern_make_t hG hl hk n
    have hp := hG j hjs
    have hg : ptG s (j : Int) = s[j] := by simp [ptG, hjs]
    refine semT' (S := (fun f => [51, 64, 66, 65].contains f)) hm impl_pattern_make_ok (Nat.le_of_ble_eq_true rfl) ?_
    unfold impl_pattern_make; dsimp only
    obtain ⟨r, hr⟩ := vPs_at hjs
    have h3 : 3 ≤ s.length * 3 - j * 3 := by omega
    have hst : mkP s ks (n + 1) ns (j : Int) = mkP s ks (n + 1) ns (j : Int) := rfl
    conv at hst => rhs; unfold mkP
    rw [hg] at hst
    have gb := h.at_b vb eb ns
    generalize hN : s[j] = p at hp hr hst
    simp [hjs, h3, hr]
    have hdrop : ∀ (ns' : List Nd) (T : List Blk) (x : Int), LeV H.length (i6 x) (pset H b off nb vb eb cb ns' ++ T) (i6 x) (pset H b off nb vb eb cb ns') := fun ns' T x => by
      have e := pset_len H b off nb vb eb cb ns'
      exact LeV.drop (by rw [e]; exact Nat.le_refl _) (by rw [e]; exact h.closed vb eb ns') (by simp)
    have hcT : Closed1 (H ++ [(⟨0, false, 1, [.int .u8 p.s, i6 p.n, aI p.ps], none⟩ : Blk)]).length [⟨0, false, 1, [.int .u8 p.s, i6 p.n, aI p.ps], none⟩] = true := by simp [inAs_scals _ (ints_scals p.ps)]
    have hcT2 : ∀ x y : Int, Closed1 (H ++ [(⟨0, false, 1, [.int .u8 p.s, i6 p.n, aI p.ps], none⟩ : Blk), ⟨0, false, 1, [i6 x, i6 y], none⟩]).length [⟨0, false, 1, [.int .u8 p.s, i6 p.n, aI p.ps], none⟩, ⟨0, false, 1, [i6 x, i6 y], none⟩] = true := fun x y => by simp [inAs_scals _ (ints_scals p.ps)]
    refine br_intro' (fun u => ?_) (fun u => ?_) <;> (have u0 := u) <;> simp only [decide_eq_true_eq, decide_eq_false_iff_not] at u <;> simp [u0]
    · rw [if_pos u] at hst
      rw [hst]
      refine pool_callT rfl [_] b off nb vb eb cb ns (addF ns ⟨1, p.n, 0⟩).1 h hcT (fun H' h' => impl_Pool_name_m H' b off nb vb eb cb ns p.n h' hns) ?_; simp
      exact hdrop _ _ _
    rw [if_neg u] at hst
    refine br_intro' (fun v => ?_) (fun v => ?_) <;> (have v0 := v) <;> simp only [decide_eq_true_eq, decide_eq_false_iff_not] at v <;> simp [v0]
    · rw [if_pos v] at hst
      have hpn : p.ps = [] := by
        rcases List.eq_nil_or_concat p.ps with e | e
        · exact e
        · rcases hp.sign (by obtain ⟨_, _, e⟩ := e; simp [e]) with g | g <;> omega
      have hlf := hp.leaf hpn
      obtain ⟨q, hq⟩ : ∃ q : Nat, p.n = q := ⟨p.n.toNat, by omega⟩
      have hq2 : q < ks.length := by omega
      rw [hst, hq]
      refine ck_intro' (by omega) ?_; simp [hq2]
      exact hdrop _ _ _
    rw [if_neg v] at hst
    refine br_intro' (fun w => ?_) (fun w => ?_) <;> (have w0 := w) <;> simp only [decide_eq_true_eq, decide_eq_false_iff_not] at w <;> simp [w0]
    · rw [if_pos w] at hst
      rw [hst]
      exact hdrop _ _ _
    rw [if_neg w] at hst
    have hpn : p.ps ≠ [] := fun e => by
      rcases hp.leaf e with g | g <;> omega
    rcases hp.sign hpn with ⟨hlen, hsg⟩ | ⟨hlen, hsg⟩
    · obtain ⟨a, c, hps⟩ := ps_two hlen
      have ha := hp.lt a (by simp [hps])
      have hc := hp.lt c (by simp [hps])
      obtain ⟨qa, rfl⟩ : ∃ q : Nat, a = q := ⟨a.toNat, by omega⟩
      obtain ⟨qc, rfl⟩ : ∃ q : Nat, c = q := ⟨c.toNat, by omega⟩
      have hcT3 := hcT2
      rw [hps] at hst hcT3 ⊢
      simp at hst
      have ihA := ih qa (by omega) (by omega)
      refine WLoop_step' ?_; simp
      have hA := mkP_len (s := s) (ks := ks) n qa hns
      refine pool_callT rfl [_, _] b off nb vb eb cb ns (mkP s ks n ns qa).1 h (hcT3 0 0) (fun H' h' => ihA H' b off nb vb eb cb ns h' hns) ?_; simp
      have ihC := fun H' h' => ih qc (by omega) (by omega) H' b off nb vb eb cb (mkP s ks n ns qa).1 h' hA
      have hC := mkP_len (s := s) (ks := ks) n qc hA
      generalize mkP s ks n ns qa = A at hst hA ihC hC ⊢
      refine br_intro' (fun x => ?_) (fun x => ?_) <;> (have x0 := x) <;> simp only [decide_eq_true_eq, decide_eq_false_iff_not] at x <;> simp [x0]
      · rw [if_pos x] at hst
        rw [hst]
        exact hdrop _ _ _
      rw [if_neg x] at hst
      rw [show IntKind.i64.wrap 1 = 1 from by decide]
      refine WLoop_step' ?_; simp
      refine pool_callT rfl [_, _] b off nb vb eb cb A.1 (mkP s ks n A.1 qc).1 h (hcT3 A.2 0) ihC ?_; simp
      generalize mkP s ks n A.1 qc = C at hst hC ⊢
      refine br_intro' (fun y => ?_) (fun y => ?_) <;> (have y0 := y) <;> simp only [decide_eq_true_eq, decide_eq_false_iff_not] at y <;> simp [y0]
      · rw [if_pos y] at hst
        rw [hst]
        exact hdrop _ _ _
      rw [if_neg y] at hst
      rw [show IntKind.i64.wrap 2 = 2 from by decide]
      refine WLoop_step' ?_; simp
      refine br_intro' (fun z => ?_) (fun z => ?_) <;> (have z0 := z) <;> simp only [decide_eq_true_eq, decide_eq_false_iff_not] at z <;> simp [z0]
      · rw [if_pos z] at hst
        rw [hst]
        refine pool_callT rfl [_, _] b off nb vb eb cb C.1 (raiF C.1 C.2 A.2).1 h (hcT3 A.2 C.2) (fun H' h' => impl_Pool_raise_m H' b off nb vb eb cb C.1 C.2 A.2 h' hC) ?_; simp
        exact hdrop _ _ _
      · rw [if_neg z] at hst
        rw [hst]
        refine impl_kindOf_call (x := p.s) rfl ?_; simp
        refine pool_callT rfl [_, _] b off nb vb eb cb C.1 (addF C.1 ⟨kindF p.s, A.2, C.2⟩).1 h (hcT3 A.2 C.2) (fun H' h' => impl_Pool_add_m H' b off nb vb eb cb C.1 (kindF p.s) A.2 C.2 h' hC) ?_; simp
        repeat (refine ck_intro' (by first | omega | (simp; omega) | kernel_rfl) ?_; try simp)
        exact hdrop _ _ _
    · obtain ⟨a, hps⟩ := ps_one hlen
      have ha := hp.lt a (by simp [hps])
      obtain ⟨qa, rfl⟩ : ∃ q : Nat, a = q := ⟨a.toNat, by omega⟩
      have hcT3 := hcT2
      rw [hps] at hst hcT3 ⊢
      simp at hst
      have ihA := ih qa (by omega) (by omega)
      refine WLoop_step' ?_; simp
      have hA := mkP_len (s := s) (ks := ks) n qa hns
      refine pool_callT rfl [_, _] b off nb vb eb cb ns (mkP s ks n ns qa).1 h (hcT3 0 0) (fun H' h' => ihA H' b off nb vb eb cb ns h' hns) ?_; simp
      generalize mkP s ks n ns qa = A at hst hA ⊢
      refine br_intro' (fun x => ?_) (fun x => ?_) <;> (have x0 := x) <;> simp only [decide_eq_true_eq, decide_eq_false_iff_not] at x <;> simp [x0]
      · rw [if_pos x] at hst
        rw [hst]
        exact hdrop _ _ _
      rw [if_neg x] at hst
      rw [show IntKind.i64.wrap 1 = 1 from by decide]
      refine WLoop_step' ?_; simp
      have z0 : decide (p.s = 120) = false := decide_eq_false (by omega)
      simp [z0]
      rw [hst]
      refine impl_kindOf_call (x := p.s) rfl ?_; simp
      refine pool_callT rfl [_, _] b off nb vb eb cb A.1 (addF A.1 ⟨kindF p.s, A.2, 0⟩).1 h (hcT3 A.2 0) (fun H' h' => impl_Pool_add_m H' b off nb vb eb cb A.1 (kindF p.s) A.2 0 h' hA) ?_; simp
      repeat (refine ck_intro' (by first | omega | (simp; omega) | kernel_rfl) ?_; try simp)
      exact hdrop _ _ _
end Go.Proofs.YtpohfpnlepmebaaGreatDoor.C

set_option linter.unusedVariables false
set_option linter.unusedSimpArgs false
set_option maxRecDepth 4000
namespace Go.Proofs.YtpohfpnlepmebaaGreatDoor.C
open Go.Sym Go.Proofs.YtpohfpnlepmebaaGreatDoor.I
theorem nodesL_get {s : List Pt} {j : Nat} (h : j < s.length) : lnG (nodesL s) (j : Int) = nodeL ((nodesL s).take j) s[j] := by
  simp only [lnG, Int.toNat_natCast, List.getD_eq_getElem?_getD, nodesL_at h, Option.getD_some]
theorem sign_two {c : Int} (h : c = 40 ∨ c = 123 ∨ c = 91 ∨ c = 107 ∨ c = 42 ∨ c = 120) : pkF c ≠ 9 ∧ pkF c ≠ 1 ∧ lpF (pkF c) ≠ 1 ∧ (c = 120 ↔ pkF c = 10) ∧ (c ≠ 120 → kindF c = pkF c) := by
  rcases h with rfl | rfl | rfl | rfl | rfl | rfl <;> decide
theorem sign_one {c : Int} (h : c = 35 ∨ c = 94) : pkF c ≠ 9 ∧ pkF c ≠ 1 ∧ lpF (pkF c) = 1 ∧ kindF c = pkF c := by
  rcases h with rfl | rfl <;> decide
theorem LOk_nodes {s : List Pt} (hG : PGood s) : LOk (nodesL s) := by
  intro j h
  have hl : j < s.length := by simpa using h
  have hp := hG j hl
  have e : (nodesL s)[j] = nodeL ((nodesL s).take j) s[j] := by
    have := nodesL_at hl
    rw [List.getElem?_eq_getElem h] at this
    exact Option.some.inj this
  rw [e]
  generalize s[j] = p at hp
  by_cases hn : p.ps = []
  · rcases hp.leaf hn with ⟨g, _, _⟩ | ⟨g, g1, g2⟩
    · right; left
      simp [nodeL, g]; decide
    · left
      rcases g with g | g <;> simp [nodeL, hn, g, g1, g2] <;> decide
  · rcases hp.sign hn with ⟨hlen, hsg⟩ | ⟨hlen, hsg⟩
    · obtain ⟨a, c, hps⟩ := ps_two hlen
      have ha := hp.lt a (by simp [hps])
      have hc := hp.lt c (by simp [hps])
      obtain ⟨z1, z2, z3, _, _⟩ := sign_two hsg
      right; right; right
      simp [nodeL, hps]
      exact ⟨z1, z2, z3, ha.1, ha.2, hc.1, hc.2⟩
    · obtain ⟨a, hps⟩ := ps_one hlen
      have ha := hp.lt a (by simp [hps])
      obtain ⟨z1, z2, z3, _⟩ := sign_one hsg
      right; right; left
      simp [nodeL, hps]
      exact ⟨z1, z2, z3, ha.1, ha.2⟩
theorem lnG_ask (L : List Ln) (t : Int) : (lnG L t).q = askAt L t := by
  simp only [lnG, askAt]
theorem mkP_mkL {s : List Pt} {ks : List Int} (hG : PGood s) : ∀ (n j : Nat) (ns : List Nd), j < s.length → (lnG (nodesL s) j).q = false → (mkP s ks n ns j).2 = (mkL (nodesL s) ks n ns j).2 ∧ (¬ (mkP s ks n ns j).2 < 0 → (mkP s ks n ns j).1 = (mkL (nodesL s) ks n ns j).1)
  | 0, j, ns, _, _ => ⟨rfl, fun _ => rfl⟩
  | n + 1, j, ns, hj, hq => by
    have ih := mkP_mkL (ks := ks) hG n
    have hp := hG j hj
    have hg : ptG s (j : Int) = s[j] := by simp [ptG, hj]
    have hN := nodesL_get hj
    unfold mkP mkL
    rw [if_neg (show ¬ (lnG (nodesL s) (j : Int)).q = true by simp [hq])]
    rw [hN] at hq ⊢
    rw [hg]
    generalize s[j] = p at hp hq
    by_cases hn : p.ps = []
    · rcases hp.leaf hn with ⟨g, _, _⟩ | ⟨g | g, g1, g2⟩
      · simp [nodeL, hn, g, show pkF 110 = 1 from by decide]
      · simp [nodeL, hn, g, show pkF 36 = 9 from by decide]
      · exfalso
        simp [nodeL, hn, g] at hq
    · rcases hp.sign hn with ⟨hlen, hsg⟩ | ⟨hlen, hsg⟩
      · obtain ⟨a, c, hps⟩ := ps_two hlen
        have ha := hp.lt a (by simp [hps])
        have hc := hp.lt c (by simp [hps])
        obtain ⟨qa, rfl⟩ : ∃ q : Nat, a = q := ⟨a.toNat, by omega⟩
        obtain ⟨qc, rfl⟩ : ∃ q : Nat, c = q := ⟨c.toNat, by omega⟩
        obtain ⟨z1, z2, z3, z4, z5⟩ := sign_two hsg
        simp only [nodeL, hps] at hq
        simp at hq
        rw [askAt_take (by omega) (by omega), askAt_take (by omega) (by omega)] at hq
        obtain ⟨A1, A2⟩ := ih qa ns (by omega) (by rw [lnG_ask]; exact hq.1)
        have B := fun ns' => ih qc ns' (by omega) (by rw [lnG_ask]; exact hq.2)
        have n1 : ¬ p.s = 110 := by omega
        have n2 : ¬ p.s = 36 := by omega
        have n3 : ¬ p.s = 63 := by omega
        simp only [nodeL, hps, n1, n2, n3, z1, z2, z3, if_false]
        simp
        by_cases x : (mkP s ks n ns qa).2 < 0
        · have x2 : (mkL (nodesL s) ks n ns qa).2 < 0 := by rw [← A1]; exact x
          simp [x, x2]
        · have E : mkP s ks n ns qa = mkL (nodesL s) ks n ns qa := Prod.ext (A2 x) A1
          rw [E] at x ⊢
          simp only [x, if_false]
          obtain ⟨B1, B2⟩ := B (mkL (nodesL s) ks n ns qa).1
          by_cases y : (mkP s ks n (mkL (nodesL s) ks n ns qa).1 qc).2 < 0
          · have y2 : (mkL (nodesL s) ks n (mkL (nodesL s) ks n ns qa).1 qc).2 < 0 := by rw [← B1]; exact y
            simp [y, y2]
          · have E2 := Prod.ext (B2 y) B1
            rw [E2] at y ⊢
            simp only [y, if_false]
            by_cases c : p.s = 120
            · simp [c, z4.1 c]
              simp [show pkF 120 = 10 from by decide]
            · have c2 : ¬ pkF p.s = 10 := fun e => c (z4.2 e)
              simp [c, c2, z5 c]
      · obtain ⟨a, hps⟩ := ps_one hlen
        have ha := hp.lt a (by simp [hps])
        obtain ⟨qa, rfl⟩ : ∃ q : Nat, a = q := ⟨a.toNat, by omega⟩
        obtain ⟨z1, z2, z3, z4⟩ := sign_one hsg
        simp only [nodeL, hps] at hq
        simp at hq
        rw [askAt_take (by omega) (by omega)] at hq
        obtain ⟨A1, A2⟩ := ih qa ns (by omega) (by rw [lnG_ask]; exact hq)
        have n1 : ¬ p.s = 110 := by omega
        have n2 : ¬ p.s = 36 := by omega
        have n3 : ¬ p.s = 63 := by omega
        simp only [nodeL, hps, n1, n2, n3, z1, z2, z3, if_false]
        simp
        by_cases x : (mkP s ks n ns qa).2 < 0
        · have x2 : (mkL (nodesL s) ks n ns qa).2 < 0 := by rw [← A1]; exact x
          simp [x, x2]
        · have E : mkP s ks n ns qa = mkL (nodesL s) ks n ns qa := Prod.ext (A2 x) A1
          rw [E] at x ⊢
          simp [x, z4]
end Go.Proofs.YtpohfpnlepmebaaGreatDoor.C

set_option linter.unusedVariables false
set_option linter.unusedSimpArgs false
set_option maxRecDepth 4000
namespace Go.Proofs.YtpohfpnlepmebaaGreatDoor.C
open Go.Sym Go.Proofs.YtpohfpnlepmebaaGreatDoor.I
theorem semT_lev2 {f : FuncId} {xs : List A} {H H' H'' : List Blk} {r r' : A} (h : SemT Go.Proofs.Tryz.prog f xs H r H') (hl : LeV H.length r H' r' H'') : SemT Go.Proofs.Tryz.prog f xs H r' H'' := by
  intro c vs hgd hr hH hvs
  refine (h c vs hgd hr hH hvs).mono ?_
  rintro e w' ⟨v, c', rfl, rfl, hH', hr', hv, hs⟩
  obtain ⟨c'', e1, e2, e3, e4, e5⟩ := hl c c' (fun b hb => by rw [hH]; exact List.getElem?_eq_none hb) hr' hH' hs
  exact ⟨v, c'', rfl, e1, e2, e3, e5 v hv, e4⟩
theorem nodes_take (s : List Pt) : (encLs (nodesL s)).take (s.length * 4) = encLs (nodesL s) := List.take_of_length_le (by simp)
def pmL (s : List Pt) (ns : List Nd) (ks : List Int) : List Nd × Int := mkL (nodesL s) ks s.length ns ((s.length - 1 : Nat) : Int)
def pmF (ns : List Nd) (ks : List Int) (tx : ByteArray) : List Nd × Int :=
  if poolF ns = true then
    if (patF tx).2 = true ∧ envF ns.length ks = true then
      if (pmL (patF tx).1 ns ks).2 < 0 then (ns, -1) else pmL (patF tx).1 ns ks
    else (ns, -1)
  else ([], -1)
theorem envF_len {m : Nat} {ks : List Int} (h : envF m ks = true) : ks.length = 26 := by
  simp only [envF, Bool.and_eq_true, decide_eq_true_eq] at h
  exact h.2
theorem pmF_len (ns : List Nd) (ks : List Int) (tx : ByteArray) : (pmF ns ks tx).1.length ≤ 500 := by
  unfold pmF
  split
  · rename_i hp
    have h1 := poolF_len hp
    have h2 := poolF_len (mkL_pool (L := nodesL (patF tx).1) (ks := ks) (patF tx).1.length ((((patF tx).1.length - 1 : Nat)) : Int) hp)
    split
    · split
      · exact h1
      · exact h2
    · exact h1
  · simp
end Go.Proofs.YtpohfpnlepmebaaGreatDoor.C

set_option linter.unusedVariables false
set_option linter.unusedSimpArgs false
set_option maxRecDepth 4000
namespace Go.Proofs.YtpohfpnlepmebaaGreatDoor.C
open Go.Sym Go.Proofs.YtpohfpnlepmebaaGreatDoor.I
@[simp] theorem vPs_shift (n : Nat) : ∀ (xs : List Pt), shiftAs n (vPs xs) = vPs xs
  | [] => rfl
  | x :: xs => by
    have ih := vPs_shift n xs
    simp only [vPs, List.flatMap_cons] at ih ⊢
    simp [vP, ih]
theorem pmL_ask {s : List Pt} {ns : List Nd} {ks : List Int} (hG : PGood s) (h0 : 0 < s.length) (h : hasAt s 63 (s.length - 1) = true) : pmL s ns ks = (ns, -1) := by
  have hk := ask_has hG _ (s.length - 1) (Nat.lt_succ_self _) (by omega)
  unfold pmL
  obtain ⟨m, hm⟩ : ∃ m, s.length = m + 1 := ⟨s.length - 1, by omega⟩
  rw [hm]
  unfold mkL
  rw [if_pos]
  rw [lnG_ask, ← hm, hk]
  exact h
theorem patOf_ro {tx : ByteArray} (hs : tx.size ≤ 281474976710656) : T 24 [.str tx] [] (.tup [aPat (patF tx).1, .bool (patF tx).2]) [] := by
  refine semT_lev2 (impl_patternOf_c tx hs) (LeV.ro rfl rfl ?_)
  simp
end Go.Proofs.YtpohfpnlepmebaaGreatDoor.C

set_option linter.unusedVariables false
set_option linter.unusedSimpArgs false
set_option maxRecDepth 4000
namespace Go.Proofs.YtpohfpnlepmebaaGreatDoor.C
open Go.Sym Go.Proofs.YtpohfpnlepmebaaGreatDoor.I
/-- Letters, with one of them set where it is asked and free. -/
def askK (q : Bool) (ks : List Int) (a t : Int) : List Int := if q = true ∧ ks.getD a.toNat 0 < 0 then ks.set a.toNat t else ks
/-- Matching a node with a term, n deep at the most: the pool, the letters, whether it matches. -/
def mtL (L : List Ln) : Nat → List Nd → List Int → Int → Int → List Nd × List Int × Bool
  | 0, ns, ks, _, _ => (ns, ks, false)
  | n + 1, ns, ks, j, t =>
    if (lnG L j).k = 9 then (ns, askK (lnG L j).q ks (lnG L j).a t, decide ((askK (lnG L j).q ks (lnG L j).a t).getD (lnG L j).a.toNat 0 = t))
    else if (lnG L j).k = 2 ∨ (lnG L j).k = 4 ∨ (lnG L j).k = 3 then
      if (ndG ns t).k ≠ (lnG L j).k then (ns, ks, false)
      else if (lnG L j).k = 2 then
        if (mtL L n ns ks (lnG L j).a (ndG ns t).a).2.2 = false then (ns, (mtL L n ns ks (lnG L j).a (ndG ns t).a).2.1, false)
        else mtL L n (mtL L n ns ks (lnG L j).a (ndG ns t).a).1 (mtL L n ns ks (lnG L j).a (ndG ns t).a).2.1 (lnG L j).b (ndG ns t).b
      else
        if (mtL L n ns ks (lnG L j).b (ndG ns t).b).2.2 = false then (ns, (mtL L n ns ks (lnG L j).b (ndG ns t).b).2.1, false)
        else mtL L n (mtL L n ns ks (lnG L j).b (ndG ns t).b).1 (mtL L n ns ks (lnG L j).b (ndG ns t).b).2.1 (lnG L j).a (ndG ns t).a
    else ((mkL L ks (n + 1) ns j).1, ks, decide ((mkL L ks (n + 1) ns j).2 = t) && decide (0 ≤ (mkL L ks (n + 1) ns j).2))
theorem askK_len (q : Bool) (ks : List Int) (a t : Int) : (askK q ks a t).length = ks.length := by
  unfold askK
  split <;> simp
theorem mtL_pool {L : List Ln} : ∀ (n : Nat) {ns : List Nd} (ks : List Int) (j t : Int), poolF ns = true → poolF (mtL L n ns ks j t).1 = true
  | 0, ns, ks, j, t, hp => hp
  | n + 1, ns, ks, j, t, hp => by
    unfold mtL
    repeat' split
    all_goals first
      | exact hp
      | exact mtL_pool n _ _ _ (mtL_pool n _ _ _ hp)
      | exact mkL_pool (n + 1) _ hp
theorem mtL_len {L : List Ln} : ∀ (n : Nat) (ns : List Nd) (ks : List Int) (j t : Int), (mtL L n ns ks j t).2.1.length = ks.length
  | 0, ns, ks, j, t => rfl
  | n + 1, ns, ks, j, t => by
    unfold mtL
    repeat' split
    all_goals first
      | rfl
      | exact askK_len _ _ _ _
      | exact mtL_len n _ _ _ _
      | rw [mtL_len n, mtL_len n]
end Go.Proofs.YtpohfpnlepmebaaGreatDoor.C

set_option linter.unusedVariables false
set_option linter.unusedSimpArgs false
set_option maxRecDepth 4000
namespace Go.Proofs.YtpohfpnlepmebaaGreatDoor.C
open Go.Sym Go.Proofs.YtpohfpnlepmebaaGreatDoor.I
theorem nd_parts {ns : List Nd} (hp : poolF ns = true) {t : Nat} (ht : t < ns.length) (hk : ns[t].k = 2 ∨ ns[t].k = 3 ∨ ns[t].k = 4) : (0 ≤ ns[t].a ∧ ns[t].a < t) ∧ (0 ≤ ns[t].b ∧ ns[t].b < t) := by
  have h := (okFrom_all hp ht).1
  have e : partsF ns[t].k = 2 := by
    rcases hk with g | g | g <;> rw [g] <;> decide
  simp [rightF, e, inF] at h
  omega
theorem raiF_ge (ns : List Nd) (t x : Int) : ns.length ≤ (raiF ns t x).1.length := by
  unfold raiF
  split
  · exact addF_ge _ _
  · exact Nat.le_refl _
theorem mkL_ge {L : List Ln} {ks : List Int} : ∀ (n : Nat) (ns : List Nd) (t : Int), ns.length ≤ (mkL L ks n ns t).1.length
  | 0, ns, t => Nat.le_refl _
  | n + 1, ns, t => by
    have h1 := mkL_ge (L := L) (ks := ks) n ns (lnG L t).a
    have h2 := mkL_ge (L := L) (ks := ks) n (mkL L ks n ns (lnG L t).a).1 (lnG L t).b
    unfold mkL
    repeat' split
    all_goals first | exact Nat.le_refl _ | exact addF_ge _ _ | exact Nat.le_trans h1 (addF_ge _ _) | exact Nat.le_trans (Nat.le_trans h1 h2) (addF_ge _ _) | exact Nat.le_trans (Nat.le_trans h1 h2) (raiF_ge _ _ _)
theorem mtL_ge {L : List Ln} : ∀ (n : Nat) (ns : List Nd) (ks : List Int) (j t : Int), ns.length ≤ (mtL L n ns ks j t).1.length
  | 0, ns, ks, j, t => Nat.le_refl _
  | n + 1, ns, ks, j, t => by
    unfold mtL
    repeat' split
    all_goals first
      | exact Nat.le_refl _
      | exact Nat.le_trans (mtL_ge n _ _ _ _) (mtL_ge n _ _ _ _)
      | exact mkL_ge (n + 1) _ _
/-- Letters' values: terms, or none. -/
def VOk (ks : List Int) : Prop := ∀ x ∈ ks, x = -1 ∨ 0 ≤ x
theorem VOk.set {ks : List Int} (h : VOk ks) (a : Nat) {t : Int} (ht : 0 ≤ t) : VOk (ks.set a t) := fun x hx => by
  rcases List.mem_or_eq_of_mem_set hx with g | g
  · exact h x g
  · subst g; exact .inr ht
theorem VOk.ask {ks : List Int} (h : VOk ks) (q : Bool) (a : Int) {t : Int} (ht : 0 ≤ t) : VOk (askK q ks a t) := by
  unfold askK
  split
  · exact h.set _ ht
  · exact h
theorem VOk.at {ks : List Int} (h : VOk ks) {a : Nat} (ha : a < ks.length) : ks.getD a 0 = -1 ↔ ks.getD a 0 < 0 := by
  have := h (ks[a]) (List.getElem_mem ha)
  simp [ha]
  omega
theorem allF_all3 {p : Nat → Bool} {n : Nat} (h : allF p n 0 = true) {i : Nat} (hi : i < n) : p i = true := by
  have : ∀ k, k ≤ i → allF p n k = true := by
    intro k
    induction k with
    | zero => intro _; exact h
    | succ k ih =>
      intro hk
      have := ih (by omega)
      rw [allF_at (by omega), Bool.and_eq_true] at this
      exact this.2
  have := this i (Nat.le_refl _)
  rw [allF_at hi, Bool.and_eq_true] at this
  exact this.1
theorem envF_VOk {m : Nat} {ks : List Int} (h : envF m ks = true) : VOk ks := by
  intro x hx
  obtain ⟨j, hj, rfl⟩ := List.getElem_of_mem hx
  simp only [envF, Bool.and_eq_true] at h
  have h1 := allF_all3 h.1 hj
  rw [okV_at hj] at h1
  simp [hasF, inF] at h1
  omega
theorem mtL_val {L : List Ln} : ∀ (n : Nat) (ns : List Nd) (ks : List Int) (j : Int) (t : Nat), poolF ns = true → t < ns.length → VOk ks → VOk (mtL L n ns ks j t).2.1
  | 0, ns, ks, j, t, _, _, hv => hv
  | n + 1, ns, ks, j, t, hp, ht, hv => by
    unfold mtL
    rw [ndG_at ht]
    split
    · exact hv.ask _ _ (by omega)
    split
    · rename_i hk
      split
      · exact hv
      · rename_i he
        simp only [ne_eq, Decidable.not_not] at he
        obtain ⟨⟨a0, a1⟩, ⟨b0, b1⟩⟩ := nd_parts hp ht (by omega)
        obtain ⟨a, ea⟩ : ∃ a : Nat, ns[t].a = a := ⟨ns[t].a.toNat, by omega⟩
        obtain ⟨b, eb⟩ : ∃ b : Nat, ns[t].b = b := ⟨ns[t].b.toNat, by omega⟩
        rw [ea, eb]
        have hA := fun j => mtL_val (L := L) n ns ks j a hp (by omega) hv
        have hB := fun j => mtL_val (L := L) n ns ks j b hp (by omega) hv
        split
        · split
          · exact hA _
          · exact mtL_val n _ _ _ _ (mtL_pool n _ _ _ hp) (Nat.lt_of_lt_of_le (by omega) (mtL_ge n _ _ _ _)) (hA _)
        · split
          · exact hB _
          · exact mtL_val n _ _ _ _ (mtL_pool n _ _ _ hp) (Nat.lt_of_lt_of_le (by omega) (mtL_ge n _ _ _ _)) (hB _)
    · exact hv
end Go.Proofs.YtpohfpnlepmebaaGreatDoor.C

set_option linter.unusedVariables false
set_option linter.unusedSimpArgs false
set_option maxRecDepth 4000
namespace Go.Proofs.YtpohfpnlepmebaaGreatDoor.C
open Go.Sym Go.Proofs.YtpohfpnlepmebaaGreatDoor.I
abbrev eblk (v : Nat) (ks : List Int) : Blk := ⟨v, false, 1, ints ks, none⟩
theorem spec_l11Make_r {L : List Ln} {ks : List Int} (hL : LOk L) (hk : ks.length = 26) (hl : L.length < 9223372036854775807) : ∀ (n j : Nat) (ns : List Nd) (H : List Blk) (eb ev : Nat), j < n → j < L.length → poolF ns = true → H[eb]? = some (eblk ev ks) → Closed1 H.length H = true → T 58 [aP ns, .ref eb ev 0 26, .sl L.length (encLs L), i6 j] H (.tup [aP (mkL L ks n ns j).1, i6 (mkL L ks n ns j).2]) H
  | 0, j, ns, H, eb, ev, h, _, _, _, _ => by omega
  | n + 1, j, ns, H, eb, ev, hj, hjL, hp, he, hcl => by
    have ih := spec_l11Make_r hL hk hl n
    have hlt : eb < H.length := (List.getElem?_eq_some_iff.1 he).1
    have gl : ∀ T : List Blk, (H ++ T)[eb]? = some (eblk ev ks) := fun T => (get_left hlt).trans he
    have hcT : ∀ (T : List Blk), Closed1 (H ++ T).length T = true → Closed1 (H ++ T).length (H ++ T) = true := fun T hT => Closed1_app hT _ (Closed1_mono (by simp) _ hcl)
    have e0 : ¬ H.length = eb := by omega
    have e1 : ¬ H.length + 1 = eb := by omega
    have e2 : ¬ H.length + 2 = eb := by omega
    have e3 : ¬ H.length + 3 = eb := by omega
    have hns := poolF_len hp
    have hlj := hL j hjL
    have hg : lnG L (j : Int) = L[j] := by simp [lnG, hjL]
    refine semT' (S := (fun f => [58].contains f)) hm spec_l11Make_ok (Nat.le_of_ble_eq_true rfl) ?_
    unfold spec_l11Make; dsimp only
    obtain ⟨r, hr⟩ := encLs_at hjL
    have h4 : 4 ≤ L.length * 4 - j * 4 := by omega
    have hst : mkL L ks (n + 1) ns (j : Int) = mkL L ks (n + 1) ns (j : Int) := rfl
    conv at hst => rhs; unfold mkL
    rw [hg] at hst
    generalize hN : L[j] = p at hlj hr hst
    simp [hjL, h4, hr]
    refine br_intro' (fun u => ?_) (fun u => ?_) <;> simp [u]
    · rw [hst, if_pos u]
      exact LeV.trans (LeV.drop (Nat.le_refl _) hcl (by simp)) (LeV.eq (by simp) rfl)
    rw [if_neg (by simp [u])] at hst
    refine br_intro' (fun v => ?_) (fun v => ?_) <;> (have v0 := v) <;> simp only [decide_eq_true_eq, decide_eq_false_iff_not] at v <;> simp [v0]
    · rw [if_pos v] at hst
      obtain ⟨q, hq⟩ : ∃ q : Nat, p.a = q := ⟨p.a.toNat, by omega⟩
      have hq2 : q < ks.length := by omega
      rw [hq] at hst ⊢
      have hq26 : q < 26 := by omega
      simp [gl, hq2, hk, hq26]
      repeat (refine ck_intro' (by omega) ?_; try simp [gl, hq2, hk, hq26])
      refine ck_intro' (regOk_ren (fun n => if n = eb then 0 else n - H.length + 1) (by simp [e0, e1, e2, e3]; kernel_rfl)) ?_; simp [gl, hq2, hk, hq26]
      exact LeV.trans (LeV.drop (Nat.le_refl _) hcl (by simp)) (LeV.eq (by simp [hst, hq2]) rfl)
    rw [if_neg v] at hst
    refine br_intro' (fun w => ?_) (fun w => ?_) <;> (have w0 := w) <;> simp only [decide_eq_true_eq, decide_eq_false_iff_not] at w <;> simp [w0]
    · rw [if_pos w] at hst
      refine spec_l2Name_k (ns := ns) (x := p.a) hp rfl (by simp) (by simp) ?_; simp
      repeat (refine ck_intro' (by first | omega | (simp; omega) | kernel_rfl) ?_; try simp)
      exact LeV.trans (LeV.drop (Nat.le_refl _) hcl (by simp)) (LeV.eq (by rw [hst]) rfl)
    rw [if_neg w] at hst
    have hA := mkL_pool (L := L) (ks := ks) n p.a hp
    have hB := mkL_pool (L := L) (ks := ks) n p.b hA
    obtain ⟨qa, hqa⟩ : ∃ q : Nat, p.a = q := ⟨p.a.toNat, by omega⟩
    have hqa2 : qa < j := by omega
    have ihA := fun T hT => ih qa ns (H ++ T) eb ev (by omega) (by omega) hp (gl T) (hcT T hT)
    rw [hqa] at hst hA hB ⊢
    refine same_call rfl (ihA _ (by simp)) ?_; simp
    have ihB := fun (q : Nat) (h1 : q < n) (h2 : q < L.length) T hT => ih q (mkL L ks n ns qa).1 (H ++ T) eb ev h1 h2 hA (gl T) (hcT T hT)
    generalize mkL L ks n ns qa = A at hst hA hB ihB ⊢
    refine br_intro' (fun x => ?_) (fun x => ?_) <;> (have x0 := x) <;> simp only [decide_eq_true_eq, decide_eq_false_iff_not] at x <;> simp [x0]
    · rw [if_pos x] at hst
      exact LeV.trans (LeV.drop (Nat.le_refl _) hcl (by simp)) (LeV.eq (by rw [hst]) rfl)
    rw [if_neg x] at hst
    refine spec_l11Parts_k (n := ⟨p.k, qa, p.b, false⟩) rfl (by simp) (by simp) ?_; simp
    refine br_intro' (fun y => ?_) (fun y => ?_) <;> (have y0 := y) <;> simp only [decide_eq_true_eq, decide_eq_false_iff_not] at y <;> simp [y0]
    · rw [if_pos y] at hst
      refine spec_l1Add_k (ns := A.1) (n := ⟨p.k, A.2, 0⟩) hA rfl (by simp) (by simp) ?_; simp
      repeat (refine ck_intro' (by first | omega | (simp; omega) | kernel_rfl) ?_; try simp)
      exact LeV.trans (LeV.drop (Nat.le_refl _) hcl (by simp)) (LeV.eq (by rw [hst]) rfl)
    rw [if_neg y] at hst
    obtain ⟨qb, hqb⟩ : ∃ q : Nat, p.b = q := ⟨p.b.toNat, by omega⟩
    have hqb2 : qb < j := by omega
    have ihB := ihB qb (by omega) (by omega)
    rw [hqb] at hst hB ⊢
    refine same_call rfl (ihB _ (by simp)) ?_; simp
    generalize mkL L ks n A.1 qb = B at hst hB ⊢
    refine br_intro' (fun z => ?_) (fun z => ?_) <;> (have z0 := z) <;> simp only [decide_eq_true_eq, decide_eq_false_iff_not] at z <;> simp [z0]
    · rw [if_pos z] at hst
      exact LeV.trans (LeV.drop (Nat.le_refl _) hcl (by simp)) (LeV.eq (by rw [hst]) rfl)
    rw [if_neg z] at hst
    refine br_intro' (fun c => ?_) (fun c => ?_) <;> (have c0 := c) <;> simp only [decide_eq_true_eq, decide_eq_false_iff_not] at c <;> simp [c0]
    · rw [if_pos c] at hst
      refine spec_l3Raise_k (ns := B.1) (t := B.2) (x := A.2) hB rfl (by simp) (by simp) ?_; simp
      repeat (refine ck_intro' (by first | omega | (simp; omega) | kernel_rfl) ?_; try simp)
      exact LeV.trans (LeV.drop (Nat.le_refl _) hcl (by simp)) (LeV.eq (by rw [hst]) rfl)
    · rw [if_neg c] at hst
      refine spec_l1Add_k (ns := B.1) (n := ⟨p.k, A.2, B.2⟩) hB rfl (by simp) (by simp) ?_; simp
      repeat (refine ck_intro' (by first | omega | (simp; omega) | kernel_rfl) ?_; try simp)
      exact LeV.trans (LeV.drop (Nat.le_refl _) hcl (by simp)) (LeV.eq (by rw [hst]) rfl)
theorem spec_l11Match_t {L : List Ln} (hL : LOk L) (hl : L.length < 9223372036854775807) : ∀ (n j : Nat) (ns : List Nd) (ks : List Int) (t : Nat) (H : List Blk) (eb v : Nat), j < n → j < L.length → poolF ns = true → ks.length = 26 → t < ns.length → H[eb]? = some (eblk v ks) → Closed1 H.length H = true → T 38 [aP ns, .ref eb v 0 26, .sl L.length (encLs L), i6 j, i6 t] H (.tup [aP (mtL L n ns ks j t).1, .bool (mtL L n ns ks j t).2.2]) (H.set eb (eblk v (mtL L n ns ks j t).2.1))
  | 0, j, ns, ks, t, H, eb, v, h, _, _, _, _, _, _ => by omega
  | n + 1, j, ns, ks, t, H, eb, v, hj, hjL, hp, hk, ht, he, hcl => by
    have ih := spec_l11Match_t hL hl n
    have hns := poolF_len hp
    have hlj := hL j hjL
    have hg : lnG L (j : Int) = L[j] := by simp [lnG, hjL]
    refine semT' (S := (fun f => [38, 58].contains f)) hm spec_l11Match_ok (Nat.le_of_ble_eq_true rfl) ?_
    unfold spec_l11Match; dsimp only
    obtain ⟨r, hr⟩ := encLs_at hjL
    have h4 : 4 ≤ L.length * 4 - j * 4 := by omega
    have hst : mtL L (n + 1) ns ks (j : Int) t = mtL L (n + 1) ns ks (j : Int) t := rfl
    conv at hst => rhs; unfold mtL
    rw [hg] at hst
    generalize hN : L[j] = p at hlj hr hst
    simp [hjL, h4, hr]
    have hlt : eb < H.length := (List.getElem?_eq_some_iff.1 he).1
    have e0 : ¬ H.length = eb := by omega
    have e1 : ¬ H.length + 1 = eb := by omega
    have e2 : ¬ H.length + 2 = eb := by omega
    have gl : ∀ T : List Blk, (H ++ T)[eb]? = some (eblk v ks) := fun T => (get_left hlt).trans he
    have sl : ∀ (T : List Blk) x, (H ++ T).set eb x = H.set eb x ++ T := fun T x => set_left hlt x
    have gs : ∀ (T : List Blk) x, (H.set eb x ++ T)[eb]? = some x := fun T x => (get_left (by simpa using hlt)).trans (by simp [hlt])
    have hcT : ∀ (G T : List Blk), G.length = H.length → Closed1 H.length G = true → Closed1 (G ++ T).length T = true → Closed1 (G ++ T).length (G ++ T) = true := fun G T hG hc hT => Closed1_app hT _ (Closed1_mono (by simp [hG]) _ hc)
    have hcS : ∀ ks : List Int, Closed1 H.length (H.set eb (eblk v ks)) = true := fun ks => Closed1_set (by simp [inAs_scals _ (ints_scals ks)]) _ _ hcl
    have s2 : ∀ (T : List Blk) x y, (H.set eb x ++ T).set eb y = H.set eb y ++ T := fun T x y => by rw [set_left (by simpa using hlt), List.set_set]
    refine br_intro' (fun u => ?_) (fun u => ?_) <;> (have u0 := u) <;> simp only [decide_eq_true_eq, decide_eq_false_iff_not] at u <;> simp [u0]
    · rw [if_pos u] at hst
      obtain ⟨q, hq⟩ : ∃ q : Nat, p.a = q := ⟨p.a.toNat, by omega⟩
      have hq2 : q < ks.length := by omega
      rw [hq] at hst ⊢
      have hq26 : q < 26 := by omega
      have gks : ks[q]? = some ks[q] := List.getElem?_eq_getElem hq2
      rcases Bool.eq_false_or_eq_true p.q with c | c <;> simp [c, gl, hq2, hk]
      · refine ck_intro' (by omega) ?_; simp [c, gl, hq2, hk, hq26]
        refine br_intro' (fun w => ?_) (fun w => ?_) <;> (have w0 := w) <;> simp only [decide_eq_true_eq, decide_eq_false_iff_not] at w <;> simp [w0, gl, sl, gs, hq2, hk, hq26]
        · repeat (refine ck_intro' (by omega) ?_; simp [c, gl, sl, gs, hq2, hk, hq26])
          refine ck_intro' (regOk_ren (fun n => if n = eb then 0 else n - H.length + 1) (by simp [e0, e1, e2]; kernel_rfl)) ?_; simp [c, gl, hq2, hk, hq26]
          have ea : askK p.q ks q t = ks.set q t := by simp [askK, c, hq2, w]
          rw [hst, ea, ints_set]
          refine LeV.trans (LeV.drop (H1 := H.set eb _) (by simp) (by simpa using hcS _) (by simp)) (LeV.eq (by simp [hq2]) rfl)
        · repeat (refine ck_intro' (by omega) ?_; simp [c, gl, sl, gs, hq2, hk, hq26])
          refine ck_intro' (regOk_ren (fun n => if n = eb then 0 else n - H.length + 1) (by simp [e0, e1, e2]; kernel_rfl)) ?_; simp [c, gl, hq2, hk, hq26]
          have ea : askK p.q ks q t = ks := by simp [askK, c, hq2, w]
          rw [hst, ea, rset_same he]
          refine LeV.trans (LeV.drop (Nat.le_refl _) hcl (by simp)) (LeV.eq (by simp [hq2]) rfl)
      · refine ck_intro' (by omega) ?_; simp [c, gl, hq2, hk, hq26]
        refine ck_intro' (regOk_ren (fun n => if n = eb then 0 else n - H.length + 1) (by simp [e0, e1, e2]; kernel_rfl)) ?_; simp [c, gl, hq2, hk, hq26]
        have ea : askK p.q ks q t = ks := by simp [askK, c]
        rw [hst, ea, rset_same he]
        refine LeV.trans (LeV.drop (Nat.le_refl _) hcl (by simp)) (LeV.eq (by simp [hq2]) rfl)
    · rw [if_neg u] at hst
      obtain ⟨f, hf⟩ := enc_at ht
      have h3 : 3 ≤ ns.length * 3 - t * 3 := by omega
      rw [ndG_at ht] at hst
      have hpt := nd_parts hp ht
      have bad : mtL L (n + 1) ns ks j t = (ns, ks, false) → ∀ T : List Blk, LeV H.length (A.tup [A.agg [A.sl ns.length (enc ns)], A.bool false]) (H ++ T) (A.tup [aP (mtL L (n + 1) ns ks j t).1, A.bool (mtL L (n + 1) ns ks j t).2.2]) (H.set eb (eblk v (mtL L (n + 1) ns ks j t).2.1)) := fun e T => by
        rw [e, rset_same he]
        exact LeV.drop (Nat.le_refl _) hcl (by simp)
      refine br_intro' (fun w => ?_) (fun w => ?_) <;> (have w0 := w) <;> simp only [decide_eq_true_eq, decide_eq_false_iff_not] at w <;> simp [w0]
      · have hl2 : lpF p.k = 2 := by rw [w]; decide
        rw [if_pos (.inl w)] at hst
        simp [ht, hf, h3]
        refine br_intro' (fun z => ?_) (fun z => ?_) <;> (have z0 := z) <;> simp only [decide_eq_true_eq, decide_eq_false_iff_not] at z <;> simp [z0, w0]
        · rw [if_neg (by simp [z]), if_pos w] at hst
          obtain ⟨⟨a0, a1⟩, ⟨b0, b1⟩⟩ := hpt (by omega)
          obtain ⟨qa, hqa⟩ : ∃ q : Nat, p.a = q := ⟨p.a.toNat, by omega⟩
          obtain ⟨qb, hqb⟩ : ∃ q : Nat, p.b = q := ⟨p.b.toNat, by omega⟩
          obtain ⟨xa, hxa⟩ : ∃ q : Nat, ns[t].a = q := ⟨ns[t].a.toNat, by omega⟩
          obtain ⟨xb, hxb⟩ : ∃ q : Nat, ns[t].b = q := ⟨ns[t].b.toNat, by omega⟩
          rw [hqa, hqb, hxa, hxb] at hst
          rw [hqa, hqb, hxa, hxb]
          have qaj : qa < j := by omega
          have qbj : qb < j := by omega
          refine row_call (b := eb) rfl (ih qa ns ks xa _ eb v (by omega) (by omega) hp hk (by omega) (gl _) (hcT H _ rfl hcl (by simp))) ?_
          rw [sl]; simp
          have hA1 := mtL_pool (L := L) n ks qa xa hp
          have hA2 := mtL_len (L := L) n ns ks qa xa
          have hA3 := mtL_ge (L := L) n ns ks qa xa
          generalize mtL L n ns ks qa xa = A at hst hA1 hA2 hA3 ⊢
          rcases Bool.eq_false_or_eq_true A.2.2 with y | y <;> simp [y]
          · rw [if_neg (by simp [y])] at hst
            refine row_call (b := eb) rfl (ih qb A.1 A.2.1 xb _ eb v (by omega) (by omega) hA1 (by omega) (by omega) (gs _ _) (hcT (H.set eb _) _ (by simp) (hcS _) (by simp))) ?_
            rw [s2]; simp
            rw [hst]
            exact LeV.drop (by simp) (by simpa using hcS _) (by simp)
          · rw [if_pos y] at hst
            rw [hst]
            exact LeV.drop (by simp) (by simpa using hcS _) (by simp)
        · rw [if_pos z] at hst
          exact bad hst _
      refine br_intro' (fun w2 => ?_) (fun w2 => ?_) <;> (have w20 := w2) <;> simp only [decide_eq_true_eq, decide_eq_false_iff_not] at w2 <;> simp [w20]
      · have hl2 : lpF p.k = 2 := by rw [w2]; decide
        rw [if_pos (.inr (.inr w2))] at hst
        simp [ht, hf, h3]
        refine br_intro' (fun z => ?_) (fun z => ?_) <;> (have z0 := z) <;> simp only [decide_eq_true_eq, decide_eq_false_iff_not] at z <;> simp [z0, w0]
        · rw [if_neg (by simp [z]), if_neg w] at hst
          obtain ⟨⟨a0, a1⟩, ⟨b0, b1⟩⟩ := hpt (by omega)
          obtain ⟨qa, hqa⟩ : ∃ q : Nat, p.a = q := ⟨p.a.toNat, by omega⟩
          obtain ⟨qb, hqb⟩ : ∃ q : Nat, p.b = q := ⟨p.b.toNat, by omega⟩
          obtain ⟨xa, hxa⟩ : ∃ q : Nat, ns[t].a = q := ⟨ns[t].a.toNat, by omega⟩
          obtain ⟨xb, hxb⟩ : ∃ q : Nat, ns[t].b = q := ⟨ns[t].b.toNat, by omega⟩
          rw [hqa, hqb, hxa, hxb] at hst
          rw [hqa, hqb, hxa, hxb]
          have qaj : qa < j := by omega
          have qbj : qb < j := by omega
          refine row_call (b := eb) rfl (ih qb ns ks xb _ eb v (by omega) (by omega) hp hk (by omega) (gl _) (hcT H _ rfl hcl (by simp))) ?_
          rw [sl]; simp
          have hA1 := mtL_pool (L := L) n ks qb xb hp
          have hA2 := mtL_len (L := L) n ns ks qb xb
          have hA3 := mtL_ge (L := L) n ns ks qb xb
          generalize mtL L n ns ks qb xb = A at hst hA1 hA2 hA3 ⊢
          rcases Bool.eq_false_or_eq_true A.2.2 with y | y <;> simp [y]
          · rw [if_neg (by simp [y])] at hst
            refine row_call (b := eb) rfl (ih qa A.1 A.2.1 xa _ eb v (by omega) (by omega) hA1 (by omega) (by omega) (gs _ _) (hcT (H.set eb _) _ (by simp) (hcS _) (by simp))) ?_
            rw [s2]; simp
            rw [hst]
            exact LeV.drop (by simp) (by simpa using hcS _) (by simp)
          · rw [if_pos y] at hst
            rw [hst]
            exact LeV.drop (by simp) (by simpa using hcS _) (by simp)
        · rw [if_pos z] at hst
          exact bad hst _
      refine br_intro' (fun w4 => ?_) (fun w4 => ?_) <;> (have w40 := w4) <;> simp only [decide_eq_true_eq, decide_eq_false_iff_not] at w4 <;> simp [w40]
      · have hl2 : lpF p.k = 2 := by rw [w4]; decide
        rw [if_pos (.inr (.inl w4))] at hst
        simp [ht, hf, h3]
        refine br_intro' (fun z => ?_) (fun z => ?_) <;> (have z0 := z) <;> simp only [decide_eq_true_eq, decide_eq_false_iff_not] at z <;> simp [z0, w0]
        · rw [if_neg (by simp [z]), if_neg w] at hst
          obtain ⟨⟨a0, a1⟩, ⟨b0, b1⟩⟩ := hpt (by omega)
          obtain ⟨qa, hqa⟩ : ∃ q : Nat, p.a = q := ⟨p.a.toNat, by omega⟩
          obtain ⟨qb, hqb⟩ : ∃ q : Nat, p.b = q := ⟨p.b.toNat, by omega⟩
          obtain ⟨xa, hxa⟩ : ∃ q : Nat, ns[t].a = q := ⟨ns[t].a.toNat, by omega⟩
          obtain ⟨xb, hxb⟩ : ∃ q : Nat, ns[t].b = q := ⟨ns[t].b.toNat, by omega⟩
          rw [hqa, hqb, hxa, hxb] at hst
          rw [hqa, hqb, hxa, hxb]
          have qaj : qa < j := by omega
          have qbj : qb < j := by omega
          refine row_call (b := eb) rfl (ih qb ns ks xb _ eb v (by omega) (by omega) hp hk (by omega) (gl _) (hcT H _ rfl hcl (by simp))) ?_
          rw [sl]; simp
          have hA1 := mtL_pool (L := L) n ks qb xb hp
          have hA2 := mtL_len (L := L) n ns ks qb xb
          have hA3 := mtL_ge (L := L) n ns ks qb xb
          generalize mtL L n ns ks qb xb = A at hst hA1 hA2 hA3 ⊢
          rcases Bool.eq_false_or_eq_true A.2.2 with y | y <;> simp [y]
          · rw [if_neg (by simp [y])] at hst
            refine row_call (b := eb) rfl (ih qa A.1 A.2.1 xa _ eb v (by omega) (by omega) hA1 (by omega) (by omega) (gs _ _) (hcT (H.set eb _) _ (by simp) (hcS _) (by simp))) ?_
            rw [s2]; simp
            rw [hst]
            exact LeV.drop (by simp) (by simpa using hcS _) (by simp)
          · rw [if_pos y] at hst
            rw [hst]
            exact LeV.drop (by simp) (by simpa using hcS _) (by simp)
        · rw [if_pos z] at hst
          exact bad hst _
      rw [if_neg (by omega)] at hst
      have hm1 := fun T hT => spec_l11Make_r hL hk hl (n + 1) j ns (H ++ T) eb v hj hjL hp (gl T) (hcT H T rfl hcl hT)
      refine same_call rfl (hm1 _ (by simp)) ?_; simp
      generalize mkL L ks (n + 1) ns j = M at hst ⊢
      by_cases c1 : M.2 = t
      · simp [c1]
        rw [hst]
        rw [rset_same he]
        refine LeV.trans (LeV.drop (Nat.le_refl _) hcl (by simp)) (LeV.eq (by simp [c1]) rfl)
      · have c10 : decide (M.2 = (t : Int)) = false := decide_eq_false c1
        simp [c10]
        rw [hst]
        rw [rset_same he]
        refine LeV.trans (LeV.drop (Nat.le_refl _) hcl (by simp)) (LeV.eq (by simp [c1]) rfl)
end Go.Proofs.YtpohfpnlepmebaaGreatDoor.C

set_option linter.unusedVariables false
set_option linter.unusedSimpArgs false
set_option maxRecDepth 4000
namespace Go.Proofs.YtpohfpnlepmebaaGreatDoor.C
open Go.Sym Go.Proofs.YtpohfpnlepmebaaGreatDoor.I
/-- Letters, with one of them set where it is free. -/
def askP (ks : List Int) (a t : Int) : List Int := if ks.getD a.toNat 0 = -1 then ks.set a.toNat t else ks
/-- Matching a piece with a term, n deep at the most: the pool, the letters, whether it matches. -/
def mtP (s : List Pt) : Nat → List Nd → List Int → Int → Int → List Nd × List Int × Bool
  | 0, ns, ks, _, _ => (ns, ks, false)
  | n + 1, ns, ks, j, t =>
    if (ptG s j).s = 63 then (ns, askP ks (ptG s j).n t, decide ((askP ks (ptG s j).n t).getD (ptG s j).n.toNat 0 = t))
    else if (ptG s j).s = 40 then
      if (ndG ns t).k ≠ 2 then (ns, ks, false)
      else if (mtP s n ns ks ((ptG s j).ps.getD 0 0) (ndG ns t).a).2.2 = false then mtP s n ns ks ((ptG s j).ps.getD 0 0) (ndG ns t).a
      else mtP s n (mtP s n ns ks ((ptG s j).ps.getD 0 0) (ndG ns t).a).1 (mtP s n ns ks ((ptG s j).ps.getD 0 0) (ndG ns t).a).2.1 ((ptG s j).ps.getD 1 0) (ndG ns t).b
    else if (ptG s j).s = 123 ∨ (ptG s j).s = 91 then
      if (ndG ns t).k ≠ kindF (ptG s j).s then (ns, ks, false)
      else if (mtP s n ns ks ((ptG s j).ps.getD 1 0) (ndG ns t).b).2.2 = false then mtP s n ns ks ((ptG s j).ps.getD 1 0) (ndG ns t).b
      else mtP s n (mtP s n ns ks ((ptG s j).ps.getD 1 0) (ndG ns t).b).1 (mtP s n ns ks ((ptG s j).ps.getD 1 0) (ndG ns t).b).2.1 ((ptG s j).ps.getD 0 0) (ndG ns t).a
    else if hasAt s 63 j.toNat = true then (ns, ks, false)
    else ((mkP s ks (n + 1) ns j).1, ks, decide ((mkP s ks (n + 1) ns j).2 = t))
theorem askP_len (ks : List Int) (a t : Int) : (askP ks a t).length = ks.length := by
  unfold askP
  split <;> simp
theorem mkP_ge {s : List Pt} {ks : List Int} : ∀ (n : Nat) (ns : List Nd) (t : Int), ns.length ≤ (mkP s ks n ns t).1.length
  | 0, ns, t => Nat.le_refl _
  | n + 1, ns, t => by
    have h1 := mkP_ge (s := s) (ks := ks) n ns ((ptG s t).ps.getD 0 0)
    have h2 := mkP_ge (s := s) (ks := ks) n (mkP s ks n ns ((ptG s t).ps.getD 0 0)).1 ((ptG s t).ps.getD 1 0)
    unfold mkP
    repeat' split
    all_goals first | exact Nat.le_refl _ | exact h1 | exact Nat.le_trans h1 h2 | exact addF_ge _ _ | exact Nat.le_trans h1 (addF_ge _ _) | exact Nat.le_trans (Nat.le_trans h1 h2) (addF_ge _ _) | exact Nat.le_trans (Nat.le_trans h1 h2) (raiF_ge _ _ _)
theorem mkP_pool {s : List Pt} {ks : List Int} : ∀ (n : Nat) {ns : List Nd} (t : Int), poolF ns = true → poolF (mkP s ks n ns t).1 = true
  | 0, ns, t, hp => hp
  | n + 1, ns, t, hp => by
    have h1 := mkP_pool (s := s) (ks := ks) n ((ptG s t).ps.getD 0 0) hp
    have h2 := mkP_pool (s := s) (ks := ks) n ((ptG s t).ps.getD 1 0) h1
    unfold mkP
    repeat' split
    all_goals first | exact hp | exact h1 | exact h2 | exact addF_pool _ hp | exact addF_pool _ h1 | exact addF_pool _ h2 | exact raiF_pool _ _ h2
theorem mtP_ge {s : List Pt} : ∀ (n : Nat) (ns : List Nd) (ks : List Int) (j t : Int), ns.length ≤ (mtP s n ns ks j t).1.length
  | 0, ns, ks, j, t => Nat.le_refl _
  | n + 1, ns, ks, j, t => by
    unfold mtP
    repeat' split
    all_goals first
      | exact Nat.le_refl _
      | exact Nat.le_trans (mtP_ge n _ _ _ _) (mtP_ge n _ _ _ _)
      | exact mtP_ge n _ _ _ _
      | exact mkP_ge (n + 1) _ _
theorem mtP_pool {s : List Pt} : ∀ (n : Nat) {ns : List Nd} (ks : List Int) (j t : Int), poolF ns = true → poolF (mtP s n ns ks j t).1 = true
  | 0, ns, ks, j, t, hp => hp
  | n + 1, ns, ks, j, t, hp => by
    unfold mtP
    repeat' split
    all_goals first
      | exact hp
      | exact mtP_pool n _ _ _ (mtP_pool n _ _ _ hp)
      | exact mtP_pool n _ _ _ hp
      | exact mkP_pool (n + 1) _ hp
theorem mtP_len {s : List Pt} : ∀ (n : Nat) (ns : List Nd) (ks : List Int) (j t : Int), (mtP s n ns ks j t).2.1.length = ks.length
  | 0, ns, ks, j, t => rfl
  | n + 1, ns, ks, j, t => by
    unfold mtP
    repeat' split
    all_goals first
      | rfl
      | exact askP_len _ _ _
      | exact mtP_len n _ _ _ _
      | rw [mtP_len n, mtP_len n]
theorem mk_same {s : List Pt} (hG : PGood s) (ks : List Int) (n j : Nat) (ns : List Nd) (t : Nat) (hj : j < s.length) (P M : List Nd × List Int × Bool)
    (hP : P = if hasAt s 63 j = true then (ns, ks, false) else ((mkP s ks (n + 1) ns j).1, ks, decide ((mkP s ks (n + 1) ns j).2 = t)))
    (hM : M = ((mkL (nodesL s) ks (n + 1) ns j).1, ks, decide ((mkL (nodesL s) ks (n + 1) ns j).2 = t) && decide (0 ≤ (mkL (nodesL s) ks (n + 1) ns j).2))) : P.2.2 = M.2.2 ∧ (P.2.2 = true → P = M) := by
  subst hP hM
  have hq : (lnG (nodesL s) (j : Int)).q = hasAt s 63 j := by rw [lnG_ask, ask_has hG (j + 1) j (Nat.lt_succ_self _) hj]
  by_cases h : hasAt s 63 j = true
  · rw [if_pos h]
    have e : mkL (nodesL s) ks (n + 1) ns (j : Int) = (ns, -1) := by
      unfold mkL
      rw [if_pos (by rw [hq]; exact h)]
    rw [e]
    simp
  · rw [if_neg h]
    obtain ⟨m1, m2⟩ := mkP_mkL (ks := ks) hG (n + 1) j ns hj (by rw [hq]; simpa using h)
    generalize mkP s ks (n + 1) ns (j : Int) = P at m1 m2 ⊢
    generalize mkL (nodesL s) ks (n + 1) ns (j : Int) = M at m1 m2 ⊢
    simp only
    by_cases ht : P.2 = t
    · have h0 : ¬ P.2 < 0 := by omega
      have e := m2 h0
      have h1 : M.2 = t := by omega
      simp [ht, h1, e]
    · have h1 : ¬ M.2 = t := by omega
      simp [ht, h1]
theorem and_same {A B : List Nd × List Int × Bool} {F G : List Nd × List Int × Bool → List Nd × List Int × Bool} (ns : List Nd) (h1 : A.2.2 = B.2.2) (h2 : A.2.2 = true → A = B) (h3 : A.2.2 = true → (F A).2.2 = (G A).2.2 ∧ ((F A).2.2 = true → F A = G A)) :
    (if A.2.2 = false then A else F A).2.2 = (if B.2.2 = false then (ns, B.2.1, false) else G B).2.2 ∧ ((if A.2.2 = false then A else F A).2.2 = true → (if A.2.2 = false then A else F A) = (if B.2.2 = false then (ns, B.2.1, false) else G B)) := by
  rcases Bool.eq_false_or_eq_true A.2.2 with hA | hA
  · have e := h2 hA
    subst e
    rw [if_neg (by simp [hA]), if_neg (by simp [hA])]
    exact h3 hA
  · rw [if_pos hA, if_pos (by rw [← h1]; exact hA)]
    simp [hA]
theorem mtP_mtL {s : List Pt} (hG : PGood s) : ∀ (n j : Nat) (ns : List Nd) (ks : List Int) (t : Nat), j < s.length → poolF ns = true → t < ns.length → VOk ks → ks.length = 26 → (mtP s n ns ks j t).2.2 = (mtL (nodesL s) n ns ks j t).2.2 ∧ ((mtP s n ns ks j t).2.2 = true → mtP s n ns ks j t = mtL (nodesL s) n ns ks j t)
  | 0, j, ns, ks, t, _, _, _, _, _ => ⟨rfl, fun _ => rfl⟩
  | n + 1, j, ns, ks, t, hj, hp, ht, hv, hk => by
    have ih := mtP_mtL hG n
    have ih2 : ∀ (qa qc : Nat), qa < s.length → qc < s.length → ∀ a b : Nat, a < ns.length → b < ns.length → _ := fun qa qc h1 h2 a b ha hb =>
      and_same (A := mtP s n ns ks qa a) (B := mtL (nodesL s) n ns ks qa a) (F := fun A => mtP s n A.1 A.2.1 qc b) (G := fun A => mtL (nodesL s) n A.1 A.2.1 qc b) ns (ih qa ns ks a h1 hp ha hv hk).1 (ih qa ns ks a h1 hp ha hv hk).2
        (fun c => ih qc _ _ b h2 (mtP_pool n _ _ _ hp) (Nat.lt_of_lt_of_le hb (mtP_ge n _ _ _ _)) (by rw [(ih qa ns ks a h1 hp ha hv hk).2 c]; exact mtL_val n ns ks qa a hp ha hv) (by rw [mtP_len]; exact hk))
    have hpt := hG j hj
    have hg : ptG s (j : Int) = s[j] := by simp [ptG, hj]
    have hN := nodesL_get hj
    have hsame := mk_same hG ks n j ns t hj
    have hask : hasAt s 63 j = (nodeL ((nodesL s).take j) s[j]).q := by rw [← ask_has hG (j + 1) j (Nat.lt_succ_self _) hj, ← lnG_ask, hN]
    have hparts := fun h => nd_parts hp ht h
    obtain ⟨p, ep⟩ : ∃ p, s[j] = p := ⟨_, rfl⟩
    obtain ⟨x, ex⟩ : ∃ x, ns[t] = x := ⟨_, rfl⟩
    unfold mtP mtL
    rw [hN, hg, ndG_at ht, Int.toNat_natCast]
    rw [ep] at hpt hN hask hg ⊢
    rw [ex] at hparts ⊢
    by_cases hn : p.ps = []
    · rcases hpt.leaf hn with ⟨g, _, _⟩ | ⟨g | g, g1, g2⟩
      · have e1 : (nodeL ((nodesL s).take j) p).k = 1 := by simp only [nodeL, g]; decide
        rw [e1, g]
        exact hsame _ _ rfl rfl
      · have e1 : (nodeL ((nodesL s).take j) p).k = 9 := by simp only [nodeL, g]; decide
        have e2 : (nodeL ((nodesL s).take j) p).q = false := by simp [nodeL, hn, g]
        have e3 : (nodeL ((nodesL s).take j) p).a = p.n := by simp [nodeL, hn]
        have e4 : mkP s ks (n + 1) ns (j : Int) = (ns, ks.getD p.n.toNat 0) := by
          unfold mkP
          rw [hg, g]
          rfl
        rw [e1, e2, e3, g, hask, e2, e4]
        exact ⟨rfl, fun _ => rfl⟩
      · have e1 : (nodeL ((nodesL s).take j) p).k = 9 := by simp only [nodeL, g]; decide
        have e2 : (nodeL ((nodesL s).take j) p).q = true := by simp [nodeL, hn, g]
        have e3 : (nodeL ((nodesL s).take j) p).a = p.n := by simp [nodeL, hn]
        have e4 : askK true ks p.n t = askP ks p.n t := by
          have h := hv.at (a := p.n.toNat) (by omega)
          unfold askK askP
          simp only [true_and, h]
        rw [e1, e2, e3, g, e4]
        exact ⟨rfl, fun _ => rfl⟩
    · rcases hpt.sign hn with ⟨hlen, g | g | g | g | g | g⟩ | ⟨hlen, g | g⟩
      · obtain ⟨a, c, hps⟩ := ps_two hlen
        have ha := hpt.lt a (by simp [hps])
        have hc := hpt.lt c (by simp [hps])
        obtain ⟨qa, rfl⟩ : ∃ q : Nat, a = q := ⟨a.toNat, by omega⟩
        obtain ⟨qc, rfl⟩ : ∃ q : Nat, c = q := ⟨c.toNat, by omega⟩
        have e1 : (nodeL ((nodesL s).take j) p).k = 2 := by simp only [nodeL, g]; decide
        have e2 : (nodeL ((nodesL s).take j) p).a = qa := by simp [nodeL, hps]
        have e3 : (nodeL ((nodesL s).take j) p).b = qc := by simp [nodeL, hps]
        have e4 : p.ps.getD 0 0 = qa := by simp [hps]
        have e5 : p.ps.getD 1 0 = qc := by simp [hps]
        rw [e1, e2, e3, e4, e5, g]
        simp only [Int.reduceEq, reduceIte, true_or, or_true, or_false, false_or]
        by_cases hx : x.k = 2
        · obtain ⟨⟨a0, a1⟩, ⟨b0, b1⟩⟩ := hparts (by omega)
          obtain ⟨a, ea⟩ : ∃ a : Nat, x.a = a := ⟨x.a.toNat, by omega⟩
          obtain ⟨b, eb⟩ : ∃ b : Nat, x.b = b := ⟨x.b.toNat, by omega⟩
          rw [if_neg (show ¬ x.k ≠ 2 by simp [hx]), if_neg (show ¬ x.k ≠ 2 by simp [hx]), ea, eb]
          exact ih2 qa qc (by omega) (by omega) a b (by omega) (by omega)
        · rw [if_pos (show x.k ≠ 2 from hx), if_pos (show x.k ≠ 2 from hx)]
          exact ⟨rfl, fun _ => rfl⟩
      · obtain ⟨a, c, hps⟩ := ps_two hlen
        have ha := hpt.lt a (by simp [hps])
        have hc := hpt.lt c (by simp [hps])
        obtain ⟨qa, rfl⟩ : ∃ q : Nat, a = q := ⟨a.toNat, by omega⟩
        obtain ⟨qc, rfl⟩ : ∃ q : Nat, c = q := ⟨c.toNat, by omega⟩
        have e1 : (nodeL ((nodesL s).take j) p).k = 3 := by simp only [nodeL, g]; decide
        have e2 : (nodeL ((nodesL s).take j) p).a = qa := by simp [nodeL, hps]
        have e3 : (nodeL ((nodesL s).take j) p).b = qc := by simp [nodeL, hps]
        have e4 : p.ps.getD 0 0 = qa := by simp [hps]
        have e5 : p.ps.getD 1 0 = qc := by simp [hps]
        rw [e1, e2, e3, e4, e5, g]
        simp only [Int.reduceEq, reduceIte, true_or, or_true, or_false, false_or, show kindF 123 = 3 from by decide]
        by_cases hx : x.k = 3
        · obtain ⟨⟨a0, a1⟩, ⟨b0, b1⟩⟩ := hparts (by omega)
          obtain ⟨a, ea⟩ : ∃ a : Nat, x.a = a := ⟨x.a.toNat, by omega⟩
          obtain ⟨b, eb⟩ : ∃ b : Nat, x.b = b := ⟨x.b.toNat, by omega⟩
          rw [if_neg (show ¬ x.k ≠ 3 by simp [hx]), if_neg (show ¬ x.k ≠ 3 by simp [hx]), ea, eb]
          exact ih2 qc qa (by omega) (by omega) b a (by omega) (by omega)
        · rw [if_pos (show x.k ≠ 3 from hx), if_pos (show x.k ≠ 3 from hx)]
          exact ⟨rfl, fun _ => rfl⟩
      · obtain ⟨a, c, hps⟩ := ps_two hlen
        have ha := hpt.lt a (by simp [hps])
        have hc := hpt.lt c (by simp [hps])
        obtain ⟨qa, rfl⟩ : ∃ q : Nat, a = q := ⟨a.toNat, by omega⟩
        obtain ⟨qc, rfl⟩ : ∃ q : Nat, c = q := ⟨c.toNat, by omega⟩
        have e1 : (nodeL ((nodesL s).take j) p).k = 4 := by simp only [nodeL, g]; decide
        have e2 : (nodeL ((nodesL s).take j) p).a = qa := by simp [nodeL, hps]
        have e3 : (nodeL ((nodesL s).take j) p).b = qc := by simp [nodeL, hps]
        have e4 : p.ps.getD 0 0 = qa := by simp [hps]
        have e5 : p.ps.getD 1 0 = qc := by simp [hps]
        rw [e1, e2, e3, e4, e5, g]
        simp only [Int.reduceEq, reduceIte, true_or, or_true, or_false, false_or, show kindF 91 = 4 from by decide]
        by_cases hx : x.k = 4
        · obtain ⟨⟨a0, a1⟩, ⟨b0, b1⟩⟩ := hparts (by omega)
          obtain ⟨a, ea⟩ : ∃ a : Nat, x.a = a := ⟨x.a.toNat, by omega⟩
          obtain ⟨b, eb⟩ : ∃ b : Nat, x.b = b := ⟨x.b.toNat, by omega⟩
          rw [if_neg (show ¬ x.k ≠ 4 by simp [hx]), if_neg (show ¬ x.k ≠ 4 by simp [hx]), ea, eb]
          exact ih2 qc qa (by omega) (by omega) b a (by omega) (by omega)
        · rw [if_pos (show x.k ≠ 4 from hx), if_pos (show x.k ≠ 4 from hx)]
          exact ⟨rfl, fun _ => rfl⟩
      · have e1 : (nodeL ((nodesL s).take j) p).k = 6 := by simp only [nodeL, g]; decide
        rw [e1, g]
        exact hsame _ _ rfl rfl
      · have e1 : (nodeL ((nodesL s).take j) p).k = 8 := by simp only [nodeL, g]; decide
        rw [e1, g]
        exact hsame _ _ rfl rfl
      · have e1 : (nodeL ((nodesL s).take j) p).k = 10 := by simp only [nodeL, g]; decide
        rw [e1, g]
        exact hsame _ _ rfl rfl
      · have e1 : (nodeL ((nodesL s).take j) p).k = 5 := by simp only [nodeL, g]; decide
        rw [e1, g]
        exact hsame _ _ rfl rfl
      · have e1 : (nodeL ((nodesL s).take j) p).k = 7 := by simp only [nodeL, g]; decide
        rw [e1, g]
        exact hsame _ _ rfl rfl
end Go.Proofs.YtpohfpnlepmebaaGreatDoor.C

set_option linter.unusedVariables false
set_option linter.unusedSimpArgs false
set_option maxRecDepth 4000
namespace Go.Proofs.YtpohfpnlepmebaaGreatDoor.C
open Go.Sym Go.Proofs.YtpohfpnlepmebaaGreatDoor.I
theorem pool_callE {f : FuncId} {S : FuncId → Bool} {K : A → Dl → Prop} {zs : List A} {r : A} (hS : S f = true) {H : List Blk} (T : List Blk) (b off nb vb eb : Nat) (cb : List A) (ns ns' : List Nd) (h : PIn H b off nb cb) (hT : Closed1 (H ++ T).length T = true)
    (hf : PIn (H ++ T) b off nb cb → SemT Go.Proofs.Tryz.prog f zs (pset (H ++ T) b off nb vb eb cb ns) r (pset (H ++ T) b off nb vb eb cb ns')) (hK : K r (.full [nb, b] (pset H b off nb vb eb cb ns' ++ T))) : @WCall' Go.Proofs.Tryz.prog S f zs (pset H b off nb vb eb cb ns ++ T) ⟨K⟩ := by
  have h' := h.app hT
  rw [← pset_app h]
  exact pool_call hS b off nb vb eb cb ns ns' (h'.pset vb eb ns) (pset_pset h' vb eb ns ns) (by rw [pset_pset h', pset_pset h']; exact hf h') (by rw [pset_pset h', pset_app h]; exact hK)
theorem impl_pattern_make_r {s : List Pt} {ks : List Int} (hG : PGood s) (hl : s.length ≤ 1000000) (hk : ks.length = 26) : ∀ (n j : Nat), j < n → j < s.length → ∀ (H : List Blk) (b off nb vb eb rb rv : Nat) (cb : List A) (ns : List Nd), PIn H b off nb cb → ns.length ≤ 500 → rb ≠ b → rb ≠ nb → H[rb]? = some (eblk rv ks) → T 51 [aPat s, .ptr b vb off, .ref rb rv 0 26, i6 j] (pset H b off nb vb eb cb ns) (i6 (mkP s ks n ns j).2) (pset H b off nb vb eb cb (mkP s ks n ns j).1)
  | 0, j, h, _ => by omega
  | n + 1, j, hj, hjs => fun H b off nb vb eb rb rv cb ns h hns hrb hrn hrk => by
    have ih := impl_pattern_make_r hG hl hk n
    have hlt : rb < H.length := (List.getElem?_eq_some_iff.1 hrk).1
    have gH : ∀ T : List Blk, (H ++ T)[rb]? = some (eblk rv ks) := fun T => (get_left hlt).trans hrk
    have gE : ∀ (ns' : List Nd) (T : List Blk), (pset H b off nb vb eb cb ns' ++ T)[rb]? = some (eblk rv ks) := fun ns' T => (get_left (by simpa using hlt)).trans ((pset_other vb eb ns' hrb hrn).trans hrk)
    have hp := hG j hjs
    have hg : ptG s (j : Int) = s[j] := by simp [ptG, hjs]
    refine semT' (S := (fun f => [51, 64, 66, 65].contains f)) hm impl_pattern_make_ok (Nat.le_of_ble_eq_true rfl) ?_
    unfold impl_pattern_make; dsimp only
    obtain ⟨r, hr⟩ := vPs_at hjs
    have h3 : 3 ≤ s.length * 3 - j * 3 := by omega
    have hst : mkP s ks (n + 1) ns (j : Int) = mkP s ks (n + 1) ns (j : Int) := rfl
    conv at hst => rhs; unfold mkP
    rw [hg] at hst
    have gb := h.at_b vb eb ns
    generalize hN : s[j] = p at hp hr hst
    simp [hjs, h3, hr]
    have hdrop : ∀ (ns' : List Nd) (T : List Blk) (x : Int), LeV H.length (i6 x) (pset H b off nb vb eb cb ns' ++ T) (i6 x) (pset H b off nb vb eb cb ns') := fun ns' T x => by
      have e := pset_len H b off nb vb eb cb ns'
      exact LeV.drop (by rw [e]; exact Nat.le_refl _) (by rw [e]; exact h.closed vb eb ns') (by simp)
    have hcT : Closed1 (H ++ [(⟨0, false, 1, [.int .u8 p.s, i6 p.n, aI p.ps], none⟩ : Blk)]).length [⟨0, false, 1, [.int .u8 p.s, i6 p.n, aI p.ps], none⟩] = true := by simp [inAs_scals _ (ints_scals p.ps)]
    have hcT2 : ∀ x y : Int, Closed1 (H ++ [(⟨0, false, 1, [.int .u8 p.s, i6 p.n, aI p.ps], none⟩ : Blk), ⟨0, false, 1, [i6 x, i6 y], none⟩]).length [⟨0, false, 1, [.int .u8 p.s, i6 p.n, aI p.ps], none⟩, ⟨0, false, 1, [i6 x, i6 y], none⟩] = true := fun x y => by simp [inAs_scals _ (ints_scals p.ps)]
    refine br_intro' (fun u => ?_) (fun u => ?_) <;> (have u0 := u) <;> simp only [decide_eq_true_eq, decide_eq_false_iff_not] at u <;> simp [u0]
    · rw [if_pos u] at hst
      rw [hst]
      refine pool_callE rfl [_] b off nb vb eb cb ns (addF ns ⟨1, p.n, 0⟩).1 h hcT (fun h' => impl_Pool_name_m _ b off nb vb eb cb ns p.n h' hns) ?_; simp
      exact hdrop _ _ _
    rw [if_neg u] at hst
    refine br_intro' (fun v => ?_) (fun v => ?_) <;> (have v0 := v) <;> simp only [decide_eq_true_eq, decide_eq_false_iff_not] at v <;> simp [v0]
    · rw [if_pos v] at hst
      have hpn : p.ps = [] := by
        rcases List.eq_nil_or_concat p.ps with e | e
        · exact e
        · rcases hp.sign (by obtain ⟨_, _, e⟩ := e; simp [e]) with g | g <;> omega
      have hlf := hp.leaf hpn
      obtain ⟨q, hq⟩ : ∃ q : Nat, p.n = q := ⟨p.n.toNat, by omega⟩
      have hq2 : q < ks.length := by omega
      rw [hst, hq]
      have hq26 : q < 26 := by omega
      simp [hq2, gE, hk, hq26]
      repeat (refine ck_intro' (by omega) ?_; try simp [gE, hq2, hk, hq26])
      trace_state
      exact hdrop _ _ _
    rw [if_neg v] at hst
    refine br_intro' (fun w => ?_) (fun w => ?_) <;> (have w0 := w) <;> simp only [decide_eq_true_eq, decide_eq_false_iff_not] at w <;> simp [w0]
    · rw [if_pos w] at hst
      rw [hst]
      exact hdrop _ _ _
    rw [if_neg w] at hst
    have hpn : p.ps ≠ [] := fun e => by
      rcases hp.leaf e with g | g <;> omega
    rcases hp.sign hpn with ⟨hlen, hsg⟩ | ⟨hlen, hsg⟩
    · obtain ⟨a, c, hps⟩ := ps_two hlen
      have ha := hp.lt a (by simp [hps])
      have hc := hp.lt c (by simp [hps])
      obtain ⟨qa, rfl⟩ : ∃ q : Nat, a = q := ⟨a.toNat, by omega⟩
      obtain ⟨qc, rfl⟩ : ∃ q : Nat, c = q := ⟨c.toNat, by omega⟩
      have hcT3 := hcT2
      rw [hps] at hst hcT3 ⊢
      simp at hst
      have ihA := ih qa (by omega) (by omega)
      refine WLoop_step' ?_; simp
      have hA := mkP_len (s := s) (ks := ks) n qa hns
      refine pool_callE rfl [_, _] b off nb vb eb cb ns (mkP s ks n ns qa).1 h (hcT3 0 0) (fun h' => ihA _ b off nb vb eb rb rv cb ns h' hns hrb hrn (gH _)) ?_; simp
      have ihC := fun H' h' hr' => ih qc (by omega) (by omega) H' b off nb vb eb rb rv cb (mkP s ks n ns qa).1 h' hA hrb hrn hr'
      have hC := mkP_len (s := s) (ks := ks) n qc hA
      generalize mkP s ks n ns qa = A at hst hA ihC hC ⊢
      refine br_intro' (fun x => ?_) (fun x => ?_) <;> (have x0 := x) <;> simp only [decide_eq_true_eq, decide_eq_false_iff_not] at x <;> simp [x0]
      · rw [if_pos x] at hst
        rw [hst]
        exact hdrop _ _ _
      rw [if_neg x] at hst
      rw [show IntKind.i64.wrap 1 = 1 from by decide]
      refine WLoop_step' ?_; simp
      refine pool_callE rfl [_, _] b off nb vb eb cb A.1 (mkP s ks n A.1 qc).1 h (hcT3 A.2 0) (fun h' => ihC _ h' (gH _)) ?_; simp
      generalize mkP s ks n A.1 qc = C at hst hC ⊢
      refine br_intro' (fun y => ?_) (fun y => ?_) <;> (have y0 := y) <;> simp only [decide_eq_true_eq, decide_eq_false_iff_not] at y <;> simp [y0]
      · rw [if_pos y] at hst
        rw [hst]
        exact hdrop _ _ _
      rw [if_neg y] at hst
      rw [show IntKind.i64.wrap 2 = 2 from by decide]
      refine WLoop_step' ?_; simp
      refine br_intro' (fun z => ?_) (fun z => ?_) <;> (have z0 := z) <;> simp only [decide_eq_true_eq, decide_eq_false_iff_not] at z <;> simp [z0]
      · rw [if_pos z] at hst
        rw [hst]
        refine pool_callE rfl [_, _] b off nb vb eb cb C.1 (raiF C.1 C.2 A.2).1 h (hcT3 A.2 C.2) (fun h' => impl_Pool_raise_m _ b off nb vb eb cb C.1 C.2 A.2 h' hC) ?_; simp
        exact hdrop _ _ _
      · rw [if_neg z] at hst
        rw [hst]
        refine impl_kindOf_call (x := p.s) rfl ?_; simp
        refine pool_callE rfl [_, _] b off nb vb eb cb C.1 (addF C.1 ⟨kindF p.s, A.2, C.2⟩).1 h (hcT3 A.2 C.2) (fun h' => impl_Pool_add_m _ b off nb vb eb cb C.1 (kindF p.s) A.2 C.2 h' hC) ?_; simp
        repeat (refine ck_intro' (by first | omega | (simp; omega) | kernel_rfl) ?_; try simp)
        exact hdrop _ _ _
    · obtain ⟨a, hps⟩ := ps_one hlen
      have ha := hp.lt a (by simp [hps])
      obtain ⟨qa, rfl⟩ : ∃ q : Nat, a = q := ⟨a.toNat, by omega⟩
      have hcT3 := hcT2
      rw [hps] at hst hcT3 ⊢
      simp at hst
      have ihA := ih qa (by omega) (by omega)
      refine WLoop_step' ?_; simp
      have hA := mkP_len (s := s) (ks := ks) n qa hns
      refine pool_callE rfl [_, _] b off nb vb eb cb ns (mkP s ks n ns qa).1 h (hcT3 0 0) (fun h' => ihA _ b off nb vb eb rb rv cb ns h' hns hrb hrn (gH _)) ?_; simp
      generalize mkP s ks n ns qa = A at hst hA ⊢
      refine br_intro' (fun x => ?_) (fun x => ?_) <;> (have x0 := x) <;> simp only [decide_eq_true_eq, decide_eq_false_iff_not] at x <;> simp [x0]
      · rw [if_pos x] at hst
        rw [hst]
        exact hdrop _ _ _
      rw [if_neg x] at hst
      rw [show IntKind.i64.wrap 1 = 1 from by decide]
      refine WLoop_step' ?_; simp
      have z0 : decide (p.s = 120) = false := decide_eq_false (by omega)
      simp [z0]
      rw [hst]
      refine impl_kindOf_call (x := p.s) rfl ?_; simp
      refine pool_callE rfl [_, _] b off nb vb eb cb A.1 (addF A.1 ⟨kindF p.s, A.2, 0⟩).1 h (hcT3 A.2 0) (fun h' => impl_Pool_add_m _ b off nb vb eb cb A.1 (kindF p.s) A.2 0 h' hA) ?_; simp
      repeat (refine ck_intro' (by first | omega | (simp; omega) | kernel_rfl) ?_; try simp)
      exact hdrop _ _ _
end Go.Proofs.YtpohfpnlepmebaaGreatDoor.C

set_option linter.unusedVariables false
set_option linter.unusedSimpArgs false
set_option maxRecDepth 4000
set_option linter.unusedSectionVars false
namespace Go.Proofs.YtpohfpnlepmebaaGreatDoor.C
open Go.Sym Go.Proofs.YtpohfpnlepmebaaGreatDoor.I
/-- A heap in which a pool stands, and letters in a row of their own. -/
abbrev mset (H : List Blk) (b off nb vb eb rb rv : Nat) (cb : List A) (ns : List Nd) (ks : List Int) : List Blk := pset (H.set rb (eblk rv ks)) b off nb vb eb cb ns
theorem PIn.row {H : List Blk} {b off nb : Nat} {cb : List A} (h : PIn H b off nb cb) (hcb : cb.drop (off + 1) = []) (rb rv : Nat) (ks : List Int) : PIn (H.set rb (eblk rv ks)) b off nb cb :=
  ⟨by simpa using h.blt, by simpa using h.nlt, h.ne, h.olt, by simpa using Closed1_set (by simp [inAs_scals _ (ints_scals ks)]) _ _ h.cl, by simpa using h.inc, ⟨[], fun G hG => by rw [hcb]; simp⟩⟩
section
variable {H : List Blk} {b off nb : Nat} {cb : List A} {rb : Nat} (h1 : rb ≠ b) (h2 : rb ≠ nb) (h3 : rb < H.length)
include h1 h2 h3
theorem mset_row (vb eb rv : Nat) (ns : List Nd) (ks : List Int) : (mset H b off nb vb eb rb rv cb ns ks)[rb]? = some (eblk rv ks) := by
  rw [mset, pset_other vb eb ns h1 h2]
  simp [h3]
theorem mset_set (vb eb rv : Nat) (ns : List Nd) (ks ks' : List Int) : (mset H b off nb vb eb rb rv cb ns ks).set rb (eblk rv ks') = mset H b off nb vb eb rb rv cb ns ks' := by
  simp only [mset, pset]
  rw [List.set_comm _ _ h1.symm, List.set_comm _ _ h2.symm, List.set_set]
theorem mset_app (h : PIn H b off nb cb) (T : List Blk) (vb eb rv : Nat) (ns : List Nd) (ks : List Int) : mset (H ++ T) b off nb vb eb rb rv cb ns ks = mset H b off nb vb eb rb rv cb ns ks ++ T := by
  simp only [mset, pset]
  rw [set_left h3, set_left (by simpa using h.nlt), set_left (by simpa using h.blt)]
end
theorem match_call {f : FuncId} {S : FuncId → Bool} {K : A → Dl → Prop} {zs : List A} {r : A} (hS : S f = true) {H : List Blk} (T : List Blk) (b off nb vb eb rb rv : Nat) (cb : List A) (ns ns' : List Nd) (ks ks' : List Int) (h : PIn H b off nb cb) (h1 : rb ≠ b) (h2 : rb ≠ nb) (h3 : rb < H.length)
    (hf : SemT Go.Proofs.Tryz.prog f zs (mset (H ++ T) b off nb vb eb rb rv cb ns ks) r (mset (H ++ T) b off nb vb eb rb rv cb ns' ks')) (hK : K r (.full [nb, b, rb] (mset H b off nb vb eb rb rv cb ns' ks' ++ T))) : @WCall' Go.Proofs.Tryz.prog S f zs (mset H b off nb vb eb rb rv cb ns ks ++ T) ⟨K⟩ := by
  rw [← mset_app h1 h2 h3 h] at hK ⊢
  refine WCall_t' hS [nb, b, rb] hf (by simp [mset]) (fun q hq _ => ?_) hK
  simp at hq
  simp only [mset, pset]
  rw [List.getElem?_set_ne (by omega), List.getElem?_set_ne (by omega), List.getElem?_set_ne (by omega), List.getElem?_set_ne (by omega), List.getElem?_set_ne (by omega), List.getElem?_set_ne (by omega)]
theorem impl_pattern_match_t {s : List Pt} (hG : PGood s) (hl : s.length ≤ 1000000) : ∀ (n j : Nat), j < n → j < s.length → ∀ (H : List Blk) (b off nb vb eb rb rv : Nat) (cb : List A) (ns : List Nd) (ks : List Int) (t : Nat), ks.length = 26 → PIn H b off nb cb → cb.drop (off + 1) = [] → poolF ns = true → t < ns.length → rb ≠ b → rb ≠ nb → rb < H.length →
    T 29 [aPat s, .ptr b vb off, .ref rb rv 0 26, i6 j, i6 t] (mset H b off nb vb eb rb rv cb ns ks) (.bool (mtP s n ns ks j t).2.2) (mset H b off nb vb eb rb rv cb (mtP s n ns ks j t).1 (mtP s n ns ks j t).2.1)
  | 0, j, h, _ => by omega
  | n + 1, j, hj, hjs => fun H b off nb vb eb rb rv cb ns ks t hk h hcb hp ht h1 h2 h3 => by
    have ih := impl_pattern_match_t hG hl n
    have hpt := hG j hjs
    have hns := poolF_len hp
    have hg : ptG s (j : Int) = s[j] := by simp [ptG, hjs]
    have hR := h.row hcb rb rv ks
    refine semT' (S := (fun f => [29, 51].contains f)) hm impl_pattern_match_ok (Nat.le_of_ble_eq_true rfl) ?_
    unfold impl_pattern_match; dsimp only
    obtain ⟨r, hr⟩ := vPs_at hjs
    obtain ⟨f, hf⟩ := enc_at ht
    have g3 : 3 ≤ s.length * 3 - j * 3 := by omega
    have f3 : 3 ≤ ns.length * 3 - t * 3 := by omega
    have hst : mtP s (n + 1) ns ks (j : Int) t = mtP s (n + 1) ns ks (j : Int) t := rfl
    conv at hst => rhs; unfold mtP
    rw [hg, ndG_at ht] at hst
    have hblt : b < (mset H b off nb vb eb rb rv cb ns ks).length := by simpa [mset] using h.blt
    have hnlt : nb < (mset H b off nb vb eb rb rv cb ns ks).length := by simpa [mset] using h.nlt
    have hrlt : rb < (mset H b off nb vb eb rb rv cb ns ks).length := by simpa [mset] using h3
    have gb : ∀ T : List Blk, (mset H b off nb vb eb rb rv cb ns ks ++ T)[b]? = _ := fun T => (get_left hblt).trans (hR.at_b vb eb ns)
    have gn : ∀ T : List Blk, (mset H b off nb vb eb rb rv cb ns ks ++ T)[nb]? = _ := fun T => (get_left hnlt).trans (hR.at_nb vb eb ns)
    have gr : ∀ T : List Blk, (mset H b off nb vb eb rb rv cb ns ks ++ T)[rb]? = _ := fun T => (get_left hrlt).trans (mset_row h1 h2 h3 vb eb rv ns ks)
    have hd := set_drop cb off (pref nb ns) h.olt
    have hnp := nd_parts hp ht
    generalize hN : s[j] = p at hpt hr hst
    simp [hjs, g3, hr]
    simp [gb, gn, hd, ht, f3, hf]
    have sl : ∀ (T : List Blk) x, (mset H b off nb vb eb rb rv cb ns ks ++ T).set rb x = (mset H b off nb vb eb rb rv cb ns ks).set rb x ++ T := fun T x => set_left hrlt x
    have gs : ∀ (T : List Blk) x, ((mset H b off nb vb eb rb rv cb ns ks).set rb x ++ T)[rb]? = some x := fun T x => (get_left (by simpa using hrlt)).trans (by simp [h3])
    have hHl : (mset H b off nb vb eb rb rv cb ns ks).length = H.length := by simp [mset]
    have hdrop : ∀ (ns' : List Nd) (ks' : List Int) (T : List Blk) (x : Bool), LeV H.length (.bool x) (mset H b off nb vb eb rb rv cb ns' ks' ++ T) (.bool x) (mset H b off nb vb eb rb rv cb ns' ks') := fun ns' ks' T x => by
      have e : (mset H b off nb vb eb rb rv cb ns' ks').length = H.length := by simp [mset]
      refine LeV.drop (by rw [e]; exact Nat.le_refl _) ?_ (by simp)
      rw [e]
      simpa using (h.row hcb rb rv ks').closed vb eb ns'
    refine br_intro' (fun u => ?_) (fun u => ?_) <;> (have u0 := u) <;> simp only [decide_eq_true_eq, decide_eq_false_iff_not] at u <;> simp [u0]
    · rw [if_pos u] at hst
      have hpn : p.ps = [] := by
        rcases List.eq_nil_or_concat p.ps with e | e
        · exact e
        · rcases hpt.sign (by obtain ⟨_, _, e⟩ := e; simp [e]) with g | g <;> omega
      have hlf := hpt.leaf hpn
      obtain ⟨q, hq⟩ : ∃ q : Nat, p.n = q := ⟨p.n.toNat, by omega⟩
      have hq2 : q < ks.length := by omega
      have hq26 : q < 26 := by omega
      rw [hq] at hst ⊢
      simp [gr, hk, hq26, hq2]
      repeat (refine ck_intro' (by omega) ?_; try simp [gr, hk, hq26, hq2])
      refine br_intro' (fun w => ?_) (fun w => ?_) <;> (have w0 := w) <;> simp only [decide_eq_true_eq, decide_eq_false_iff_not] at w <;> simp [w0]
      · simp [gr, sl, gs, hk, hq26, hq2]
        repeat (refine ck_intro' (by omega) ?_; try simp [gr, sl, gs, hk, hq26, hq2])
        have ea : askP ks q t = ks.set q t := by simp [askP, hq2, w]
        rw [hst, ea, ints_set, mset_set h1 h2 h3]
        refine LeV.trans (hdrop _ _ _ _) (LeV.eq (by simp [hq2]) rfl)
      · simp [gr, sl, gs, hk, hq26, hq2]
        repeat (refine ck_intro' (by omega) ?_; try simp [gr, sl, gs, hk, hq26, hq2])
        have ea : askP ks q t = ks := by simp [askP, hq2, w]
        rw [hst, ea]
        refine LeV.trans (hdrop _ _ _ _) (LeV.eq (by simp [hq2]) rfl)
    rw [if_neg u] at hst
    have bad : mtP s (n + 1) ns ks j t = (ns, ks, false) → ∀ T : List Blk, LeV H.length (A.bool false) (mset H b off nb vb eb rb rv cb ns ks ++ T) (.bool (mtP s (n + 1) ns ks j t).2.2) (mset H b off nb vb eb rb rv cb (mtP s (n + 1) ns ks j t).1 (mtP s (n + 1) ns ks j t).2.1) := fun e T => by
      rw [e]
      exact hdrop _ _ _ _
    have d1 : ∀ k, ¬ H.length + k = b := fun k => by have := h.blt; omega
    have d2 : ∀ k, ¬ H.length + k = nb := fun k => by have := h.nlt; omega
    have d3 : ∀ k, ¬ H.length + k = rb := fun k => by omega
    have d10 : ¬ H.length = b := d1 0
    have d20 : ¬ H.length = nb := d2 0
    have d30 : ¬ H.length = rb := d3 0
    have d4 : ¬ nb = b := fun e => h.ne e.symm
    have hT1 : Closed1 (H ++ [(⟨0, false, 1, [.int .u8 p.s, i6 p.n, aI p.ps], none⟩ : Blk), ⟨0, false, 1, [i6 ns[t].k, i6 ns[t].a, i6 ns[t].b], none⟩]).length [⟨0, false, 1, [.int .u8 p.s, i6 p.n, aI p.ps], none⟩, ⟨0, false, 1, [i6 ns[t].k, i6 ns[t].a, i6 ns[t].b], none⟩] = true := by simp [inAs_scals _ (ints_scals p.ps)]
    have hHT : H.length ≤ (H ++ [(⟨0, false, 1, [.int .u8 p.s, i6 p.n, aI p.ps], none⟩ : Blk), ⟨0, false, 1, [i6 ns[t].k, i6 ns[t].a, i6 ns[t].b], none⟩]).length := by simp
    refine br_intro' (fun w => ?_) (fun w => ?_) <;> (have w0 := w) <;> simp only [decide_eq_true_eq, decide_eq_false_iff_not] at w <;> simp [w0]
    · rw [if_pos w] at hst
      refine br_intro' (fun z => ?_) (fun z => ?_) <;> (have z0 := z) <;> simp only [decide_eq_true_eq, decide_eq_false_iff_not] at z <;> simp [z0]
      · rw [if_neg (by simp [z])] at hst
        obtain ⟨⟨a0, a1⟩, ⟨b0, b1⟩⟩ := hnp (by omega)
        have hpn : p.ps ≠ [] := fun e => by
          rcases hpt.leaf e with g | g <;> omega
        have hlen : p.ps.length = 2 := by
          rcases hpt.sign hpn with ⟨g, _⟩ | ⟨_, g⟩
          · exact g
          · omega
        obtain ⟨a, c, hps⟩ := ps_two hlen
        have ha := hpt.lt a (by simp [hps])
        have hc := hpt.lt c (by simp [hps])
        obtain ⟨qa, rfl⟩ : ∃ q : Nat, a = q := ⟨a.toNat, by omega⟩
        obtain ⟨qc, rfl⟩ : ∃ q : Nat, c = q := ⟨c.toNat, by omega⟩
        obtain ⟨xa, hxa⟩ : ∃ q : Nat, ns[t].a = q := ⟨ns[t].a.toNat, by omega⟩
        obtain ⟨xb, hxb⟩ : ∃ q : Nat, ns[t].b = q := ⟨ns[t].b.toNat, by omega⟩
        rw [hps] at hT1 hHT hst ⊢
        simp only [List.getD_cons_zero, List.getD_cons_succ] at hst
        rw [hxa, hxb] at hst hT1 hHT ⊢
        simp
        refine match_call rfl [_, _] b off nb vb eb rb rv cb ns (mtP s n ns ks qa xa).1 ks (mtP s n ns ks qa xa).2.1 h h1 h2 h3 (ih qa (by omega) (by omega) _ b off nb vb eb rb rv cb ns ks xa hk (h.app hT1) hcb hp (by omega) h1 h2 (Nat.lt_of_lt_of_le h3 hHT)) ?_; simp
        have hA1 := mtP_pool (s := s) n ks qa xa hp
        have hA2 := mtP_len (s := s) n ns ks qa xa
        have hA3 := mtP_ge (s := s) n ns ks qa xa
        generalize mtP s n ns ks qa xa = A at hst hA1 hA2 hA3 ⊢
        rcases Bool.eq_false_or_eq_true A.2.2 with y | y <;> simp [y]
        · rw [if_neg (by simp [y])] at hst
          refine match_call rfl [_, _] b off nb vb eb rb rv cb A.1 (mtP s n A.1 A.2.1 qc xb).1 A.2.1 (mtP s n A.1 A.2.1 qc xb).2.1 h h1 h2 h3 (ih qc (by omega) (by omega) _ b off nb vb eb rb rv cb A.1 A.2.1 xb (by omega) (h.app hT1) hcb hA1 (by omega) h1 h2 (Nat.lt_of_lt_of_le h3 hHT)) ?_; simp
          refine ck_intro' (regOk_ren (fun n => if n = b then 0 else if n = nb then 1 else if n = rb then 2 else n - H.length + 3) (by simp [d1, d2, d3, d10, d20, d30, d4, h1, h2]; kernel_rfl)) ?_
          try simp
          rw [hst]
          exact hdrop _ _ _ _
        · rw [if_pos y] at hst
          refine ck_intro' (regOk_ren (fun n => if n = b then 0 else if n = nb then 1 else if n = rb then 2 else n - H.length + 3) (by simp [d1, d2, d3, d10, d20, d30, d4, h1, h2]; kernel_rfl)) ?_
          try simp
          rw [hst, y]
          exact hdrop _ _ _ _
      · rw [if_pos z] at hst
        refine ck_intro' (regOk_ren (fun n => if n = b then 0 else if n = nb then 1 else if n = rb then 2 else n - H.length + 3) (by simp [d1, d2, d3, d10, d20, d30, d4, h1, h2]; kernel_rfl)) ?_
        try simp
        exact bad hst _
    rw [if_neg w] at hst
    refine br_intro' (fun w2 => ?_) (fun w2 => ?_) <;> (have w20 := w2) <;> simp only [decide_eq_true_eq, decide_eq_false_iff_not] at w2 <;> simp [w20]
    · rw [if_pos (.inl w2)] at hst
      refine impl_kindOf_call (x := p.s) rfl ?_; simp
      refine br_intro' (fun z => ?_) (fun z => ?_) <;> (have z0 := z) <;> simp only [decide_eq_true_eq, decide_eq_false_iff_not] at z <;> simp [z0]
      · rw [if_neg (by simp [z])] at hst
        have hk3 : kindF p.s = 3 ∨ kindF p.s = 4 := by rw [w2]; decide
        obtain ⟨⟨a0, a1⟩, ⟨b0, b1⟩⟩ := hnp (by omega)
        have hpn : p.ps ≠ [] := fun e => by
          rcases hpt.leaf e with g | g <;> omega
        have hlen : p.ps.length = 2 := by
          rcases hpt.sign hpn with ⟨g, _⟩ | ⟨_, g⟩
          · exact g
          · omega
        obtain ⟨a, c, hps⟩ := ps_two hlen
        have ha := hpt.lt a (by simp [hps])
        have hc := hpt.lt c (by simp [hps])
        obtain ⟨qa, rfl⟩ : ∃ q : Nat, a = q := ⟨a.toNat, by omega⟩
        obtain ⟨qc, rfl⟩ : ∃ q : Nat, c = q := ⟨c.toNat, by omega⟩
        obtain ⟨xa, hxa⟩ : ∃ q : Nat, ns[t].a = q := ⟨ns[t].a.toNat, by omega⟩
        obtain ⟨xb, hxb⟩ : ∃ q : Nat, ns[t].b = q := ⟨ns[t].b.toNat, by omega⟩
        rw [hps] at hT1 hHT hst ⊢
        simp only [List.getD_cons_zero, List.getD_cons_succ] at hst
        rw [hxa, hxb] at hst hT1 hHT ⊢
        simp
        refine match_call rfl [_, _] b off nb vb eb rb rv cb ns (mtP s n ns ks qc xb).1 ks (mtP s n ns ks qc xb).2.1 h h1 h2 h3 (ih qc (by omega) (by omega) _ b off nb vb eb rb rv cb ns ks xb hk (h.app hT1) hcb hp (by omega) h1 h2 (Nat.lt_of_lt_of_le h3 hHT)) ?_; simp
        have hA1 := mtP_pool (s := s) n ks qc xb hp
        have hA2 := mtP_len (s := s) n ns ks qc xb
        have hA3 := mtP_ge (s := s) n ns ks qc xb
        generalize mtP s n ns ks qc xb = A at hst hA1 hA2 hA3 ⊢
        rcases Bool.eq_false_or_eq_true A.2.2 with y | y <;> simp [y]
        · rw [if_neg (by simp [y])] at hst
          refine match_call rfl [_, _] b off nb vb eb rb rv cb A.1 (mtP s n A.1 A.2.1 qa xa).1 A.2.1 (mtP s n A.1 A.2.1 qa xa).2.1 h h1 h2 h3 (ih qa (by omega) (by omega) _ b off nb vb eb rb rv cb A.1 A.2.1 xa (by omega) (h.app hT1) hcb hA1 (by omega) h1 h2 (Nat.lt_of_lt_of_le h3 hHT)) ?_; simp
          refine ck_intro' (regOk_ren (fun n => if n = b then 0 else if n = nb then 1 else if n = rb then 2 else n - H.length + 3) (by simp [d1, d2, d3, d10, d20, d30, d4, h1, h2]; kernel_rfl)) ?_
          try simp
          rw [hst]
          exact hdrop _ _ _ _
        · rw [if_pos y] at hst
          refine ck_intro' (regOk_ren (fun n => if n = b then 0 else if n = nb then 1 else if n = rb then 2 else n - H.length + 3) (by simp [d1, d2, d3, d10, d20, d30, d4, h1, h2]; kernel_rfl)) ?_
          try simp
          rw [hst, y]
          exact hdrop _ _ _ _
      · rw [if_pos z] at hst
        refine ck_intro' (regOk_ren (fun n => if n = b then 0 else if n = nb then 1 else if n = rb then 2 else n - H.length + 3) (by simp [d1, d2, d3, d10, d20, d30, d4, h1, h2]; kernel_rfl)) ?_
        try simp
        exact bad hst _
    refine br_intro' (fun w3 => ?_) (fun w3 => ?_) <;> (have w30 := w3) <;> simp only [decide_eq_true_eq, decide_eq_false_iff_not] at w3 <;> simp [w30]
    · rw [if_pos (.inr w3)] at hst
      refine impl_kindOf_call (x := p.s) rfl ?_; simp
      refine br_intro' (fun z => ?_) (fun z => ?_) <;> (have z0 := z) <;> simp only [decide_eq_true_eq, decide_eq_false_iff_not] at z <;> simp [z0]
      · rw [if_neg (by simp [z])] at hst
        have hk3 : kindF p.s = 3 ∨ kindF p.s = 4 := by rw [w3]; decide
        obtain ⟨⟨a0, a1⟩, ⟨b0, b1⟩⟩ := hnp (by omega)
        have hpn : p.ps ≠ [] := fun e => by
          rcases hpt.leaf e with g | g <;> omega
        have hlen : p.ps.length = 2 := by
          rcases hpt.sign hpn with ⟨g, _⟩ | ⟨_, g⟩
          · exact g
          · omega
        obtain ⟨a, c, hps⟩ := ps_two hlen
        have ha := hpt.lt a (by simp [hps])
        have hc := hpt.lt c (by simp [hps])
        obtain ⟨qa, rfl⟩ : ∃ q : Nat, a = q := ⟨a.toNat, by omega⟩
        obtain ⟨qc, rfl⟩ : ∃ q : Nat, c = q := ⟨c.toNat, by omega⟩
        obtain ⟨xa, hxa⟩ : ∃ q : Nat, ns[t].a = q := ⟨ns[t].a.toNat, by omega⟩
        obtain ⟨xb, hxb⟩ : ∃ q : Nat, ns[t].b = q := ⟨ns[t].b.toNat, by omega⟩
        rw [hps] at hT1 hHT hst ⊢
        simp only [List.getD_cons_zero, List.getD_cons_succ] at hst
        rw [hxa, hxb] at hst hT1 hHT ⊢
        simp
        refine match_call rfl [_, _] b off nb vb eb rb rv cb ns (mtP s n ns ks qc xb).1 ks (mtP s n ns ks qc xb).2.1 h h1 h2 h3 (ih qc (by omega) (by omega) _ b off nb vb eb rb rv cb ns ks xb hk (h.app hT1) hcb hp (by omega) h1 h2 (Nat.lt_of_lt_of_le h3 hHT)) ?_; simp
        have hA1 := mtP_pool (s := s) n ks qc xb hp
        have hA2 := mtP_len (s := s) n ns ks qc xb
        have hA3 := mtP_ge (s := s) n ns ks qc xb
        generalize mtP s n ns ks qc xb = A at hst hA1 hA2 hA3 ⊢
        rcases Bool.eq_false_or_eq_true A.2.2 with y | y <;> simp [y]
        · rw [if_neg (by simp [y])] at hst
          refine match_call rfl [_, _] b off nb vb eb rb rv cb A.1 (mtP s n A.1 A.2.1 qa xa).1 A.2.1 (mtP s n A.1 A.2.1 qa xa).2.1 h h1 h2 h3 (ih qa (by omega) (by omega) _ b off nb vb eb rb rv cb A.1 A.2.1 xa (by omega) (h.app hT1) hcb hA1 (by omega) h1 h2 (Nat.lt_of_lt_of_le h3 hHT)) ?_; simp
          refine ck_intro' (regOk_ren (fun n => if n = b then 0 else if n = nb then 1 else if n = rb then 2 else n - H.length + 3) (by simp [d1, d2, d3, d10, d20, d30, d4, h1, h2]; kernel_rfl)) ?_
          try simp
          rw [hst]
          exact hdrop _ _ _ _
        · rw [if_pos y] at hst
          refine ck_intro' (regOk_ren (fun n => if n = b then 0 else if n = nb then 1 else if n = rb then 2 else n - H.length + 3) (by simp [d1, d2, d3, d10, d20, d30, d4, h1, h2]; kernel_rfl)) ?_
          try simp
          rw [hst, y]
          exact hdrop _ _ _ _
      · rw [if_pos z] at hst
        refine ck_intro' (regOk_ren (fun n => if n = b then 0 else if n = nb then 1 else if n = rb then 2 else n - H.length + 3) (by simp [d1, d2, d3, d10, d20, d30, d4, h1, h2]; kernel_rfl)) ?_
        try simp
        exact bad hst _
    rw [if_neg (by omega)] at hst
    have hT := has_t hG hl 63 (n + 1) j hj hjs
    refine WCall_pure rfl hT (by simp) (by simp) (by simp) ?_; simp
    rw [Int.toNat_natCast] at hst
    rcases Bool.eq_false_or_eq_true (hasAt s 63 j) with q | q <;> simp [q]
    · rw [if_pos q] at hst
      trace_state
      exact bad hst _
    rw [if_neg (by simp [q])] at hst
    have gR : ∀ T : List Blk, (H.set rb (eblk rv ks) ++ T)[rb]? = some (eblk rv ks) := fun T => (get_left (by simpa using h3)).trans (by simp [h3])
    refine pool_callE (H := H.set rb (eblk rv ks)) rfl [_, _] b off nb vb eb cb ns (mkP s ks (n + 1) ns j).1 hR (by simp [inAs_scals _ (ints_scals p.ps)]) (fun h' => impl_pattern_make_r hG hl hk (n + 1) j hj hjs _ b off nb vb eb rb rv cb ns h' hns h1 h2 (gR _)) ?_; simp
    trace_state
    rw [hst]
    exact hdrop _ _ _ _
end Go.Proofs.YtpohfpnlepmebaaGreatDoor.C

set_option linter.unusedVariables false
set_option linter.unusedSimpArgs false
namespace Go.Proofs.YtpohfpnlepmebaaGreatDoor.C
open Go.Sym Go.Proofs.YtpohfpnlepmebaaGreatDoor.I
def nodeAt (ns : List Nd) (t : Int) : Nd := ns.getD t.toNat ⟨0, 0, 0⟩
theorem nodeAt_nat {ns : List Nd} {j : Nat} (h : j < ns.length) : nodeAt ns j = ns[j] := by simp [nodeAt, h]
/-- The parts of a node of a right pool stand before it. -/
theorem parts_in {ns : List Nd} (hp : poolF ns = true) {j : Nat} (h : j < ns.length) (hk : partsF ns[j].k = 2) : (∃ a : Nat, ns[j].a = a ∧ a < j) ∧ ∃ b : Nat, ns[j].b = b ∧ b < j := by
  have := (okFrom_all hp h).1
  simp [rightF, hk, inF] at this
  exact ⟨⟨ns[j].a.toNat, by omega, by omega⟩, ns[j].b.toNat, by omega, by omega⟩
theorem part_in {ns : List Nd} (hp : poolF ns = true) {j : Nat} (h : j < ns.length) (hk : partsF ns[j].k = 1) : ∃ a : Nat, ns[j].a = a ∧ a < j := by
  have := (okFrom_all hp h).1
  simp [rightF, hk, inF] at this
  exact ⟨ns[j].a.toNat, by omega, by omega⟩
theorem parts_kind {ns : List Nd} (hp : poolF ns = true) {j : Nat} (h : j < ns.length) : partsF ns[j].k = 0 ∨ partsF ns[j].k = 1 ∨ partsF ns[j].k = 2 := by
  have := (okFrom_all hp h).1
  unfold rightF at this
  split at this
  · exact .inl ‹_›
  · split at this
    · exact .inr (.inl ‹_›)
    · split at this
      · exact .inr (.inr ‹_›)
      · cases this
theorem hasF_of {m j : Nat} (h : j < m) : hasF m j = true := by simp [hasF, inF]; omega
theorem hasN {m : Nat} {t : Int} (h : hasF m t = true) : ∃ j : Nat, t = j ∧ j < m := by
  simp [hasF, inF] at h
  exact ⟨t.toNat, by omega, by omega⟩
abbrev jblk (xs : List Int) : Blk := ⟨xs.length, decide (xs.length = 0), 1, ints xs, none⟩
abbrev jref (b : Nat) (xs : List Int) : A := .ref b xs.length 0 xs.length
@[simp] theorem ints_take' (xs : List Int) : (ints xs).take xs.length = ints xs := List.take_of_length_le (by simp)
@[simp] theorem ints_tells' (H H' : List Blk) (g : List (Option Nat)) (xs : List Int) : Tells H H' g (ints xs) (ints xs) := Tells_scals _ (ints_scals xs)
@[simp] theorem ints_one (xs : List Int) : (ints xs).all A.one = true := one_scals _ (ints_scals xs)
@[simp] theorem ints_inAs (m : Nat) (xs : List Int) : inAs m (ints xs) = true := inAs_scals _ (ints_scals xs)
@[simp] theorem ints_nil : ints [] = [] := rfl
theorem ints_snoc (xs : List Int) (x : Int) : ints (xs ++ [x]) = ints xs ++ [i6 x] := by simp [ints]
/-- The parts of a node. -/
def partsL (n : Nd) : List Int := if partsF n.k = 1 then [n.a] else if partsF n.k = 2 then [n.a, n.b] else []
/-- Looking for a number. -/
def idxF : List Int → Int → Int → Int
  | [], _, _ => -1
  | x :: xs, t, i => if x = t then i else idxF xs t (i + 1)
theorem idxF_neg (t : Int) : ∀ (xs : List Int) (i : Int), 0 ≤ i → (0 ≤ idxF xs t i ↔ t ∈ xs)
  | [], i, _ => by simp [idxF]
  | x :: xs, i, hi => by
    unfold idxF
    by_cases e : x = t
    · rw [if_pos e]; simp [e, hi]
    · rw [if_neg e, idxF_neg t xs (i + 1) (by omega)]
      simp only [List.mem_cons]
      exact ⟨.inr, fun h => h.resolve_left fun q => e q.symm⟩
def hasK (ks : List Int) (t : Int) : Bool := decide (t ∈ ks)
def pubF (x : Int) : Bool := inF x 0 49
theorem kpF_pool {ns : List Nd} {ks : List Int} (h : kpF ns ks = true) : poolF ns = true := by simp [kpF] at h; exact h.1
end Go.Proofs.YtpohfpnlepmebaaGreatDoor.C

set_option linter.unusedVariables false
set_option linter.unusedSimpArgs false
set_option maxRecDepth 4000
namespace Go.Proofs.YtpohfpnlepmebaaGreatDoor.C
open Go.Sym Go.Proofs.YtpohfpnlepmebaaGreatDoor.I
def mtT (s : List Pt) (ns : List Nd) (ks : List Int) (t : Int) : List Nd × List Int × Bool := mtL (nodesL s) s.length ns ks ((s.length - 1 : Nat) : Int) t
/-- What PatMatch answers. -/
def ptF (ns : List Nd) (ks : List Int) (tx : ByteArray) (t : Int) : List Nd × List Int × Bool :=
  if poolF ns = true then
    if (patF tx).2 = true ∧ envF ns.length ks = true ∧ hasF ns.length t = true then
      if (mtT (patF tx).1 ns ks t).2.2 = true then mtT (patF tx).1 ns ks t else (ns, [], false)
    else (ns, [], false)
  else ([], [], false)
theorem spec_l11Take_c (s : List Pt) (ns : List Nd) (ks : List Int) (t : Nat) (hG : PGood s) (h0 : 0 < s.length) (hs : s.length ≤ 1000000) (hp : poolF ns = true) (hk : ks.length = 26) (ht : t < ns.length) : T 21 [aP ns, aI ks, .sl s.length (encLs (nodesL s)), i6 t] [] (.tup [aP (mtT s ns ks t).1, .ref 0 26 0 26, .bool (mtT s ns ks t).2.2]) ([eblk 26 (mtT s ns ks t).2.1]) := by
  refine semT' (S := (fun f => [38, 58].contains f)) hm spec_l11Take_ok (Nat.le_of_ble_eq_true rfl) ?_
  unfold spec_l11Take; dsimp only
  simp
  refine ck_intro' (by omega) ?_; simp [hk]
  have hw : IntKind.i64.wrap ((s.length : Int) - 1) = ((s.length - 1 : Nat) : Int) := by rw [wrap64 (by omega) (by omega)]; omega
  rw [hw]
  have hM := spec_l11Match_t (LOk_nodes hG) (by simp; omega) s.length (s.length - 1) ns ks t [⟨0, false, 1, [A.sl ns.length (enc ns)], none⟩, ⟨0, false, 1, [A.nil], none⟩, eblk 0 ks] 2 0 (by omega) (by simp; omega) hp hk ht rfl (by simp [inAs_scals _ (ints_scals ks)])
  rw [show mtL (nodesL s) s.length ns ks ((s.length - 1 : Nat) : Int) t = mtT s ns ks t from rfl] at hM
  have hl := mtL_len (L := nodesL s) s.length ns ks ((s.length - 1 : Nat) : Int) t
  rw [show mtL (nodesL s) s.length ns ks ((s.length - 1 : Nat) : Int) t = mtT s ns ks t from rfl] at hl
  generalize mtT s ns ks t = R at hM hl ⊢
  rw [nodesL_len] at hM
  refine row_call (b := 2) rfl hM ?_; simp
  first | (refine LeV.tell [none] ?_ ?_ ?_ <;> (simp; done)) | (refine LeV.tell [some 0] ?_ ?_ ?_ <;> (simp; done)) | (refine LeV.tell [some 1] ?_ ?_ ?_ <;> (simp; done)) | (refine LeV.tell [some 2] ?_ ?_ ?_ <;> (simp; done)) | (refine LeV.tell [some 3] ?_ ?_ ?_ <;> (simp; done)) | (refine LeV.tell [some 4] ?_ ?_ ?_ <;> (simp; done)) | (refine LeV.tell [some 5] ?_ ?_ ?_ <;> (simp; done)) | (refine LeV.tell [some 6] ?_ ?_ ?_ <;> (simp; done)) | (refine LeV.tell [some 7] ?_ ?_ ?_ <;> (simp; done)) | (refine LeV.tell [some 8] ?_ ?_ ?_ <;> (simp; done)) | (refine LeV.tell [some 9] ?_ ?_ ?_ <;> (simp; done)) | (refine LeV.tell [some 10] ?_ ?_ ?_ <;> (simp; done)) | (refine LeV.tell [some 11] ?_ ?_ ?_ <;> (simp; done)) | (refine LeV.tell [some 12] ?_ ?_ ?_ <;> (simp; done)) | (refine LeV.tell [some 13] ?_ ?_ ?_ <;> (simp; done)) | (refine LeV.tell [some 14] ?_ ?_ ?_ <;> (simp; done)) | (refine LeV.tell [some 15] ?_ ?_ ?_ <;> (simp; done))
theorem spec_l11Take_k {s : List Pt} {ns : List Nd} {ks : List Int} {t : Nat} (hG : PGood s) (h0 : 0 < s.length) (hs : s.length ≤ 1000000) (hp : poolF ns = true) (hk : ks.length = 26) (ht : t < ns.length) {S : FuncId → Bool} {H : List Blk} {K : A → Dl → Prop} {zs : List A} (hS : S 21 = false) (hv : viewL (viewA 8 H) zs = some [aP ns, aI ks, .sl s.length (encLs (nodesL s)), i6 t]) (ho : noOwns zs = true ∨ nosl (.tup [aP (mtT s ns ks t).1, .ref 0 26 0 26, .bool (mtT s ns ks t).2.2]) = true ∧ noslBlks ([eblk 26 (mtT s ns ks t).2.1]) = true) (hK : K (shiftA H.length (.tup [aP (mtT s ns ks t).1, .ref 0 26 0 26, .bool (mtT s ns ks t).2.2])) (.news (([eblk 26 (mtT s ns ks t).2.1]).map (shiftB H.length)))) : @WCall' Go.Proofs.Tryz.prog S 21 zs H ⟨K⟩ :=
  WCall_ro' hS hv (spec_l11Take_c s ns ks t hG h0 hs hp hk ht) rfl ho hK
theorem mtT_pool {s : List Pt} {ns : List Nd} (ks : List Int) (t : Int) (hp : poolF ns = true) : poolF (mtT s ns ks t).1 = true := mtL_pool _ ks _ t hp
theorem mtT_len (s : List Pt) (ns : List Nd) (ks : List Int) (t : Int) : (mtT s ns ks t).2.1.length = ks.length := mtL_len _ ns ks _ t
theorem spec_PatMatch_c (ns : List Nd) (ks : List Int) (tx : ByteArray) (t : Int) (hl : ns.length < 9223372036854775807) (hk : ks.length < 9223372036854775807) (hs : tx.size ≤ 281474976710656) : T 5 [aP ns, aI ks, .str tx, i6 t] [] (.tup [.agg [pref 0 (ptF ns ks tx t).1], jref 1 (ptF ns ks tx t).2.1, .bool (ptF ns ks tx t).2.2]) ([pblk (ptF ns ks tx t).1, jblk (ptF ns ks tx t).2.1]) := by
  refine semT' (S := S0) hm spec_PatMatch_ok (Nat.le_of_ble_eq_true rfl) ?_
  unfold spec_PatMatch; dsimp only
  obtain ⟨r1, r2⟩ := read_t hs
  simp
  refine spec_PoolOk_call rfl ?_; simp
  rcases Bool.eq_false_or_eq_true (poolF ns) with hp | hp <;> simp [hp]
  case inr =>
    rw [show ptF ns ks tx t = ([], [], false) by simp [ptF, hp]]
    first | (refine LeV.tell [none, none] ?_ ?_ ?_ <;> (simp; done)) | (refine LeV.tell [some 0, none] ?_ ?_ ?_ <;> (simp; done)) | (refine LeV.tell [some 1, none] ?_ ?_ ?_ <;> (simp; done)) | (refine LeV.tell [some 2, none] ?_ ?_ ?_ <;> (simp; done)) | (refine LeV.tell [some 3, none] ?_ ?_ ?_ <;> (simp; done)) | (refine LeV.tell [some 4, none] ?_ ?_ ?_ <;> (simp; done)) | (refine LeV.tell [some 5, none] ?_ ?_ ?_ <;> (simp; done)) | (refine LeV.tell [some 6, none] ?_ ?_ ?_ <;> (simp; done)) | (refine LeV.tell [some 7, none] ?_ ?_ ?_ <;> (simp; done)) | (refine LeV.tell [some 8, none] ?_ ?_ ?_ <;> (simp; done)) | (refine LeV.tell [some 9, none] ?_ ?_ ?_ <;> (simp; done)) | (refine LeV.tell [some 10, none] ?_ ?_ ?_ <;> (simp; done)) | (refine LeV.tell [some 11, none] ?_ ?_ ?_ <;> (simp; done)) | (refine LeV.tell [some 12, none] ?_ ?_ ?_ <;> (simp; done)) | (refine LeV.tell [some 13, none] ?_ ?_ ?_ <;> (simp; done)) | (refine LeV.tell [some 14, none] ?_ ?_ ?_ <;> (simp; done)) | (refine LeV.tell [some 15, none] ?_ ?_ ?_ <;> (simp; done))
  have hln := poolF_len hp
  rcases Bool.eq_false_or_eq_true (patF tx).2 with g | g
  case inr =>
    obtain ⟨L, hc⟩ := r2 g
    refine WCall_ro' rfl (by simp) hc rfl (.inl (by simp)) ?_; simp [shiftB]
    rw [show ptF ns ks tx t = (ns, [], false) by simp [ptF, hp, g]]
    refine spec_l1Copy_k (ns := ns) (by omega) rfl (by simp) (by simp [noslBlks]) ?_; simp [shiftB]
    first | (refine LeV.tell [none, none] ?_ ?_ ?_ <;> (simp; done)) | (refine LeV.tell [some 0, none] ?_ ?_ ?_ <;> (simp; done)) | (refine LeV.tell [some 1, none] ?_ ?_ ?_ <;> (simp; done)) | (refine LeV.tell [some 2, none] ?_ ?_ ?_ <;> (simp; done)) | (refine LeV.tell [some 3, none] ?_ ?_ ?_ <;> (simp; done)) | (refine LeV.tell [some 4, none] ?_ ?_ ?_ <;> (simp; done)) | (refine LeV.tell [some 5, none] ?_ ?_ ?_ <;> (simp; done)) | (refine LeV.tell [some 6, none] ?_ ?_ ?_ <;> (simp; done)) | (refine LeV.tell [some 7, none] ?_ ?_ ?_ <;> (simp; done)) | (refine LeV.tell [some 8, none] ?_ ?_ ?_ <;> (simp; done)) | (refine LeV.tell [some 9, none] ?_ ?_ ?_ <;> (simp; done)) | (refine LeV.tell [some 10, none] ?_ ?_ ?_ <;> (simp; done)) | (refine LeV.tell [some 11, none] ?_ ?_ ?_ <;> (simp; done)) | (refine LeV.tell [some 12, none] ?_ ?_ ?_ <;> (simp; done)) | (refine LeV.tell [some 13, none] ?_ ?_ ?_ <;> (simp; done)) | (refine LeV.tell [some 14, none] ?_ ?_ ?_ <;> (simp; done)) | (refine LeV.tell [some 15, none] ?_ ?_ ?_ <;> (simp; done))
  obtain ⟨hG, hpn, hlp⟩ := patF_good g
  have r3 : T 17 [.str tx] [] (.tup [.sl (nodesL (patF tx).1).length (encLs (nodesL (patF tx).1)), .bool true]) [] := semT_lev2 (r1 g) (LeV.ro rfl rfl (by simp [nodes_take]))
  refine WCall_pure rfl r3 (by simp) (by simp) (by simp) ?_; simp
  refine spec_l11Env_k (ns := ns) (ks := ks) (by omega) hk rfl (by simp) (by simp) ?_; simp
  rcases Bool.eq_false_or_eq_true (envF ns.length ks) with e | e <;> simp [e]
  case inr =>
    rw [show ptF ns ks tx t = (ns, [], false) by simp [ptF, hp, g, e]]
    refine spec_l1Copy_k (ns := ns) (by omega) rfl (by simp) (by simp [noslBlks]) ?_; simp [shiftB]
    first | (refine LeV.tell [none, none] ?_ ?_ ?_ <;> (simp; done)) | (refine LeV.tell [some 0, none] ?_ ?_ ?_ <;> (simp; done)) | (refine LeV.tell [some 1, none] ?_ ?_ ?_ <;> (simp; done)) | (refine LeV.tell [some 2, none] ?_ ?_ ?_ <;> (simp; done)) | (refine LeV.tell [some 3, none] ?_ ?_ ?_ <;> (simp; done)) | (refine LeV.tell [some 4, none] ?_ ?_ ?_ <;> (simp; done)) | (refine LeV.tell [some 5, none] ?_ ?_ ?_ <;> (simp; done)) | (refine LeV.tell [some 6, none] ?_ ?_ ?_ <;> (simp; done)) | (refine LeV.tell [some 7, none] ?_ ?_ ?_ <;> (simp; done)) | (refine LeV.tell [some 8, none] ?_ ?_ ?_ <;> (simp; done)) | (refine LeV.tell [some 9, none] ?_ ?_ ?_ <;> (simp; done)) | (refine LeV.tell [some 10, none] ?_ ?_ ?_ <;> (simp; done)) | (refine LeV.tell [some 11, none] ?_ ?_ ?_ <;> (simp; done)) | (refine LeV.tell [some 12, none] ?_ ?_ ?_ <;> (simp; done)) | (refine LeV.tell [some 13, none] ?_ ?_ ?_ <;> (simp; done)) | (refine LeV.tell [some 14, none] ?_ ?_ ?_ <;> (simp; done)) | (refine LeV.tell [some 15, none] ?_ ?_ ?_ <;> (simp; done))
  refine spec_l1Has_k (ns := ns) (t := t) (by omega) rfl (by simp) (by simp) ?_; simp
  rcases Bool.eq_false_or_eq_true (hasF ns.length t) with f | f <;> simp [f]
  case inr =>
    rw [show ptF ns ks tx t = (ns, [], false) by simp [ptF, hp, g, e, f]]
    refine spec_l1Copy_k (ns := ns) (by omega) rfl (by simp) (by simp [noslBlks]) ?_; simp [shiftB]
    first | (refine LeV.tell [none, none] ?_ ?_ ?_ <;> (simp; done)) | (refine LeV.tell [some 0, none] ?_ ?_ ?_ <;> (simp; done)) | (refine LeV.tell [some 1, none] ?_ ?_ ?_ <;> (simp; done)) | (refine LeV.tell [some 2, none] ?_ ?_ ?_ <;> (simp; done)) | (refine LeV.tell [some 3, none] ?_ ?_ ?_ <;> (simp; done)) | (refine LeV.tell [some 4, none] ?_ ?_ ?_ <;> (simp; done)) | (refine LeV.tell [some 5, none] ?_ ?_ ?_ <;> (simp; done)) | (refine LeV.tell [some 6, none] ?_ ?_ ?_ <;> (simp; done)) | (refine LeV.tell [some 7, none] ?_ ?_ ?_ <;> (simp; done)) | (refine LeV.tell [some 8, none] ?_ ?_ ?_ <;> (simp; done)) | (refine LeV.tell [some 9, none] ?_ ?_ ?_ <;> (simp; done)) | (refine LeV.tell [some 10, none] ?_ ?_ ?_ <;> (simp; done)) | (refine LeV.tell [some 11, none] ?_ ?_ ?_ <;> (simp; done)) | (refine LeV.tell [some 12, none] ?_ ?_ ?_ <;> (simp; done)) | (refine LeV.tell [some 13, none] ?_ ?_ ?_ <;> (simp; done)) | (refine LeV.tell [some 14, none] ?_ ?_ ?_ <;> (simp; done)) | (refine LeV.tell [some 15, none] ?_ ?_ ?_ <;> (simp; done))
  obtain ⟨j, rfl, hj⟩ := hasF_nat f
  have hF : ptF ns ks tx j = if (mtT (patF tx).1 ns ks j).2.2 = true then mtT (patF tx).1 ns ks j else (ns, [], false) := by simp [ptF, hp, g, e, f]
  refine spec_l11Take_k (s := (patF tx).1) (ns := ns) (ks := ks) (t := j) hG hpn (by omega) hp (envF_len e) hj rfl (by simp) (by simp [noslBlks]) ?_; simp [shiftB]
  have hpp := mtT_pool (s := (patF tx).1) ks j hp
  have hkl := mtT_len (patF tx).1 ns ks j
  rw [envF_len e] at hkl
  generalize mtT (patF tx).1 ns ks j = R at hF hpp hkl ⊢
  have hlr := poolF_len hpp
  rcases Bool.eq_false_or_eq_true R.2.2 with y | y <;> simp [y]
  · rw [if_pos y] at hF
    refine spec_l1Copy_k (ns := R.1) (by omega) rfl (by simp) (by simp [noslBlks]) ?_; simp [shiftB]
    rw [hF, y]
    exact LeV.tell [some 4, some 2] (by simp) (by simp [hkl]) (by simp [hkl])
  · rw [if_neg (by simp [y])] at hF
    refine spec_l1Copy_k (ns := ns) (by omega) rfl (by simp) (by simp [noslBlks]) ?_; simp [shiftB]
    rw [hF]
    first | (refine LeV.tell [none, none] ?_ ?_ ?_ <;> (simp; done)) | (refine LeV.tell [some 0, none] ?_ ?_ ?_ <;> (simp; done)) | (refine LeV.tell [some 1, none] ?_ ?_ ?_ <;> (simp; done)) | (refine LeV.tell [some 2, none] ?_ ?_ ?_ <;> (simp; done)) | (refine LeV.tell [some 3, none] ?_ ?_ ?_ <;> (simp; done)) | (refine LeV.tell [some 4, none] ?_ ?_ ?_ <;> (simp; done)) | (refine LeV.tell [some 5, none] ?_ ?_ ?_ <;> (simp; done)) | (refine LeV.tell [some 6, none] ?_ ?_ ?_ <;> (simp; done)) | (refine LeV.tell [some 7, none] ?_ ?_ ?_ <;> (simp; done)) | (refine LeV.tell [some 8, none] ?_ ?_ ?_ <;> (simp; done)) | (refine LeV.tell [some 9, none] ?_ ?_ ?_ <;> (simp; done)) | (refine LeV.tell [some 10, none] ?_ ?_ ?_ <;> (simp; done)) | (refine LeV.tell [some 11, none] ?_ ?_ ?_ <;> (simp; done)) | (refine LeV.tell [some 12, none] ?_ ?_ ?_ <;> (simp; done)) | (refine LeV.tell [some 13, none] ?_ ?_ ?_ <;> (simp; done)) | (refine LeV.tell [some 14, none] ?_ ?_ ?_ <;> (simp; done)) | (refine LeV.tell [some 15, none] ?_ ?_ ?_ <;> (simp; done))
theorem spec_PatMatch_k {ns : List Nd} {ks : List Int} {tx : ByteArray} {t : Int} (hl : ns.length < 9223372036854775807) (hk : ks.length < 9223372036854775807) (hs : tx.size ≤ 281474976710656) {S : FuncId → Bool} {H : List Blk} {K : A → Dl → Prop} {zs : List A} (hS : S 5 = false) (hv : viewL (viewA 8 H) zs = some [aP ns, aI ks, .str tx, i6 t]) (ho : noOwns zs = true ∨ nosl (.tup [.agg [pref 0 (ptF ns ks tx t).1], jref 1 (ptF ns ks tx t).2.1, .bool (ptF ns ks tx t).2.2]) = true ∧ noslBlks ([pblk (ptF ns ks tx t).1, jblk (ptF ns ks tx t).2.1]) = true) (hK : K (shiftA H.length (.tup [.agg [pref 0 (ptF ns ks tx t).1], jref 1 (ptF ns ks tx t).2.1, .bool (ptF ns ks tx t).2.2])) (.news (([pblk (ptF ns ks tx t).1, jblk (ptF ns ks tx t).2.1]).map (shiftB H.length)))) : @WCall' Go.Proofs.Tryz.prog S 5 zs H ⟨K⟩ :=
  WCall_ro' hS hv (spec_PatMatch_c ns ks tx t hl hk hs) rfl ho hK
end Go.Proofs.YtpohfpnlepmebaaGreatDoor.C
