/- What marking and holding answer. Conditions: those that each theorem names. -/
import Derived.Test.YtcfgiffgahdlbaaXL1
set_option linter.unusedVariables false
set_option linter.unusedSimpArgs false
namespace Go.Proofs.Ytcfgiffgahdlbaa.C
open Go.Sym Go.Proofs.Ytcfgiffgahdlbaa.I
def mkN (k : Int) : Nat → List Nd
  | 0 => []
  | n + 1 => mkN k n ++ [⟨k + 3 * n, k + 3 * n + 1, k + 3 * n + 2⟩]
@[simp] theorem mkN_len (k : Int) (n : Nat) : (mkN k n).length = n := by induction n with | zero => rfl | succ n ih => simp [mkN, ih]
@[simp] theorem mkN_take (k : Int) (n : Nat) : (enc (mkN k n)).take (n * 3) = enc (mkN k n) := List.take_of_length_le (by simp)
theorem mkN_get (k : Int) : ∀ (n j : Nat) (h : j < (mkN k n).length), (mkN k n)[j] = ⟨k + 3 * j, k + 3 * j + 1, k + 3 * j + 2⟩
  | 0, j, h => by simp at h
  | n + 1, j, h => by
    simp only [mkN]
    rcases Nat.lt_or_ge j n with g | g
    · rw [List.getElem_append_left (by simpa using g)]
      exact mkN_get k n j (by simpa using g)
    · have : j = n := by simp at h; omega
      subst this
      simp
theorem mkN_set (k : Int) (ns : List Nd) (j : Nat) (h : j < ns.length) : (mkN k j ++ ns.drop j).set j ⟨k + 3 * j, k + 3 * j + 1, k + 3 * j + 2⟩ = mkN k (j + 1) ++ ns.drop (j + 1) := by
  rw [List.set_append_right _ _ (by simp), mkN_len, Nat.sub_self, List.drop_eq_getElem_cons h, List.set_cons_zero]
  simp [mkN]
theorem set_self {α : Type} {H : List α} {n : Nat} {x : α} (h : H[n]? = some x) : H.set n x = H := by
  apply List.ext_getElem?
  intro i
  by_cases e : n = i
  · subst e
    rw [h, List.getElem?_set_self (List.getElem?_eq_some_iff.1 h).1]
  · rw [List.getElem?_set_ne e]
theorem laws_markNodeS_m (H : List Blk) (nb v : Nat) (ro : Bool) (ns : List Nd) (k : Int) (hH : H[nb]? = some ⟨v, ro, 3, enc ns, none⟩) (hro : ro = true → ns = []) (hl : ns.length ≤ 4294967296) (hk : 0 ≤ k) (hk2 : k ≤ 4294967296) : T 48 [.ref nb v 0 ns.length, i6 k] (H) (i6 (k + 3 * ns.length)) (H.set nb ⟨v, ro, 3, enc (mkN k ns.length), none⟩) := by
  refine semT' (S := S0) hm laws_markNodeS_ok (Nat.le_of_ble_eq_true rfl) ?_
  unfold laws_markNodeS; dsimp only
  have hlt : nb < H.length := (List.getElem?_eq_some_iff.1 hH).1
  have hs0 : H.set nb ⟨v, ro, 3, enc (mkN k 0 ++ ns.drop 0), none⟩ = H := set_self (by simpa [mkN] using hH)
  simp
  generalize hB : H.length = B
  rw [← hs0]
  refine WLoop_fam (fun p : Nat × Int => [(0, A.ref nb v 0 ns.length), (1, i6 p.2), (5, i6 p.1)]) (fun p => H.set nb ⟨v, ro, 3, enc (mkN k p.1 ++ ns.drop p.1), none⟩) (fun p => ns.length - p.1)
    (fun p => p.1 ≤ ns.length ∧ p.2 = k + 3 * p.1) ?_ (0, k) ⟨Nat.zero_le _, by simp⟩
  rintro ⟨j, k'⟩ ⟨hj, hk'⟩ ih
  simp at hk' hj
  subst hk'
  have hlen : (mkN k j ++ ns.drop j).length = ns.length := by simp; omega
  simp [hlt]
  refine br_intro' (fun h => ?_) (fun h => ?_) <;> (have h0 := h) <;> (try simp at h) <;> try simp [h0, h]
  · have h' := h
    have hr : ro = false := by cases ro with | false => rfl | true => rw [hro rfl] at h; simp at h
    subst hr
    have h3 : j * 3 < ns.length * 3 := by omega
    have h4 : j * 3 + 1 < ns.length * 3 := by omega
    have h5 : j * 3 + 2 < ns.length * 3 := by omega
    have w1 : IntKind.i64.wrap (k + 3 * (j : Int) + 1) = k + 3 * j + 1 := wrap64 (by omega) (by omega)
    have w2 : IntKind.i64.wrap (k + 3 * (j : Int) + 1 + 1) = k + 3 * j + 2 := by rw [wrap64 (by omega) (by omega)]; omega
    have w3 : IntKind.i64.wrap (k + 3 * (j : Int) + 2 + 1) = k + 3 * j + 3 := by rw [wrap64 (by omega) (by omega)]; omega
    have hw : IntKind.i64.wrap ((j : Int) + 1) = j + 1 := wrap64 (by omega) (by omega)
    have hc : (j + (ns.length - j)) * 3 = ns.length * 3 := by rw [Nat.add_sub_cancel' hj]
    simp [h', hlt, hc, w1, w2, w3, h3, h4, h5]
    refine ck_intro' (by omega) ?_; simp [h', hlt, hc, w1, w2, w3, h3, h4, h5]
    refine ck_intro' (by omega) ?_; simp [h', hlt, hc, w1, w2, w3, h3, h4, h5]
    refine ck_intro' (by omega) ?_; simp [h', hlt, hc, w1, w2, w3, h3, h4, h5, hw]
    have e3 := enc_set (mkN k j ++ ns.drop j) j ⟨k + 3 * j, k + 3 * j + 1, k + 3 * j + 2⟩
    rw [mkN_set k ns j h'] at e3
    rw [e3]
    exact ih (j + 1, k + 3 * j + 3) ⟨h', by push_cast; omega⟩ (by simp; omega)
  · have e : j = ns.length := by omega
    subst e
    simp
    exact LeV.refl _ _ _
theorem shift_len {H T : List Blk} {nb : Nat} {x : Blk} (h : nb < H.length) : (H ++ T).set nb x = H.set nb x ++ T := set_left h x
theorem laws_markPool_m (H : List Blk) (nb v : Nat) (ro : Bool) (ns : List Nd) (k : Int) (hH : H[nb]? = some ⟨v, ro, 3, enc ns, none⟩) (hro : ro = true → ns = []) (hl : ns.length ≤ 4294967296) (hk : 0 ≤ k) (hk2 : k ≤ 4294967296) (hcl : Closed1 H.length H = true) : T 17 [.agg [.ref nb v 0 ns.length], i6 k] (H) (i6 (k + 3 * ns.length)) (H.set nb ⟨v, ro, 3, enc (mkN k ns.length), none⟩) := by
  refine semT' (S := (fun f => [48].contains f)) hm laws_markPool_ok (Nat.le_of_ble_eq_true rfl) ?_
  unfold laws_markPool; dsimp only
  have hlt : nb < H.length := (List.getElem?_eq_some_iff.1 hH).1
  simp
  refine WCall_t' rfl [nb] (laws_markNodeS_m (H ++ [_]) nb v ro ns k (by rw [get_left hlt]; exact hH) hro hl hk hk2) (by simp) (fun b hb _ => by simp at hb; rw [List.getElem?_set_ne (Ne.symm hb)]) ?_
  simp [set_left hlt]
  exact LeV.drop (by simp) (by simpa using Closed1_set (by simp) _ _ hcl) (by simp)
theorem enc_gets {ns : List Nd} {j : Nat} (h : j < ns.length) : (enc ns)[j * 3]? = some (i6 ns[j].k) ∧ (enc ns)[j * 3 + 1]? = some (i6 ns[j].a) ∧ (enc ns)[j * 3 + 2]? = some (i6 ns[j].b) := by
  obtain ⟨r, hr⟩ := enc_at h
  have e : ∀ i, (enc ns)[j * 3 + i]? = (i6 ns[j].k :: i6 ns[j].a :: i6 ns[j].b :: r)[i]? := fun i => by rw [← hr, List.getElem?_drop]
  exact ⟨e 0, e 1, e 2⟩
theorem enc_k {ns : List Nd} {j : Nat} (h : j < ns.length) {h' : j * 3 < (enc ns).length} : (enc ns)[j * 3] = i6 ns[j].k := by
  have := (enc_gets h).1
  rw [List.getElem?_eq_getElem h'] at this
  simpa using this
theorem enc_a {ns : List Nd} {j : Nat} (h : j < ns.length) {h' : j * 3 + 1 < (enc ns).length} : (enc ns)[j * 3 + 1] = i6 ns[j].a := by
  have := (enc_gets h).2.1
  rw [List.getElem?_eq_getElem h'] at this
  simpa using this
theorem enc_b {ns : List Nd} {j : Nat} (h : j < ns.length) {h' : j * 3 + 2 < (enc ns).length} : (enc ns)[j * 3 + 2] = i6 ns[j].b := by
  have := (enc_gets h).2.2
  rw [List.getElem?_eq_getElem h'] at this
  simpa using this
end Go.Proofs.Ytcfgiffgahdlbaa.C
