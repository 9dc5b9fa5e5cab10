/- What marking and holding a stream answer. Conditions: those that each theorem names. -/
import Derived.Test.YtnbodfakblbmbaaXL2
import Derived.Test.YtnbodfakblbmbaaXS1
set_option linter.unusedVariables false
set_option linter.unusedSimpArgs false
namespace Go.Proofs.Ytnbodfakblbmbaa.C
open Go.Sym Go.Proofs.Ytnbodfakblbmbaa.I
def mkI (k : Int) : Nat → List Int
  | 0 => []
  | n + 1 => mkI k n ++ [k + n]
@[simp] theorem mkI_len (k : Int) (n : Nat) : (mkI k n).length = n := by induction n with | zero => rfl | succ n ih => simp [mkI, ih]
@[simp] theorem mkI_take (k : Int) (n : Nat) : (ints (mkI k n)).take n = ints (mkI k n) := List.take_of_length_le (by simp)
theorem mkI_get (k : Int) : ∀ (n j : Nat) (h : j < (mkI k n).length), (mkI k n)[j] = k + j
  | 0, j, h => by simp at h
  | n + 1, j, h => by
    simp only [mkI]
    rcases Nat.lt_or_ge j n with g | g
    · rw [List.getElem_append_left (by simpa using g)]
      exact mkI_get k n j (by simpa using g)
    · have : j = n := by simp at h; omega
      subst this
      simp
theorem mkI_set (k : Int) (ns : List Int) (j : Nat) (h : j < ns.length) : (mkI k j ++ ns.drop j).set j (k + j) = mkI k (j + 1) ++ ns.drop (j + 1) := by
  rw [List.set_append_right _ _ (by simp), mkI_len, Nat.sub_self, List.drop_eq_getElem_cons h, List.set_cons_zero]
  simp [mkI]
theorem laws_markIntS_m (H : List Blk) (nb v : Nat) (ro : Bool) (ns : List Int) (k : Int) (hH : H[nb]? = some ⟨v, ro, 1, ints ns, none⟩) (hro : ro = true → ns = []) (hl : ns.length ≤ 4294967296) (hk : 0 ≤ k) (hk2 : k ≤ 1099511627776) : T 48 [.ref nb v 0 ns.length, i6 k] (H) (i6 (k + ns.length)) (H.set nb ⟨v, ro, 1, ints (mkI k ns.length), none⟩) := by
  refine semT' (S := S0) hm laws_markIntS_ok (Nat.le_of_ble_eq_true rfl) ?_
  unfold laws_markIntS; dsimp only
  have hlt : nb < H.length := (List.getElem?_eq_some_iff.1 hH).1
  have hs0 : H.set nb ⟨v, ro, 1, ints (mkI k 0 ++ ns.drop 0), none⟩ = H := set_self (by simpa [mkI] using hH)
  simp
  generalize hB : H.length = B
  rw [← hs0]
  refine WLoop_fam (fun p : Nat × Int => [(0, A.ref nb v 0 ns.length), (1, i6 p.2), (5, i6 p.1)]) (fun p => H.set nb ⟨v, ro, 1, ints (mkI k p.1 ++ ns.drop p.1), none⟩) (fun p => ns.length - p.1)
    (fun p => p.1 ≤ ns.length ∧ p.2 = k + p.1) ?_ (0, k) ⟨Nat.zero_le _, by simp⟩
  rintro ⟨j, k'⟩ ⟨hj, hk'⟩ ih
  simp at hk' hj
  subst hk'
  have hlen : (mkI k j ++ ns.drop j).length = ns.length := by simp; omega
  simp [hlt]
  refine br_intro' (fun h => ?_) (fun h => ?_) <;> (have h0 := h) <;> (try simp at h) <;> try simp [h0, h]
  · have h' := h
    have hr : ro = false := by cases ro with | false => rfl | true => rw [hro rfl] at h; simp at h
    subst hr
    have w1 : IntKind.i64.wrap (k + (j : Int) + 1) = k + j + 1 := wrap64 (by omega) (by omega)
    have hw : IntKind.i64.wrap ((j : Int) + 1) = j + 1 := wrap64 (by omega) (by omega)
    have hc : j + (ns.length - j) = ns.length := by omega
    simp [h', hlt, hc, w1, hw]
    refine ck_intro' (by omega) ?_; simp [h', hlt, hc, w1, hw]
    have e3 := ints_set (mkI k j ++ ns.drop j) j (k + j)
    rw [mkI_set k ns j h'] at e3
    rw [e3]
    exact ih (j + 1, k + j + 1) ⟨h', by push_cast; omega⟩ (by simp; omega)
  · have e : j = ns.length := by omega
    subst e
    simp
    exact LeV.refl _ _ _
theorem laws_heldIntS_c (n : Nat) (k : Int) (hl : n ≤ 4294967296) (hk : 0 ≤ k) (hk2 : k ≤ 1099511627776) : T 96 [.sl n (ints (mkI k n)), i6 k] [] (i6 (k + n)) ([]) := by
  refine semT' (S := S0) hm laws_heldIntS_ok (Nat.le_of_ble_eq_true rfl) ?_
  unfold laws_heldIntS; dsimp only
  simp
  refine WLoop_fam (fun p : Nat × Int => [(0, .sl n (ints (mkI k n))), (1, i6 p.2), (5, i6 p.1)]) (fun _ => []) (fun p => n - p.1)
    (fun p => p.1 ≤ n ∧ p.2 = k + p.1) ?_ (0, k) ⟨Nat.zero_le _, by simp⟩
  rintro ⟨j, k'⟩ ⟨hj, hk'⟩ ih
  simp at hk' hj
  subst hk'
  simp
  refine br_intro' (fun h => ?_) (fun h => ?_) <;> (have h0 := h) <;> (try simp at h) <;> try simp [h0, h]
  · have h' := h
    have w1 : IntKind.i64.wrap (k + (j : Int) + 1) = k + j + 1 := wrap64 (by omega) (by omega)
    have hw : IntKind.i64.wrap ((j : Int) + 1) = j + 1 := wrap64 (by omega) (by omega)
    simp [h', mkI_get, w1, hw]
    exact ih (j + 1, k + j + 1) ⟨h', by push_cast; omega⟩ (by simp; omega)
  · have e : j = n := by omega
    subst e
    exact LeV.ro rfl rfl (by simp)
theorem laws_heldIntS_call {n : Nat} {k : Int} (hl : n ≤ 4294967296) (hk : 0 ≤ k) (hk2 : k ≤ 1099511627776) {S : FuncId → Bool} {H : List Blk} {K : A → Dl → Prop} (hS : S 96 = false) (hK : K (i6 (k + n)) (.news [])) : @WCall' Go.Proofs.Try.prog S 96 [.sl n (ints (mkI k n)), i6 k] H ⟨K⟩ :=
  WCall_pure hS (laws_heldIntS_c n k hl hk hk2) (by simp) (by simp) (by simp) hK
theorem laws_heldIntS_k {n : Nat} {k : Int} (hl : n ≤ 4294967296) (hk : 0 ≤ k) (hk2 : k ≤ 1099511627776) {S : FuncId → Bool} {H : List Blk} {K : A → Dl → Prop} {zs : List A} (hS : S 96 = false) (hv : viewL (viewA 8 H) zs = some [.sl n (ints (mkI k n)), i6 k]) (ho : noOwns zs = true ∨ nosl (i6 (k + n)) = true) (hK : K (i6 (k + n)) (.news [])) : @WCall' Go.Proofs.Try.prog S 96 zs H ⟨K⟩ :=
  WCall_pure hS (laws_heldIntS_c n k hl hk hk2) hv ho (by simp) hK
mutual
theorem inA_mono {n m : Nat} (h : n ≤ m) : ∀ (x : A), inA n x = true → inA m x = true
  | .bool _, _ => rfl
  | .int _ _, _ => rfl
  | .str _, _ => rfl
  | .nil, _ => rfl
  | .nilp, _ => rfl
  | .ub, _ => rfl
  | .stamp _ _ _ _, g => by simp [inA] at g ⊢; omega
  | .ref b _ _ _, g => by simp [inA] at g ⊢; omega
  | .ptr b _ _, g => by simp [inA] at g ⊢; omega
  | .mref b _, g => by simp [inA] at g ⊢; omega
  | .sl _ cs, g => by simp only [inA] at g ⊢; first | exact g | exact inAs_mono h cs g
  | .pt cs, g => by simp only [inA] at g ⊢; first | exact g | exact inAs_mono h cs g
  | .fn _ cs, g => by simp only [inA] at g ⊢; exact inAs_mono h cs g
  | .agg cs, g => by simp only [inA] at g ⊢; exact inAs_mono h cs g
  | .tup cs, g => by simp only [inA] at g ⊢; exact inAs_mono h cs g
theorem inAs_mono {n m : Nat} (h : n ≤ m) : ∀ (xs : List A), inAs n xs = true → inAs m xs = true
  | [], _ => rfl
  | x :: xs, g => by
    simp only [inAs, Bool.and_eq_true] at g ⊢
    exact ⟨inA_mono h x g.1, inAs_mono h xs g.2⟩
end
theorem Closed1_mono {n m : Nat} (h : n ≤ m) : ∀ (H : List Blk), Closed1 n H = true → Closed1 m H = true
  | [], _ => rfl
  | k :: H, g => by
    simp only [Closed1_cons, Bool.and_eq_true] at g ⊢
    exact ⟨inAs_mono h _ g.1, Closed1_mono h H g.2⟩
theorem Closed1_app {n : Nat} {T : List Blk} (g : Closed1 n T = true) : ∀ (H : List Blk), Closed1 n H = true → Closed1 n (H ++ T) = true
  | [], _ => g
  | k :: H, h => by
    simp only [List.cons_append, Closed1_cons, Bool.and_eq_true] at h ⊢
    exact ⟨h.1, Closed1_app g H h.2⟩
theorem Closed1_box {H : List Blk} {k : Blk} (h : Closed1 H.length H = true) (g : inAs (H.length + 1) k.cs = true) : Closed1 (H ++ [k]).length (H ++ [k]) = true := by
  rw [List.length_append]
  exact Closed1_app (by simpa using g) _ (Closed1_mono (by simp) _ h)
/-- A stream whose cells are marked from a number on. -/
def mkS (k : Int) (s : St) : St := ⟨mkN k s.pool.length, mkI (k + 3 * s.pool.length) s.know.length, s.out, s.inn, mkI (k + 3 * s.pool.length + s.know.length) s.sent.length, mkI (k + 3 * s.pool.length + s.know.length + s.sent.length) s.got.length⟩
def mkE (k : Int) (s : St) : Int := k + 3 * s.pool.length + s.know.length + s.sent.length + s.got.length
theorem laws_markStream_m (H : List Blk) (b0 b1 b2 b3 : Nat) (s : St) (k : Int) (hs : s.mid) (h0 : H[b0]? = some (pblk s.pool)) (h1 : H[b1]? = some (jblk s.know)) (h2 : H[b2]? = some (jblk s.sent)) (h3 : H[b3]? = some (jblk s.got)) (d1 : b1 ≠ b0) (d2 : b2 ≠ b0) (d3 : b3 ≠ b0) (d4 : b2 ≠ b1) (d5 : b3 ≠ b1) (d6 : b3 ≠ b2) (hk : 0 ≤ k) (hk2 : k ≤ 4294967296) (hcl : Closed1 H.length H = true) : T 49 [.agg [pref b0 s.pool, jref b1 s.know, i6 s.out.key, i6 s.out.epoch, i6 s.out.seq, .bool s.out.over, i6 s.inn.key, i6 s.inn.epoch, i6 s.inn.seq, .bool s.inn.over, jref b2 s.sent, jref b3 s.got], i6 k] (H) (i6 (mkE k s)) ((((H.set b0 ⟨s.pool.length, decide (s.pool.length = 0), 3, enc (mkN k s.pool.length), none⟩).set b1 ⟨s.know.length, decide (s.know.length = 0), 1, ints (mkI (k + 3 * s.pool.length) s.know.length), none⟩).set b2 ⟨s.sent.length, decide (s.sent.length = 0), 1, ints (mkI (k + 3 * s.pool.length + s.know.length) s.sent.length), none⟩).set b3 ⟨s.got.length, decide (s.got.length = 0), 1, ints (mkI (k + 3 * s.pool.length + s.know.length + s.sent.length) s.got.length), none⟩) := by
  refine semT' (S := (fun f => [29, 48, 78].contains f)) hm laws_markStream_ok (Nat.le_of_ble_eq_true rfl) ?_
  unfold laws_markStream; dsimp only
  have l0 : b0 < H.length := (List.getElem?_eq_some_iff.1 h0).1
  have l1 : b1 < H.length := (List.getElem?_eq_some_iff.1 h1).1
  have l2 : b2 < H.length := (List.getElem?_eq_some_iff.1 h2).1
  have l3 : b3 < H.length := (List.getElem?_eq_some_iff.1 h3).1
  have m0 := hs.p
  have m1 := hs.k
  have m2 := hs.t
  have m3 := hs.g
  have fin : ∀ {α : Type} {G : List α} {n : Nat} (x : α) (b : Nat), b ∉ [n] → (G.set n x)[b]? = G[b]? := fun x b hb => by simp at hb; rw [List.getElem?_set_ne (Ne.symm hb)]
  simp
  refine WCall_t' rfl [b0] (laws_markPool_m (H ++ [_]) b0 s.pool.length (decide (s.pool.length = 0)) s.pool k (by rw [get_left l0]; exact h0) (by simp) m0 hk hk2 (Closed1_box hcl (by simp [l0, l1, l2, l3]; omega))) (by simp) (fun b hb _ => fin _ _ hb) ?_
  simp [set_left l0]
  refine WCall_t' rfl [b1] (laws_markIntS_m _ b1 s.know.length (decide (s.know.length = 0)) s.know (k + 3 * s.pool.length) (by rw [get_left (by simpa using l1), List.getElem?_set_ne d1.symm]; exact h1) (by simp) m1 (by omega) (by omega)) (by simp) (fun b hb _ => fin _ _ hb) ?_
  rw [set_left (show b1 < (H.set b0 _).length by simpa using l1)]
  simp
  refine WCall_t' rfl [b2] (laws_markIntS_m _ b2 s.sent.length (decide (s.sent.length = 0)) s.sent (k + 3 * s.pool.length + s.know.length) (by rw [get_left (by simpa using l2), List.getElem?_set_ne d4.symm, List.getElem?_set_ne d2.symm]; exact h2) (by simp) m2 (by omega) (by omega)) (by simp) (fun b hb _ => fin _ _ hb) ?_
  rw [set_left (show b2 < ((H.set b0 _).set b1 _).length by simpa using l2)]
  simp
  refine WCall_t' rfl [b3] (laws_markIntS_m _ b3 s.got.length (decide (s.got.length = 0)) s.got (k + 3 * s.pool.length + s.know.length + s.sent.length) (by rw [get_left (by simpa using l3), List.getElem?_set_ne d6.symm, List.getElem?_set_ne d5.symm, List.getElem?_set_ne d3.symm]; exact h3) (by simp) m3 (by omega) (by omega)) (by simp) (fun b hb _ => fin _ _ hb) ?_
  rw [set_left (show b3 < (((H.set b0 _).set b1 _).set b2 _).length by simpa using l3)]
  simp
  exact LeV.drop (by simp) (by simpa using Closed1_set (by simp) _ _ (Closed1_set (by simp) _ _ (Closed1_set (by simp) _ _ (Closed1_set (by simp) _ _ hcl)))) (by simp)
theorem laws_heldStream_c (s : St) (k : Int) (hs : s.mid) (hk : 0 ≤ k) (hk2 : k ≤ 4294967296) : T 50 [aS (mkS k s), i6 k] [] (i6 (mkE k s)) ([]) := by
  refine semT' (S := S0) hm laws_heldStream_ok (Nat.le_of_ble_eq_true rfl) ?_
  unfold laws_heldStream; dsimp only
  have m0 := hs.p
  have m1 := hs.k
  have m2 := hs.t
  have m3 := hs.g
  have e0 : ¬ k + 3 * (s.pool.length : Int) < 0 := by omega
  have e1 : ¬ k + 3 * (s.pool.length : Int) + s.know.length < 0 := by omega
  have e2 : ¬ k + 3 * (s.pool.length : Int) + s.know.length + s.sent.length < 0 := by omega
  have e3 : ¬ k + 3 * (s.pool.length : Int) + s.know.length + s.sent.length + s.got.length < 0 := by omega
  simp [mkS]
  refine laws_heldPool_k (n := s.pool.length) (k := k) m0 hk hk2 rfl (by simp) (by simp) ?_; simp [e0]
  refine laws_heldIntS_k (n := s.know.length) (k := k + 3 * s.pool.length) m1 (by omega) (by omega) rfl (by simp) (by simp) ?_; simp [e1]
  refine laws_heldIntS_k (n := s.sent.length) (k := k + 3 * s.pool.length + s.know.length) m2 (by omega) (by omega) rfl (by simp) (by simp) ?_; simp [e2]
  refine laws_heldIntS_k (n := s.got.length) (k := k + 3 * s.pool.length + s.know.length + s.sent.length) m3 (by omega) (by omega) rfl (by simp) (by simp) ?_; simp [e3]
  exact LeV.ro rfl rfl (by simp [mkE])
theorem laws_heldStream_call {s : St} {k : Int} (hs : s.mid) (hk : 0 ≤ k) (hk2 : k ≤ 4294967296) {S : FuncId → Bool} {H : List Blk} {K : A → Dl → Prop} (hS : S 50 = false) (hK : K (i6 (mkE k s)) (.news [])) : @WCall' Go.Proofs.Try.prog S 50 [aS (mkS k s), i6 k] H ⟨K⟩ :=
  WCall_pure hS (laws_heldStream_c s k hs hk hk2) (by simp) (by simp) (by simp) hK
theorem laws_heldStream_k {s : St} {k : Int} (hs : s.mid) (hk : 0 ≤ k) (hk2 : k ≤ 4294967296) {S : FuncId → Bool} {H : List Blk} {K : A → Dl → Prop} {zs : List A} (hS : S 50 = false) (hv : viewL (viewA 8 H) zs = some [aS (mkS k s), i6 k]) (ho : noOwns zs = true ∨ nosl (i6 (mkE k s)) = true) (hK : K (i6 (mkE k s)) (.news [])) : @WCall' Go.Proofs.Try.prog S 50 zs H ⟨K⟩ :=
  WCall_pure hS (laws_heldStream_c s k hs hk hk2) hv ho (by simp) hK
end Go.Proofs.Ytnbodfakblbmbaa.C
