/- Matching a pattern: the program's run. Conditions: those that each theorem names. -/
import Derived.Test.YtpohfpnlepmebaaGreatDoorXPM3PT6
set_option linter.unusedVariables false
set_option linter.unusedSimpArgs false
set_option maxRecDepth 4000
namespace Go.Proofs.YtpohfpnlepmebaaGreatDoor.C
open Go.Sym Go.Proofs.YtpohfpnlepmebaaGreatDoor.I
theorem slices_Clone_int_c (xs : List Int) (hl : xs.length ≤ 4294967296) : T 28 [aI xs] [] (jref 0 xs) ([jblk xs]) := by
  refine semT' (S := S0) hm slices_Clone_int_ok (Nat.le_of_ble_eq_true rfl) ?_
  unfold slices_Clone_int; dsimp only
  simp
  have h1 : ((xs.length : Int)) * 8 ≤ 17592186044416 := by omega
  have h2 : (xs.length : Int) ≤ 4294967296 := by omega
  refine br_intro' (fun h => ?_) (fun h => ?_)
  · have h0 : xs = [] := by simpa using h
    subst h0
    simp
    first | (refine LeV.tell [none] ?_ ?_ ?_ <;> (simp; done)) | (refine LeV.tell [some 0] ?_ ?_ ?_ <;> (simp; done)) | (refine LeV.tell [some 1] ?_ ?_ ?_ <;> (simp; done)) | (refine LeV.tell [some 2] ?_ ?_ ?_ <;> (simp; done)) | (refine LeV.tell [some 3] ?_ ?_ ?_ <;> (simp; done)) | (refine LeV.tell [some 4] ?_ ?_ ?_ <;> (simp; done)) | (refine LeV.tell [some 5] ?_ ?_ ?_ <;> (simp; done)) | (refine LeV.tell [some 6] ?_ ?_ ?_ <;> (simp; done)) | (refine LeV.tell [some 7] ?_ ?_ ?_ <;> (simp; done)) | (refine LeV.tell [some 8] ?_ ?_ ?_ <;> (simp; done)) | (refine LeV.tell [some 9] ?_ ?_ ?_ <;> (simp; done)) | (refine LeV.tell [some 10] ?_ ?_ ?_ <;> (simp; done)) | (refine LeV.tell [some 11] ?_ ?_ ?_ <;> (simp; done)) | (refine LeV.tell [some 12] ?_ ?_ ?_ <;> (simp; done)) | (refine LeV.tell [some 13] ?_ ?_ ?_ <;> (simp; done)) | (refine LeV.tell [some 14] ?_ ?_ ?_ <;> (simp; done)) | (refine LeV.tell [some 15] ?_ ?_ ?_ <;> (simp; done))
  · have h0 : xs ≠ [] := by simpa using h
    simp [h0]
    refine ck_intro' (by omega) ?_; simp [h0]
    first | (refine LeV.tell [none] ?_ ?_ ?_ <;> (simp [h0]; done)) | (refine LeV.tell [some 0] ?_ ?_ ?_ <;> (simp [h0]; done)) | (refine LeV.tell [some 1] ?_ ?_ ?_ <;> (simp [h0]; done)) | (refine LeV.tell [some 2] ?_ ?_ ?_ <;> (simp [h0]; done)) | (refine LeV.tell [some 3] ?_ ?_ ?_ <;> (simp [h0]; done)) | (refine LeV.tell [some 4] ?_ ?_ ?_ <;> (simp [h0]; done)) | (refine LeV.tell [some 5] ?_ ?_ ?_ <;> (simp [h0]; done)) | (refine LeV.tell [some 6] ?_ ?_ ?_ <;> (simp [h0]; done)) | (refine LeV.tell [some 7] ?_ ?_ ?_ <;> (simp [h0]; done)) | (refine LeV.tell [some 8] ?_ ?_ ?_ <;> (simp [h0]; done)) | (refine LeV.tell [some 9] ?_ ?_ ?_ <;> (simp [h0]; done)) | (refine LeV.tell [some 10] ?_ ?_ ?_ <;> (simp [h0]; done)) | (refine LeV.tell [some 11] ?_ ?_ ?_ <;> (simp [h0]; done)) | (refine LeV.tell [some 12] ?_ ?_ ?_ <;> (simp [h0]; done)) | (refine LeV.tell [some 13] ?_ ?_ ?_ <;> (simp [h0]; done)) | (refine LeV.tell [some 14] ?_ ?_ ?_ <;> (simp [h0]; done)) | (refine LeV.tell [some 15] ?_ ?_ ?_ <;> (simp [h0]; done))
theorem slices_Clone_int_k {xs : List Int} (hl : xs.length ≤ 4294967296) {S : FuncId → Bool} {H : List Blk} {K : A → Dl → Prop} {zs : List A} (hS : S 28 = false) (hv : viewL (viewA 8 H) zs = some [aI xs]) (ho : noOwns zs = true ∨ nosl (jref 0 xs) = true ∧ noslBlks ([jblk xs]) = true) (hK : K (shiftA H.length (jref 0 xs)) (.news (([jblk xs]).map (shiftB H.length)))) : @WCall' Go.Proofs.Tryz.prog S 28 zs H ⟨K⟩ :=
  WCall_ro' hS hv (slices_Clone_int_c xs hl) rfl ho hK
theorem ptF_len (ns : List Nd) (ks : List Int) (tx : ByteArray) (t : Int) : (ptF ns ks tx t).1.length ≤ 500 ∧ ((ptF ns ks tx t).2.1.length = 26 ∨ (ptF ns ks tx t).2.1 = []) := by
  unfold ptF
  split
  · rename_i hp
    have h1 := poolF_len hp
    split
    · rename_i h
      split
      · exact ⟨poolF_len (mtT_pool ks t hp), .inl ((mtT_len _ ns ks t).trans (envF_len h.2.1))⟩
      · exact ⟨h1, .inr rfl⟩
    · exact ⟨h1, .inr rfl⟩
  · exact ⟨by simp, .inr rfl⟩
theorem impl_PatMatch_c (ns : List Nd) (ks : List Int) (tx : ByteArray) (t : Int) (hl : ns.length < 9223372036854775807) (hk : ks.length < 9223372036854775807) (hs : tx.size ≤ 281474976710656) : T 8 [aP ns, aI ks, .str tx, i6 t] [] (.tup [.agg [pref 0 (ptF ns ks tx t).1], jref 1 (ptF ns ks tx t).2.1, .bool (ptF ns ks tx t).2.2]) ([pblk (ptF ns ks tx t).1, jblk (ptF ns ks tx t).2.1]) := by
  refine semT' (S := (fun f => [29, 51].contains f)) hm impl_PatMatch_ok (Nat.le_of_ble_eq_true rfl) ?_
  unfold impl_PatMatch; dsimp only
  simp
  refine impl_PoolOk_call rfl ?_; simp
  rcases Bool.eq_false_or_eq_true (poolF ns) with hp | hp <;> simp [hp]
  case inr =>
    rw [show ptF ns ks tx t = ([], [], false) by simp [ptF, hp]]
    first | (refine LeV.tell [none, none] ?_ ?_ ?_ <;> (simp; done)) | (refine LeV.tell [some 0, none] ?_ ?_ ?_ <;> (simp; done)) | (refine LeV.tell [some 1, none] ?_ ?_ ?_ <;> (simp; done)) | (refine LeV.tell [some 2, none] ?_ ?_ ?_ <;> (simp; done)) | (refine LeV.tell [some 3, none] ?_ ?_ ?_ <;> (simp; done)) | (refine LeV.tell [some 4, none] ?_ ?_ ?_ <;> (simp; done)) | (refine LeV.tell [some 5, none] ?_ ?_ ?_ <;> (simp; done)) | (refine LeV.tell [some 6, none] ?_ ?_ ?_ <;> (simp; done)) | (refine LeV.tell [some 7, none] ?_ ?_ ?_ <;> (simp; done)) | (refine LeV.tell [some 8, none] ?_ ?_ ?_ <;> (simp; done)) | (refine LeV.tell [some 9, none] ?_ ?_ ?_ <;> (simp; done)) | (refine LeV.tell [some 10, none] ?_ ?_ ?_ <;> (simp; done)) | (refine LeV.tell [some 11, none] ?_ ?_ ?_ <;> (simp; done)) | (refine LeV.tell [some 12, none] ?_ ?_ ?_ <;> (simp; done)) | (refine LeV.tell [some 13, none] ?_ ?_ ?_ <;> (simp; done)) | (refine LeV.tell [some 14, none] ?_ ?_ ?_ <;> (simp; done)) | (refine LeV.tell [some 15, none] ?_ ?_ ?_ <;> (simp; done))
  have hln := poolF_len hp
  refine WCall_pure rfl (patOf_ro hs) (by simp) (by simp) (by simp) ?_; simp
  rcases Bool.eq_false_or_eq_true (patF tx).2 with g | g <;> simp [g]
  case inr =>
    rw [show ptF ns ks tx t = (ns, [], false) by simp [ptF, hp, g]]
    refine impl_copyPool_k (ns := ns) (by omega) rfl (by simp) (by simp [noslBlks]) ?_; simp [shiftB]
    first | (refine LeV.tell [none, none] ?_ ?_ ?_ <;> (simp; done)) | (refine LeV.tell [some 0, none] ?_ ?_ ?_ <;> (simp; done)) | (refine LeV.tell [some 1, none] ?_ ?_ ?_ <;> (simp; done)) | (refine LeV.tell [some 2, none] ?_ ?_ ?_ <;> (simp; done)) | (refine LeV.tell [some 3, none] ?_ ?_ ?_ <;> (simp; done)) | (refine LeV.tell [some 4, none] ?_ ?_ ?_ <;> (simp; done)) | (refine LeV.tell [some 5, none] ?_ ?_ ?_ <;> (simp; done)) | (refine LeV.tell [some 6, none] ?_ ?_ ?_ <;> (simp; done)) | (refine LeV.tell [some 7, none] ?_ ?_ ?_ <;> (simp; done)) | (refine LeV.tell [some 8, none] ?_ ?_ ?_ <;> (simp; done)) | (refine LeV.tell [some 9, none] ?_ ?_ ?_ <;> (simp; done)) | (refine LeV.tell [some 10, none] ?_ ?_ ?_ <;> (simp; done)) | (refine LeV.tell [some 11, none] ?_ ?_ ?_ <;> (simp; done)) | (refine LeV.tell [some 12, none] ?_ ?_ ?_ <;> (simp; done)) | (refine LeV.tell [some 13, none] ?_ ?_ ?_ <;> (simp; done)) | (refine LeV.tell [some 14, none] ?_ ?_ ?_ <;> (simp; done)) | (refine LeV.tell [some 15, none] ?_ ?_ ?_ <;> (simp; done))
  obtain ⟨hG, hpn, hlp⟩ := patF_good g
  refine WCall_pure rfl (impl_Pool_isTerm_c ns [] t (by omega)) (by simp) (by simp) (by simp) ?_; simp
  rcases Bool.eq_false_or_eq_true (hasF ns.length t) with f | f <;> simp [f]
  case inr =>
    rw [show ptF ns ks tx t = (ns, [], false) by simp [ptF, hp, g, f]]
    refine impl_copyPool_k (ns := ns) (by omega) rfl (by simp) (by simp [noslBlks]) ?_; simp [shiftB]
    first | (refine LeV.tell [none, none] ?_ ?_ ?_ <;> (simp; done)) | (refine LeV.tell [some 0, none] ?_ ?_ ?_ <;> (simp; done)) | (refine LeV.tell [some 1, none] ?_ ?_ ?_ <;> (simp; done)) | (refine LeV.tell [some 2, none] ?_ ?_ ?_ <;> (simp; done)) | (refine LeV.tell [some 3, none] ?_ ?_ ?_ <;> (simp; done)) | (refine LeV.tell [some 4, none] ?_ ?_ ?_ <;> (simp; done)) | (refine LeV.tell [some 5, none] ?_ ?_ ?_ <;> (simp; done)) | (refine LeV.tell [some 6, none] ?_ ?_ ?_ <;> (simp; done)) | (refine LeV.tell [some 7, none] ?_ ?_ ?_ <;> (simp; done)) | (refine LeV.tell [some 8, none] ?_ ?_ ?_ <;> (simp; done)) | (refine LeV.tell [some 9, none] ?_ ?_ ?_ <;> (simp; done)) | (refine LeV.tell [some 10, none] ?_ ?_ ?_ <;> (simp; done)) | (refine LeV.tell [some 11, none] ?_ ?_ ?_ <;> (simp; done)) | (refine LeV.tell [some 12, none] ?_ ?_ ?_ <;> (simp; done)) | (refine LeV.tell [some 13, none] ?_ ?_ ?_ <;> (simp; done)) | (refine LeV.tell [some 14, none] ?_ ?_ ?_ <;> (simp; done)) | (refine LeV.tell [some 15, none] ?_ ?_ ?_ <;> (simp; done))
  refine impl_EnvOk_k (ns := ns) (ks := ks) (by omega) hk rfl (by simp) (by simp) ?_; simp
  rcases Bool.eq_false_or_eq_true (envF ns.length ks) with e | e <;> simp [e, hp]
  case inr =>
    rw [show ptF ns ks tx t = (ns, [], false) by simp [ptF, hp, g, e]]
    refine impl_copyPool_k (ns := ns) (by omega) rfl (by simp) (by simp [noslBlks]) ?_; simp [shiftB]
    first | (refine LeV.tell [none, none] ?_ ?_ ?_ <;> (simp; done)) | (refine LeV.tell [some 0, none] ?_ ?_ ?_ <;> (simp; done)) | (refine LeV.tell [some 1, none] ?_ ?_ ?_ <;> (simp; done)) | (refine LeV.tell [some 2, none] ?_ ?_ ?_ <;> (simp; done)) | (refine LeV.tell [some 3, none] ?_ ?_ ?_ <;> (simp; done)) | (refine LeV.tell [some 4, none] ?_ ?_ ?_ <;> (simp; done)) | (refine LeV.tell [some 5, none] ?_ ?_ ?_ <;> (simp; done)) | (refine LeV.tell [some 6, none] ?_ ?_ ?_ <;> (simp; done)) | (refine LeV.tell [some 7, none] ?_ ?_ ?_ <;> (simp; done)) | (refine LeV.tell [some 8, none] ?_ ?_ ?_ <;> (simp; done)) | (refine LeV.tell [some 9, none] ?_ ?_ ?_ <;> (simp; done)) | (refine LeV.tell [some 10, none] ?_ ?_ ?_ <;> (simp; done)) | (refine LeV.tell [some 11, none] ?_ ?_ ?_ <;> (simp; done)) | (refine LeV.tell [some 12, none] ?_ ?_ ?_ <;> (simp; done)) | (refine LeV.tell [some 13, none] ?_ ?_ ?_ <;> (simp; done)) | (refine LeV.tell [some 14, none] ?_ ?_ ?_ <;> (simp; done)) | (refine LeV.tell [some 15, none] ?_ ?_ ?_ <;> (simp; done))
  have hk26 := envF_len e
  obtain ⟨j, rfl, hj⟩ := hasF_nat f
  have hF : ptF ns ks tx j = if (mtT (patF tx).1 ns ks j).2.2 = true then mtT (patF tx).1 ns ks j else (ns, [], false) := by simp [ptF, hp, g, e, f]
  refine impl_copyPool_k (ns := ns) (by omega) rfl (by simp) (by simp [noslBlks]) ?_; simp [shiftB]
  refine slices_Clone_int_k (xs := ks) (by omega) rfl (by simp) (by simp [noslBlks]) ?_; simp [shiftB]
  refine impl_pattern_whole_k (s := (patF tx).1) (by omega) rfl (by simp) (by simp [noslBlks]) ?_; simp [shiftB]
  have hne : ks ≠ [] := fun e => by rw [e] at hk26; simp at hk26
  have hlt : (patF tx).1.length - 1 < (patF tx).1.length := by omega
  have hM := fun (H : List Blk) (h : PIn H 4 0 2 [pref 2 ns]) (h3 : 3 < H.length) => impl_pattern_match_t hG (by omega) (patF tx).1.length ((patF tx).1.length - 1) hlt hlt H 4 0 2 0 1 3 26 [pref 2 ns] ns ks j hk26 h rfl hp hj (by decide) (by decide) h3
  rw [show (((patF tx).1.length - 1 : Nat) : Int) = (patF tx).1.length - 1 by omega] at hM
  obtain ⟨m1, m2⟩ := mtP_mtL hG (patF tx).1.length ((patF tx).1.length - 1) ns ks j hlt hp hj (envF_VOk e) hk26
  rw [show mtL (nodesL (patF tx).1) (patF tx).1.length ns ks (((patF tx).1.length - 1 : Nat) : Int) j = mtT (patF tx).1 ns ks j from rfl] at m1 m2
  rw [show (((patF tx).1.length - 1 : Nat) : Int) = (patF tx).1.length - 1 by omega] at m1 m2
  have hkl := mtT_len (patF tx).1 ns ks j
  generalize mtT (patF tx).1 ns ks j = R at hF m1 m2 hkl
  generalize mtP (patF tx).1 (patF tx).1.length ns ks ((patF tx).1.length - 1) j = P at hM m1 m2
  have hdn : decide (ns = []) = decide (ns.length = 0) := by cases ns <;> simp
  simp only [hk26, hne, decide_false, hdn]
  have hf : T 29 [aPat (patF tx).1, A.ptr 4 0 0, A.ref 3 26 0 26, i6 ((patF tx).1.length - 1), i6 j] [⟨0, false, 1, [A.sl ns.length (enc ns)], none⟩, ⟨0, false, 1, [A.nil], none⟩, pblk ns, eblk 26 ks, ⟨0, false, 1, [pref 2 ns], none⟩] (A.bool P.2.2) [⟨0, false, 1, [A.sl ns.length (enc ns)], none⟩, ⟨0, false, 1, [A.nil], none⟩, pblk P.1, eblk 26 P.2.1, ⟨0, false, 1, [pref 2 P.1], none⟩] := hM [⟨0, false, 1, [A.sl ns.length (enc ns)], none⟩, ⟨0, false, 1, [A.nil], none⟩, pblk ns, eblk 26 ks, ⟨0, false, 1, [pref 2 ns], none⟩] ⟨by simp, by simp, by simp, by simp, by simp [inAs_scals _ (ints_scals ks)], by simp, ⟨[], by simp⟩⟩ (by simp)
  refine WCall_t' rfl [2, 4, 3] hf (by simp) (fun b hb hl => by
    obtain rfl | rfl : b = 0 ∨ b = 1 := by simp at hb hl; omega
    · rfl
    · rfl) ?_; simp
  rw [hk26] at hkl
  rcases Bool.eq_false_or_eq_true P.2.2 with y | y <;> simp [y]
  · have hR := m2 y
    subst hR
    rw [if_pos y] at hF
    rw [hF, y]
    exact LeV.tell [some 2, some 3] (by simp) (by simp [hkl, hk26]) (by simp [hkl, hk26])
  · rw [if_neg (by rw [← m1]; simp [y])] at hF
    refine impl_copyPool_k (ns := ns) (by omega) rfl (by simp) (by simp [noslBlks]) ?_; simp [shiftB]
    rw [hF]
    first | (refine LeV.tell [none, none] ?_ ?_ ?_ <;> (simp; done)) | (refine LeV.tell [some 0, none] ?_ ?_ ?_ <;> (simp; done)) | (refine LeV.tell [some 1, none] ?_ ?_ ?_ <;> (simp; done)) | (refine LeV.tell [some 2, none] ?_ ?_ ?_ <;> (simp; done)) | (refine LeV.tell [some 3, none] ?_ ?_ ?_ <;> (simp; done)) | (refine LeV.tell [some 4, none] ?_ ?_ ?_ <;> (simp; done)) | (refine LeV.tell [some 5, none] ?_ ?_ ?_ <;> (simp; done)) | (refine LeV.tell [some 6, none] ?_ ?_ ?_ <;> (simp; done)) | (refine LeV.tell [some 7, none] ?_ ?_ ?_ <;> (simp; done)) | (refine LeV.tell [some 8, none] ?_ ?_ ?_ <;> (simp; done)) | (refine LeV.tell [some 9, none] ?_ ?_ ?_ <;> (simp; done)) | (refine LeV.tell [some 10, none] ?_ ?_ ?_ <;> (simp; done)) | (refine LeV.tell [some 11, none] ?_ ?_ ?_ <;> (simp; done)) | (refine LeV.tell [some 12, none] ?_ ?_ ?_ <;> (simp; done)) | (refine LeV.tell [some 13, none] ?_ ?_ ?_ <;> (simp; done)) | (refine LeV.tell [some 14, none] ?_ ?_ ?_ <;> (simp; done)) | (refine LeV.tell [some 15, none] ?_ ?_ ?_ <;> (simp; done))
theorem impl_PatMatch_k {ns : List Nd} {ks : List Int} {tx : ByteArray} {t : Int} (hl : ns.length < 9223372036854775807) (hk : ks.length < 9223372036854775807) (hs : tx.size ≤ 281474976710656) {S : FuncId → Bool} {H : List Blk} {K : A → Dl → Prop} {zs : List A} (hS : S 8 = false) (hv : viewL (viewA 8 H) zs = some [aP ns, aI ks, .str tx, i6 t]) (ho : noOwns zs = true ∨ nosl (.tup [.agg [pref 0 (ptF ns ks tx t).1], jref 1 (ptF ns ks tx t).2.1, .bool (ptF ns ks tx t).2.2]) = true ∧ noslBlks ([pblk (ptF ns ks tx t).1, jblk (ptF ns ks tx t).2.1]) = true) (hK : K (shiftA H.length (.tup [.agg [pref 0 (ptF ns ks tx t).1], jref 1 (ptF ns ks tx t).2.1, .bool (ptF ns ks tx t).2.2])) (.news (([pblk (ptF ns ks tx t).1, jblk (ptF ns ks tx t).2.1]).map (shiftB H.length)))) : @WCall' Go.Proofs.Tryz.prog S 8 zs H ⟨K⟩ :=
  WCall_ro' hS hv (impl_PatMatch_c ns ks tx t hl hk hs) rfl ho hK
end Go.Proofs.YtpohfpnlepmebaaGreatDoor.C

set_option linter.unusedVariables false
set_option linter.unusedSimpArgs false
set_option maxRecDepth 4000
namespace Go.Proofs.YtpohfpnlepmebaaGreatDoor.C
open Go.Sym Go.Proofs.YtpohfpnlepmebaaGreatDoor.I
theorem arg_tx {x : A} (h : FitA .tx x) : ∃ s : ByteArray, x = .str s ∧ s.size ≤ maxLen := by
  obtain ⟨s, e, h⟩ := (show Fit .tx [x] from h)
  exact ⟨s, by simpa using e, h⟩
def mkI (k : Int) : Nat → List Int
  | 0 => []
  | n + 1 => mkI k n ++ [k + n]
@[simp] theorem mkI_len (k : Int) (n : Nat) : (mkI k n).length = n := by induction n with | zero => rfl | succ n ih => simp [mkI, ih]
@[simp] theorem mkI_take (k : Int) (n : Nat) : (ints (mkI k n)).take n = ints (mkI k n) := List.take_of_length_le (by simp)
theorem mkI_get (k : Int) : ∀ (n j : Nat) (h : j < (mkI k n).length), (mkI k n)[j] = k + j
  | 0, j, h => by simp at h
  | n + 1, j, h => by
    simp only [mkI]
    rcases Nat.lt_or_ge j n with g | g
    · rw [List.getElem_append_left (by simpa using g)]
      exact mkI_get k n j (by simpa using g)
    · have : j = n := by simp at h; omega
      subst this
      simp
theorem mkI_set (k : Int) (ns : List Int) (j : Nat) (h : j < ns.length) : (mkI k j ++ ns.drop j).set j (k + j) = mkI k (j + 1) ++ ns.drop (j + 1) := by
  rw [List.set_append_right _ _ (by simp), mkI_len, Nat.sub_self, List.drop_eq_getElem_cons h, List.set_cons_zero]
  simp [mkI]
theorem laws_markIntS_m (H : List Blk) (nb v : Nat) (ro : Bool) (ns : List Int) (k : Int) (hH : H[nb]? = some ⟨v, ro, 1, ints ns, none⟩) (hro : ro = true → ns = []) (hl : ns.length ≤ 4294967296) (hk : 0 ≤ k) (hk2 : k ≤ 1099511627776) : T 12 [.ref nb v 0 ns.length, i6 k] (H) (i6 (k + ns.length)) (H.set nb ⟨v, ro, 1, ints (mkI k ns.length), none⟩) := by
  refine semT' (S := S0) hm laws_markIntS_ok (Nat.le_of_ble_eq_true rfl) ?_
  unfold laws_markIntS; dsimp only
  have hlt : nb < H.length := (List.getElem?_eq_some_iff.1 hH).1
  have hs0 : H.set nb ⟨v, ro, 1, ints (mkI k 0 ++ ns.drop 0), none⟩ = H := set_self (by simpa [mkI] using hH)
  simp
  generalize hB : H.length = B
  rw [← hs0]
  refine WLoop_fam (fun p : Nat × Int => [(0, A.ref nb v 0 ns.length), (1, i6 p.2), (5, i6 p.1)]) (fun p => H.set nb ⟨v, ro, 1, ints (mkI k p.1 ++ ns.drop p.1), none⟩) (fun p => ns.length - p.1)
    (fun p => p.1 ≤ ns.length ∧ p.2 = k + p.1) ?_ (0, k) ⟨Nat.zero_le _, by simp⟩
  rintro ⟨j, k'⟩ ⟨hj, hk'⟩ ih
  simp at hk' hj
  subst hk'
  have hlen : (mkI k j ++ ns.drop j).length = ns.length := by simp; omega
  simp [hlt]
  refine br_intro' (fun h => ?_) (fun h => ?_) <;> (have h0 := h) <;> (try simp at h) <;> try simp [h0, h]
  · have h' := h
    have hr : ro = false := by cases ro with | false => rfl | true => rw [hro rfl] at h; simp at h
    subst hr
    have w1 : IntKind.i64.wrap (k + (j : Int) + 1) = k + j + 1 := wrap64 (by omega) (by omega)
    have hw : IntKind.i64.wrap ((j : Int) + 1) = j + 1 := wrap64 (by omega) (by omega)
    have hc : j + (ns.length - j) = ns.length := by omega
    simp [h', hlt, hc, w1, hw]
    refine ck_intro' (by omega) ?_; simp [h', hlt, hc, w1, hw]
    have e3 := ints_set (mkI k j ++ ns.drop j) j (k + j)
    rw [mkI_set k ns j h'] at e3
    rw [e3]
    exact ih (j + 1, k + j + 1) ⟨h', by push_cast; omega⟩ (by simp; omega)
  · have e : j = ns.length := by omega
    subst e
    simp
    exact LeV.refl _ _ _
theorem laws_heldIntS_c (n : Nat) (k : Int) (hl : n ≤ 4294967296) (hk : 0 ≤ k) (hk2 : k ≤ 1099511627776) : T 14 [.sl n (ints (mkI k n)), i6 k] [] (i6 (k + n)) ([]) := by
  refine semT' (S := S0) hm laws_heldIntS_ok (Nat.le_of_ble_eq_true rfl) ?_
  unfold laws_heldIntS; dsimp only
  simp
  refine WLoop_fam (fun p : Nat × Int => [(0, .sl n (ints (mkI k n))), (1, i6 p.2), (5, i6 p.1)]) (fun _ => []) (fun p => n - p.1)
    (fun p => p.1 ≤ n ∧ p.2 = k + p.1) ?_ (0, k) ⟨Nat.zero_le _, by simp⟩
  rintro ⟨j, k'⟩ ⟨hj, hk'⟩ ih
  simp at hk' hj
  subst hk'
  simp
  refine br_intro' (fun h => ?_) (fun h => ?_) <;> (have h0 := h) <;> (try simp at h) <;> try simp [h0, h]
  · have h' := h
    have w1 : IntKind.i64.wrap (k + (j : Int) + 1) = k + j + 1 := wrap64 (by omega) (by omega)
    have hw : IntKind.i64.wrap ((j : Int) + 1) = j + 1 := wrap64 (by omega) (by omega)
    simp [h', mkI_get, w1, hw]
    exact ih (j + 1, k + j + 1) ⟨h', by push_cast; omega⟩ (by simp; omega)
  · have e : j = n := by omega
    subst e
    exact LeV.ro rfl rfl (by simp)
theorem laws_heldIntS_call {n : Nat} {k : Int} (hl : n ≤ 4294967296) (hk : 0 ≤ k) (hk2 : k ≤ 1099511627776) {S : FuncId → Bool} {H : List Blk} {K : A → Dl → Prop} (hS : S 14 = false) (hK : K (i6 (k + n)) (.news [])) : @WCall' Go.Proofs.Tryz.prog S 14 [.sl n (ints (mkI k n)), i6 k] H ⟨K⟩ :=
  WCall_pure hS (laws_heldIntS_c n k hl hk hk2) (by simp) (by simp) (by simp) hK
theorem laws_heldIntS_k {n : Nat} {k : Int} (hl : n ≤ 4294967296) (hk : 0 ≤ k) (hk2 : k ≤ 1099511627776) {S : FuncId → Bool} {H : List Blk} {K : A → Dl → Prop} {zs : List A} (hS : S 14 = false) (hv : viewL (viewA 8 H) zs = some [.sl n (ints (mkI k n)), i6 k]) (ho : noOwns zs = true ∨ nosl (i6 (k + n)) = true) (hK : K (i6 (k + n)) (.news [])) : @WCall' Go.Proofs.Tryz.prog S 14 zs H ⟨K⟩ :=
  WCall_pure hS (laws_heldIntS_c n k hl hk hk2) hv ho (by simp) hK
theorem laws_FnExactPatMatch_c (ns : List Nd) (ks : List Int) (tx : ByteArray) (t : Int) (ha : ns.length < 9223372036854775808) (hb : ks.length < 9223372036854775808) (hc : tx.size ≤ maxLen) (hd : In64 t) : T 3 [aP ns, aI ks, .str tx, i6 t] [] (.bool true) ([]) := by
  refine semT' (S := (fun f => [11, 32, 12].contains f)) hm laws_FnExactPatMatch_ok (Nat.le_of_ble_eq_true rfl) ?_
  unfold laws_FnExactPatMatch; dsimp only
  simp
  refine br_intro' (fun g0 => ?_) (fun g0 => ?_) <;> (have g00 := g0) <;> simp only [decide_eq_true_eq, decide_eq_false_iff_not] at g0 <;> simp [g00]
  · exact LeV.ro rfl rfl rfl
  refine br_intro' (fun g1 => ?_) (fun g1 => ?_) <;> (have g10 := g1) <;> simp only [decide_eq_true_eq, decide_eq_false_iff_not] at g1 <;> simp [g10]
  · exact LeV.ro rfl rfl rfl
  refine laws_szPool_call (ns := ns) (x := 1048576) ha (by omega) (by omega) rfl ?_; simp
  refine br_intro' (fun g => ?_) (fun g => ?_) <;> simp only [decide_eq_true_eq, decide_eq_false_iff_not, szF_neg] at g <;> simp [szF_neg, g]
  · exact LeV.ro rfl rfl rfl
  have hl : ns.length ≤ 4294967296 := by omega
  have hk : ks.length ≤ 4294967296 := by omega
  have hs : tx.size ≤ 281474976710656 := by omega
  obtain ⟨hR, hR2⟩ := ptF_len ns ks tx t
  obtain ⟨R, eR⟩ : ∃ R, ptF ns ks tx t = R := ⟨_, rfl⟩
  rw [eR] at hR hR2
  have hR3 : R.2.1.length ≤ 26 := by
    rcases hR2 with h | h
    · omega
    · simp [h]
  refine laws_toPool_k (ns := ns) hl rfl (by simp) (by simp [noslBlks]) ?_; simp [shiftB]
  refine laws_toIntS_k (xs := ks) hk rfl (by simp) (by simp [noslBlks]) ?_; simp [shiftB]
  refine spec_PatMatch_k (ns := ns) (ks := ks) (tx := tx) (t := t) (by omega) (by omega) hs rfl (by simp) (by simp [noslBlks]) ?_; simp [shiftB]
  refine laws_toPool_k (ns := ns) hl rfl (by simp) (by simp [noslBlks]) ?_; simp [shiftB]
  refine laws_toIntS_k (xs := ks) hk rfl (by simp) (by simp [noslBlks]) ?_; simp [shiftB]
  refine impl_PatMatch_k (ns := ns) (ks := ks) (tx := tx) (t := t) (by omega) (by omega) hs rfl (by simp) (by simp [noslBlks]) ?_; simp [shiftB]
  rw [eR]
  refine laws_eqPool_k (ns := R.1) (ms := R.1) (by omega) (by omega) rfl (by simp) (by simp [noslBlks]) ?_; simp [shiftB]
  refine laws_eqIntS_k (ns := R.2.1) (ms := R.2.1) (by omega) (by omega) rfl (by simp) (by simp [noslBlks]) ?_; simp [shiftB]
  repeat (refine ck_intro' (by first | omega | (simp; omega) | kernel_rfl) ?_; try simp)
  refine laws_toPool_k (ns := ns) hl rfl (by simp) (by simp [noslBlks]) ?_; simp [shiftB]
  refine laws_eqPool_k (ns := ns) (ms := ns) (by omega) (by omega) rfl (by simp) (by simp [noslBlks]) ?_; simp [shiftB]
  first | (refine ck_intro' (by kernel_rfl) ?_; try simp) | skip
  refine laws_toIntS_k (xs := ks) hk rfl (by simp) (by simp [noslBlks]) ?_; simp [shiftB]
  refine laws_eqIntS_k (ns := ks) (ms := ks) (by omega) (by omega) rfl (by simp) (by simp [noslBlks]) ?_; simp [shiftB]
  first | (refine ck_intro' (by kernel_rfl) ?_; try simp) | skip
  have k1 : ¬ 1 + 3 * (ns.length : Int) + ks.length < 0 := by omega
  have k2 : ¬ 1 + 3 * (R.1.length : Int) < 0 := by omega
  have k3 : ¬ 1 + 3 * (R.1.length : Int) + R.2.1.length < 0 := by omega
  refine WCall_t' rfl [6] (laws_markPool_m _ 6 ns.length false ns 1 (by simp) (by simp) hl (by omega) (by omega) (by simp [inAs_scals _ (ints_scals ks), inAs_scals _ (ints_scals R.2.1)])) (by simp) (fun b hb _ => by simp at hb; rw [List.getElem?_set_ne (Ne.symm hb)]) ?_; simp
  refine WCall_t' rfl [8] (laws_markIntS_m _ 8 ks.length false ks (1 + 3 * ns.length) (by simp) (by simp) hk (by omega) (by omega)) (by simp) (fun b hb _ => by simp at hb; rw [List.getElem?_set_ne (Ne.symm hb)]) ?_; simp
  simp [k1]
  refine laws_eqPool_k (ns := R.1) (ms := R.1) (by omega) (by omega) rfl (by simp) (by simp [noslBlks]) ?_; simp [shiftB]
  refine laws_eqIntS_k (ns := R.2.1) (ms := R.2.1) (by omega) (by omega) rfl (by simp) (by simp [noslBlks]) ?_; simp [shiftB]
  repeat (refine ck_intro' (by first | omega | (simp; omega) | kernel_rfl) ?_; try simp)
  refine WCall_t' rfl [9] (laws_markPool_m _ 9 R.1.length (decide (R.1 = [])) R.1 1 (by simp) (by simp) (by omega) (by omega) (by omega) (by simp [inAs_scals _ (ints_scals ks), inAs_scals _ (ints_scals R.2.1), inAs_scals _ (ints_scals (mkI (1 + 3 * (ns.length : Int)) ks.length))])) (by simp) (fun b hb _ => by simp at hb; rw [List.getElem?_set_ne (Ne.symm hb)]) ?_; simp
  refine WCall_t' rfl [10] (laws_markIntS_m _ 10 R.2.1.length (decide (R.2.1 = [])) R.2.1 (1 + 3 * R.1.length) (by simp) (by simp) (by omega) (by omega) (by omega)) (by simp) (fun b hb _ => by simp at hb; rw [List.getElem?_set_ne (Ne.symm hb)]) ?_; simp
  refine laws_heldPool_k (n := R.1.length) (k := 1) (by omega) (by omega) (by omega) rfl (by simp) (by simp [noslBlks]) ?_; simp [shiftB]
  simp [k2]
  refine laws_heldIntS_k (n := R.2.1.length) (k := 1 + 3 * R.1.length) (by omega) (by omega) (by omega) rfl (by simp) (by simp [noslBlks]) ?_; simp [shiftB]
  simp [k3]
  refine laws_toPool_k (ns := ns) hl rfl (by simp) (by simp [noslBlks]) ?_; simp [shiftB]
  refine laws_toIntS_k (xs := ks) hk rfl (by simp) (by simp [noslBlks]) ?_; simp [shiftB]
  refine impl_PatMatch_k (ns := ns) (ks := ks) (tx := tx) (t := t) (by omega) (by omega) hs rfl (by simp) (by simp [noslBlks]) ?_; simp [shiftB]
  rw [eR]
  refine laws_eqPool_k (ns := R.1) (ms := R.1) (by omega) (by omega) rfl (by simp) (by simp [noslBlks]) ?_; simp [shiftB]
  refine laws_eqIntS_k (ns := R.2.1) (ms := R.2.1) (by omega) (by omega) rfl (by simp) (by simp [noslBlks]) ?_; simp [shiftB]
  repeat (refine ck_intro' (by first | omega | (simp; omega) | kernel_rfl) ?_; try simp)
  refine laws_heldPool_k (n := R.1.length) (k := 1) (by omega) (by omega) (by omega) rfl (by simp) (by simp [noslBlks]) ?_; simp [shiftB]
  simp [k2]
  refine laws_heldIntS_k (n := R.2.1.length) (k := 1 + 3 * R.1.length) (by omega) (by omega) (by omega) rfl (by simp) (by simp [noslBlks]) ?_; simp [shiftB]
  simp [k3]
  exact LeV.ro rfl rfl rfl
end Go.Proofs.YtpohfpnlepmebaaGreatDoor.C
