/- What sending and ending answer in the program. Conditions: those that each theorem names. -/
import Derived.Test.YtnbodfakblbmbaaXC7
set_option linter.unusedVariables false
set_option linter.unusedSimpArgs false
namespace Go.Proofs.Ytnbodfakblbmbaa.C
open Go.Sym Go.Proofs.Ytnbodfakblbmbaa.I
theorem impl_Pool_isName_c (ns : List Nd) (r : List A) (t x : Int) (hl : ns.length < 9223372036854775807) (ht : hasF ns.length t = true) : T 63 [.pt (.sl ns.length (enc ns) :: r), i6 t, i6 x] [] (.bool (nameF ns t x)) ([]) := by
  refine semT' (S := S0) hm impl_Pool_isName_ok (Nat.le_of_ble_eq_true rfl) ?_
  unfold impl_Pool_isName; dsimp only
  obtain ⟨j, rfl, hj⟩ := hasF_nat ht
  obtain ⟨q, hr⟩ := enc_at hj
  have h3 : 3 ≤ ns.length * 3 - j * 3 := by omega
  simp [h3, hr, hj]
  exact LeV.ro rfl rfl (by simp [nameF, hj, Nd_eq])
theorem impl_LinkSend_c (ns : List Nd) (l : Lk) (t : Int) (hl : ns.length ≤ 4294967296) : T 32 [aP ns, aL l, i6 t] [] (.tup [.agg [pref 0 (linkSendF ns l t).1], aL (linkSendF ns l t).2.1, i6 (linkSendF ns l t).2.2]) ([pblk (linkSendF ns l t).1]) := by
  refine semT' (S := (fun f => [76, 77, 81].contains f)) hm impl_LinkSend_ok (Nat.le_of_ble_eq_true rfl) ?_
  unfold impl_LinkSend; dsimp only
  have e0 : (hasF ns.length t = false ∨ l.over = true ∨ l.seq = 20 ∨ lkF ns l = false ∨ endF ns t = true) → linkSendF ns l t = (orE ns, l, -1) := by
    intro h
    unfold linkSendF
    by_cases hk : lkF ns l = true
    · have hp : poolF ns = true := by simp [lkF] at hk; exact hk.1
      rw [if_pos hk]
      simp only [sendF]
      rw [if_pos (by rcases h with h | h | h | h | h; exact .inl h; exact .inr (.inr (.inl h)); exact .inr (.inr (.inr h)); (rw [hk] at h; cases h); exact .inr (.inl h))]
      simp [orE, hp]
    · rw [if_neg hk]
  simp
  refine WCall_pure rfl (impl_Pool_isTerm_c ns [] t (by omega)) (by simp) (by simp) (by simp) ?_; simp
  refine br_intro' (fun h0 => ?_) (fun h0 => ?_) <;> simp [h0]
  refine br_intro' (fun h => ?_) (fun h => ?_) <;> simp [h]
  · rw [e0 (.inr (.inl h))]
    refine impl_orEmpty_k (ns := ns) hl rfl (by simp) (by simp [noslBlks]) ?_; simp [shiftB]
    first | (refine ck_intro' (by kernel_rfl) ?_; try simp) | skip
    first | (refine LeV.tell [none] ?_ ?_ ?_ <;> (simp [h]; done)) | (refine LeV.tell [some 0] ?_ ?_ ?_ <;> (simp [h]; done)) | (refine LeV.tell [some 1] ?_ ?_ ?_ <;> (simp [h]; done)) | (refine LeV.tell [some 2] ?_ ?_ ?_ <;> (simp [h]; done)) | (refine LeV.tell [some 3] ?_ ?_ ?_ <;> (simp [h]; done)) | (refine LeV.tell [some 4] ?_ ?_ ?_ <;> (simp [h]; done)) | (refine LeV.tell [some 5] ?_ ?_ ?_ <;> (simp [h]; done)) | (refine LeV.tell [some 6] ?_ ?_ ?_ <;> (simp [h]; done)) | (refine LeV.tell [some 7] ?_ ?_ ?_ <;> (simp [h]; done)) | (refine LeV.tell [some 8] ?_ ?_ ?_ <;> (simp [h]; done)) | (refine LeV.tell [some 9] ?_ ?_ ?_ <;> (simp [h]; done)) | (refine LeV.tell [some 10] ?_ ?_ ?_ <;> (simp [h]; done)) | (refine LeV.tell [some 11] ?_ ?_ ?_ <;> (simp [h]; done)) | (refine LeV.tell [some 12] ?_ ?_ ?_ <;> (simp [h]; done)) | (refine LeV.tell [some 13] ?_ ?_ ?_ <;> (simp [h]; done)) | (refine LeV.tell [some 14] ?_ ?_ ?_ <;> (simp [h]; done)) | (refine LeV.tell [some 15] ?_ ?_ ?_ <;> (simp [h]; done))
  refine br_intro' (fun h1 => ?_) (fun h1 => ?_) <;> simp at h1 <;> simp [h1]
  · rw [e0 (.inr (.inr (.inl h1)))]
    refine impl_orEmpty_k (ns := ns) hl rfl (by simp) (by simp [noslBlks]) ?_; simp [shiftB]
    first | (refine ck_intro' (by kernel_rfl) ?_; try simp) | skip
    first | (refine LeV.tell [none] ?_ ?_ ?_ <;> (simp [h, h1]; done)) | (refine LeV.tell [some 0] ?_ ?_ ?_ <;> (simp [h, h1]; done)) | (refine LeV.tell [some 1] ?_ ?_ ?_ <;> (simp [h, h1]; done)) | (refine LeV.tell [some 2] ?_ ?_ ?_ <;> (simp [h, h1]; done)) | (refine LeV.tell [some 3] ?_ ?_ ?_ <;> (simp [h, h1]; done)) | (refine LeV.tell [some 4] ?_ ?_ ?_ <;> (simp [h, h1]; done)) | (refine LeV.tell [some 5] ?_ ?_ ?_ <;> (simp [h, h1]; done)) | (refine LeV.tell [some 6] ?_ ?_ ?_ <;> (simp [h, h1]; done)) | (refine LeV.tell [some 7] ?_ ?_ ?_ <;> (simp [h, h1]; done)) | (refine LeV.tell [some 8] ?_ ?_ ?_ <;> (simp [h, h1]; done)) | (refine LeV.tell [some 9] ?_ ?_ ?_ <;> (simp [h, h1]; done)) | (refine LeV.tell [some 10] ?_ ?_ ?_ <;> (simp [h, h1]; done)) | (refine LeV.tell [some 11] ?_ ?_ ?_ <;> (simp [h, h1]; done)) | (refine LeV.tell [some 12] ?_ ?_ ?_ <;> (simp [h, h1]; done)) | (refine LeV.tell [some 13] ?_ ?_ ?_ <;> (simp [h, h1]; done)) | (refine LeV.tell [some 14] ?_ ?_ ?_ <;> (simp [h, h1]; done)) | (refine LeV.tell [some 15] ?_ ?_ ?_ <;> (simp [h, h1]; done))
  refine impl_LinkOk_k (ns := ns) (l := l) (by omega) rfl (by simp [h]) (by simp) ?_; simp
  refine br_intro' (fun h2 => ?_) (fun h2 => ?_) <;> simp [h2]
  · refine WCall_pure rfl (impl_Pool_isName_c ns [] t 8 (by omega) h0) (by simp) (by simp) (by simp) ?_; simp
    refine br_intro' (fun h3 => ?_) (fun h3 => ?_) <;> simp [h3]
    · rw [e0 (.inr (.inr (.inr (.inr h3))))]
      refine impl_orEmpty_k (ns := ns) hl rfl (by simp) (by simp [noslBlks]) ?_; simp [shiftB]
      first | (refine ck_intro' (by kernel_rfl) ?_; try simp) | skip
      first | (refine LeV.tell [none] ?_ ?_ ?_ <;> (simp [h]; done)) | (refine LeV.tell [some 0] ?_ ?_ ?_ <;> (simp [h]; done)) | (refine LeV.tell [some 1] ?_ ?_ ?_ <;> (simp [h]; done)) | (refine LeV.tell [some 2] ?_ ?_ ?_ <;> (simp [h]; done)) | (refine LeV.tell [some 3] ?_ ?_ ?_ <;> (simp [h]; done)) | (refine LeV.tell [some 4] ?_ ?_ ?_ <;> (simp [h]; done)) | (refine LeV.tell [some 5] ?_ ?_ ?_ <;> (simp [h]; done)) | (refine LeV.tell [some 6] ?_ ?_ ?_ <;> (simp [h]; done)) | (refine LeV.tell [some 7] ?_ ?_ ?_ <;> (simp [h]; done)) | (refine LeV.tell [some 8] ?_ ?_ ?_ <;> (simp [h]; done)) | (refine LeV.tell [some 9] ?_ ?_ ?_ <;> (simp [h]; done)) | (refine LeV.tell [some 10] ?_ ?_ ?_ <;> (simp [h]; done)) | (refine LeV.tell [some 11] ?_ ?_ ?_ <;> (simp [h]; done)) | (refine LeV.tell [some 12] ?_ ?_ ?_ <;> (simp [h]; done)) | (refine LeV.tell [some 13] ?_ ?_ ?_ <;> (simp [h]; done)) | (refine LeV.tell [some 14] ?_ ?_ ?_ <;> (simp [h]; done)) | (refine LeV.tell [some 15] ?_ ?_ ?_ <;> (simp [h]; done))
    refine impl_copyPool_k (ns := ns) hl rfl (by simp) (by simp [noslBlks]) ?_; simp [shiftB]
    have hp : poolF ns = true := by simp [lkF] at h2; exact h2.1
    have hl5 := poolF_len hp
    have hs1 : -9223372036854775808 ≤ 20 + l.seq := by simp [lkF, linkF, inF] at h2; omega
    have hs2 : 20 + l.seq < 9223372036854775808 := by simp [lkF, linkF, inF] at h2; omega
    have hw : IntKind.i64.wrap (l.seq + 1) = l.seq + 1 := by
      simp [lkF, linkF, inF] at h2
      exact wrap64 (by omega) (by omega)
    have e1 : linkSendF ns l t = if (sealF ns l.key l.seq t).2 < 0 then (ns, l, -1) else ((sealF ns l.key l.seq t).1, ⟨l.key, l.epoch, l.seq + 1, l.over⟩, (sealF ns l.key l.seq t).2) := by
      have h3' : endF ns t = false := h3
      simp only [linkSendF, sendF, h2, if_true, h0, h3', h, h1, wordF_eq hs1 hs2]
      by_cases q : (sealF ns l.key l.seq t).2 < 0
      · simp [q]
      · simp [q]
    rw [e1]
    refine pool_call rfl 5 0 4 0 1 [pref 4 ns] ns (sealF ns l.key l.seq t).1 ⟨by simp, by simp, by simp, by simp, by simp, by simp, ⟨[], by simp⟩⟩ (by simp [pset]) (impl_Link_seal_m _ 5 0 4 0 1 [pref 4 ns] ns 1 0 1 l.key l.epoch l.seq false t ⟨by simp, by simp, by simp, by simp, by simp, by simp, ⟨[], by simp⟩⟩ hl5 (by simp) (by simp) (by simp)) ?_
    simp [pset]
    have hl6 := sealF_len ns l.key l.seq t hl5
    generalize sealF ns l.key l.seq t = q at hl6 ⊢
    refine br_intro' (fun f => ?_) (fun f => ?_) <;> simp at f <;> simp [f]
    · refine impl_copyPool_k (ns := ns) hl rfl (by simp) (by simp [noslBlks]) ?_; simp [shiftB]
      first | (refine ck_intro' (by kernel_rfl) ?_; try simp) | skip
      first | (refine LeV.tell [none] ?_ ?_ ?_ <;> (simp [h, f]; done)) | (refine LeV.tell [some 0] ?_ ?_ ?_ <;> (simp [h, f]; done)) | (refine LeV.tell [some 1] ?_ ?_ ?_ <;> (simp [h, f]; done)) | (refine LeV.tell [some 2] ?_ ?_ ?_ <;> (simp [h, f]; done)) | (refine LeV.tell [some 3] ?_ ?_ ?_ <;> (simp [h, f]; done)) | (refine LeV.tell [some 4] ?_ ?_ ?_ <;> (simp [h, f]; done)) | (refine LeV.tell [some 5] ?_ ?_ ?_ <;> (simp [h, f]; done)) | (refine LeV.tell [some 6] ?_ ?_ ?_ <;> (simp [h, f]; done)) | (refine LeV.tell [some 7] ?_ ?_ ?_ <;> (simp [h, f]; done)) | (refine LeV.tell [some 8] ?_ ?_ ?_ <;> (simp [h, f]; done)) | (refine LeV.tell [some 9] ?_ ?_ ?_ <;> (simp [h, f]; done)) | (refine LeV.tell [some 10] ?_ ?_ ?_ <;> (simp [h, f]; done)) | (refine LeV.tell [some 11] ?_ ?_ ?_ <;> (simp [h, f]; done)) | (refine LeV.tell [some 12] ?_ ?_ ?_ <;> (simp [h, f]; done)) | (refine LeV.tell [some 13] ?_ ?_ ?_ <;> (simp [h, f]; done)) | (refine LeV.tell [some 14] ?_ ?_ ?_ <;> (simp [h, f]; done)) | (refine LeV.tell [some 15] ?_ ?_ ?_ <;> (simp [h, f]; done))
    · have f' : ¬ q.2 < 0 := by omega
      first | (refine ck_intro' (by kernel_rfl) ?_; try simp) | skip
      first | (refine LeV.tell [none] ?_ ?_ ?_ <;> (simp [f', hw, h]; done)) | (refine LeV.tell [some 0] ?_ ?_ ?_ <;> (simp [f', hw, h]; done)) | (refine LeV.tell [some 1] ?_ ?_ ?_ <;> (simp [f', hw, h]; done)) | (refine LeV.tell [some 2] ?_ ?_ ?_ <;> (simp [f', hw, h]; done)) | (refine LeV.tell [some 3] ?_ ?_ ?_ <;> (simp [f', hw, h]; done)) | (refine LeV.tell [some 4] ?_ ?_ ?_ <;> (simp [f', hw, h]; done)) | (refine LeV.tell [some 5] ?_ ?_ ?_ <;> (simp [f', hw, h]; done)) | (refine LeV.tell [some 6] ?_ ?_ ?_ <;> (simp [f', hw, h]; done)) | (refine LeV.tell [some 7] ?_ ?_ ?_ <;> (simp [f', hw, h]; done)) | (refine LeV.tell [some 8] ?_ ?_ ?_ <;> (simp [f', hw, h]; done)) | (refine LeV.tell [some 9] ?_ ?_ ?_ <;> (simp [f', hw, h]; done)) | (refine LeV.tell [some 10] ?_ ?_ ?_ <;> (simp [f', hw, h]; done)) | (refine LeV.tell [some 11] ?_ ?_ ?_ <;> (simp [f', hw, h]; done)) | (refine LeV.tell [some 12] ?_ ?_ ?_ <;> (simp [f', hw, h]; done)) | (refine LeV.tell [some 13] ?_ ?_ ?_ <;> (simp [f', hw, h]; done)) | (refine LeV.tell [some 14] ?_ ?_ ?_ <;> (simp [f', hw, h]; done)) | (refine LeV.tell [some 15] ?_ ?_ ?_ <;> (simp [f', hw, h]; done))
  · rw [e0 (.inr (.inr (.inr (.inl h2))))]
    refine impl_orEmpty_k (ns := ns) hl rfl (by simp) (by simp [noslBlks]) ?_; simp [shiftB]
    first | (refine ck_intro' (by kernel_rfl) ?_; try simp) | skip
    first | (refine LeV.tell [none] ?_ ?_ ?_ <;> (simp [h]; done)) | (refine LeV.tell [some 0] ?_ ?_ ?_ <;> (simp [h]; done)) | (refine LeV.tell [some 1] ?_ ?_ ?_ <;> (simp [h]; done)) | (refine LeV.tell [some 2] ?_ ?_ ?_ <;> (simp [h]; done)) | (refine LeV.tell [some 3] ?_ ?_ ?_ <;> (simp [h]; done)) | (refine LeV.tell [some 4] ?_ ?_ ?_ <;> (simp [h]; done)) | (refine LeV.tell [some 5] ?_ ?_ ?_ <;> (simp [h]; done)) | (refine LeV.tell [some 6] ?_ ?_ ?_ <;> (simp [h]; done)) | (refine LeV.tell [some 7] ?_ ?_ ?_ <;> (simp [h]; done)) | (refine LeV.tell [some 8] ?_ ?_ ?_ <;> (simp [h]; done)) | (refine LeV.tell [some 9] ?_ ?_ ?_ <;> (simp [h]; done)) | (refine LeV.tell [some 10] ?_ ?_ ?_ <;> (simp [h]; done)) | (refine LeV.tell [some 11] ?_ ?_ ?_ <;> (simp [h]; done)) | (refine LeV.tell [some 12] ?_ ?_ ?_ <;> (simp [h]; done)) | (refine LeV.tell [some 13] ?_ ?_ ?_ <;> (simp [h]; done)) | (refine LeV.tell [some 14] ?_ ?_ ?_ <;> (simp [h]; done)) | (refine LeV.tell [some 15] ?_ ?_ ?_ <;> (simp [h]; done))
  · rw [e0 (.inl h0)]
    refine impl_orEmpty_k (ns := ns) hl rfl (by simp) (by simp [noslBlks]) ?_; simp [shiftB]
    first | (refine ck_intro' (by kernel_rfl) ?_; try simp) | skip
    first | (refine LeV.tell [none] ?_ ?_ ?_ <;> (simp; done)) | (refine LeV.tell [some 0] ?_ ?_ ?_ <;> (simp; done)) | (refine LeV.tell [some 1] ?_ ?_ ?_ <;> (simp; done)) | (refine LeV.tell [some 2] ?_ ?_ ?_ <;> (simp; done)) | (refine LeV.tell [some 3] ?_ ?_ ?_ <;> (simp; done)) | (refine LeV.tell [some 4] ?_ ?_ ?_ <;> (simp; done)) | (refine LeV.tell [some 5] ?_ ?_ ?_ <;> (simp; done)) | (refine LeV.tell [some 6] ?_ ?_ ?_ <;> (simp; done)) | (refine LeV.tell [some 7] ?_ ?_ ?_ <;> (simp; done)) | (refine LeV.tell [some 8] ?_ ?_ ?_ <;> (simp; done)) | (refine LeV.tell [some 9] ?_ ?_ ?_ <;> (simp; done)) | (refine LeV.tell [some 10] ?_ ?_ ?_ <;> (simp; done)) | (refine LeV.tell [some 11] ?_ ?_ ?_ <;> (simp; done)) | (refine LeV.tell [some 12] ?_ ?_ ?_ <;> (simp; done)) | (refine LeV.tell [some 13] ?_ ?_ ?_ <;> (simp; done)) | (refine LeV.tell [some 14] ?_ ?_ ?_ <;> (simp; done)) | (refine LeV.tell [some 15] ?_ ?_ ?_ <;> (simp; done))
theorem impl_LinkSend_k {ns : List Nd} {l : Lk} {t : Int} (hl : ns.length ≤ 4294967296) {S : FuncId → Bool} {H : List Blk} {K : A → Dl → Prop} {zs : List A} (hS : S 32 = false) (hv : viewL (viewA 8 H) zs = some [aP ns, aL l, i6 t]) (ho : noOwns zs = true ∨ nosl (.tup [.agg [pref 0 (linkSendF ns l t).1], aL (linkSendF ns l t).2.1, i6 (linkSendF ns l t).2.2]) = true ∧ noslBlks ([pblk (linkSendF ns l t).1]) = true) (hK : K (shiftA H.length (.tup [.agg [pref 0 (linkSendF ns l t).1], aL (linkSendF ns l t).2.1, i6 (linkSendF ns l t).2.2])) (.news (([pblk (linkSendF ns l t).1]).map (shiftB H.length)))) : @WCall' Go.Proofs.Try.prog S 32 zs H ⟨K⟩ :=
  WCall_ro' hS hv (impl_LinkSend_c ns l t hl) rfl ho hK
def endsF (ns : List Nd) (key seq : Int) : List Nd × Int := sealF (addF ns ⟨1, 8, 0⟩).1 key seq (addF ns ⟨1, 8, 0⟩).2
theorem impl_Link_end_m (H : List Blk) (b off nb vb eb : Nat) (cb : List A) (ns : List Nd) (lb vl el : Nat) (key ep sq : Int) (ov : Bool) (h : PIn H b off nb cb) (hl : ns.length ≤ 500) (h1 : lb ≠ b) (h2 : lb ≠ nb) (hL : H[lb]? = some ⟨vl, false, el, [i6 key, i6 ep, i6 sq, .bool ov], none⟩) : T 86 [.ptr lb vl 0, .ptr b vb off] (pset H b off nb vb eb cb ns) (i6 (endsF ns key sq).2) (pset H b off nb vb eb cb (endsF ns key sq).1) := by
  refine semT' (S := (fun f => [76, 77, 81].contains f)) hm impl_Link_end_ok (Nat.le_of_ble_eq_true rfl) ?_
  unfold impl_Link_end; dsimp only
  have gL : ∀ ns, (pset H b off nb vb eb cb ns)[lb]? = _ := fun ns => (pset_other vb eb ns h1 h2).trans hL
  try simp [gL]
  refine pool_call rfl b off nb vb eb cb ns (addF ns ⟨1, 8, 0⟩).1 (h.pset vb eb ns) (pset_pset h vb eb ns ns) (by rw [pset_pset h, pset_pset h]; exact impl_Pool_name_m H b off nb vb eb cb ns _ h hl) ?_
  try simp [pset_pset h, gL]
  have hl1 := addF_len ns ⟨1, 8, 0⟩ hl
  generalize hA : addF ns ⟨1, 8, 0⟩ = A1 at hl1 ⊢
  refine pool_call rfl b off nb vb eb cb A1.1 (sealF A1.1 key sq A1.2).1 (h.pset vb eb _) (pset_pset h vb eb _ _) (by rw [pset_pset h, pset_pset h]; exact impl_Link_seal_m H b off nb vb eb cb A1.1 lb vl el key ep sq ov A1.2 h hl1 h1 h2 hL) ?_
  try simp [pset_pset h, gL]
  subst hA
  exact LeV.refl _ _ _
theorem endsF_len (ns : List Nd) (key seq : Int) (h : ns.length ≤ 500) : (endsF ns key seq).1.length ≤ 500 := sealF_len _ _ _ _ (addF_len _ _ h)
theorem closeF_eq {ns : List Nd} {l : Lk} (h1 : -9223372036854775808 ≤ 20 + l.seq) (h2 : 20 + l.seq < 9223372036854775808) (h : l.over = false) (h3 : ¬ l.seq = 20) : closeF ns l = if (endsF ns l.key l.seq).2 < 0 then (ns, l, -1) else ((endsF ns l.key l.seq).1, ⟨l.key, l.epoch, l.seq, true⟩, (endsF ns l.key l.seq).2) := by
  unfold closeF endsF
  rw [if_neg (by simp [h, h3]), wordF_eq h1 h2]
  by_cases g : (addF ns ⟨1, 8, 0⟩).2 < 0
  · rw [if_pos g, if_pos]
    rw [addF_m1 g, sealF_eq h1 h2]
    by_cases g1 : (addF (addF ns ⟨1, 8, 0⟩).1 ⟨1, 20 + l.seq, 0⟩).2 < 0
    · rw [addF_m1 g1, addF_neg (by rfl) (by simp)]
      simp only
      rw [addF_neg1 (by rfl) (by simp)]
      simp
    · rw [addF_neg (by rfl) (by simp)]
      simp only
      rw [addF_neg1 (by rfl) (by simp)]
      simp
  · rw [if_neg g]
    by_cases q : (sealF (addF ns ⟨1, 8, 0⟩).1 l.key l.seq (addF ns ⟨1, 8, 0⟩).2).2 < 0
    · simp [q]
    · simp [q]
theorem impl_LinkEnd_c (ns : List Nd) (l : Lk) (hl : ns.length ≤ 4294967296) : T 37 [aP ns, aL l] [] (.tup [.agg [pref 0 (linkEndF ns l).1], aL (linkEndF ns l).2.1, i6 (linkEndF ns l).2.2]) ([pblk (linkEndF ns l).1]) := by
  refine semT' (S := (fun f => [76, 77, 81, 86].contains f)) hm impl_LinkEnd_ok (Nat.le_of_ble_eq_true rfl) ?_
  unfold impl_LinkEnd; dsimp only
  have e0 : (l.over = true ∨ l.seq = 20 ∨ lkF ns l = false) → linkEndF ns l = (orE ns, l, -1) := by
    intro h
    unfold linkEndF
    by_cases hk : lkF ns l = true
    · have hp : poolF ns = true := by simp [lkF] at hk; exact hk.1
      rw [if_pos hk]
      simp only [closeF]
      rw [if_pos (by rcases h with h | h | h; exact .inl h; exact .inr h; rw [hk] at h; cases h)]
      simp [orE, hp]
    · rw [if_neg hk]
  simp
  refine br_intro' (fun h => ?_) (fun h => ?_) <;> simp [h]
  · rw [e0 (.inl h)]
    refine impl_orEmpty_k (ns := ns) hl rfl (by simp) (by simp [noslBlks]) ?_; simp [shiftB]
    first | (refine ck_intro' (by kernel_rfl) ?_; try simp) | skip
    first | (refine LeV.tell [none] ?_ ?_ ?_ <;> (simp [h]; done)) | (refine LeV.tell [some 0] ?_ ?_ ?_ <;> (simp [h]; done)) | (refine LeV.tell [some 1] ?_ ?_ ?_ <;> (simp [h]; done)) | (refine LeV.tell [some 2] ?_ ?_ ?_ <;> (simp [h]; done)) | (refine LeV.tell [some 3] ?_ ?_ ?_ <;> (simp [h]; done)) | (refine LeV.tell [some 4] ?_ ?_ ?_ <;> (simp [h]; done)) | (refine LeV.tell [some 5] ?_ ?_ ?_ <;> (simp [h]; done)) | (refine LeV.tell [some 6] ?_ ?_ ?_ <;> (simp [h]; done)) | (refine LeV.tell [some 7] ?_ ?_ ?_ <;> (simp [h]; done)) | (refine LeV.tell [some 8] ?_ ?_ ?_ <;> (simp [h]; done)) | (refine LeV.tell [some 9] ?_ ?_ ?_ <;> (simp [h]; done)) | (refine LeV.tell [some 10] ?_ ?_ ?_ <;> (simp [h]; done)) | (refine LeV.tell [some 11] ?_ ?_ ?_ <;> (simp [h]; done)) | (refine LeV.tell [some 12] ?_ ?_ ?_ <;> (simp [h]; done)) | (refine LeV.tell [some 13] ?_ ?_ ?_ <;> (simp [h]; done)) | (refine LeV.tell [some 14] ?_ ?_ ?_ <;> (simp [h]; done)) | (refine LeV.tell [some 15] ?_ ?_ ?_ <;> (simp [h]; done))
  refine br_intro' (fun h1 => ?_) (fun h1 => ?_) <;> simp at h1 <;> simp [h1]
  · rw [e0 (.inr (.inl h1))]
    refine impl_orEmpty_k (ns := ns) hl rfl (by simp) (by simp [noslBlks]) ?_; simp [shiftB]
    first | (refine ck_intro' (by kernel_rfl) ?_; try simp) | skip
    first | (refine LeV.tell [none] ?_ ?_ ?_ <;> (simp [h, h1]; done)) | (refine LeV.tell [some 0] ?_ ?_ ?_ <;> (simp [h, h1]; done)) | (refine LeV.tell [some 1] ?_ ?_ ?_ <;> (simp [h, h1]; done)) | (refine LeV.tell [some 2] ?_ ?_ ?_ <;> (simp [h, h1]; done)) | (refine LeV.tell [some 3] ?_ ?_ ?_ <;> (simp [h, h1]; done)) | (refine LeV.tell [some 4] ?_ ?_ ?_ <;> (simp [h, h1]; done)) | (refine LeV.tell [some 5] ?_ ?_ ?_ <;> (simp [h, h1]; done)) | (refine LeV.tell [some 6] ?_ ?_ ?_ <;> (simp [h, h1]; done)) | (refine LeV.tell [some 7] ?_ ?_ ?_ <;> (simp [h, h1]; done)) | (refine LeV.tell [some 8] ?_ ?_ ?_ <;> (simp [h, h1]; done)) | (refine LeV.tell [some 9] ?_ ?_ ?_ <;> (simp [h, h1]; done)) | (refine LeV.tell [some 10] ?_ ?_ ?_ <;> (simp [h, h1]; done)) | (refine LeV.tell [some 11] ?_ ?_ ?_ <;> (simp [h, h1]; done)) | (refine LeV.tell [some 12] ?_ ?_ ?_ <;> (simp [h, h1]; done)) | (refine LeV.tell [some 13] ?_ ?_ ?_ <;> (simp [h, h1]; done)) | (refine LeV.tell [some 14] ?_ ?_ ?_ <;> (simp [h, h1]; done)) | (refine LeV.tell [some 15] ?_ ?_ ?_ <;> (simp [h, h1]; done))
  refine impl_LinkOk_k (ns := ns) (l := l) (by omega) rfl (by simp [h]) (by simp) ?_; simp
  refine br_intro' (fun h2 => ?_) (fun h2 => ?_) <;> simp [h2]
  · refine impl_copyPool_k (ns := ns) hl rfl (by simp) (by simp [noslBlks]) ?_; simp [shiftB]
    have hp : poolF ns = true := by simp [lkF] at h2; exact h2.1
    have hl5 := poolF_len hp
    have hs1 : -9223372036854775808 ≤ 20 + l.seq := by simp [lkF, linkF, inF] at h2; omega
    have hs2 : 20 + l.seq < 9223372036854775808 := by simp [lkF, linkF, inF] at h2; omega
    have e1 : linkEndF ns l = if (endsF ns l.key l.seq).2 < 0 then (ns, l, -1) else ((endsF ns l.key l.seq).1, ⟨l.key, l.epoch, l.seq, true⟩, (endsF ns l.key l.seq).2) := by
      simp only [linkEndF, h2, if_true]
      exact closeF_eq hs1 hs2 h h1
    rw [e1]
    refine pool_call rfl 5 0 4 0 1 [pref 4 ns] ns (endsF ns l.key l.seq).1 ⟨by simp, by simp, by simp, by simp, by simp, by simp, ⟨[], by simp⟩⟩ (by simp [pset]) (impl_Link_end_m _ 5 0 4 0 1 [pref 4 ns] ns 1 0 1 l.key l.epoch l.seq false ⟨by simp, by simp, by simp, by simp, by simp, by simp, ⟨[], by simp⟩⟩ hl5 (by simp) (by simp) (by simp)) ?_
    simp [pset]
    have hl6 := endsF_len ns l.key l.seq hl5
    generalize endsF ns l.key l.seq = q at hl6 ⊢
    refine br_intro' (fun f => ?_) (fun f => ?_) <;> simp at f <;> simp [f]
    · refine impl_copyPool_k (ns := ns) hl rfl (by simp) (by simp [noslBlks]) ?_; simp [shiftB]
      first | (refine ck_intro' (by kernel_rfl) ?_; try simp) | skip
      first | (refine LeV.tell [none] ?_ ?_ ?_ <;> (simp [h, f]; done)) | (refine LeV.tell [some 0] ?_ ?_ ?_ <;> (simp [h, f]; done)) | (refine LeV.tell [some 1] ?_ ?_ ?_ <;> (simp [h, f]; done)) | (refine LeV.tell [some 2] ?_ ?_ ?_ <;> (simp [h, f]; done)) | (refine LeV.tell [some 3] ?_ ?_ ?_ <;> (simp [h, f]; done)) | (refine LeV.tell [some 4] ?_ ?_ ?_ <;> (simp [h, f]; done)) | (refine LeV.tell [some 5] ?_ ?_ ?_ <;> (simp [h, f]; done)) | (refine LeV.tell [some 6] ?_ ?_ ?_ <;> (simp [h, f]; done)) | (refine LeV.tell [some 7] ?_ ?_ ?_ <;> (simp [h, f]; done)) | (refine LeV.tell [some 8] ?_ ?_ ?_ <;> (simp [h, f]; done)) | (refine LeV.tell [some 9] ?_ ?_ ?_ <;> (simp [h, f]; done)) | (refine LeV.tell [some 10] ?_ ?_ ?_ <;> (simp [h, f]; done)) | (refine LeV.tell [some 11] ?_ ?_ ?_ <;> (simp [h, f]; done)) | (refine LeV.tell [some 12] ?_ ?_ ?_ <;> (simp [h, f]; done)) | (refine LeV.tell [some 13] ?_ ?_ ?_ <;> (simp [h, f]; done)) | (refine LeV.tell [some 14] ?_ ?_ ?_ <;> (simp [h, f]; done)) | (refine LeV.tell [some 15] ?_ ?_ ?_ <;> (simp [h, f]; done))
    · have f' : ¬ q.2 < 0 := by omega
      first | (refine ck_intro' (by kernel_rfl) ?_; try simp) | skip
      first | (refine LeV.tell [none] ?_ ?_ ?_ <;> (simp [f']; done)) | (refine LeV.tell [some 0] ?_ ?_ ?_ <;> (simp [f']; done)) | (refine LeV.tell [some 1] ?_ ?_ ?_ <;> (simp [f']; done)) | (refine LeV.tell [some 2] ?_ ?_ ?_ <;> (simp [f']; done)) | (refine LeV.tell [some 3] ?_ ?_ ?_ <;> (simp [f']; done)) | (refine LeV.tell [some 4] ?_ ?_ ?_ <;> (simp [f']; done)) | (refine LeV.tell [some 5] ?_ ?_ ?_ <;> (simp [f']; done)) | (refine LeV.tell [some 6] ?_ ?_ ?_ <;> (simp [f']; done)) | (refine LeV.tell [some 7] ?_ ?_ ?_ <;> (simp [f']; done)) | (refine LeV.tell [some 8] ?_ ?_ ?_ <;> (simp [f']; done)) | (refine LeV.tell [some 9] ?_ ?_ ?_ <;> (simp [f']; done)) | (refine LeV.tell [some 10] ?_ ?_ ?_ <;> (simp [f']; done)) | (refine LeV.tell [some 11] ?_ ?_ ?_ <;> (simp [f']; done)) | (refine LeV.tell [some 12] ?_ ?_ ?_ <;> (simp [f']; done)) | (refine LeV.tell [some 13] ?_ ?_ ?_ <;> (simp [f']; done)) | (refine LeV.tell [some 14] ?_ ?_ ?_ <;> (simp [f']; done)) | (refine LeV.tell [some 15] ?_ ?_ ?_ <;> (simp [f']; done))
  · rw [e0 (.inr (.inr h2))]
    refine impl_orEmpty_k (ns := ns) hl rfl (by simp) (by simp [noslBlks]) ?_; simp [shiftB]
    first | (refine ck_intro' (by kernel_rfl) ?_; try simp) | skip
    first | (refine LeV.tell [none] ?_ ?_ ?_ <;> (simp [h]; done)) | (refine LeV.tell [some 0] ?_ ?_ ?_ <;> (simp [h]; done)) | (refine LeV.tell [some 1] ?_ ?_ ?_ <;> (simp [h]; done)) | (refine LeV.tell [some 2] ?_ ?_ ?_ <;> (simp [h]; done)) | (refine LeV.tell [some 3] ?_ ?_ ?_ <;> (simp [h]; done)) | (refine LeV.tell [some 4] ?_ ?_ ?_ <;> (simp [h]; done)) | (refine LeV.tell [some 5] ?_ ?_ ?_ <;> (simp [h]; done)) | (refine LeV.tell [some 6] ?_ ?_ ?_ <;> (simp [h]; done)) | (refine LeV.tell [some 7] ?_ ?_ ?_ <;> (simp [h]; done)) | (refine LeV.tell [some 8] ?_ ?_ ?_ <;> (simp [h]; done)) | (refine LeV.tell [some 9] ?_ ?_ ?_ <;> (simp [h]; done)) | (refine LeV.tell [some 10] ?_ ?_ ?_ <;> (simp [h]; done)) | (refine LeV.tell [some 11] ?_ ?_ ?_ <;> (simp [h]; done)) | (refine LeV.tell [some 12] ?_ ?_ ?_ <;> (simp [h]; done)) | (refine LeV.tell [some 13] ?_ ?_ ?_ <;> (simp [h]; done)) | (refine LeV.tell [some 14] ?_ ?_ ?_ <;> (simp [h]; done)) | (refine LeV.tell [some 15] ?_ ?_ ?_ <;> (simp [h]; done))
theorem impl_LinkEnd_k {ns : List Nd} {l : Lk} (hl : ns.length ≤ 4294967296) {S : FuncId → Bool} {H : List Blk} {K : A → Dl → Prop} {zs : List A} (hS : S 37 = false) (hv : viewL (viewA 8 H) zs = some [aP ns, aL l]) (ho : noOwns zs = true ∨ nosl (.tup [.agg [pref 0 (linkEndF ns l).1], aL (linkEndF ns l).2.1, i6 (linkEndF ns l).2.2]) = true ∧ noslBlks ([pblk (linkEndF ns l).1]) = true) (hK : K (shiftA H.length (.tup [.agg [pref 0 (linkEndF ns l).1], aL (linkEndF ns l).2.1, i6 (linkEndF ns l).2.2])) (.news (([pblk (linkEndF ns l).1]).map (shiftB H.length)))) : @WCall' Go.Proofs.Try.prog S 37 zs H ⟨K⟩ :=
  WCall_ro' hS hv (impl_LinkEnd_c ns l hl) rfl ho hK
theorem orE_len (ns : List Nd) : (orE ns).length ≤ ns.length := by unfold orE; split <;> simp
end Go.Proofs.Ytnbodfakblbmbaa.C
